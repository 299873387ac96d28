/- A loop over a function that is handed things made on the way: what the function says of a thing when it hands it over, the loop's body may use. The body goes on to the next round always. For any program. -/
import Derived.RangeFuncBox
import Derived.RangeFuncKeeps
import Derived.Test.YtimhkkijoelmhaaQRegGr
import Derived.Test.YtimhkkijoelmhaaQRound10
namespace Go.Proofs.Ytimhkkijoelmhaa
open Go.RowKit

/-- What a function says of what it hands over; J is whatever abides worlds that only grow. -/
def SeqY {α : Type} (n : Nat) (P : Program) (gf : Nat) (lb : Array Value) (encs : α → Array Value) (Kp : World → World → Prop) (Y : List α → α → World → Prop) (S : List α → Prop) (w : World) : Prop :=
  ∀ (l : Nat) (J : List α → World → Prop) (W : World), Gr w W → (∀ s A B, J s A → Gr A B → J s B) →
    (∀ pre x W1, J pre W1 → Y pre x W1 → YieldAt Fence.wide (n - 1) P l (encs x) W1 fun e W' => e = .returned (.bool true) ∧ (J (pre ++ [x]) W' ∧ Kp W1 W')) →
    J [] W → CallsIn Fence.wide n P gf (#[.func (.yield l) #[] #[]] ++ lb) W fun e W' => (∃ v, e = .returned v) ∧ ∃ xs, S xs ∧ J xs W'

theorem rangeFunc_y {α : Type} {n : Nat} {P : Program} {g : Operand} {ps : Array Tmp} {assign body : Code} {Q : Exit → Act → World → Prop} {a : Act} {w : World}
    {gf : Nat} {lb : Array Value} (hg : a.eval g = .func (.func gf) #[] lb) (eg : ∀ args w, (callFunc gf args).run P w = .ok (.enter gf args) w)
    {encs : α → Array Value} {Kp : World → World → Prop} {Y : List α → α → World → Prop} {S : List α → Prop} (hseq : SeqY (n - 1) P gf lb encs Kp Y S w) (hps : ∀ x, (encs x).size = ps.size)
    (hKt : ∀ {A B C : World}, Kp A B → Kp B C → Kp A C)
    (hKb : ∀ (W : World) (l : Nat) (o o' : Obj), w.heap.size ≤ l → W.heap[l]? = some o → o.isCells = false → o.isWalk = false → Kp W (W.putObj l o'))
    (I : List α → World → Prop) (hI : ∀ s A B, I s A → Gr A B → I s B) (hIb : ∀ s (W : World) (l : Nat) (o o' : Obj), w.heap.size ≤ l → W.heap[l]? = some o → o.isCells = false → o.isWalk = false → I s W → I s (W.putObj l o')) (h0 : I [] w)
    (Ax : List α → α → World → Act → World → Prop) (hAb : ∀ pre x W0 a' (W : World) (l : Nat) (o o' : Obj), w.heap.size ≤ l → W.heap[l]? = some o → o.isCells = false → o.isWalk = false → Ax pre x W0 a' W → Ax pre x W0 a' (W.putObj l o'))
    (hassign : ∀ (l : Nat) (pre : List α) (x : α) (W : World) (K : Act → World → Prop), w.heap.size + 1 < W.heap.size → I pre W → Y pre x W → (∀ a' W', Gr W W' → Ax pre x W a' W' → K a' W') →
      assign.wpIn (Fence.wide.inRound l) (n - 1 - 1) P (Exit.then K (fun _ _ _ => False)) { tmps := (ps.zip (encs x)).foldl (fun t (p, v) => t.setIfInBounds p v) a.tmps, defers := [] } W)
    (hbody : ∀ (l : Nat) (pre : List α) (x : α) (W0 : World) (a' : Act) (W : World), w.heap.size + 1 < W.heap.size → Ax pre x W0 a' W →
      body.wpIn (Fence.wide.inRound l) (n - 1 - 1) P (fun e _ W' => e = .normal ∧ (KeepsFrom w.heap.size W W' ∧ Kp W0 W' ∧ I (pre ++ [x]) W')) a' W)
    (hdone : ∀ (D : Nat) (xs : List α) (W : World), w.heap.size ≤ D → S xs → I xs W → W.heap[D]? = some (.deferred (some [])) → Q .normal { a with defers := { target := .collected D, args := #[] } :: a.defers } W) :
    (Code.rangeFunc g ps assign body).wpIn Fence.wide n P Q a w := by
  refine wpIn_rangeFunc fun fn _ => ?_
  obtain ⟨mk, hmk⟩ : ∃ mk : LoopState → Loop, mk = fun st => { state := st, pending := none, fn, tmps := a.tmps, params := ps, assign, body, defers := w.heap.size } := ⟨_, rfl⟩
  obtain ⟨W1, hW1⟩ : ∃ W1, (w.alloc (.deferred (some []))).alloc (.loop (mk .ready)) = W1 := ⟨_, rfl⟩
  have gr1 : Gr w W1 := by rw [← hW1]; exact ((Gr.refl w).alloc _).alloc _
  have rL : W1.heap[w.heap.size + 1]? = some (.loop (mk .ready)) := by
    rw [← hW1]
    have h := heap_alloc_new (w.alloc (.deferred (some []))) (.loop (mk .ready))
    simpa using h
  have rD : W1.heap[w.heap.size]? = some (.deferred (some [])) := by
    rw [← hW1]
    exact ((Gr.refl (w.alloc (.deferred (some [])))).alloc _).heap (by simp) |>.trans (heap_alloc_new w _)
  refine ⟨w.heap.size + 1, [{ target := .collected w.heap.size, args := #[] }], W1, { target := .fn (.func gf) lb, args := #[.func (.yield (w.heap.size + 1)) #[] #[]] }, W1, gf,
    #[.func (.yield (w.heap.size + 1)) #[] #[]] ++ lb, W1, ?_, ?_, fun _ _ => trivial, ?_, fun h => (by cases h), ?_⟩
  · rw [← hW1, hmk]
    exact run_enterLoop_outer _ _ _ _ _
  · simp only [resolve, hg]
    simp [go_sem]
  · simp [invoke, go_sem, eg]
  · refine (hseq (w.heap.size + 1) (fun pre W => I pre W ∧ (W.heap[w.heap.size + 1]? = some (.loop (mk .ready)) ∧ W.heap[w.heap.size]? = some (.deferred (some [])))) W1 gr1
      (fun s A B h k => ⟨hI s A B h.1 k, row_gr h.2.1 k, row_gr h.2.2 k⟩) ?_ ⟨hI _ _ _ h0 gr1, rL, rD⟩).mono ?_
    · -- a round
      rintro pre x W ⟨hi, hl, hd⟩ hy
      have hsz : w.heap.size + 1 < W.heap.size := (Array.getElem?_eq_some_iff.1 hl).1
      have hyl := run_yield (P := P) (args := encs x) hl (by rw [hmk]; exact hps x)
      rw [hmk] at hyl
      refine ⟨fn, _, assign, body, hyl, roundIn_of_wpIn trivial (hassign _ pre x W _ hsz hi hy ?_)⟩
      clear hyl
      intro a' W2 k2 hax
      have hl2 := row_gr hl k2
      have hd2 := row_gr hd k2
      have hsz2 : w.heap.size + 1 < W2.heap.size := (Array.getElem?_eq_some_iff.1 hl2).1
      refine ⟨_, run_beginRound hl2 (by rw [hmk]), ?_⟩
      have e3 : ({ mk .ready with state := .busy } : Loop) = mk .busy := by rw [hmk]
      rw [e3]
      have hl3 : (W2.putObj (w.heap.size + 1) (.loop (mk .busy))).heap[w.heap.size + 1]? = some (.loop (mk .busy)) := World.putObj_heap_same hsz2
      have hd3 : (W2.putObj (w.heap.size + 1) (.loop (mk .busy))).heap[w.heap.size]? = some (.deferred (some [])) := (World.putObj_heap_other (by omega)).trans hd2
      refine wpIn_mono (hbody _ pre x W a' _ (by simpa using hsz2) (hAb _ _ _ _ _ _ _ _ (by omega) hl2 rfl rfl hax)) ?_
      rintro e a4 W4 ⟨rfl, hk4, hp4, hi4⟩
      have hl4 := hk4.same _ _ (by omega) hl3 rfl
      have hd4 := hk4.same _ _ (Nat.le_refl _) hd3 rfl
      have hend := run_endRound (P := P) none hl4
      have e5 : ({ mk .busy with state := (if (none : Option Code).isNone then .ready else .done), pending := none } : Loop) = mk .ready := by rw [hmk]; rfl
      rw [e5] at hend
      refine ⟨_, _, hend, rfl, ⟨hIb _ _ _ _ _ (by omega) hl4 rfl rfl hi4, World.putObj_heap_same (Array.getElem?_eq_some_iff.1 hl4).1, (World.putObj_heap_other (by omega)).trans hd4⟩, ?_⟩
      exact hKt hp4 (hKb _ _ _ _ (by omega) hl4 rfl rfl)
    · -- behind the function
      rintro e W ⟨⟨v, rfl⟩, xs, hS, hi, hl, hd⟩
      refine ⟨none, _, ?_, hdone w.heap.size xs _ (Nat.le_refl _) hS (hIb _ _ _ _ (.loop { mk .ready with state := .exhausted }) (by omega) hl rfl rfl hi) ((World.putObj_heap_other (by omega)).trans hd)⟩
      have := run_endLoop (P := P) hl (by rw [hmk]; simp)
      rw [this, hmk]
end Go.Proofs.Ytimhkkijoelmhaa
