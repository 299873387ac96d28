/- A region that draws its order and that reads, but for some operations that make memory, each of which waits for all before it: walked once, in the order of the text. For any program. -/
import Derived.BigQuiet
import Derived.Deep.QuietTactic
import Derived.OrdersHeld
import Derived.Test.YtlkjimfkapcenaaGreatDoorQRegGr
namespace Go.Proofs.YtlkjimfkapcenaaGreatDoor
open Go.RowKit

/-- Operations that only read. -/
def readOp : Op → Bool
  | .move _ | .assign _ | .pick _ _ _ | .load _ _ | .binOp _ _ _ _ _ | .unOp _ _ _ | .convert _ _ _ | .fieldAddr _ _ _ | .indexAddr _ _ _ | .index _ _ _ | .slice _ _ _ _ _ | .extract _ _ | .build _ _ => true
  | _ => false
section
variable {P : Program}
/-- What such an operation yields. -/
def Plainly (r : Result Next) : Prop := (∃ u w', r = .ok (.value u) w') ∨ ∃ x w', r = .halt x w'
theorem plainly_v (s : Sem Value) (w : World) : Plainly ((do pure (Next.value (← s)) : Sem Next).run P w) := by
  rw [Sem.run_bind]
  cases h : s.run P w with
  | ok u w' => exact .inl ⟨u, w', rfl⟩
  | halt x w' => exact .inr ⟨x, w', rfl⟩
theorem read_run {o : Oper} (h : readOp o.op = true) (e : Operand → Value) (w : World) : Plainly ((execOp e o).run P w) := by
  unfold execOp
  cases hop : o.op <;> rw [hop] at h <;> first | (cases h; done) | skip
  case move => exact .inl ⟨_, _, rfl⟩
  case assign => exact .inl ⟨_, _, rfl⟩
  case pick c a b =>
    dsimp only
    rw [Sem.run_bind]
    cases h : (asBool (e c)).run P w with
    | ok u w' => exact .inl ⟨_, _, rfl⟩
    | halt x w' => exact .inr ⟨x, w', rfl⟩
  all_goals exact plainly_v _ w
theorem read_quiet {o : Oper} {a : Act} {C : World → Prop} {v : Value} {w : World} (h : readOp o.op = true) (hq : o.quietAt P a C w v) : (execOp a.eval o).run P w = .ok (.value v) w := by
  unfold Oper.quietAt at hq
  rcases read_run (P := P) h a.eval w with ⟨u, w', e⟩ | ⟨x, w', e⟩
  · rw [e] at hq ⊢
    obtain ⟨rfl, rfl⟩ := hq
    rfl
  · rw [e] at hq
    exact hq.elim

/-- The first i of n operations have come up. -/
def preB (i n : Nat) : Array Bool := (List.range n).toArray.map fun j => decide (j < i)
theorem preB_zero (n : Nat) : preB 0 n = Array.replicate n false := by
  apply Array.ext
  · simp [preB]
  · intro j h1 h2; simp [preB]
theorem preB_succ (i n : Nat) : (preB i n).setIfInBounds i true = preB (i + 1) n := by
  apply Array.ext
  · simp [preB]
  · intro j h1 h2
    rw [Array.getElem_setIfInBounds (by simpa [preB] using h2)]
    by_cases e : i = j
    · subst e; simp [preB]
    · have e2 : (j < i + 1) = (j < i) := by rw [eq_iff_iff]; omega
      simp [preB, e, e2]
variable {ops : Array Oper} {C : World → Prop} {Q : Exit → Act → World → Prop} {mu : List Nat}
/-- The walk in the order of the text. -/
def MixL (P : Program) (ops : Array Oper) (C : World → Prop) (Q : Exit → Act → World → Prop) (mu : List Nat) : Nat → List Oper → Act → World → Prop
  | _, [], a, w => Q .normal a w
  | i, o :: rest, a, w => if Region.wanted o (yielded ops a.tmps) = true then
      (if mu.contains i = true then o.wp P a w (fun a' w' => C w' ∧ MixL P ops C Q mu (i + 1) rest a' w') Q
       else ∃ v, (∀ w, C w → o.quietAt P a C w v) ∧ MixL P ops C Q mu (i + 1) rest (a.put o.dst v) w)
    else MixL P ops C Q mu (i + 1) rest (a.put o.dst undef) w
/-- What is asked of the region itself. -/
def mixB (ops : Array Oper) (mu : List Nat) : Bool :=
  Region.noSelect ops && (Region.ready .any ops (preB ops.size ops.size)).isEmpty && (List.range ops.size).all fun i =>
    match ops[i]? with
    | none => false
    | some o => if mu.contains i then Region.ready .any ops (preB i ops.size) == [i] else readOp o.op && Region.free .any ops (preB i ops.size) i && (Region.ready .any ops (preB i ops.size)).contains i
theorem mix_any (hB : mixB ops mu = true) (hQ : ∀ c (a : Act) d v w, Q (.panic c) (a.put d v) w → Q (.panic c) a w) : ∀ (rest : List Oper) (i : Nat) (a : Act) (w : World), i + rest.length = ops.size → (∀ j, rest[j]? = ops[i + j]?) → C w →
    MixL P ops C Q mu i rest a w → wpAnyH P .any ops Q C rest.length (preB i ops.size) a w := by
  unfold mixB at hB
  simp only [Bool.and_eq_true, List.all_eq_true, List.mem_range] at hB
  obtain ⟨⟨h1, h2⟩, h3⟩ := hB
  intro rest
  induction rest with
  | nil =>
    intro i a w hi _ _ h
    have : i = ops.size := by simpa using hi
    subst this
    exact ⟨by simpa using h2, h⟩
  | cons o rest ih =>
    intro i a w hi hj hC h
    have hlt : i < ops.size := by simp at hi; omega
    have ho : ops[i]? = some o := by have := hj 0; simpa using this.symm
    have hc := h3 i hlt
    rw [ho] at hc
    dsimp only at hc
    have ih' := fun a w hC h => ih (i + 1) a w (by simp at hi; omega) (fun j => by have := hj (j + 1); rw [Nat.add_right_comm, Nat.add_assoc]; simpa using this) hC h
    unfold MixL at h
    by_cases hm : mu.contains i = true
    · rw [if_pos hm] at hc h
      refine wpAnyH_all (by simpa using hc) (by simp) (fun j hj' => ?_)
      have : j = i := by simpa using hj'
      subst this
      unfold wpOp
      rw [ho]
      dsimp only
      by_cases hw : Region.wanted o (yielded ops a.tmps) = true
      · rw [if_pos hw] at h ⊢
        refine .inl (Oper.wp_mono (fun a' w' hh => ?_) h)
        rw [preB_succ]
        exact ⟨hh.1, ih' a' w' hh.1 hh.2⟩
      · rw [if_neg hw] at h ⊢
        rw [preB_succ]
        exact ⟨hC, ih' _ w hC h⟩
    · rw [if_neg hm] at hc h
      simp only [Bool.and_eq_true] at hc
      obtain ⟨⟨hr, hf⟩, hd⟩ := hc
      by_cases hw : Region.wanted o (yielded ops a.tmps) = true
      · rw [if_pos hw] at h
        obtain ⟨v, hv, hn⟩ := h
        refine wpAnyH_take (v := v) ho h1 hf hd (fun c a' w' => hQ c a' _ _ w') (.inl ⟨hw, fun w' hw' => read_quiet hr (hv w' hw')⟩) hC ?_
        rw [preB_succ]
        exact ih' _ w hC hn
      · rw [if_neg hw] at h
        refine wpAnyH_take (v := undef) ho h1 hf hd (fun c a' w' => hQ c a' _ _ w') (.inr ⟨by simpa using hw, rfl⟩) hC ?_
        rw [preB_succ]
        exact ih' _ w hC h
theorem wp_region_mix {id : Nat} {a : Act} {w : World} {l : List Oper} (mu : List Nat) (hm : P.follows .mixedOrders = true) (hB : mixB l.toArray mu = true) (hQ : ∀ c (a : Act) d v w, Q (.panic c) (a.put d v) w → Q (.panic c) a w)
    (hC : C w.drew) (h : MixL P l.toArray C Q mu 0 l a w.drew) : (Code.region id l.toArray true).wp P Q a w := by
  refine wp_region_held (S := C) hm ?_
  have := mix_any (P := P) (C := C) hB hQ l 0 a w.drew (by simp) (fun j => by simp) hC h
  rw [preB_zero] at this
  simpa using this
/-- The same, where nothing may panic. -/
theorem wp_region_mixN {id : Nat} {a : Act} {w : World} {l : List Oper} (mu : List Nat) (hm : P.follows .mixedOrders = true) (hB : mixB l.toArray mu = true)
    (hC : C w.drew) (h : MixL P l.toArray C (fun e a w => e = .normal ∧ Q .normal a w) mu 0 l a w.drew) : (Code.region id l.toArray true).wp P Q a w :=
  Code.wp_mono (fun e a w ⟨he, hq⟩ => by subst he; exact hq) (wp_region_mix mu hm hB (fun _ _ _ _ _ h => by cases h.1) hC h)
variable {i : Nat} {o : Oper} {rest : List Oper} {a : Act} {w : World}
theorem mixL_read (hm : mu.contains i = false) (hw : Region.wanted o (yielded ops a.tmps) = true) (h : ∀ K : Act → Prop, (∀ a, MixL P ops C Q mu (i + 1) rest a w → K a) → o.quiet P a C K) : MixL P ops C Q mu i (o :: rest) a w := by
  unfold MixL
  rw [if_pos hw, if_neg (by rw [hm]; simp)]
  exact h _ (fun _ h => h)
theorem mixL_skip (hw : Region.wanted o (yielded ops a.tmps) = false) (h : MixL P ops C Q mu (i + 1) rest (a.put o.dst undef) w) : MixL P ops C Q mu i (o :: rest) a w := by
  unfold MixL
  rw [if_neg (by rw [hw]; simp)]
  exact h
theorem mixL_mut (hm : mu.contains i = true) (hw : Region.wanted o (yielded ops a.tmps) = true) (h : ∀ K : Act → World → Prop, Hid (∀ a w', C w' → MixL P ops C Q mu (i + 1) rest a w' → K a w') → o.wp P a w K Q) : MixL P ops C Q mu i (o :: rest) a w := by
  unfold MixL
  rw [if_pos hw, if_pos hm]
  exact h _ (fun _ _ h1 h2 => ⟨h1, h2⟩)
theorem wanted_none {f : Nat → Option Bool} (hg : o.guard = none) : Region.wanted o f = true := by
  unfold Region.wanted; rw [hg]
theorem wanted_some {tmps : Array Value} {j d : Nat} {want b : Bool} (hg : o.guard = some (j, want)) (hd : (ops[j]?).bind (·.dst) = some d) (hv : tmps[d]? = some (.bool b)) : Region.wanted o (yielded ops tmps) = (b == want) := by
  have e : yielded ops tmps j = some b := by
    unfold yielded
    rw [hd]
    simp only [Option.bind_some, hv]
  unfold Region.wanted
  rw [hg]
  show (yielded ops tmps j == some want) = _
  rw [e]
  cases b <;> cases want <;> rfl
theorem mixL_read0 (hg : o.guard = none) (hm : mu.contains i = false) (h : ∀ K : Act → Prop, (∀ a, MixL P ops C Q mu (i + 1) rest a w → K a) → o.quiet P a C K) : MixL P ops C Q mu i (o :: rest) a w :=
  mixL_read hm (wanted_none hg) h
theorem mixL_readG {j d : Nat} {want b : Bool} (hg : o.guard = some (j, want)) (hd : (ops[j]?).bind (·.dst) = some d) (hv : a.tmps[d]? = some (.bool b)) (hb : (b == want) = true) (hm : mu.contains i = false) (h : ∀ K : Act → Prop, (∀ a, MixL P ops C Q mu (i + 1) rest a w → K a) → o.quiet P a C K) : MixL P ops C Q mu i (o :: rest) a w :=
  mixL_read hm ((wanted_some hg hd hv).trans hb) h
theorem mixL_skipG {j d : Nat} {want b : Bool} (hg : o.guard = some (j, want)) (hd : (ops[j]?).bind (·.dst) = some d) (hv : a.tmps[d]? = some (.bool b)) (hb : (b == want) = false) (h : MixL P ops C Q mu (i + 1) rest (a.put o.dst undef) w) : MixL P ops C Q mu i (o :: rest) a w :=
  mixL_skip ((wanted_some hg hd hv).trans hb) h
theorem mixL_skipU {j d : Nat} {want : Bool} (hg : o.guard = some (j, want)) (hd : (ops[j]?).bind (·.dst) = some d) (hv : a.tmps[d]? = some undef) (h : MixL P ops C Q mu (i + 1) rest (a.put o.dst undef) w) : MixL P ops C Q mu i (o :: rest) a w := by
  refine mixL_skip ?_ h
  have e : yielded ops a.tmps j = none := by
    unfold yielded
    rw [hd]
    simp only [Option.bind_some, hv]
    rfl
  unfold Region.wanted
  rw [hg]
  show (yielded ops a.tmps j == some want) = _
  rw [e]
  rfl
theorem mixL_mut0 (hg : o.guard = none) (hm : mu.contains i = true) (h : ∀ K : Act → World → Prop, Hid (∀ a w', C w' → MixL P ops C Q mu (i + 1) rest a w' → K a w') → o.wp P a w K Q) : MixL P ops C Q mu i (o :: rest) a w :=
  mixL_mut hm (wanted_none hg) h
theorem mixL_mutG {j d : Nat} {want b : Bool} (hg : o.guard = some (j, want)) (hd : (ops[j]?).bind (·.dst) = some d) (hv : a.tmps[d]? = some (.bool b)) (hb : (b == want) = true) (hm : mu.contains i = true) (h : ∀ K : Act → World → Prop, Hid (∀ a w', C w' → MixL P ops C Q mu (i + 1) rest a w' → K a w') → o.wp P a w K Q) : MixL P ops C Q mu i (o :: rest) a w :=
  mixL_mut hm ((wanted_some hg hd hv).trans hb) h
theorem mixN_nil (h : Q .normal a w) : MixL P ops C (fun e a w => e = .normal ∧ Q .normal a w) mu i [] a w := ⟨rfl, h⟩
theorem mixL_nil (h : Q .normal a w) : MixL P ops C Q mu i [] a w := h
end
end Go.Proofs.YtlkjimfkapcenaaGreatDoor
