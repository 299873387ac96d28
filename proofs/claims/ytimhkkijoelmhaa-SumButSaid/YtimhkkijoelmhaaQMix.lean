/- A region that draws its order and that reads, but for some operations that make memory, each of which waits for all before it: walked once, in the order of the text. For any program. A region that draws its order, whose last operation waits for all others: what is asked of the worlds is asked of those ahead of it alone. For any program. -/
import Derived.BigQuiet
import Derived.Deep.QuietTactic
import Derived.OrdersHeld
import Derived.Test.YtimhkkijoelmhaaQRegGr
namespace Go.Proofs.Ytimhkkijoelmhaa
open Go.RowKit

/-- Operations that only read. -/
def readOp : Op → Bool
  | .move _ | .assign _ | .pick _ _ _ | .load _ _ | .binOp _ _ _ _ _ | .unOp _ _ _ | .convert _ _ _ | .fieldAddr _ _ _ | .indexAddr _ _ _ | .index _ _ _ | .slice _ _ _ _ _ | .extract _ _ | .build _ _ => true
  | _ => false
section
variable {P : Program}
/-- What such an operation yields. -/
def Plainly (r : Result Next) : Prop := (∃ u w', r = .ok (.value u) w') ∨ ∃ x w', r = .halt x w'
theorem plainly_v (s : Sem Value) (w : World) : Plainly ((do pure (Next.value (← s)) : Sem Next).run P w) := by
  rw [Sem.run_bind]
  cases h : s.run P w with
  | ok u w' => exact .inl ⟨u, w', rfl⟩
  | halt x w' => exact .inr ⟨x, w', rfl⟩
theorem read_run {o : Oper} (h : readOp o.op = true) (e : Operand → Value) (w : World) : Plainly ((execOp e o).run P w) := by
  unfold execOp
  cases hop : o.op <;> rw [hop] at h <;> first | (cases h; done) | skip
  case move => exact .inl ⟨_, _, rfl⟩
  case assign => exact .inl ⟨_, _, rfl⟩
  case pick c a b =>
    dsimp only
    rw [Sem.run_bind]
    cases h : (asBool (e c)).run P w with
    | ok u w' => exact .inl ⟨_, _, rfl⟩
    | halt x w' => exact .inr ⟨x, w', rfl⟩
  all_goals exact plainly_v _ w
theorem read_quiet {o : Oper} {a : Act} {C : World → Prop} {v : Value} {w : World} (h : readOp o.op = true) (hq : o.quietAt P a C w v) : (execOp a.eval o).run P w = .ok (.value v) w := by
  unfold Oper.quietAt at hq
  rcases read_run (P := P) h a.eval w with ⟨u, w', e⟩ | ⟨x, w', e⟩
  · rw [e] at hq ⊢
    obtain ⟨rfl, rfl⟩ := hq
    rfl
  · rw [e] at hq
    exact hq.elim

/-- The first i of n operations have come up. -/
def preB (i n : Nat) : Array Bool := (List.range n).toArray.map fun j => decide (j < i)
theorem preB_zero (n : Nat) : preB 0 n = Array.replicate n false := by
  apply Array.ext
  · simp [preB]
  · intro j h1 h2; simp [preB]
theorem preB_succ (i n : Nat) : (preB i n).setIfInBounds i true = preB (i + 1) n := by
  apply Array.ext
  · simp [preB]
  · intro j h1 h2
    rw [Array.getElem_setIfInBounds (by simpa [preB] using h2)]
    by_cases e : i = j
    · subst e; simp [preB]
    · have e2 : (j < i + 1) = (j < i) := by rw [eq_iff_iff]; omega
      simp [preB, e, e2]
variable {ops : Array Oper} {C : World → Prop} {Q : Exit → Act → World → Prop} {mu : List Nat}
/-- The walk in the order of the text. -/
def MixL (P : Program) (ops : Array Oper) (C : World → Prop) (Q : Exit → Act → World → Prop) (mu : List Nat) : Nat → List Oper → Act → World → Prop
  | _, [], a, w => Q .normal a w
  | i, o :: rest, a, w => if Region.wanted o (yielded ops a.tmps) = true then
      (if mu.contains i = true then o.wp P a w (fun a' w' => C w' ∧ MixL P ops C Q mu (i + 1) rest a' w') Q
       else ∃ v, (∀ w, C w → o.quietAt P a C w v) ∧ MixL P ops C Q mu (i + 1) rest (a.put o.dst v) w)
    else MixL P ops C Q mu (i + 1) rest (a.put o.dst undef) w
/-- What is asked of the region itself. -/
def mixB (ops : Array Oper) (mu : List Nat) : Bool :=
  Region.noSelect ops && (Region.ready .any ops (preB ops.size ops.size)).isEmpty && (List.range ops.size).all fun i =>
    match ops[i]? with
    | none => false
    | some o => if mu.contains i then Region.ready .any ops (preB i ops.size) == [i] else readOp o.op && Region.free .any ops (preB i ops.size) i && (Region.ready .any ops (preB i ops.size)).contains i
theorem mix_any (hB : mixB ops mu = true) (hQ : ∀ c (a : Act) d v w, Q (.panic c) (a.put d v) w → Q (.panic c) a w) : ∀ (rest : List Oper) (i : Nat) (a : Act) (w : World), i + rest.length = ops.size → (∀ j, rest[j]? = ops[i + j]?) → C w →
    MixL P ops C Q mu i rest a w → wpAnyH P .any ops Q C rest.length (preB i ops.size) a w := by
  unfold mixB at hB
  simp only [Bool.and_eq_true, List.all_eq_true, List.mem_range] at hB
  obtain ⟨⟨h1, h2⟩, h3⟩ := hB
  intro rest
  induction rest with
  | nil =>
    intro i a w hi _ _ h
    have : i = ops.size := by simpa using hi
    subst this
    exact ⟨by simpa using h2, h⟩
  | cons o rest ih =>
    intro i a w hi hj hC h
    have hlt : i < ops.size := by simp at hi; omega
    have ho : ops[i]? = some o := by have := hj 0; simpa using this.symm
    have hc := h3 i hlt
    rw [ho] at hc
    dsimp only at hc
    have ih' := fun a w hC h => ih (i + 1) a w (by simp at hi; omega) (fun j => by have := hj (j + 1); rw [Nat.add_right_comm, Nat.add_assoc]; simpa using this) hC h
    unfold MixL at h
    by_cases hm : mu.contains i = true
    · rw [if_pos hm] at hc h
      refine wpAnyH_all (by simpa using hc) (by simp) (fun j hj' => ?_)
      have : j = i := by simpa using hj'
      subst this
      unfold wpOp
      rw [ho]
      dsimp only
      by_cases hw : Region.wanted o (yielded ops a.tmps) = true
      · rw [if_pos hw] at h ⊢
        refine .inl (Oper.wp_mono (fun a' w' hh => ?_) h)
        rw [preB_succ]
        exact ⟨hh.1, ih' a' w' hh.1 hh.2⟩
      · rw [if_neg hw] at h ⊢
        rw [preB_succ]
        exact ⟨hC, ih' _ w hC h⟩
    · rw [if_neg hm] at hc h
      simp only [Bool.and_eq_true] at hc
      obtain ⟨⟨hr, hf⟩, hd⟩ := hc
      by_cases hw : Region.wanted o (yielded ops a.tmps) = true
      · rw [if_pos hw] at h
        obtain ⟨v, hv, hn⟩ := h
        refine wpAnyH_take (v := v) ho h1 hf hd (fun c a' w' => hQ c a' _ _ w') (.inl ⟨hw, fun w' hw' => read_quiet hr (hv w' hw')⟩) hC ?_
        rw [preB_succ]
        exact ih' _ w hC hn
      · rw [if_neg hw] at h
        refine wpAnyH_take (v := undef) ho h1 hf hd (fun c a' w' => hQ c a' _ _ w') (.inr ⟨by simpa using hw, rfl⟩) hC ?_
        rw [preB_succ]
        exact ih' _ w hC h
theorem wp_region_mix {id : Nat} {a : Act} {w : World} {l : List Oper} (mu : List Nat) (hm : P.follows .mixedOrders = true) (hB : mixB l.toArray mu = true) (hQ : ∀ c (a : Act) d v w, Q (.panic c) (a.put d v) w → Q (.panic c) a w)
    (hC : C w.drew) (h : MixL P l.toArray C Q mu 0 l a w.drew) : (Code.region id l.toArray true).wp P Q a w := by
  refine wp_region_held (S := C) hm ?_
  have := mix_any (P := P) (C := C) hB hQ l 0 a w.drew (by simp) (fun j => by simp) hC h
  rw [preB_zero] at this
  simpa using this
/-- The same, where nothing may panic. -/
theorem wp_region_mixN {id : Nat} {a : Act} {w : World} {l : List Oper} (mu : List Nat) (hm : P.follows .mixedOrders = true) (hB : mixB l.toArray mu = true)
    (hC : C w.drew) (h : MixL P l.toArray C (fun e a w => e = .normal ∧ Q .normal a w) mu 0 l a w.drew) : (Code.region id l.toArray true).wp P Q a w :=
  Code.wp_mono (fun e a w ⟨he, hq⟩ => by subst he; exact hq) (wp_region_mix mu hm hB (fun _ _ _ _ _ h => by cases h.1) hC h)
variable {i : Nat} {o : Oper} {rest : List Oper} {a : Act} {w : World}
theorem mixL_read (hm : mu.contains i = false) (hw : Region.wanted o (yielded ops a.tmps) = true) (h : ∀ K : Act → Prop, (∀ a, MixL P ops C Q mu (i + 1) rest a w → K a) → o.quiet P a C K) : MixL P ops C Q mu i (o :: rest) a w := by
  unfold MixL
  rw [if_pos hw, if_neg (by rw [hm]; simp)]
  exact h _ (fun _ h => h)
theorem mixL_skip (hw : Region.wanted o (yielded ops a.tmps) = false) (h : MixL P ops C Q mu (i + 1) rest (a.put o.dst undef) w) : MixL P ops C Q mu i (o :: rest) a w := by
  unfold MixL
  rw [if_neg (by rw [hw]; simp)]
  exact h
theorem mixL_mut (hm : mu.contains i = true) (hw : Region.wanted o (yielded ops a.tmps) = true) (h : ∀ K : Act → World → Prop, Hid (∀ a w', C w' → MixL P ops C Q mu (i + 1) rest a w' → K a w') → o.wp P a w K Q) : MixL P ops C Q mu i (o :: rest) a w := by
  unfold MixL
  rw [if_pos hw, if_pos hm]
  exact h _ (fun _ _ h1 h2 => ⟨h1, h2⟩)
theorem wanted_none {f : Nat → Option Bool} (hg : o.guard = none) : Region.wanted o f = true := by
  unfold Region.wanted; rw [hg]
theorem wanted_some {tmps : Array Value} {j d : Nat} {want b : Bool} (hg : o.guard = some (j, want)) (hd : (ops[j]?).bind (·.dst) = some d) (hv : tmps[d]? = some (.bool b)) : Region.wanted o (yielded ops tmps) = (b == want) := by
  have e : yielded ops tmps j = some b := by
    unfold yielded
    rw [hd]
    simp only [Option.bind_some, hv]
  unfold Region.wanted
  rw [hg]
  show (yielded ops tmps j == some want) = _
  rw [e]
  cases b <;> cases want <;> rfl
theorem mixL_read0 (hg : o.guard = none) (hm : mu.contains i = false) (h : ∀ K : Act → Prop, (∀ a, MixL P ops C Q mu (i + 1) rest a w → K a) → o.quiet P a C K) : MixL P ops C Q mu i (o :: rest) a w :=
  mixL_read hm (wanted_none hg) h
theorem mixL_readG {j d : Nat} {want b : Bool} (hg : o.guard = some (j, want)) (hd : (ops[j]?).bind (·.dst) = some d) (hv : a.tmps[d]? = some (.bool b)) (hb : (b == want) = true) (hm : mu.contains i = false) (h : ∀ K : Act → Prop, (∀ a, MixL P ops C Q mu (i + 1) rest a w → K a) → o.quiet P a C K) : MixL P ops C Q mu i (o :: rest) a w :=
  mixL_read hm ((wanted_some hg hd hv).trans hb) h
theorem mixL_skipG {j d : Nat} {want b : Bool} (hg : o.guard = some (j, want)) (hd : (ops[j]?).bind (·.dst) = some d) (hv : a.tmps[d]? = some (.bool b)) (hb : (b == want) = false) (h : MixL P ops C Q mu (i + 1) rest (a.put o.dst undef) w) : MixL P ops C Q mu i (o :: rest) a w :=
  mixL_skip ((wanted_some hg hd hv).trans hb) h
theorem mixL_skipU {j d : Nat} {want : Bool} (hg : o.guard = some (j, want)) (hd : (ops[j]?).bind (·.dst) = some d) (hv : a.tmps[d]? = some undef) (h : MixL P ops C Q mu (i + 1) rest (a.put o.dst undef) w) : MixL P ops C Q mu i (o :: rest) a w := by
  refine mixL_skip ?_ h
  have e : yielded ops a.tmps j = none := by
    unfold yielded
    rw [hd]
    simp only [Option.bind_some, hv]
    rfl
  unfold Region.wanted
  rw [hg]
  show (yielded ops a.tmps j == some want) = _
  rw [e]
  rfl
theorem mixL_mut0 (hg : o.guard = none) (hm : mu.contains i = true) (h : ∀ K : Act → World → Prop, Hid (∀ a w', C w' → MixL P ops C Q mu (i + 1) rest a w' → K a w') → o.wp P a w K Q) : MixL P ops C Q mu i (o :: rest) a w :=
  mixL_mut hm (wanted_none hg) h
theorem mixL_mutG {j d : Nat} {want b : Bool} (hg : o.guard = some (j, want)) (hd : (ops[j]?).bind (·.dst) = some d) (hv : a.tmps[d]? = some (.bool b)) (hb : (b == want) = true) (hm : mu.contains i = true) (h : ∀ K : Act → World → Prop, Hid (∀ a w', C w' → MixL P ops C Q mu (i + 1) rest a w' → K a w') → o.wp P a w K Q) : MixL P ops C Q mu i (o :: rest) a w :=
  mixL_mut hm ((wanted_some hg hd hv).trans hb) h
theorem mixN_nil (h : Q .normal a w) : MixL P ops C (fun e a w => e = .normal ∧ Q .normal a w) mu i [] a w := ⟨rfl, h⟩
theorem mixL_nil (h : Q .normal a w) : MixL P ops C Q mu i [] a w := h
end
end Go.Proofs.Ytimhkkijoelmhaa
namespace Go.Proofs.Ytimhkkijoelmhaa
open Go.RowKit
section
variable {P : Program}
theorem oper_wp_imp {o : Oper} {a : Act} {w : World} {K K' : Act → World → Prop} {Q Q' : Exit → Act → World → Prop} (h : ∀ a w, K a w → K' a w) (hq : ∀ e a w, e ≠ .normal → Q e a w → Q' e a w)
    (hh : o.wp P a w K Q) : o.wp P a w K' Q' := by
  have hl : LetsOut Q → LetsOut Q' := fun ⟨a, w, h⟩ => ⟨a, w, hq _ _ _ (by simp) h⟩
  unfold Oper.wp at *
  generalize (execOp a.eval o).run P w = r at *
  cases r with
  | ok n w' =>
    cases n <;> simp only [Oper.upon] at hh ⊢ <;>
      first
        | exact h _ _ hh
        | exact Calls.mono hh (fun e w'' he => by cases e <;> first | exact h _ _ he | exact hq _ _ _ (by simp) he | exact hl he)
        | exact Rows.mono hh (fun _ _ he => h _ _ he)
  | halt x w' => cases x <;> simp only [Oper.upon] at hh ⊢ <;> first | exact hq _ _ _ (by simp) hh | exact hh
/-- What is asked of the region: each waits for earlier ones alone, is guarded by earlier ones alone, and the last one, unguarded, waits for all. -/
def tailB (md : Region.Mode) (l : List Oper) (last : Oper) : Bool :=
  ((List.range l.length).all fun i => match l[i]? with
    | none => false
    | some o => (o.after.all fun e => decide (e.on < i)) && (match o.guard with | none => true | some (j, _) => decide (j < i))) &&
  (last.guard.isNone && last.after.all fun e => decide (e.on < l.length)) && (List.range l.length).all fun i => last.after.any fun e => Region.binds md e && e.on == i
section
variable {md : Region.Mode} {l : List Oper} {last : Oper}
theorem tailB_at (h : tailB md l last = true) {i : Nat} {o : Oper} (hi : l[i]? = some o) : (∀ e ∈ o.after, e.on < i) ∧ ∀ j b, o.guard = some (j, b) → j < i := by
  unfold tailB at h
  simp only [Bool.and_eq_true, List.all_eq_true, List.mem_range] at h
  have hlt : i < l.length := (List.getElem?_eq_some_iff.1 hi).1
  have h1 := h.1.1 i hlt
  rw [hi] at h1
  dsimp only at h1
  simp only [Bool.and_eq_true] at h1
  refine ⟨fun e he => by simpa using Array.all_eq_true'.1 h1.1 e he, fun j b hg => ?_⟩
  have h2 := h1.2
  rw [hg] at h2
  simpa using h2
theorem tailB_last (h : tailB md l last = true) : (last.guard = none ∧ ∀ e ∈ last.after, e.on < l.length) ∧ ∀ i, i < l.length → ∃ e ∈ last.after, Region.binds md e = true ∧ e.on = i := by
  unfold tailB at h
  simp only [Bool.and_eq_true, List.all_eq_true, List.mem_range] at h
  refine ⟨⟨by simpa using h.1.2.1, fun e he => by simpa using Array.all_eq_true'.1 h.1.2.2 e he⟩, fun i hi => ?_⟩
  obtain ⟨e, he, hb⟩ := Array.any_eq_true'.1 (h.2 i hi)
  simp only [Bool.and_eq_true, beq_iff_eq] at hb
  exact ⟨e, he, hb.1, hb.2⟩
/-- All of the first ones have come up. -/
theorem full_of_ready (h : tailB md l last = true) {L : Array Bool} (hs : L.size = l.length) (hr : Region.ready md l.toArray L = []) : ∀ i, i < l.length → L.getD i false = true := by
  intro i
  induction i using Nat.strongRecOn with
  | _ i ih =>
    intro hi
    cases hc : L.getD i false with
    | true => rfl
    | false =>
      have hi' : i < L.size := by omega
      have hm : i ∈ Region.ready md l.toArray L := by
        rw [mem_ready]
        refine ⟨by simp [hi'] at hc ⊢; exact hc, l[i], by simp [hi], fun e he _ => ?_⟩
        have := (tailB_at h (i := i) (o := l[i]) (by simp [hi])).1 e he
        exact ih e.on this (by omega)
      rw [hr] at hm
      cases hm
theorem getD_push_lt {L : Array Bool} {i : Nat} {b d : Bool} (hi : i < L.size) : (L.push b).getD i d = L.getD i d := by
  simp [Array.getElem_push, hi, Nat.lt_succ_of_lt hi]
theorem ready_push (h : tailB md l last = true) {L : Array Bool} (hs : L.size = l.length) (i : Nat) :
    i ∈ Region.ready md (l ++ [last]).toArray (L.push false) ↔ (i ∈ Region.ready md l.toArray L ∨ (i = l.length ∧ ∀ j, j < l.length → L.getD j false = true)) := by
  rw [mem_ready, mem_ready]
  have hget : ∀ j, j < l.length → (l ++ [last]).toArray[j]? = l.toArray[j]? := fun j hj => by simp [List.getElem?_append, hj]
  have hafter : ∀ (j : Nat) (o : Oper), l[j]? = some o → ∀ e ∈ o.after, (L.push false).getD e.on false = L.getD e.on false := fun j o hj e he => by
    have := (tailB_at h hj).1 e he
    have hlt : j < l.length := (List.getElem?_eq_some_iff.1 hj).1
    exact getD_push_lt (by omega)
  constructor
  · rintro ⟨h1, o, ho, h2⟩
    have hlt : i < l.length + 1 := by
      have := (Array.getElem?_eq_some_iff.1 ho).1
      simpa using this
    by_cases hi : i < l.length
    · rw [hget i hi] at ho
      rw [getD_push_lt (by omega)] at h1
      exact .inl ⟨h1, o, ho, fun e he hb => by rw [← hafter i o (by simpa using ho) e he]; exact h2 e he hb⟩
    · have hil : i = l.length := by omega
      subst hil
      refine .inr ⟨rfl, fun j hj => ?_⟩
      have : o = last := by simpa using ho.symm
      subst this
      obtain ⟨e, he, hb, hon⟩ := (tailB_last h).2 j hj
      have := h2 e he hb
      rw [hon, getD_push_lt (by omega)] at this
      exact this
  · rintro (⟨h1, o, ho, h2⟩ | ⟨rfl, hall⟩)
    · have hi : i < l.length := by
        have := (Array.getElem?_eq_some_iff.1 ho).1
        simpa using this
      refine ⟨by rw [getD_push_lt (by omega)]; exact h1, o, by rw [hget i hi]; exact ho, fun e he hb => ?_⟩
      rw [hafter i o (by simpa using ho) e he]
      exact h2 e he hb
    · refine ⟨by simp [← hs], last, by simp, fun e he hb => ?_⟩
      have hlt := (tailB_last h).1.2 e he
      rw [getD_push_lt (by omega)]
      exact hall _ hlt
theorem ready_none {ops : Array Oper} {L : Array Bool} (h : ∀ i, i < ops.size → L.getD i true = true) : Region.ready md ops L = [] := by
  rw [List.eq_nil_iff_forall_not_mem]
  intro i hi
  obtain ⟨h1, o, ho, _⟩ := mem_ready.1 hi
  rw [h i (Array.getElem?_eq_some_iff.1 ho).1] at h1
  cases h1
theorem any_done {ops : Array Oper} {Q : Exit → Act → World → Prop} {L : Array Bool} {a : Act} {w : World} (hr : Region.ready md ops L = []) (hq : Q .normal a w) : ∀ n, wpAny P md ops Q n L a w
  | 0 => ⟨hr, hq⟩
  | _ + 1 => ⟨fun _ => hq, by rw [hr]; simp⟩
/-- What is asked of the first ones: that the last one goes on. -/
def TailQ (P : Program) (last : Oper) (Q : Exit → Act → World → Prop) : Exit → Act → World → Prop := fun e a w => e = .normal ∧ last.wp P a w (fun a' w' => Q .normal a' w') Q
theorem yielded_front {l : List Oper} {last : Oper} {tmps : Array Value} {j : Nat} (hj : j < l.length) : yielded (l ++ [last]).toArray tmps j = yielded l.toArray tmps j := by
  unfold yielded
  have : (l ++ [last]).toArray[j]? = l.toArray[j]? := by simp [List.getElem?_append, hj]
  rw [this]
theorem wanted_front (h : tailB md l last = true) {tmps : Array Value} {i : Nat} {o : Oper} (hi : l[i]? = some o) : Region.wanted o (yielded (l ++ [last]).toArray tmps) = Region.wanted o (yielded l.toArray tmps) := by
  unfold Region.wanted
  cases hg : o.guard with
  | none => rfl
  | some p =>
    obtain ⟨j, b⟩ := p
    have h1 := (tailB_at h hi).2 j b hg
    have h2 : i < l.length := (List.getElem?_eq_some_iff.1 hi).1
    dsimp only
    rw [yielded_front (by omega)]
theorem wpAny_tail {Q : Exit → Act → World → Prop} (h : tailB md l last = true) : ∀ (fuel : Nat) (L : Array Bool) (a : Act) (w : World), L.size = l.length → wpAny P md l.toArray (TailQ P last Q) fuel L a w → wpAny P md (l ++ [last]).toArray Q (fuel + 1) (L.push false) a w := by
  have hfull : ∀ (L : Array Bool), L.size = l.length → (∀ j, j < l.length → L.getD j false = true) → Region.ready md l.toArray L = [] := fun L hs hL => ready_none (fun i hi => by
    have h1 := hL i (by simpa using hi)
    have h2 : i < L.size := by simpa [hs] using hi
    simp [h2] at h1 ⊢
    exact h1)
  have hlast : ∀ (n : Nat) (L : Array Bool) (a : Act) (w : World), L.size = l.length → (∀ j, j < l.length → L.getD j false = true) → last.wp P a w (fun a' w' => Q .normal a' w') Q → wpOp P (l ++ [last]).toArray Q l.length (wpAny P md (l ++ [last]).toArray Q n ((L.push false).setIfInBounds l.length true)) a w := by
    intro n L a w hs hL hw
    unfold wpOp
    rw [show (l ++ [last]).toArray[l.length]? = some last by simp]
    dsimp only
    rw [if_pos (wanted_none (tailB_last h).1.1)]
    refine .inl (Oper.wp_mono (fun a' w' hq => any_done (ready_none (fun i hi => ?_)) hq n) hw)
    have hi' : i < l.length + 1 := by simpa using hi
    by_cases e : i = l.length
    · subst e
      simp [← hs]
    · have h1 := hL i (by omega)
      have h2 : i < L.size := by omega
      simp [h2] at h1
      have e2 : ¬ l.length = i := fun x => e x.symm
      simp [Array.getElem_push, h2, e2, h1, Nat.lt_succ_of_lt h2]
  have hne : ∀ (L : Array Bool), L.size = l.length → Region.ready md (l ++ [last]).toArray (L.push false) = [] → False := by
    intro L hs hr
    by_cases hc : Region.ready md l.toArray L = []
    · have := (ready_push h hs l.length).2 (.inr ⟨rfl, full_of_ready h hs hc⟩)
      rw [hr] at this
      cases this
    · obtain ⟨i, hi⟩ := List.exists_mem_of_ne_nil _ hc
      have := (ready_push h hs i).2 (.inl hi)
      rw [hr] at this
      cases this
  intro fuel
  induction fuel with
  | zero =>
    intro L a w hs hh
    refine ⟨fun hr => (hne L hs hr).elim, fun i hi => ?_⟩
    rcases (ready_push h hs i).1 hi with hi | ⟨rfl, hL⟩
    · rw [hh.1] at hi
      cases hi
    · exact hlast 0 L a w hs hL hh.2.2
  | succ fuel ih =>
    intro L a w hs hh
    refine ⟨fun hr => (hne L hs hr).elim, fun i hi => ?_⟩
    rcases (ready_push h hs i).1 hi with hi | ⟨rfl, hL⟩
    · have h1 := hh.2 i hi
      obtain ⟨_, o, ho, _⟩ := mem_ready.1 hi
      have hlt : i < l.length := by
        have := (Array.getElem?_eq_some_iff.1 ho).1
        simpa using this
      have hpush : (L.push false).setIfInBounds i true = (L.setIfInBounds i true).push false := by
        apply Array.ext'
        simp [hs, hlt]
      unfold wpOp at h1 ⊢
      rw [ho] at h1
      rw [show (l ++ [last]).toArray[i]? = some o by rw [← ho]; simp [List.getElem?_append, hlt]]
      dsimp only at h1 ⊢
      rw [wanted_front h (by simpa using ho), hpush]
      split
      · rename_i hw
        rw [if_pos hw] at h1
        rcases h1 with h1 | ⟨_, a', w', h1, _⟩
        · exact .inl (oper_wp_imp (fun a' w' hk => ih _ a' w' (by simp [hs]) hk) (fun e a' w' hn hq => absurd hq.1 hn) h1)
        · cases h1
      · rename_i hw
        rw [if_neg hw] at h1
        exact ih _ _ w (by simp [hs]) h1
    · exact hlast (fuel + 1) L a w hs hL (hh.1 (hfull L hs hL)).2
end
variable {C : World → Prop} {Q : Exit → Act → World → Prop}
/-- Nothing may panic ahead of the last one. -/
theorem wp_region_mixT {id : Nat} {a : Act} {w : World} {l : List Oper} {last : Oper} (mu : List Nat) (hm : P.follows .mixedOrders = true) (hT : tailB .any l last = true) (hB : mixB l.toArray mu = true)
    (hC : C w.drew) (h : MixL P l.toArray C (TailQ P last Q) mu 0 l a w.drew) : (Code.region id (l ++ [last]).toArray true).wp P Q a w := by
  refine wp_region_any hm ?_
  have h1 := mix_any (P := P) (C := C) hB (fun _ _ _ _ _ h => by cases h.1) l 0 a w.drew (by simp) (fun j => by simp) hC h
  rw [preB_zero] at h1
  have h2 := wpAny_tail (P := P) (Q := Q) hT l.toArray.size (Array.replicate l.toArray.size false) a w.drew (by simp) (wpAny_of_held _ _ _ _ (by simpa using h1))
  have e : (Array.replicate l.toArray.size false).push false = Array.replicate (l ++ [last]).toArray.size false := by
    simp [Array.replicate_succ]
  rw [e] at h2
  simpa using h2
/-- The same, of a region whose list is written out. -/
theorem wp_region_mixAt {id : Nat} {a : Act} {w : World} {l : List Oper} (n : Nat) (mu : List Nat) (last : Oper) (hl : l = l.take n ++ [last]) (hm : P.follows .mixedOrders = true) (hT : tailB .any (l.take n) last = true) (hB : mixB (l.take n).toArray mu = true)
    (hC : C w.drew) (h : MixL P (l.take n).toArray C (TailQ P last Q) mu 0 (l.take n) a w.drew) : (Code.region id l.toArray true).wp P Q a w := by
  have := wp_region_mixT (id := id) (Q := Q) (last := last) mu hm hT hB hC h
  rwa [← hl] at this
theorem tail_nil {ops : Array Oper} {mu : List Nat} {i : Nat} {a : Act} {w : World} {last : Oper} (h : ∀ K : Act → World → Prop, (∀ a' w', Q .normal a' w' → K a' w') → last.wp P a w K Q) : MixL P ops C (TailQ P last Q) mu i [] a w :=
  ⟨rfl, h _ (fun _ _ h => h)⟩
end
end Go.Proofs.Ytimhkkijoelmhaa
