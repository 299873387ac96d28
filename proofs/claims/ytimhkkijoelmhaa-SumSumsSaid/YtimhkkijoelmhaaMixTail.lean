/- A region that draws its order, whose last operation waits for all others: what is asked of the worlds is asked of those ahead of it alone. For any program. -/
import Derived.Test.YtimhkkijoelmhaaMix
namespace Go.Proofs.Ytimhkkijoelmhaa
open Go.RowKit
section
variable {P : Program}
theorem oper_wp_imp {o : Oper} {a : Act} {w : World} {K K' : Act → World → Prop} {Q Q' : Exit → Act → World → Prop} (h : ∀ a w, K a w → K' a w) (hq : ∀ e a w, e ≠ .normal → Q e a w → Q' e a w)
    (hh : o.wp P a w K Q) : o.wp P a w K' Q' := by
  have hl : LetsOut Q → LetsOut Q' := fun ⟨a, w, h⟩ => ⟨a, w, hq _ _ _ (by simp) h⟩
  unfold Oper.wp at *
  generalize (execOp a.eval o).run P w = r at *
  cases r with
  | ok n w' =>
    cases n <;> simp only [Oper.upon] at hh ⊢ <;>
      first
        | exact h _ _ hh
        | exact Calls.mono hh (fun e w'' he => by cases e <;> first | exact h _ _ he | exact hq _ _ _ (by simp) he | exact hl he)
        | exact Rows.mono hh (fun _ _ he => h _ _ he)
  | halt x w' => cases x <;> simp only [Oper.upon] at hh ⊢ <;> first | exact hq _ _ _ (by simp) hh | exact hh
/-- What is asked of the region: each waits for earlier ones alone, is guarded by earlier ones alone, and the last one, unguarded, waits for all. -/
def tailB (md : Region.Mode) (l : List Oper) (last : Oper) : Bool :=
  ((List.range l.length).all fun i => match l[i]? with
    | none => false
    | some o => (o.after.all fun e => decide (e.on < i)) && (match o.guard with | none => true | some (j, _) => decide (j < i))) &&
  (last.guard.isNone && last.after.all fun e => decide (e.on < l.length)) && (List.range l.length).all fun i => last.after.any fun e => Region.binds md e && e.on == i
section
variable {md : Region.Mode} {l : List Oper} {last : Oper}
theorem tailB_at (h : tailB md l last = true) {i : Nat} {o : Oper} (hi : l[i]? = some o) : (∀ e ∈ o.after, e.on < i) ∧ ∀ j b, o.guard = some (j, b) → j < i := by
  unfold tailB at h
  simp only [Bool.and_eq_true, List.all_eq_true, List.mem_range] at h
  have hlt : i < l.length := (List.getElem?_eq_some_iff.1 hi).1
  have h1 := h.1.1 i hlt
  rw [hi] at h1
  dsimp only at h1
  simp only [Bool.and_eq_true] at h1
  refine ⟨fun e he => by simpa using Array.all_eq_true'.1 h1.1 e he, fun j b hg => ?_⟩
  have h2 := h1.2
  rw [hg] at h2
  simpa using h2
theorem tailB_last (h : tailB md l last = true) : (last.guard = none ∧ ∀ e ∈ last.after, e.on < l.length) ∧ ∀ i, i < l.length → ∃ e ∈ last.after, Region.binds md e = true ∧ e.on = i := by
  unfold tailB at h
  simp only [Bool.and_eq_true, List.all_eq_true, List.mem_range] at h
  refine ⟨⟨by simpa using h.1.2.1, fun e he => by simpa using Array.all_eq_true'.1 h.1.2.2 e he⟩, fun i hi => ?_⟩
  obtain ⟨e, he, hb⟩ := Array.any_eq_true'.1 (h.2 i hi)
  simp only [Bool.and_eq_true, beq_iff_eq] at hb
  exact ⟨e, he, hb.1, hb.2⟩
/-- All of the first ones have come up. -/
theorem full_of_ready (h : tailB md l last = true) {L : Array Bool} (hs : L.size = l.length) (hr : Region.ready md l.toArray L = []) : ∀ i, i < l.length → L.getD i false = true := by
  intro i
  induction i using Nat.strongRecOn with
  | _ i ih =>
    intro hi
    cases hc : L.getD i false with
    | true => rfl
    | false =>
      have hi' : i < L.size := by omega
      have hm : i ∈ Region.ready md l.toArray L := by
        rw [mem_ready]
        refine ⟨by simp [hi'] at hc ⊢; exact hc, l[i], by simp [hi], fun e he _ => ?_⟩
        have := (tailB_at h (i := i) (o := l[i]) (by simp [hi])).1 e he
        exact ih e.on this (by omega)
      rw [hr] at hm
      cases hm
theorem getD_push_lt {L : Array Bool} {i : Nat} {b d : Bool} (hi : i < L.size) : (L.push b).getD i d = L.getD i d := by
  simp [Array.getElem_push, hi, Nat.lt_succ_of_lt hi]
theorem ready_push (h : tailB md l last = true) {L : Array Bool} (hs : L.size = l.length) (i : Nat) :
    i ∈ Region.ready md (l ++ [last]).toArray (L.push false) ↔ (i ∈ Region.ready md l.toArray L ∨ (i = l.length ∧ ∀ j, j < l.length → L.getD j false = true)) := by
  rw [mem_ready, mem_ready]
  have hget : ∀ j, j < l.length → (l ++ [last]).toArray[j]? = l.toArray[j]? := fun j hj => by simp [List.getElem?_append, hj]
  have hafter : ∀ (j : Nat) (o : Oper), l[j]? = some o → ∀ e ∈ o.after, (L.push false).getD e.on false = L.getD e.on false := fun j o hj e he => by
    have := (tailB_at h hj).1 e he
    have hlt : j < l.length := (List.getElem?_eq_some_iff.1 hj).1
    exact getD_push_lt (by omega)
  constructor
  · rintro ⟨h1, o, ho, h2⟩
    have hlt : i < l.length + 1 := by
      have := (Array.getElem?_eq_some_iff.1 ho).1
      simpa using this
    by_cases hi : i < l.length
    · rw [hget i hi] at ho
      rw [getD_push_lt (by omega)] at h1
      exact .inl ⟨h1, o, ho, fun e he hb => by rw [← hafter i o (by simpa using ho) e he]; exact h2 e he hb⟩
    · have hil : i = l.length := by omega
      subst hil
      refine .inr ⟨rfl, fun j hj => ?_⟩
      have : o = last := by simpa using ho.symm
      subst this
      obtain ⟨e, he, hb, hon⟩ := (tailB_last h).2 j hj
      have := h2 e he hb
      rw [hon, getD_push_lt (by omega)] at this
      exact this
  · rintro (⟨h1, o, ho, h2⟩ | ⟨rfl, hall⟩)
    · have hi : i < l.length := by
        have := (Array.getElem?_eq_some_iff.1 ho).1
        simpa using this
      refine ⟨by rw [getD_push_lt (by omega)]; exact h1, o, by rw [hget i hi]; exact ho, fun e he hb => ?_⟩
      rw [hafter i o (by simpa using ho) e he]
      exact h2 e he hb
    · refine ⟨by simp [← hs], last, by simp, fun e he hb => ?_⟩
      have hlt := (tailB_last h).1.2 e he
      rw [getD_push_lt (by omega)]
      exact hall _ hlt
theorem ready_none {ops : Array Oper} {L : Array Bool} (h : ∀ i, i < ops.size → L.getD i true = true) : Region.ready md ops L = [] := by
  rw [List.eq_nil_iff_forall_not_mem]
  intro i hi
  obtain ⟨h1, o, ho, _⟩ := mem_ready.1 hi
  rw [h i (Array.getElem?_eq_some_iff.1 ho).1] at h1
  cases h1
theorem any_done {ops : Array Oper} {Q : Exit → Act → World → Prop} {L : Array Bool} {a : Act} {w : World} (hr : Region.ready md ops L = []) (hq : Q .normal a w) : ∀ n, wpAny P md ops Q n L a w
  | 0 => ⟨hr, hq⟩
  | _ + 1 => ⟨fun _ => hq, by rw [hr]; simp⟩
/-- What is asked of the first ones: that the last one goes on. -/
def TailQ (P : Program) (last : Oper) (Q : Exit → Act → World → Prop) : Exit → Act → World → Prop := fun e a w => e = .normal ∧ last.wp P a w (fun a' w' => Q .normal a' w') Q
theorem yielded_front {l : List Oper} {last : Oper} {tmps : Array Value} {j : Nat} (hj : j < l.length) : yielded (l ++ [last]).toArray tmps j = yielded l.toArray tmps j := by
  unfold yielded
  have : (l ++ [last]).toArray[j]? = l.toArray[j]? := by simp [List.getElem?_append, hj]
  rw [this]
theorem wanted_front (h : tailB md l last = true) {tmps : Array Value} {i : Nat} {o : Oper} (hi : l[i]? = some o) : Region.wanted o (yielded (l ++ [last]).toArray tmps) = Region.wanted o (yielded l.toArray tmps) := by
  unfold Region.wanted
  cases hg : o.guard with
  | none => rfl
  | some p =>
    obtain ⟨j, b⟩ := p
    have h1 := (tailB_at h hi).2 j b hg
    have h2 : i < l.length := (List.getElem?_eq_some_iff.1 hi).1
    dsimp only
    rw [yielded_front (by omega)]
theorem wpAny_tail {Q : Exit → Act → World → Prop} (h : tailB md l last = true) : ∀ (fuel : Nat) (L : Array Bool) (a : Act) (w : World), L.size = l.length → wpAny P md l.toArray (TailQ P last Q) fuel L a w → wpAny P md (l ++ [last]).toArray Q (fuel + 1) (L.push false) a w := by
  have hfull : ∀ (L : Array Bool), L.size = l.length → (∀ j, j < l.length → L.getD j false = true) → Region.ready md l.toArray L = [] := fun L hs hL => ready_none (fun i hi => by
    have h1 := hL i (by simpa using hi)
    have h2 : i < L.size := by simpa [hs] using hi
    simp [h2] at h1 ⊢
    exact h1)
  have hlast : ∀ (n : Nat) (L : Array Bool) (a : Act) (w : World), L.size = l.length → (∀ j, j < l.length → L.getD j false = true) → last.wp P a w (fun a' w' => Q .normal a' w') Q → wpOp P (l ++ [last]).toArray Q l.length (wpAny P md (l ++ [last]).toArray Q n ((L.push false).setIfInBounds l.length true)) a w := by
    intro n L a w hs hL hw
    unfold wpOp
    rw [show (l ++ [last]).toArray[l.length]? = some last by simp]
    dsimp only
    rw [if_pos (wanted_none (tailB_last h).1.1)]
    refine .inl (Oper.wp_mono (fun a' w' hq => any_done (ready_none (fun i hi => ?_)) hq n) hw)
    have hi' : i < l.length + 1 := by simpa using hi
    by_cases e : i = l.length
    · subst e
      simp [← hs]
    · have h1 := hL i (by omega)
      have h2 : i < L.size := by omega
      simp [h2] at h1
      have e2 : ¬ l.length = i := fun x => e x.symm
      simp [Array.getElem_push, h2, e2, h1, Nat.lt_succ_of_lt h2]
  have hne : ∀ (L : Array Bool), L.size = l.length → Region.ready md (l ++ [last]).toArray (L.push false) = [] → False := by
    intro L hs hr
    by_cases hc : Region.ready md l.toArray L = []
    · have := (ready_push h hs l.length).2 (.inr ⟨rfl, full_of_ready h hs hc⟩)
      rw [hr] at this
      cases this
    · obtain ⟨i, hi⟩ := List.exists_mem_of_ne_nil _ hc
      have := (ready_push h hs i).2 (.inl hi)
      rw [hr] at this
      cases this
  intro fuel
  induction fuel with
  | zero =>
    intro L a w hs hh
    refine ⟨fun hr => (hne L hs hr).elim, fun i hi => ?_⟩
    rcases (ready_push h hs i).1 hi with hi | ⟨rfl, hL⟩
    · rw [hh.1] at hi
      cases hi
    · exact hlast 0 L a w hs hL hh.2.2
  | succ fuel ih =>
    intro L a w hs hh
    refine ⟨fun hr => (hne L hs hr).elim, fun i hi => ?_⟩
    rcases (ready_push h hs i).1 hi with hi | ⟨rfl, hL⟩
    · have h1 := hh.2 i hi
      obtain ⟨_, o, ho, _⟩ := mem_ready.1 hi
      have hlt : i < l.length := by
        have := (Array.getElem?_eq_some_iff.1 ho).1
        simpa using this
      have hpush : (L.push false).setIfInBounds i true = (L.setIfInBounds i true).push false := by
        apply Array.ext'
        simp [hs, hlt]
      unfold wpOp at h1 ⊢
      rw [ho] at h1
      rw [show (l ++ [last]).toArray[i]? = some o by rw [← ho]; simp [List.getElem?_append, hlt]]
      dsimp only at h1 ⊢
      rw [wanted_front h (by simpa using ho), hpush]
      split
      · rename_i hw
        rw [if_pos hw] at h1
        rcases h1 with h1 | ⟨_, a', w', h1, _⟩
        · exact .inl (oper_wp_imp (fun a' w' hk => ih _ a' w' (by simp [hs]) hk) (fun e a' w' hn hq => absurd hq.1 hn) h1)
        · cases h1
      · rename_i hw
        rw [if_neg hw] at h1
        exact ih _ _ w (by simp [hs]) h1
    · exact hlast (fuel + 1) L a w hs hL (hh.1 (hfull L hs hL)).2
end
variable {C : World → Prop} {Q : Exit → Act → World → Prop}
/-- Nothing may panic ahead of the last one. -/
theorem wp_region_mixT {id : Nat} {a : Act} {w : World} {l : List Oper} {last : Oper} (mu : List Nat) (hm : P.follows .mixedOrders = true) (hT : tailB .any l last = true) (hB : mixB l.toArray mu = true)
    (hC : C w.drew) (h : MixL P l.toArray C (TailQ P last Q) mu 0 l a w.drew) : (Code.region id (l ++ [last]).toArray true).wp P Q a w := by
  refine wp_region_any hm ?_
  have h1 := mix_any (P := P) (C := C) hB (fun _ _ _ _ _ h => by cases h.1) l 0 a w.drew (by simp) (fun j => by simp) hC h
  rw [preB_zero] at h1
  have h2 := wpAny_tail (P := P) (Q := Q) hT l.toArray.size (Array.replicate l.toArray.size false) a w.drew (by simp) (wpAny_of_held _ _ _ _ (by simpa using h1))
  have e : (Array.replicate l.toArray.size false).push false = Array.replicate (l ++ [last]).toArray.size false := by
    simp [Array.replicate_succ]
  rw [e] at h2
  simpa using h2
/-- The same, of a region whose list is written out. -/
theorem wp_region_mixAt {id : Nat} {a : Act} {w : World} {l : List Oper} (n : Nat) (mu : List Nat) (last : Oper) (hl : l = l.take n ++ [last]) (hm : P.follows .mixedOrders = true) (hT : tailB .any (l.take n) last = true) (hB : mixB (l.take n).toArray mu = true)
    (hC : C w.drew) (h : MixL P (l.take n).toArray C (TailQ P last Q) mu 0 (l.take n) a w.drew) : (Code.region id l.toArray true).wp P Q a w := by
  have := wp_region_mixT (id := id) (Q := Q) (last := last) mu hm hT hB hC h
  rwa [← hl] at this
theorem tail_nil {ops : Array Oper} {mu : List Nat} {i : Nat} {a : Act} {w : World} {last : Oper} (h : ∀ K : Act → World → Prop, (∀ a' w', Q .normal a' w' → K a' w') → last.wp P a w K Q) : MixL P ops C (TailQ P last Q) mu i [] a w :=
  ⟨rfl, h _ (fun _ _ h => h)⟩
end
end Go.Proofs.Ytimhkkijoelmhaa
