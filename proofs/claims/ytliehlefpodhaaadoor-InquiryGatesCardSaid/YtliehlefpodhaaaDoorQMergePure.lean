/- What merging signals comes to, in plain functions. For all lists of signals. -/
import Derived.Test.YtliehlefpodhaaaDoorQBase
namespace Go.Proofs.YtliehlefpodhaaaDoor
open Go.RowKit

/-- Two signals are at one place. -/
def samePl (x y : Sig) : Bool := x.bureau == y.bureau && x.id == y.id
theorem samePl_iff {x y : Sig} : samePl x y = true ↔ x.bureau = y.bureau ∧ x.id = y.id := by simp [samePl]
theorem samePl_comm (x y : Sig) : samePl x y = samePl y x := by
  rw [Bool.eq_iff_iff, samePl_iff, samePl_iff]
  exact ⟨fun h => ⟨h.1.symm, h.2.symm⟩, fun h => ⟨h.1.symm, h.2.symm⟩⟩
def hasPl (l : List Sig) (x : Sig) : Bool := l.any (samePl x)
/-- A signal of b is at the place of another one of a. -/
def clashB (a b : List Sig) : Bool := b.any fun x => a.any fun y => samePl x y && decide (y ≠ x)
/-- What b adds. -/
def newsS (a b : List Sig) : List Sig := b.filter fun x => !hasPl a x
/-- A signal put in, in order. -/
def putS (x : Sig) : List Sig → List Sig
  | [] => [x]
  | y :: r => if befB x y then x :: y :: r else y :: putS x r
def mergeAll (a b : List Sig) : List Sig := (newsS a b).foldl (fun o x => putS x o) a
def mergeN (a b : List Sig) : Int := if (!sigsB a || !sigsB b) = true then 91 else if clashB a b = true then 91 else if 40 < (mergeAll a b).length then 4 else 0
def mergeL (a b : List Sig) : List Sig := if mergeN a b = 0 then mergeAll a b else []
/-- Before, as a relation. -/
def BefS (a b : Sig) : Prop := befB a b = true
theorem BefS_iff {a b : Sig} : BefS a b ↔ a.bureau < b.bureau ∨ (a.bureau = b.bureau ∧ a.id < b.id) := by unfold BefS befB; simp
theorem BefS.anti {a b : Sig} (h : BefS a b) (k : BefS b a) : False := by rw [BefS_iff] at *; omega
theorem BefS.trans {a b c : Sig} (h : BefS a b) (k : BefS b c) : BefS a c := by rw [BefS_iff] at *; omega
theorem BefS.apart {a b : Sig} (h : BefS a b) : samePl a b = false := by
  cases e : samePl a b with
  | false => rfl
  | true => rw [samePl_iff] at e; rw [BefS_iff] at h; omega
theorem befS_total {a b : Sig} (h : samePl a b = false) : BefS a b ∨ BefS b a := by
  have : ¬ (a.bureau = b.bureau ∧ a.id = b.id) := fun e => by rw [samePl_iff.2 e] at h; cases h
  rw [BefS_iff, BefS_iff]; omega
theorem putS_perm (x : Sig) (l : List Sig) : (putS x l).Perm (x :: l) := by
  induction l with
  | nil => exact List.Perm.refl _
  | cons y r ih =>
    unfold putS
    split
    · exact List.Perm.refl _
    · exact (List.Perm.cons y ih).trans (List.Perm.swap x y r)
theorem putS_sorted {x : Sig} {l : List Sig} (h : l.Pairwise BefS) (hx : ∀ y ∈ l, samePl x y = false) : (putS x l).Pairwise BefS := by
  induction l with
  | nil => simp [putS]
  | cons y r ih =>
    obtain ⟨h1, h2⟩ := List.pairwise_cons.1 h
    unfold putS
    split
    · rename_i hlt
      refine List.pairwise_cons.2 ⟨fun z hz => ?_, h⟩
      rcases List.mem_cons.1 hz with rfl | hz
      · exact hlt
      · exact BefS.trans hlt (h1 z hz)
    · rename_i hlt
      refine List.pairwise_cons.2 ⟨fun z hz => ?_, ih h2 (fun z hz => hx z (List.mem_cons_of_mem _ hz))⟩
      rcases List.mem_cons.1 ((putS_perm x r).mem_iff.1 hz) with rfl | hz
      · rcases befS_total (hx y (by simp)) with h3 | h3
        · exact absurd h3 hlt
        · exact h3
      · exact h1 z hz
theorem sigs_pairwise {l : List Sig} (h : sigsB l = true) : l.Pairwise BefS := by
  unfold sigsB at h
  simp only [Bool.and_eq_true, decide_eq_true_eq, Bool.not_eq_true', List.any_eq_false, List.mem_range, Bool.not_eq_true] at h
  have hs : ∀ j, 0 < j → j < l.length → BefS l[j - 1]! l[j]! := by
    intro j h0 hj
    have := h.2 j hj
    unfold sigBad at this
    simp only [Bool.or_eq_false_iff, Bool.and_eq_false_imp, decide_eq_true_eq, Bool.not_eq_false'] at this
    exact this.2 h0
  have hs2 : ∀ n i, i + n + 1 < l.length → BefS l[i]! l[i + n + 1]! := by
    intro n
    induction n with
    | zero => intro i hi; exact hs (i + 1) (by omega) hi
    | succ n ih =>
      intro i hi
      have a := ih i (by omega)
      have b := hs (i + (n + 1) + 1) (by omega) hi
      rw [show i + (n + 1) + 1 - 1 = i + n + 1 by omega] at b
      exact a.trans b
  rw [List.pairwise_iff_getElem]
  intro i j hi hj hij
  have := hs2 (j - i - 1) i (by omega)
  rw [show i + (j - i - 1) + 1 = j by omega, getElem!_pos l i hi, getElem!_pos l j hj] at this
  exact this
theorem sigsB_len {l : List Sig} (h : sigsB l = true) : l.length ≤ 40 := by
  unfold sigsB at h
  simp only [Bool.and_eq_true, decide_eq_true_eq] at h
  exact h.1
theorem sigsB_mem {l : List Sig} (h : sigsB l = true) {x : Sig} (hx : x ∈ l) : sigB x = true := by
  unfold sigsB at h
  simp only [Bool.and_eq_true, decide_eq_true_eq, Bool.not_eq_true', List.any_eq_false, List.mem_range, Bool.not_eq_true] at h
  obtain ⟨j, hj, rfl⟩ := List.getElem_of_mem hx
  have := h.2 j hj
  unfold sigBad at this
  simp only [Bool.or_eq_false_iff, Bool.not_eq_false'] at this
  rw [getElem!_pos l j hj] at this
  exact this.1
theorem sigB_place {x : Sig} (h : sigB x = true) : (0 ≤ x.bureau ∧ x.bureau ≤ 9) ∧ (0 ≤ x.id ∧ x.id ≤ 999999) := by
  unfold sigB inB at h
  simp only [Bool.and_eq_true, decide_eq_true_eq] at h
  exact ⟨h.1.1.1.1, h.1.1.1.2.1⟩
/-- Putting in some, one by one. -/
theorem putAll_perm (l o : List Sig) : (l.foldl (fun o x => putS x o) o).Perm (o ++ l) := by
  induction l generalizing o with
  | nil => simp
  | cons x l ih =>
    rw [List.foldl_cons]
    refine (ih _).trans ?_
    refine ((putS_perm x o).append_right l).trans ?_
    have : (x :: o ++ l).Perm (o ++ x :: l) := by
      rw [List.cons_append]
      exact List.perm_middle.symm
    exact this
theorem putAll_sorted {l o : List Sig} (h : o.Pairwise BefS) (hl : l.Pairwise (fun x y => samePl x y = false)) (hx : ∀ x ∈ l, ∀ y ∈ o, samePl x y = false) : (l.foldl (fun o x => putS x o) o).Pairwise BefS := by
  induction l generalizing o with
  | nil => exact h
  | cons x l ih =>
    rw [List.foldl_cons]
    obtain ⟨h1, h2⟩ := List.pairwise_cons.1 hl
    refine ih (putS_sorted h (hx x (by simp))) h2 (fun z hz y hy => ?_)
    rcases List.mem_cons.1 ((putS_perm x o).mem_iff.1 hy) with rfl | hy
    · rw [samePl_comm]; exact h1 z hz
    · exact hx z (List.mem_cons_of_mem _ hz) y hy
theorem hasPl_false {l : List Sig} {x : Sig} (h : hasPl l x = false) : ∀ y ∈ l, samePl x y = false := by
  unfold hasPl at h
  intro y hy
  have := (List.any_eq_false.1 h) y hy
  simpa using this
theorem news_apart {a b : List Sig} : ∀ x ∈ newsS a b, ∀ y ∈ a, samePl x y = false := fun x hx => by
  unfold newsS at hx
  have := (List.mem_filter.1 hx).2
  exact hasPl_false (by simpa using this)
theorem news_pairwise {a b : List Sig} (h : b.Pairwise BefS) : (newsS a b).Pairwise (fun x y => samePl x y = false) :=
  (h.imp (fun k => k.apart)).filter _
theorem mergeAll_sorted {a b : List Sig} (ha : a.Pairwise BefS) (hb : b.Pairwise BefS) : (mergeAll a b).Pairwise BefS :=
  putAll_sorted ha (news_pairwise hb) news_apart
theorem mergeAll_perm (a b : List Sig) : (mergeAll a b).Perm (a ++ newsS a b) := putAll_perm _ _
/-- What is sorted, and of the same signals, is their list in order. -/
theorem mergeAll_eq {a b l : List Sig} (ha : a.Pairwise BefS) (hb : b.Pairwise BefS) (p : l.Perm (a ++ newsS a b)) (s : l.Pairwise BefS) : l = mergeAll a b :=
  perm_sorted_eq (R := BefS) (fun _ _ h k => h.anti k) (p.trans (mergeAll_perm a b).symm) s (mergeAll_sorted ha hb)

/-- The program's way: what is known so far, signal by signal. -/
def mgStep (o : Option (List Sig)) (x : Sig) : Option (List Sig) := match o with
  | none => none
  | some o => match o.find? (samePl x) with | none => some (o ++ [x]) | some y => if y = x then some o else none
theorem mg_none (l : List Sig) : l.foldl mgStep none = none := by
  induction l with
  | nil => rfl
  | cons x l ih => exact ih
theorem find_none {l : List Sig} {x : Sig} (h : ∀ y ∈ l, samePl x y = false) : l.find? (samePl x) = none := by
  rw [List.find?_eq_none]
  intro y hy
  simp [h y hy]
theorem mg_first {a o : List Sig} (ha : a.Pairwise (fun x y => samePl x y = false)) (hx : ∀ x ∈ a, ∀ y ∈ o, samePl x y = false) : a.foldl mgStep (some o) = some (o ++ a) := by
  induction a generalizing o with
  | nil => simp
  | cons x a ih =>
    obtain ⟨h1, h2⟩ := List.pairwise_cons.1 ha
    have : mgStep (some o) x = some (o ++ [x]) := by
      unfold mgStep
      simp only [find_none (hx x (by simp))]
    rw [List.foldl_cons, this, ih h2 (fun z hz y hy => ?_)]
    · simp
    · rcases List.mem_append.1 hy with hy | hy
      · exact hx z (List.mem_cons_of_mem _ hz) y hy
      · simp at hy; subst hy; rw [samePl_comm]; exact h1 z hz
theorem mg_second {a b o : List Sig} (hb : b.Pairwise (fun x y => samePl x y = false)) (ha : a.Pairwise (fun x y => samePl x y = false)) (ho : ∀ x ∈ b, ∀ y ∈ o, samePl x y = false) :
    b.foldl mgStep (some (a ++ o)) = if clashB a b = true then none else some (a ++ (o ++ newsS a b)) := by
  induction b generalizing o with
  | nil => simp [clashB, newsS]
  | cons x b ih =>
    obtain ⟨h1, h2⟩ := List.pairwise_cons.1 hb
    rw [List.foldl_cons]
    have hox : o.find? (samePl x) = none := find_none (ho x (by simp))
    cases hf : a.find? (samePl x) with
    | none =>
      have hn : ∀ y ∈ a, samePl x y = false := by
        rw [List.find?_eq_none] at hf
        intro y hy
        have := hf y hy
        simpa using this
      have hs : mgStep (some (a ++ o)) x = some (a ++ (o ++ [x])) := by
        unfold mgStep
        simp only [List.find?_append, hf, hox, Option.or_none]
        simp
      have hc : clashB a (x :: b) = clashB a b := by
        unfold clashB
        rw [List.any_cons]
        have : (a.any fun y => samePl x y && decide (y ≠ x)) = false := by
          rw [List.any_eq_false]
          intro y hy
          simp [hn y hy]
        rw [this, Bool.false_or]
      have hw : newsS a (x :: b) = x :: newsS a b := by
        unfold newsS
        rw [List.filter_cons]
        have : hasPl a x = false := by
          unfold hasPl
          rw [List.any_eq_false]
          intro y hy
          simp [hn y hy]
        simp [this]
      rw [hs, ih h2 (fun z hz y hy => ?_), hc, hw]
      · simp
      · rcases List.mem_append.1 hy with hy | hy
        · exact ho z (List.mem_cons_of_mem _ hz) y hy
        · simp at hy; subst hy; rw [samePl_comm]; exact h1 z hz
    | some y =>
      have hy1 := List.find?_some hf
      have hy2 := List.mem_of_find?_eq_some hf
      have huniq : ∀ z ∈ a, samePl x z = true → z = y := by
        intro z hz hxz
        by_cases e : z = y
        · exact e
        · exfalso
          obtain ⟨i, hi, rfl⟩ := List.getElem_of_mem hz
          obtain ⟨j, hj, rfl⟩ := List.getElem_of_mem hy2
          have hij : i ≠ j := fun h => by subst h; exact e rfl
          have hss : samePl a[i] a[j] = true := by
            rw [samePl_iff] at *
            exact ⟨hxz.1.symm.trans hy1.1, hxz.2.symm.trans hy1.2⟩
          rw [List.pairwise_iff_getElem] at ha
          rcases Nat.lt_or_ge i j with h | h
          · rw [ha i j hi hj h] at hss; cases hss
          · rw [samePl_comm, ha j i hj hi (by omega)] at hss; cases hss
      have hcl : (a.any fun z => samePl x z && decide (z ≠ x)) = decide (y ≠ x) := by
        rw [Bool.eq_iff_iff, List.any_eq_true, decide_eq_true_eq]
        constructor
        · rintro ⟨z, hz, h⟩
          simp only [Bool.and_eq_true, decide_eq_true_eq] at h
          rw [← huniq z hz h.1]; exact h.2
        · intro h
          exact ⟨y, hy2, by simp [hy1, h]⟩
      have hs : mgStep (some (a ++ o)) x = if y = x then some (a ++ o) else none := by
        unfold mgStep
        simp only [List.find?_append, hf, Option.some_or]
      have hw : newsS a (x :: b) = newsS a b := by
        unfold newsS
        rw [List.filter_cons]
        have : hasPl a x = true := by
          unfold hasPl
          rw [List.any_eq_true]
          exact ⟨y, hy2, hy1⟩
        simp [this]
      have hc : clashB a (x :: b) = (decide (y ≠ x) || clashB a b) := by
        unfold clashB
        rw [List.any_cons, hcl]
      rw [hs, hc, hw]
      by_cases e : y = x
      · rw [if_pos e, ih h2 (fun z hz => ho z (List.mem_cons_of_mem _ hz))]
        simp [e]
      · rw [if_neg e, mg_none]
        simp [e]
/-- The program's way comes to the same. -/
theorem mg_all {a b : List Sig} (ha : a.Pairwise BefS) (hb : b.Pairwise BefS) : (a ++ b).foldl mgStep (some []) = if clashB a b = true then none else some (a ++ newsS a b) := by
  have ha' := ha.imp (fun k => BefS.apart k)
  have hb' := hb.imp (fun k => BefS.apart k)
  rw [List.foldl_append, mg_first ha' (by simp)]
  have := mg_second (o := []) hb' ha' (by simp)
  simpa using this
theorem mg_len {l o o' : List Sig} (h : l.foldl mgStep (some o) = some o') : o'.length ≤ o.length + l.length := by
  induction l generalizing o with
  | nil => cases h; simp
  | cons x l ih =>
    rw [List.foldl_cons] at h
    cases e : mgStep (some o) x with
    | none => rw [e, mg_none] at h; cases h
    | some o1 =>
      rw [e] at h
      have h1 := ih h
      have h2 : o1.length ≤ o.length + 1 := by
        unfold mgStep at e
        split at e
        · cases e
        · rename_i o2 _ heq
          cases heq
          split at e
          · cases e; simp
          · split at e
            · cases e; omega
            · cases e
      simp
      omega
theorem mg_mem {l o o' : List Sig} (h : l.foldl mgStep (some o) = some o') : ∀ x ∈ o', x ∈ o ∨ x ∈ l := by
  induction l generalizing o with
  | nil => cases h; exact fun x hx => .inl hx
  | cons y l ih =>
    rw [List.foldl_cons] at h
    cases e : mgStep (some o) y with
    | none => rw [e, mg_none] at h; cases h
    | some o1 =>
      rw [e] at h
      intro x hx
      rcases ih h x hx with h1 | h1
      · have h2 : o1 = o ++ [y] ∨ o1 = o := by
          unfold mgStep at e
          split at e
          · cases e
          · rename_i o2 _ heq
            cases heq
            split at e
            · cases e; exact .inl rfl
            · split at e
              · cases e; exact .inr rfl
              · cases e
        rcases h2 with rfl | rfl
        · rcases List.mem_append.1 h1 with h1 | h1
          · exact .inl h1
          · simp at h1; subst h1; exact .inr (by simp)
        · exact .inl h1
      · exact .inr (List.mem_cons_of_mem _ h1)
theorem mg_take {l : List Sig} {k : Nat} {o : List Sig} (hk : k < l.length) (h : (l.take k).foldl mgStep (some []) = some o) : (l.take (k + 1)).foldl mgStep (some []) = mgStep (some o) l[k]! := by
  rw [List.take_succ_eq_append_getElem hk, List.foldl_append, h, getElem!_pos l k hk]; rfl
theorem mg_stuck {l : List Sig} {k : Nat} (h : (l.take k).foldl mgStep (some []) = none) : l.foldl mgStep (some []) = none := by
  rw [← List.take_append_drop k l, List.foldl_append, h, mg_none]
end Go.Proofs.YtliehlefpodhaaaDoor
