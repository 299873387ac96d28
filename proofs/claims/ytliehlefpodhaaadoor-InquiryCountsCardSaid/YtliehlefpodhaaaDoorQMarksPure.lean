/- Each inquiry of a file has just one trace: plain lemmas on what the person is shown. No program in sight. -/
import Derived.Test.YtliehlefpodhaaaDoorOReady9
namespace Go.Proofs.YtliehlefpodhaaaDoor
open Go.RowKit

/-- What a map of traces holds at an inquiry. -/
def seenF (l : List Trc) (i : Int) : Option Value := (l.find? (fun t => t.inq == i)).map Trc.val
theorem seenF_nil (i : Int) : seenF [] i = none := rfl
theorem traces5_eq (ls : List Lic) (ss : List Sig) (zs : List Inq) (file day : Int) : tracesL ls ss zs file day 5 = sortT ((zs.filter (keptB file day)).map (trcOf ls ss)) := by
  unfold tracesL
  have h5 : ((5 : Int) == 5) = true := rfl
  simp only [h5, Bool.true_or]
  congr 1
  exact List.filter_eq_self.2 (fun _ _ => rfl)
theorem kept_pairwise {ls : List Lic} {ss : List Sig} {zs : List Inq} (h : inqsB zs = true) (file day : Int) : ((zs.filter (keptB file day)).map (trcOf ls ss)).Pairwise (fun x y => x.inq < y.inq) := by
  rw [List.pairwise_map]
  exact (inqs_pairwise h).filter _
theorem marks_sorted {ls : List Lic} {ss : List Sig} {zs : List Inq} (h : inqsB zs = true) (file day : Int) : (tracesL ls ss zs file day 5).Pairwise AhT := by
  rw [traces5_eq]
  exact sortT_sorted (kept_pairwise h file day)
theorem marks_apart {ls : List Lic} {ss : List Sig} {zs : List Inq} (h : inqsB zs = true) (file day : Int) : (tracesL ls ss zs file day 5).Pairwise (fun x y => x.inq ≠ y.inq) := by
  rw [traces5_eq]
  refine (List.Perm.pairwise_iff (fun {_ _} hxy => Ne.symm hxy) (sortT_perm _)).2 ?_
  exact (kept_pairwise h file day).imp (fun hxy e => by omega)
theorem marks_length (ls : List Lic) (ss : List Sig) (zs : List Inq) (file day : Int) : (tracesL ls ss zs file day 5).length = (zs.filter (keptB file day)).length := by
  rw [traces5_eq, (sortT_perm _).length_eq, List.length_map]
/-- The one that is next was not there before. -/
theorem seen_new {al : List Trc} (h : al.Pairwise (fun x y => x.inq ≠ y.inq)) {k : Nat} (hk : k < al.length) : seenF (al.take k) al[k]!.inq = none := by
  unfold seenF
  rw [Option.map_eq_none_iff, List.find?_eq_none]
  intro x hx
  obtain ⟨i, hi, rfl⟩ := List.mem_iff_getElem.1 hx
  rw [List.length_take] at hi
  have := List.pairwise_iff_getElem.1 h i k (by omega) hk (by omega)
  rw [getElem!_pos al k hk, List.getElem_take]
  simpa using this
theorem seen_put {al : List Trc} (h : al.Pairwise (fun x y => x.inq ≠ y.inq)) {k : Nat} (hk : k < al.length) (p : Int) : (if p = al[k]!.inq then some al[k]!.val else seenF (al.take k) p) = seenF (al.take (k + 1)) p := by
  have h1 := seen_new h hk
  unfold seenF at *
  rw [List.take_succ_eq_append_getElem hk, List.find?_append, ← getElem!_pos al k hk]
  by_cases e : p = al[k]!.inq
  · subst e
    rw [Option.map_eq_none_iff] at h1
    rw [if_pos rfl, h1]
    simp
  · rw [if_neg e]
    have e' : (al[k]!.inq == p) = false := beq_eq_false_iff_ne.2 (fun x => e x.symm)
    rw [List.find?_cons, e', List.find?_nil, Option.or_none]
/-- Days, then inquiries, one after the other. -/
theorem marks_step {al : List Trc} (h : al.Pairwise AhT) {k : Nat} (hk : k < al.length) (h0 : 0 < k) : al[k - 1]!.day < al[k]!.day ∨ (al[k - 1]!.day = al[k]!.day ∧ al[k - 1]!.inq < al[k]!.inq) := by
  have := List.pairwise_iff_getElem.1 h (k - 1) k (by omega) hk (by omega)
  rw [getElem!_pos al k hk, getElem!_pos al (k - 1) (by omega)]
  exact this
/-- What the map holds of an inquiry in the end. -/
theorem seen_at {ls : List Lic} {ss : List Sig} {zs : List Inq} (h : inqsB zs = true) {file day : Int} {q : Inq} (hq : q ∈ zs) : seenF (tracesL ls ss zs file day 5) q.id = if keptB file day q then some (trcOf ls ss q).val else none := by
  have hid : ∀ q' ∈ zs, q'.id = q.id → q' = q := by
    intro q' hq' e
    obtain ⟨i, hi, rfl⟩ := List.mem_iff_getElem.1 hq
    obtain ⟨j, hj, rfl⟩ := List.mem_iff_getElem.1 hq'
    have hp := List.pairwise_iff_getElem.1 (inqs_pairwise h)
    rcases Nat.lt_trichotomy i j with c | c | c
    · have := hp i j hi hj c; omega
    · subst c; rfl
    · have := hp j i hj hi c; omega
  have hm : ∀ t, t ∈ tracesL ls ss zs file day 5 ↔ ∃ q' ∈ zs, keptB file day q' = true ∧ trcOf ls ss q' = t := by
    intro t
    rw [traces5_eq, (sortT_perm _).mem_iff, List.mem_map]
    constructor
    · rintro ⟨q', h1, h2⟩
      exact ⟨q', (List.mem_filter.1 h1).1, (List.mem_filter.1 h1).2, h2⟩
    · rintro ⟨q', h1, h2, h3⟩
      exact ⟨q', List.mem_filter.2 ⟨h1, h2⟩, h3⟩
  unfold seenF
  cases hf : (tracesL ls ss zs file day 5).find? (fun t => t.inq == q.id) with
  | none =>
    rw [List.find?_eq_none] at hf
    cases hk : keptB file day q with
    | false => rfl
    | true =>
      have := hf (trcOf ls ss q) ((hm _).2 ⟨q, hq, hk, rfl⟩)
      simp [trcOf] at this
  | some t =>
    have h1 := List.find?_some hf
    obtain ⟨q', m1, m2, m3⟩ := (hm t).1 (List.mem_of_find?_eq_some hf)
    subst m3
    have e : q' = q := hid q' m1 (by simpa [trcOf] using h1)
    subst e
    rw [m2]; rfl
theorem ask_le (ls : List Lic) (ss : List Sig) (q : Inq) : 0 ≤ askN ls ss q ∧ askN ls ss q ≤ 3 := by
  unfold askN
  split
  · omega
  · split
    · omega
    · split <;> omega
theorem ask_one (ls : List Lic) (ss : List Sig) (q : Inq) : askN ls ss q = 1 ↔ licensedB ls q = false := by
  unfold askN
  cases licensedB ls q
  · simp
  · simp only [Bool.not_true, Bool.false_eq_true, if_false]
    constructor
    · intro h
      split at h
      · omega
      · split at h <;> omega
    · intro h; cases h
theorem kept_parts (file day : Int) (q : Inq) : keptB file day q = (decide (q.file = file) && decide (q.day ≤ day) && decide (day - q.day ≤ 730)) := by
  unfold keptB inB
  rw [Bool.eq_iff_iff]
  simp only [Bool.and_eq_true, beq_iff_eq, decide_eq_true_eq]
  omega
end Go.Proofs.YtliehlefpodhaaaDoor
