/- Tables and their parts; what is printed, and its bound: plain laws. No program in sight. -/
import Derived.Test.YtimhkkijoelmhaaQOrd10
namespace Go.Proofs.Ytimhkkijoelmhaa
open Go.RowKit

theorem table_iff {columns : Int} {l : List Sbj} : tableB columns l = true ↔ (1 ≤ columns ∧ columns ≤ 5) ∧ l.length ≤ 16 ∧ l.Pairwise (fun x y => x.id ≠ y.id) ∧ ∀ s ∈ l, sbjB columns s = true := by
  constructor
  · intro h
    refine ⟨table_cols h, (table_mem h).1, table_apart h, fun s hs => ?_⟩
    unfold tableB at h
    simp only [Bool.and_eq_true, decide_eq_true_eq, Bool.not_eq_true', List.any_eq_false, List.mem_range, Bool.not_eq_true] at h
    obtain ⟨j, hj, rfl⟩ := List.getElem_of_mem hs
    have hb := h.2 j hj
    unfold sbjBad at hb
    simp only [Bool.or_eq_false_iff, Bool.not_eq_false'] at hb
    have := hb.2
    rwa [getElem!_pos l j hj] at this
  · rintro ⟨hc, hl, hp, hm⟩
    unfold tableB
    simp only [Bool.and_eq_true, decide_eq_true_eq, Bool.not_eq_true', List.any_eq_false, List.mem_range, Bool.not_eq_true]
    refine ⟨⟨by unfold inB; simpa using hc, hl⟩, fun j hj => ?_⟩
    unfold sbjBad
    simp only [Bool.or_eq_false_iff, Bool.not_eq_false']
    rw [getElem!_pos l j hj]
    refine ⟨?_, hm _ (List.getElem_mem hj)⟩
    rw [List.any_eq_false]
    intro x hx
    obtain ⟨i, hi, rfl⟩ := List.getElem_of_mem hx
    rw [List.length_take] at hi
    rw [List.getElem_take]
    have := List.pairwise_iff_getElem.1 hp i j (by omega) hj (by omega)
    simpa using this
theorem table_sub {columns : Int} {l l' : List Sbj} (h : tableB columns l = true) (s : l'.Sublist l) : tableB columns l' = true := by
  obtain ⟨h1, h2, h3, h4⟩ := table_iff.1 h
  exact table_iff.2 ⟨h1, Nat.le_trans s.length_le h2, h3.sublist s, fun x hx => h4 x (s.subset hx)⟩
theorem table_perm {columns : Int} {l l' : List Sbj} (h : tableB columns l = true) (s : l'.Perm l) : tableB columns l' = true := by
  obtain ⟨h1, h2, h3, h4⟩ := table_iff.1 h
  exact table_iff.2 ⟨h1, by rw [s.length_eq]; exact h2, (s.pairwise_iff (fun h e => h e.symm)).2 h3, fun x hx => h4 x (s.mem_iff.1 hx)⟩
theorem raw_from (q : Qst) (l : List Sbj) (n : Int) : l.foldl (fun n s => if askedB s q = true then n + cntN s q else n) n = n + rawN l q := by
  unfold rawN
  induction l generalizing n with
  | nil => simp
  | cons s r ih =>
    rw [List.foldl_cons, List.foldl_cons, ih, ih (if askedB s q = true then 0 + cntN s q else 0)]
    split <;> omega
theorem raw_append (q : Qst) (a b : List Sbj) : rawN (a ++ b) q = rawN a q + rawN b q := by
  unfold rawN
  rw [List.foldl_append, raw_from]
  rfl
def cntA (s : Sbj) (q : Qst) : Int := if askedB s q = true then cntN s q else 0
theorem raw_one (q : Qst) (s : Sbj) : rawN [s] q = cntA s q := by
  unfold rawN cntA
  simp only [List.foldl_cons, List.foldl_nil]
  split <;> omega
theorem raw_split (q : Qst) {l : List Sbj} {k : Nat} (hk : k < l.length) : rawN l q = rawN (l.take k ++ l.drop (k + 1)) q + cntA l[k]! q := by
  have e : l = l.take k ++ ([l[k]!] ++ l.drop (k + 1)) := by
    rw [getElem!_pos l k hk]
    simp
  rw [raw_append]
  conv => lhs; rw [e]
  rw [raw_append, raw_append, raw_one]
  omega
theorem cntA_in {columns : Int} {zs : List Sbj} {q : Qst} (ht : tableB columns zs = true) (hq : qstB columns q = true) {s : Sbj} (hs : s ∈ zs) : 0 ≤ cntA s q ∧ cntA s q ≤ q.clip := by
  have h0 := cnt_in ht hq hs
  obtain ⟨h1, _, _⟩ := qst_parts hq
  unfold cntA
  split
  · refine ⟨h0.1, ?_⟩
    unfold cntN
    rcases h1 with ⟨e, e2⟩ | ⟨e, _⟩
    · rw [if_pos e]; omega
    · rw [if_neg e]; exact Int.min_le_right _ _
  · omega

theorem print_laws {n step : Int} (hs : 0 < step) : printN n step % step = 0 ∧ 2 * (printN n step - n) ≤ step ∧ 2 * (n - printN n step) < step := by
  unfold printN
  have h1 := Int.ediv_mul_le (2 * n + step) (show 2 * step ≠ 0 by omega)
  have h2 := Int.lt_ediv_add_one_mul_self (2 * n + step) (show 0 < 2 * step by omega)
  generalize (2 * n + step) / (2 * step) = d at *
  have e1 : d * (2 * step) = 2 * (d * step) := by rw [Int.mul_comm 2 step, ← Int.mul_assoc, Int.mul_comm]
  have e2 : (d + 1) * (2 * step) = 2 * (d * step) + 2 * step := by rw [Int.add_mul, e1, Int.one_mul]
  rw [e1] at h1
  rw [e2] at h2
  exact ⟨Int.mul_emod_left d step, by omega, by omega⟩
theorem bound_laws {clip step : Int} (hs : 0 < step) : boundN clip step % step = 0 ∧ clip ≤ boundN clip step ∧ boundN clip step - step < clip := by
  unfold boundN
  have h1 := Int.ediv_mul_le (clip + step - 1) (show step ≠ 0 by omega)
  have h2 := Int.lt_ediv_add_one_mul_self (clip + step - 1) hs
  generalize (clip + step - 1) / step = d at *
  have e2 : (d + 1) * step = d * step + step := by rw [Int.add_mul, Int.one_mul]
  rw [e2] at h2
  exact ⟨Int.mul_emod_left d step, by omega, by omega⟩
theorem print_mono {a b step : Int} (hs : 0 < step) (h : b ≤ a) : printN b step ≤ printN a step := by
  unfold printN
  exact Int.mul_le_mul_of_nonneg_right (Int.ediv_le_ediv (by omega) (by omega)) (by omega)
theorem print_nonneg {n step : Int} (hs : 0 < step) (h : 0 ≤ n) : 0 ≤ printN n step := by
  unfold printN
  exact Int.mul_nonneg (Int.ediv_nonneg (by omega) (by omega)) (by omega)
theorem print_diff {a b clip step : Int} (hs : 0 < step) (h : a ≤ b + clip) : printN a step - printN b step ≤ boundN clip step := by
  unfold printN boundN
  have a1 := Int.ediv_mul_le (2 * a + step) (show 2 * step ≠ 0 by omega)
  have b2 := Int.lt_ediv_add_one_mul_self (2 * b + step) (show 0 < 2 * step by omega)
  have c2 := Int.lt_ediv_add_one_mul_self (clip + step - 1) hs
  generalize (2 * a + step) / (2 * step) = d at *
  generalize (2 * b + step) / (2 * step) = e at *
  generalize (clip + step - 1) / step = f at *
  have e1 : d * (2 * step) = 2 * (d * step) := by rw [Int.mul_comm 2 step, ← Int.mul_assoc, Int.mul_comm]
  have e2 : (e + 1) * (2 * step) = 2 * (e * step) + 2 * step := by
    rw [Int.add_mul, Int.one_mul, Int.mul_comm 2 step, ← Int.mul_assoc, Int.mul_comm (e * step)]
  have e3 : (f + 1) * step = f * step + step := by rw [Int.add_mul, Int.one_mul]
  rw [e1] at a1
  rw [e2] at b2
  rw [e3] at c2
  have key : d ≤ e + f := by
    apply Int.le_of_not_gt
    intro hlt
    have h1 : (e + f + 1) * step ≤ d * step := Int.mul_le_mul_of_nonneg_right (by omega) (by omega)
    rw [Int.add_mul, Int.add_mul, Int.one_mul] at h1
    omega
  have h2 : d * step ≤ (e + f) * step := Int.mul_le_mul_of_nonneg_right key (by omega)
  rw [Int.add_mul] at h2
  omega
end Go.Proofs.Ytimhkkijoelmhaa
