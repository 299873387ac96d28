/- How a value follows: what the parts say of each subject. No program in sight. -/
import Derived.Test.YtimhkkijoelmhaaQAugPure10
import Derived.Test.YtimhkkijoelmhaaQApartPure10
namespace Go.Proofs.Ytimhkkijoelmhaa
open Go.RowKit

theorem whole_times {l : List Rat} (hg : 0 < gcdL (numsR l)) : (wholeR l).map (· * (gcdL (numsR l) : Int)) = numsR l := by
  unfold wholeR
  split
  · rw [List.map_map]
    conv => rhs; rw [← List.map_id (numsR l)]
    apply List.map_congr_left
    intro x hx
    show x.tdiv _ * _ = x
    have h := gcdL_dvd hx
    exact Int.tdiv_mul_cancel (Int.ofNat_dvd_left.2 h)
  · rename_i h
    have : gcdL (numsR l) = 1 := by omega
    rw [this]
    simp
/-- Fractions with a 1 among them, made whole: all times one number, and nothing above 1 divides all of them. -/
theorem whole_rel {l : List Rat} {f : Nat} (hf : f < l.length) (h1 : l[f]! = 1) : ∃ t : Int, 1 ≤ t ∧ (wholeR l)[f]! = t ∧ gcdL (wholeR l) = 1 ∧ ∀ k, k < l.length → (((wholeR l)[k]! : Int) : Rat) = (t : Rat) * l[k]! := by
  have hL := lcmL_pos l
  have hwl := wholeR_len l
  have hnl := numsR_len l
  have hnf : (numsR l)[f]! = (lcmL l : Int) := by
    rw [numsR_get hf, h1]
    show ((lcmL l / 1 : Nat) : Int) * 1 = _
    rw [Nat.div_one, Int.mul_one]
  have hg : 0 < gcdL (numsR l) := by
    have h := gcdL_dvd (l := numsR l) (x := (numsR l)[f]!) (by rw [getElem!_pos _ f (by omega)]; exact List.getElem_mem _)
    rw [hnf] at h
    exact Nat.pos_of_dvd_of_pos h (by omega)
  have hw := whole_times hg
  have hk : ∀ k, k < l.length → (wholeR l)[k]! * (gcdL (numsR l) : Int) = (numsR l)[k]! := by
    intro k hk
    have e : ((wholeR l).map (· * (gcdL (numsR l) : Int)))[k]! = (numsR l)[k]! := by rw [hw]
    rw [getElem!_pos _ k (by rw [List.length_map]; omega), List.getElem_map] at e
    rw [getElem!_pos (wholeR l) k (by omega)]
    exact e
  have hgw : gcdL (wholeR l) = 1 := by
    have e := gcdL_times (wholeR l) (gcdL (numsR l))
    rw [hw] at e
    exact (Nat.eq_of_mul_eq_mul_right hg (by rw [Nat.one_mul]; exact e)).symm
  refine ⟨(wholeR l)[f]!, ?_, rfl, hgw, ?_⟩
  · have h := hk f hf
    rw [hnf] at h
    by_cases h2 : (wholeR l)[f]! < 1
    · exfalso
      have : (wholeR l)[f]! * (gcdL (numsR l) : Int) ≤ 0 := Int.mul_nonpos_of_nonpos_of_nonneg (by omega) (by omega)
      omega
    · omega
  · intro k hkl
    have a := hk k hkl
    have b := hk f hf
    rw [hnf] at b
    have c := nums_rat hkl
    have hg0 : (gcdL (numsR l) : Rat) ≠ 0 := by
      intro h
      have : gcdL (numsR l) = 0 := by exact_mod_cast h
      omega
    have a' : (((wholeR l)[k]! : Int) : Rat) * (gcdL (numsR l) : Rat) = (((numsR l)[k]! : Int) : Rat) := by exact_mod_cast a
    have b' : (((wholeR l)[f]! : Int) : Rat) * (gcdL (numsR l) : Rat) = (lcmL l : Rat) := by exact_mod_cast b
    rw [c, ← b'] at a'
    generalize (((wholeR l)[k]! : Int) : Rat) = u at *
    generalize (((wholeR l)[f]! : Int) : Rat) = v at *
    generalize (gcdL (numsR l) : Rat) = g at *
    grind

/-- A sum of so many whole numbers. -/
def sgI : Nat → (Nat → Int) → Int
  | 0, _ => 0
  | m + 1, f => sgI m f + f m
theorem sgI_congr {m : Nat} {f g : Nat → Int} (h : ∀ k, k < m → f k = g k) : sgI m f = sgI m g := by
  induction m with
  | zero => rfl
  | succ m ih => rw [sgI, sgI, ih (fun k hk => h k (by omega)), h m (by omega)]
theorem sgI_rat (m : Nat) (f : Nat → Int) : ((sgI m f : Int) : Rat) = sg m (fun k => (f k : Rat)) := by
  induction m with
  | zero => rfl
  | succ m ih => rw [sgI, sg, Rat.intCast_add, ih]
theorem sgI_add (m : Nat) (f g : Nat → Int) : sgI m (fun k => f k + g k) = sgI m f + sgI m g := by
  induction m with
  | zero => rfl
  | succ m ih => rw [sgI, sgI, sgI, ih]; omega
theorem sgI_mul (m : Nat) (f : Nat → Int) (c : Int) : sgI m (fun k => f k * c) = sgI m f * c := by
  induction m with
  | zero => show (0 : Int) = 0 * c; omega
  | succ m ih => rw [sgI, sgI, ih, Int.add_mul]
theorem sgI_le {m : Nat} {f : Nat → Int} {B : Int} (h : ∀ k, k < m → -B ≤ f k ∧ f k ≤ B) : -(B * m) ≤ sgI m f ∧ sgI m f ≤ B * m := by
  induction m with
  | zero => simp [sgI]
  | succ m ih =>
    have h1 := ih (fun k hk => h k (by omega))
    have h2 := h m (by omega)
    rw [sgI]
    have e : B * ((m + 1 : Nat) : Int) = B * m + B := by rw [Int.natCast_add, Int.mul_add]; simp
    omega
/-- What the parts say of a subject. -/
def partB (parts : List Int) (qs : List Qst) (s : Sbj) (k : Nat) : Int := if askedB s qs[k]! = true then parts[k]! else 0

section
variable {columns : Int} {zs : List Sbj} {qs : List Qst} {id : Int} {x : List Rat}
/-- A row by which a value follows. -/
theorem by_row (h : byR zs.length (ordI zs) (rowsR zs qs) id = some x) : ∃ i, i < zs.length ∧ (ordI zs)[i]!.id = id ∧ lookR (rowsR zs qs) i = some x ∧ someN zs.length x = 1 := by
  unfold byR at h
  cases h1 : (ordI zs).findIdx? (fun s => s.id == id) with
  | none => rw [h1] at h; cases h
  | some i =>
    rw [h1] at h
    simp only [Option.bind_some] at h
    cases h2 : lookR (rowsR zs qs) i with
    | none => rw [h2] at h; cases h
    | some y =>
      rw [h2] at h
      simp only [Option.bind_some] at h
      split at h
      · cases h
        obtain ⟨hk, h3, _⟩ := List.findIdx?_eq_some_iff_getElem.1 h1
        have hl : (ordI zs).length = zs.length := (ordI_perm zs).length_eq
        exact ⟨i, by omega, by rw [getElem!_pos _ i hk]; simpa using h3, h2, by assumption⟩
      · cases h
theorem row_unit {i : Nat} (hl : lookR (rowsR zs qs) i = some x) (h1 : someN zs.length x = 1) : x.length = zs.length + qs.length ∧ ∀ j, j < zs.length → cv x j = if j = i then 1 else 0 := by
  obtain ⟨q, hb⟩ := rows_bk zs qs
  have hm := lookR_some hl
  have hlen : x.length = zs.length + qs.length := hb.len _ hm
  have hi : i < zs.length := hb.lead _ hm
  have h3 := hb.delta _ hm _ hm
  simp only [if_true] at h3
  have hx : cv x i = 1 := h3
  have ho := other_one (n := zs.length) (by omega) hi (by rw [hx]; decide) h1
  refine ⟨hlen, fun j hj => ?_⟩
  by_cases e : j = i
  · rw [if_pos e, e]; exact hx
  · rw [if_neg e]
    unfold otherR at ho
    rw [List.find?_eq_none] at ho
    have := ho j (List.mem_range.2 hj)
    simp only [Bool.and_eq_true, decide_eq_true_eq, not_and] at this
    by_cases hz : cv x j = 0
    · exact hz
    · exact absurd hz (this e)
theorem rows_aug : ∀ r ∈ rowsR zs qs, Aug zs.length qs.length (asksF (ordI zs) qs) r.2 := solveR_aug _ (Nat.le_refl _)
theorem ids_index (hap : zs.Pairwise (fun x y => x.id ≠ y.id)) {s : Sbj} (hs : s ∈ zs) : ∃ j, j < zs.length ∧ (ordI zs)[j]! = s ∧ ∀ i, i < zs.length → ((ordI zs)[i]!.id = s.id ↔ i = j) := by
  have hp := ordI_perm zs
  have hl : (ordI zs).length = zs.length := hp.length_eq
  obtain ⟨j, hj, e⟩ := List.getElem_of_mem (hp.mem_iff.2 hs)
  refine ⟨j, by omega, by rw [getElem!_pos _ j hj]; exact e, fun i hi => ?_⟩
  have hap' := (hp.pairwise_iff (fun h e => h e.symm)).2 hap
  rw [getElem!_pos _ i (by omega)]
  constructor
  · intro h
    rw [← e] at h
    rcases Nat.lt_trichotomy i j with h2 | h2 | h2
    · exact absurd h (List.pairwise_iff_getElem.1 hap' i j (by omega) hj h2)
    · exact h2
    · exact absurd h.symm (List.pairwise_iff_getElem.1 hap' j i hj (by omega) h2)
  · intro h
    subst h
    rw [e]
/-- How a value follows. -/
theorem how_law (hE : auditN columns zs qs = 0) (h : byR zs.length (ordI zs) (rowsR zs qs) id = some x) (parts : List Int) (whole : Int) (hp : parts = (wholeR (x.drop zs.length ++ [1])).take qs.length) (hw : whole = (wholeR (x.drop zs.length ++ [1]))[qs.length]!) :
    parts.length = qs.length ∧ 0 < qs.length ∧ 1 ≤ whole ∧ gcdL (whole :: parts) = 1 ∧ (∀ s ∈ zs, sgI qs.length (partB parts qs s) = if s.id = id then whole else 0) ∧ (∀ z ∈ parts, -1700000000 ≤ z ∧ z ≤ 1700000000) ∧ whole ≤ 1700000000 := by
  obtain ⟨i, hi, hid, hl, h1⟩ := by_row h
  obtain ⟨hlen, hunit⟩ := row_unit hl h1
  have haug := rows_aug (zs := zs) (qs := qs) _ (lookR_some hl)
  have hdl : (x.drop zs.length).length = qs.length := by rw [List.length_drop]; omega
  obtain ⟨l, hle⟩ : ∃ l, x.drop zs.length ++ [1] = l := ⟨_, rfl⟩
  have hll : l.length = qs.length + 1 := by rw [← hle, List.length_append, hdl]; rfl
  have hl1 : l[qs.length]! = 1 := by
    rw [← hle, getElem!_pos _ _ (by rw [List.length_append, hdl]; simp), List.getElem_append_right (by omega)]
    simp [hdl]
  have hlk : ∀ k, k < qs.length → l[k]! = cv x (zs.length + k) := by
    intro k hk
    rw [← hle, getElem!_pos _ k (by rw [List.length_append, hdl]; simp; omega), List.getElem_append_left (by omega), List.getElem_drop, cv_lt (by omega)]
  rw [hle] at hp hw
  obtain ⟨t, ht1, htw, hgw, hrel⟩ := whole_rel (l := l) (f := qs.length) (by omega) hl1
  have hwl := wholeR_len l
  have hpl : parts.length = qs.length := by rw [hp, List.length_take]; omega
  have hm0 : 0 < qs.length := by
    rcases Nat.eq_zero_or_pos qs.length with h0 | h0
    · have : rowsR zs qs = [] := by unfold rowsR; rw [h0]; rfl
      rw [this] at hl
      cases hl
    · exact h0
  have hpk : ∀ k, k < qs.length → parts[k]! = (wholeR l)[k]! := by
    intro k hk
    rw [getElem!_pos parts k (by omega), getElem!_pos (wholeR l) k (by omega)]
    subst hp
    rw [List.getElem_take]
  have hWeq : wholeR l = parts ++ [whole] := by
    apply List.ext_getElem
    · rw [List.length_append, hpl, hwl, hll]; rfl
    · intro k h1' h2'
      by_cases hk : k < qs.length
      · have := hpk k hk
        rw [getElem!_pos parts k (by omega), getElem!_pos (wholeR l) k (by omega)] at this
        rw [List.getElem_append_left (by omega), this]
      · have hke : k = qs.length := by omega
        subst hke
        rw [List.getElem_append_right (by omega)]
        rw [getElem!_pos (wholeR l) qs.length h1'] at hw
        simp [hpl, hw]
  obtain ⟨h16, h8⟩ := audit_16 hE
  obtain ⟨D, hD0, hD1, hD2⟩ := solve_com zs.length qs.length (asksF (ordI zs) qs) h8
  have hxz : ∀ z ∈ x, z.den ∣ D ∧ Sm 40320 z := hD2 (i, x) (lookR_some hl)
  have hz : ∀ z ∈ l, z.den ∣ D ∧ z.num.natAbs ≤ 40320 := by
    intro z hz
    rw [← hle] at hz
    rcases List.mem_append.1 hz with h | h
    · exact ⟨(hxz z (List.mem_of_mem_drop h)).1, (hxz z (List.mem_of_mem_drop h)).2.1⟩
    · simp at h; subst h; exact ⟨Nat.one_dvd _, by decide⟩
  have hbd : ∀ z ∈ wholeR l, -1700000000 ≤ z ∧ z ≤ 1700000000 := by
    intro z hz2
    have h1 := wholeR_le (fun x hx => (hz x hx).1) hD0 (fun x hx => (hz x hx).2) z hz2
    have h2 : D * 40320 ≤ 40320 * 40320 := Nat.mul_le_mul_right _ hD1
    omega
  have hwt : whole = t := by rw [hw, htw]
  have hap := table_apart (audit_table hE).1
  refine ⟨hpl, hm0, by omega, ?_, ?_, ?_, ?_⟩
  · rw [gcdL_turn, ← hWeq]
    exact hgw
  · intro s hs
    obtain ⟨j, hj, hjs, hji⟩ := ids_index hap hs
    have key : ((sgI qs.length (partB parts qs s) : Int) : Rat) = (t : Rat) * cv x j := by
      rw [sgI_rat, haug j hj, Rat.mul_comm, ← sg_mul]
      refine sg_congr (fun k hk => ?_)
      unfold partB
      have e1 : asksF (ordI zs) qs k j = askedB s qs[k]! := by unfold asksF; rw [hjs]
      rw [e1]
      cases askedB s qs[k]! with
      | true =>
        rw [if_pos rfl, hpk k hk, hrel k (by omega), hlk k hk]
        show _ = _ * 1 * _
        grind
      | false =>
        rw [if_neg (by simp)]
        show (0 : Rat) = _ * 0 * _
        grind
    rw [hunit j hj] at key
    have e2 : (s.id = id) ↔ (j = i) := by
      rw [← hid]
      constructor
      · intro h; exact ((hji i hi).1 h.symm).symm
      · intro h; exact ((hji i hi).2 h.symm).symm
    by_cases e : j = i
    · rw [if_pos (e2.2 e)]
      rw [if_pos e, Rat.mul_one] at key
      have : sgI qs.length (partB parts qs s) = t := by exact_mod_cast key
      omega
    · rw [if_neg (fun h => e (e2.1 h))]
      rw [if_neg e, Rat.mul_zero] at key
      exact_mod_cast key
  · intro z hz2
    exact hbd z (by rw [hp] at hz2; exact List.mem_of_mem_take hz2)
  · exact (hbd whole (by rw [hWeq]; simp)).2
end
end Go.Proofs.Ytimhkkijoelmhaa
