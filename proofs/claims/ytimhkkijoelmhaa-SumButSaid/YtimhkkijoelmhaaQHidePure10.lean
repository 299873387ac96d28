/- How everybody could count otherwise with the same answers, in plain functions; the rows of an audit have nothing ahead of the subject that leads. No program in sight. -/
import Derived.Test.YtimhkkijoelmhaaQClone10
import Derived.Test.YtimhkkijoelmhaaQDeduced10
namespace Go.Proofs.Ytimhkkijoelmhaa
open Go.RowKit

/-- Nothing stands ahead of the subject that leads. -/
def LowZ (rows : List Rw) : Prop := ∀ r ∈ rows, ∀ j, j < r.1 → cv r.2 j = 0
theorem firstR_low {n : Nat} {x : List Rat} {f : Nat} (h : firstR n x = some f) : ∀ j, j < f → cv x j = 0 := by
  intro j hj
  unfold firstR at h
  obtain ⟨_, _, h3⟩ := List.find?_range_eq_some.1 h
  have := h3 j hj
  simpa using this
theorem stepR_low {N n : Nat} {q : List (Nat → Rat)} {rows : List Rw} (hb : Bk N n q rows) (hl : LowZ rows) {x : List Rat} (hx : x.length = N) (h01 : ∀ j, cv x j = 0 ∨ cv x j = 1) : LowZ (stepR n rows x) := by
  unfold stepR
  have hlen : (awayR rows x).length = N := (hb.away hx h01 rows (fun r hr => hr) hb.nd).1
  cases hf : firstR n (awayR rows x) with
  | none => exact hl
  | some f =>
    have hlow := firstR_low hf
    intro r hr j hj
    have hy : ∀ i, i < f → cv (divR (awayR rows x) (cv (awayR rows x) f)) i = 0 := by
      intro i hi
      rw [cv_div, hlow i hi, Rat.zero_mul]
    have hyl : (divR (awayR rows x) (cv (awayR rows x) f)).length = N := by unfold divR; rw [List.length_map]; exact hlen
    dsimp only at hr
    generalize divR (awayR rows x) (cv (awayR rows x) f) = y at *
    unfold putR at hr
    rcases List.mem_append.1 hr with hr | hr
    · obtain ⟨s, hs, rfl⟩ := List.mem_map.1 hr
      dsimp only at hj ⊢
      rw [cv_sub _ _ _ (by rw [hyl, hb.len s hs]), hl s hs j hj]
      by_cases hfs : f < s.1
      · rw [hl s hs f hfs, Rat.mul_zero, Rat.sub_self]
      · rw [hy j (by omega), Rat.zero_mul, Rat.sub_self]
    · rw [List.mem_singleton.1 hr] at hj ⊢
      exact hy j hj
theorem solveR_low (n m : Nat) (asks : Nat → Nat → Bool) (k : Nat) : LowZ (solveR n m asks k) := by
  induction k with
  | zero => intro r hr; cases hr
  | succ k ih =>
    obtain ⟨q, hb, _⟩ := solveR_bk n m asks k
    exact stepR_low hb ih (newR_len n m _ k) (fun j => newR_bit n m _ k j)
theorem rowsR_low (zs : List Sbj) (qs : List Qst) : LowZ (rowsR zs qs) := solveR_low _ _ _ _

/-- The first subject of a row but the one that leads. -/
def otherR (n i : Nat) (x : List Rat) : Option Nat := (List.range n).find? fun j => decide (j ≠ i) && decide (cv x j ≠ 0)
/-- The subject that counts one more. -/
def freeR (n : Nat) (rows : List Rw) (i : Nat) : Option Nat := match lookR rows i with
  | none => some i
  | some x => otherR n i x
def changeX (rows : List Rw) (f j : Nat) : Rat := if j = f then 1 else match lookR rows j with
  | none => 0
  | some x => 0 - cv x f
def changeR (n : Nat) (rows : List Rw) (f : Nat) : List Rat := (List.range n).map (changeX rows f)
theorem changeR_len (n : Nat) (rows : List Rw) (f : Nat) : (changeR n rows f).length = n := by simp [changeR]
theorem changeR_succ (n : Nat) (rows : List Rw) (f : Nat) : changeR (n + 1) rows f = changeR n rows f ++ [changeX rows f n] := by
  unfold changeR
  rw [List.range_succ, List.map_append]
  rfl
def signI (i : Nat) (ws : List Int) : List Int := if ws[i]! < 0 then ws.map (fun z => -z) else ws
/-- How everybody could count otherwise: the changes, the error. -/
def hideT (columns : Int) (zs : List Sbj) (qs : List Qst) (id : Int) : List Int × Int :=
  if auditN columns zs qs = 0 then match (ordI zs).findIdx? (fun s => s.id == id) with
    | none => ([], 6)
    | some i => match freeR zs.length (rowsR zs qs) i with
      | none => ([], 6)
      | some f => (signI i (wholeR (changeR zs.length (rowsR zs qs) f)), 0)
  else ([], auditN columns zs qs)
theorem other_one {n i : Nat} {x : List Rat} (hn : n ≤ x.length) (hi : i < n) (hx : cv x i ≠ 0) (h : someN n x = 1) : otherR n i x = none := by
  have ha : aloneB n i x = true := by rw [alone_some' hn hx, if_pos hi, h]; rfl
  unfold otherR
  rw [List.find?_eq_none]
  intro j hj
  unfold aloneB at ha
  have := List.all_eq_true.1 ha j hj
  simp only [Bool.or_eq_true, decide_eq_true_eq] at this
  simp only [Bool.and_eq_true, decide_eq_true_eq, not_and]
  rcases this with h | h
  · intro h2; exact absurd h h2
  · intro _ h2; exact h2 h
theorem other_more {n i : Nat} {x : List Rat} (hn : n ≤ x.length) (hi : i < n) (hx : cv x i ≠ 0) (hlow : ∀ j, j < i → cv x j = 0) (h : someN n x ≠ 1) :
    ∃ f, otherR n i x = some f ∧ i < f ∧ f < n ∧ cv x f ≠ 0 ∧ fidx (fun g => !decide (g = 0)) ((x.take n).drop (i + 1)) = ((f - (i + 1) : Nat) : Int) := by
  have ha : aloneB n i x = false := by rw [alone_some' hn hx, if_pos hi]; exact decide_eq_false h
  cases ho : otherR n i x with
  | none =>
    exfalso
    unfold otherR at ho
    rw [List.find?_eq_none] at ho
    rw [Bool.eq_false_iff] at ha
    refine ha ?_
    unfold aloneB
    rw [List.all_eq_true]
    intro j hj
    have := ho j hj
    simp only [Bool.and_eq_true, decide_eq_true_eq, not_and] at this
    simp only [Bool.or_eq_true, decide_eq_true_eq]
    by_cases e : j = i
    · exact .inl e
    · right
      have h2 := this e
      by_cases hz : cv x j = 0
      · exact hz
      · exact absurd hz h2
  | some f =>
    unfold otherR at ho
    obtain ⟨h1, h2, h3⟩ := List.find?_range_eq_some.1 ho
    simp only [Bool.and_eq_true, decide_eq_true_eq] at h1
    have hfn : f < n := List.mem_range.1 h2
    have hif : i < f := by
      rcases Nat.lt_trichotomy f i with h | h | h
      · exact absurd (hlow f h) h1.2
      · exact absurd h h1.1
      · exact h
    have hlen : ((x.take n).drop (i + 1)).length = n - (i + 1) := by rw [List.length_drop, List.length_take, Nat.min_eq_left hn]
    have hget : ∀ k, i + 1 + k < n → ((x.take n).drop (i + 1))[k]! = cv x (i + 1 + k) := by
      intro k hk
      rw [getElem!_pos _ k (by rw [hlen]; omega), List.getElem_drop, List.getElem_take, cv_lt (by omega)]
    refine ⟨f, rfl, hif, hfn, h1.2, ?_⟩
    refine fidx_hit (by rw [hlen]; omega) ?_ ?_
    · rw [hget _ (by omega), show i + 1 + (f - (i + 1)) = f by omega]
      simpa using h1.2
    · intro k hk
      rw [hget _ (by omega)]
      have h4 := h3 (i + 1 + k) (by omega)
      simp only [Bool.not_eq_true', Bool.and_eq_false_iff, decide_eq_false_iff_not] at h4
      have h5 : cv x (i + 1 + k) = 0 := by
        rcases h4 with h4 | h4
        · exact absurd (show i + 1 + k ≠ i by omega) h4
        · by_cases hz : cv x (i + 1 + k) = 0
          · exact hz
          · exact absurd hz h4
      rw [h5]
      rfl
/-- The numbers that come out are not great. -/
theorem wholeR_le {l : List Rat} {D B : Nat} (h : ∀ x ∈ l, x.den ∣ D) (hD : 0 < D) (hB : ∀ x ∈ l, x.num.natAbs ≤ B) : ∀ z ∈ wholeR l, z.natAbs ≤ D * B := by
  intro z hz
  have hN := numsR_le h hD hB
  unfold wholeR at hz
  split at hz
  · obtain ⟨y, hy, rfl⟩ := List.mem_map.1 hz
    rw [Int.natAbs_tdiv]
    exact Nat.le_trans (Nat.div_le_self _ _) (hN y hy)
  · exact hN z hz
theorem hideT_bare (columns : Int) (zs : List Sbj) (qs : List Qst) (id : Int) : hideT columns (zs.map Sbj.bare) (qs.map Qst.bare) id = hideT columns zs qs id := by
  unfold hideT
  rw [auditN_bare, rowsR_bare, ordI_bare, List.length_map, List.findIdx?_map]
  rfl
theorem like_hide {es zs : List Sbj} {qs' qs : List Qst} (h : es.map Sbj.bare = zs.map Sbj.bare) (hq : qs'.map Qst.bare = qs.map Qst.bare) (columns : Int) (id : Int) : hideT columns es qs' id = hideT columns zs qs id := by
  rw [← hideT_bare columns es, h, hq, hideT_bare]
theorem den_sub0 (x : Rat) : (0 - x).den = x.den ∧ (0 - x).num = -x.num := by
  rw [show (0 : Rat) - x = -x by rw [Rat.sub_eq_add_neg, Rat.zero_add]]
  exact ⟨Rat.neg_den x, Rat.neg_num x⟩
theorem change_sm {rows : List Rw} {D : Nat} (hD : ∀ r ∈ rows, ∀ z ∈ r.2, z.den ∣ D ∧ Sm 40320 z) (f : Nat) {n : Nat} : ∀ z ∈ changeR n rows f, z.den ∣ D ∧ z.num.natAbs ≤ 40320 := by
  intro z hz
  obtain ⟨j, _, rfl⟩ := List.mem_map.1 hz
  unfold changeX
  split
  · exact ⟨Nat.one_dvd _, by decide⟩
  · cases hl : lookR rows j with
    | none =>
      dsimp only
      exact ⟨Nat.one_dvd _, by decide⟩
    | some x =>
      dsimp only
      obtain ⟨e1, e2⟩ := den_sub0 (cv x f)
      rw [e1, e2, Int.natAbs_neg]
      rcases Nat.lt_or_ge f x.length with h | h
      · rw [cv_lt h]
        have := hD _ (lookR_some hl) x[f] (List.getElem_mem h)
        exact ⟨this.1, this.2.1⟩
      · rw [cv_ge h]
        exact ⟨Nat.one_dvd _, by decide⟩
end Go.Proofs.Ytimhkkijoelmhaa
