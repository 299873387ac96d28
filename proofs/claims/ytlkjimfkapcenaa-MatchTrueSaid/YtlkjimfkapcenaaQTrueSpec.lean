/- Records of one person with half of what rules allow wrong in each are not excluded: plain laws. For valid rules and records. -/
import Derived.Test.YtlkjimfkapcenaaQMoreSpec
namespace Go.Proofs.Ytlkjimfkapcenaa
open Go.RowKit

theorem lev_shift (x y : ByteArray) (i k : Nat) : ∀ m, (∀ t, t < m → byt x (i + t) = byt y (k + t)) → lev x y (i + m) (k + m) ≤ lev x y i k := by
  intro m
  induction m with
  | zero => intro _; exact Nat.le_refl _
  | succ m ih =>
    intro h
    have h1 := lev_le1 x y (i + m) (k + m)
    rw [if_pos (h m (by omega))] at h1
    exact Nat.le_trans h1 (ih (fun t ht => h t (by omega)))
theorem lev_prefix (x y : ByteArray) (p : Nat) (h : ∀ t, t < p → byt x t = byt y t) : lev x y p p = 0 := by
  have := lev_shift x y 0 0 p (fun t ht => by simpa using h t ht)
  rw [lev_zero] at this
  simpa using this
/-- A letter put in. -/
theorem levW_put {x y : ByteArray} {p : Nat} (hs : y.size = x.size + 1) (hp : p ≤ x.size) (h1 : ∀ t, t < p → byt x t = byt y t) (h2 : ∀ t, p ≤ t → t < x.size → byt x t = byt y (t + 1)) : levW x y ≤ 1 := by
  unfold levW
  have a := lev_prefix x y p h1
  have b := lev_le3 x y p p
  have c := lev_shift x y p (p + 1) (x.size - p) (fun t ht => by rw [h2 (p + t) (by omega) (by omega)]; congr 1; omega)
  rw [hs]
  have e1 : p + (x.size - p) = x.size := by omega
  have e2 : p + 1 + (x.size - p) = x.size + 1 := by omega
  rw [e1, e2] at c
  omega
/-- A letter taken out. -/
theorem levW_take {x y : ByteArray} {p : Nat} (hs : x.size = y.size + 1) (hp : p ≤ y.size) (h1 : ∀ t, t < p → byt y t = byt x t) (h2 : ∀ t, p ≤ t → t < y.size → byt y t = byt x (t + 1)) : levW x y ≤ 1 := by
  rw [levW_symm]; exact levW_put hs hp h1 h2
/-- A letter replaced. -/
theorem levW_change {x y : ByteArray} {p : Nat} (hs : y.size = x.size) (hp : p < x.size) (h : ∀ t, t < x.size → t ≠ p → byt x t = byt y t) : levW x y ≤ 1 := by
  unfold levW
  have a := lev_prefix x y p (fun t ht => h t (by omega) (by omega))
  have b := lev_le1 x y p p
  have c := lev_shift x y (p + 1) (p + 1) (x.size - (p + 1)) (fun t ht => h (p + 1 + t) (by omega) (by omega))
  have e1 : p + 1 + (x.size - (p + 1)) = x.size := by omega
  rw [hs]
  rw [e1] at c
  split at b <;> omega
theorem offN_tri (p q s : ByteArray) : ∀ k, offN p s k ≤ offN p q k + offN q s k := by
  intro k
  induction k with
  | zero => simp [offN]
  | succ k ih =>
    unfold offN
    by_cases e1 : byt p k = byt q k
    · by_cases e2 : byt q k = byt s k
      · rw [if_pos e1, if_pos e2, if_pos (e1.trans e2)]; omega
      · rw [if_pos e1, if_neg e2]; split <;> omega
    · rw [if_neg e1]; split <;> split <;> omega
/-- A record of a person, with no more than so much wrong in it. -/
structure Told (r : Rul) (a x : Rcd) : Prop where
  id : x.id = a.id
  len : x.names.length = a.names.length
  words : ∀ n, n < a.names.length → wordB x.names[n]! = true ∧ (2 * levW a.names[n]! x.names[n]! : Int) ≤ r.letters
  suffix : x.suffix = a.suffix ∨ x.suffix = 0
  born : ∃ day : Int, x.lo ≤ day ∧ day ≤ x.hi ∧ 2 * (day - a.lo) ≤ r.days ∧ 2 * (a.lo - day) ≤ r.days
  range : 0 ≤ x.lo ∧ x.hi ≤ 100000
  number : x.number.size = 0 ∨ (x.number.size = a.number.size ∧ madeB x.number 48 57 = true ∧ (2 * offN a.number x.number 9 : Int) ≤ r.digits)
  twin : x.twin = a.twin
  stays : x.stays = a.stays
theorem made_empty (s : ByteArray) (lo hi : Int) (h : s.size = 0) : madeB s lo hi = true := madeB_true (fun j hj => absurd hj (by omega))
theorem Told.ok {r : Rul} {a x : Rcd} (h : Told r a x) (ha : a.ok = true) : x.ok = true := by
  have hp := ok_parts ha
  unfold Rcd.ok at ha ⊢
  unfold inB at ha ⊢
  simp only [Bool.and_eq_true, decide_eq_true_eq, Bool.or_eq_true, List.all_eq_true] at ha ⊢
  obtain ⟨⟨⟨⟨⟨⟨⟨⟨h1, h2⟩, h3⟩, h4⟩, h5⟩, h6⟩, h7⟩, h8⟩, h9⟩ := ha
  obtain ⟨day, d1, d2, _⟩ := h.born
  have hr := h.range
  refine ⟨⟨⟨⟨⟨⟨⟨⟨?_, ?_⟩, ?_⟩, ?_⟩, ?_⟩, ?_⟩, ?_⟩, ?_⟩, ?_⟩
  · rw [h.id]; exact h1
  · rw [h.len]; exact h2
  · intro w hw
    obtain ⟨n, hn, rfl⟩ := List.getElem_of_mem hw
    have := (h.words n (by rw [← h.len]; exact hn)).1
    rwa [getElem!_pos x.names n hn] at this
  · rcases h.suffix with e | e <;> rw [e]
    · exact h4
    · omega
  · omega
  · rw [h.stays]; exact h6
  · rw [h.stays]; exact h7
  · rcases h.number with e | e
    · exact .inl e
    · rw [e.1]; exact h8
  · rcases h.number with e | e
    · exact made_empty _ _ _ e
    · exact e.2.1
theorem namesN_close {k : Int} {xs ys : List ByteArray} (hx : 0 < xs.length) (hl : xs.length = ys.length) (hk : 0 ≤ k) (h : ∀ n, n < xs.length → (levW xs[n]! ys[n]! : Int) ≤ k) : 2 ≤ namesN k xs ys := by
  unfold namesN
  rw [if_neg (by omega)]
  unfold namesO
  split
  · omega
  · rw [if_pos]
    · omega
    · refine ⟨h 0 hx, ?_⟩
      rw [among_eq k _ _ (by simp [hl]), List.all_eq_true]
      intro p hp
      obtain ⟨i, hi, rfl⟩ := List.getElem_of_mem hp
      rw [List.getElem_zip]
      simp only [List.length_zip, List.length_tail] at hi
      have := h (i + 1) (by omega)
      rw [getElem!_pos xs (i + 1) (by omega), getElem!_pos ys (i + 1) (by omega)] at this
      simp only [List.getElem_tail]
      unfold alikeB
      unfold levW at this
      simp [hk, this]
theorem Told.both {r : Rul} {a x y : Rcd} (hr : r.ok = true) (ha : a.ok = true) (ht : a.twin = false) (hx : Told r a x) (hy : Told r a y) :
    (cmpN r x y).vd ≠ 0 ∧ 2 ≤ (cmpN r x y).nm ∧ (cmpN r x y).nu ≠ 0 ∧ (cmpN r x y).bi ≠ 0 := by
  obtain ⟨⟨r1, _⟩, ⟨r2, _⟩, ⟨r3, _⟩, _⟩ := rul_parts hr
  have hlen : 0 < a.names.length := by
    unfold Rcd.ok inB at ha
    simp only [Bool.and_eq_true, decide_eq_true_eq] at ha
    omega
  have e1 : 2 ≤ namesN r.letters x.names y.names := by
    refine namesN_close (by rw [hx.len]; exact hlen) (by rw [hx.len, hy.len]) r1 (fun n hn => ?_)
    rw [hx.len] at hn
    have k1 := (hx.words n hn).2
    have k2 := (hy.words n hn).2
    have k3 := levW_tri x.names[n]! a.names[n]! y.names[n]!
    rw [levW_symm x.names[n]! a.names[n]!] at k3
    omega
  have e2 : numN r.digits x.number y.number ≠ 0 := by
    unfold numN
    split
    · omega
    · rename_i hz
      split
      · omega
      · rw [if_pos]
        · omega
        · rcases hx.number with k1 | ⟨_, _, k1⟩
          · omega
          · rcases hy.number with k2 | ⟨_, _, k2⟩
            · omega
            · have := offN_tri x.number a.number y.number 9
              rw [offN_symm x.number a.number] at this
              omega
  have e3 : birN r.days x.lo x.hi y.lo y.hi ≠ 0 := by
    obtain ⟨d, d1, d2, d3, d4⟩ := hx.born
    obtain ⟨d', d1', d2', d3', d4'⟩ := hy.born
    unfold birN
    split
    · omega
    · rw [if_pos ⟨by omega, by omega⟩]; omega
  have e4 : placesN r.together x.stays y.stays = 1 ∨ placesN r.together x.stays y.stays = 3 := placesN_range _ _ _
  refine ⟨?_, e1, e2, e3⟩
  show verdN x y (namesN _ _ _) (numN _ _ _) (birN _ _ _ _ _) (placesN _ _ _) ≠ 0
  unfold verdN
  have hs : ¬ (x.suffix ≠ 0 ∧ y.suffix ≠ 0 ∧ x.suffix ≠ y.suffix) := by
    rcases hx.suffix with e | e <;> rcases hy.suffix with e' | e' <;> omega
  have htw : (x.twin || y.twin) = false := by rw [hx.twin, hy.twin, ht]; rfl
  rw [if_neg e3, if_neg hs, if_neg (by omega), if_neg (by omega), htw]
  simp only [Bool.false_eq_true, false_and, if_false]
  repeat' split
  all_goals omega
end Go.Proofs.Ytlkjimfkapcenaa
