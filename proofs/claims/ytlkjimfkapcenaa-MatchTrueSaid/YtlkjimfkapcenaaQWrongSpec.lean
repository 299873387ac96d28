/- A word with a letter put in, taken out or replaced: a word still, one edit away. Plain laws. -/
import Derived.Test.YtlkjimfkapcenaaQTrueSpec
namespace Go.Proofs.Ytlkjimfkapcenaa
open Go.RowKit

theorem byt_append (x y : ByteArray) (j : Nat) : byt (x ++ y) j = if j < x.size then byt x j else byt y (j - x.size) := by
  have e : (x ++ y).data.toList = x.data.toList ++ y.data.toList := by simp
  unfold byt
  rw [e, List.getD_eq_getElem?_getD]
  by_cases h : j < x.size
  · rw [if_pos h, List.getElem?_append_left (by simpa using h), List.getD_eq_getElem?_getD]
  · rw [if_neg h, List.getElem?_append_right (by simpa using h), List.getD_eq_getElem?_getD]
    simp
theorem size_extract (x : ByteArray) (a b : Nat) (hb : b ≤ x.size) : (x.extract a b).size = b - a := by
  simp [ByteArray.size_extract]; omega
theorem byt_extract (x : ByteArray) (a b j : Nat) (hb : b ≤ x.size) (hj : a + j < b) : byt (x.extract a b) j = byt x (a + j) := by
  have hs := size_extract x a b hb
  rw [byt_get (by omega), byt_get (by omega)]
  simp [ByteArray.data_extract]
theorem wordB_iff (s : ByteArray) : wordB s = true ↔ (1 ≤ s.size ∧ s.size ≤ 20) ∧ ∀ j, j < s.size → 65 ≤ (byt s j).toNat ∧ (byt s j).toNat ≤ 90 := by
  unfold wordB inB
  simp only [Bool.and_eq_true, decide_eq_true_eq]
  constructor
  · rintro ⟨h1, h2⟩
    refine ⟨by omega, fun j hj => ?_⟩
    unfold madeB at h2
    rw [List.all_eq_true] at h2
    have := h2 _ (List.getElem_mem (l := s.data.toList) (n := j) (by simpa using hj))
    rw [byt_get hj]
    unfold inC at this
    simp only [decide_eq_true_eq] at this
    omega
  · rintro ⟨h1, h2⟩
    refine ⟨by omega, madeB_true (fun j hj => ?_)⟩
    have h3 := h2 j hj
    have e : byt s j = s[j] := by rw [byt_get hj]; rfl
    rw [e] at h3
    omega
/-- A text of one letter. -/
def Letter (c : ByteArray) : Prop := c.size = 1 ∧ 65 ≤ (byt c 0).toNat ∧ (byt c 0).toNat ≤ 90
theorem word_put {u c : ByteArray} {p : Nat} (hu : wordB u = true) (hc : Letter c) (hp : p ≤ u.size) (h20 : u.size < 20) : wordB (u.extract 0 p ++ c ++ u.extract p u.size) = true ∧ levW u (u.extract 0 p ++ c ++ u.extract p u.size) ≤ 1 := by
  obtain ⟨h1, h2⟩ := (wordB_iff u).1 hu
  obtain ⟨c1, c2, c3⟩ := hc
  have s1 := size_extract u 0 p hp
  have s2 := size_extract u p u.size (Nat.le_refl _)
  have hs : (u.extract 0 p ++ c ++ u.extract p u.size).size = u.size + 1 := by rw [ByteArray.size_append, ByteArray.size_append]; omega
  have hb : ∀ j, byt (u.extract 0 p ++ c ++ u.extract p u.size) j = if j < p then byt (u.extract 0 p) j else if j < p + 1 then byt c (j - p) else byt (u.extract p u.size) (j - (p + 1)) := by
    intro j
    rw [byt_append, byt_append, ByteArray.size_append, s1, c1]
    simp only [Nat.sub_zero]
    by_cases h : j < p
    · rw [if_pos (by omega), if_pos h, if_pos h]
    · by_cases h' : j < p + 1
      · rw [if_pos (by omega), if_neg h, if_neg h, if_pos h']
      · rw [if_neg (by omega), if_neg h, if_neg h']
  have b1 : ∀ j, j < p → byt (u.extract 0 p ++ c ++ u.extract p u.size) j = byt u j := by
    intro j hj
    rw [hb, if_pos hj, byt_extract u 0 p j hp (by omega), Nat.zero_add]
  have b2 : ∀ j, p ≤ j → j < u.size → byt (u.extract 0 p ++ c ++ u.extract p u.size) (j + 1) = byt u j := by
    intro j hj hj'
    rw [hb, if_neg (by omega), if_neg (by omega), byt_extract u p u.size _ (Nat.le_refl _) (by omega)]
    congr 1; omega
  refine ⟨(wordB_iff _).2 ⟨by omega, fun j hj => ?_⟩, levW_put hs hp (fun t ht => (b1 t ht).symm) (fun t ht ht' => (b2 t ht ht').symm)⟩
  rcases Nat.lt_or_ge j p with h | h
  · rw [b1 j h]; exact h2 j (by omega)
  · rcases Nat.lt_or_ge p j with h' | h'
    · obtain ⟨t, rfl⟩ : ∃ t, j = t + 1 := ⟨j - 1, by omega⟩
      rw [b2 t (by omega) (by omega)]; exact h2 t (by omega)
    · obtain rfl : j = p := by omega
      rw [hb, if_neg (by omega), if_pos (by omega), Nat.sub_self]; exact ⟨c2, c3⟩
theorem word_take {u : ByteArray} {p : Nat} (hu : wordB u = true) (hp : p < u.size) (h1' : 1 < u.size) : wordB (u.extract 0 p ++ u.extract (p + 1) u.size) = true ∧ levW u (u.extract 0 p ++ u.extract (p + 1) u.size) ≤ 1 := by
  obtain ⟨h1, h2⟩ := (wordB_iff u).1 hu
  have s1 := size_extract u 0 p (by omega)
  have s2 := size_extract u (p + 1) u.size (Nat.le_refl _)
  have hs : u.size = (u.extract 0 p ++ u.extract (p + 1) u.size).size + 1 := by rw [ByteArray.size_append]; omega
  have hb : ∀ j, byt (u.extract 0 p ++ u.extract (p + 1) u.size) j = if j < p then byt (u.extract 0 p) j else byt (u.extract (p + 1) u.size) (j - p) := by
    intro j
    rw [byt_append, s1, Nat.sub_zero]
  have b1 : ∀ j, j < p → byt (u.extract 0 p ++ u.extract (p + 1) u.size) j = byt u j := by
    intro j hj
    rw [hb, if_pos hj, byt_extract u 0 p j (by omega) (by omega), Nat.zero_add]
  have b2 : ∀ j, p ≤ j → j + 1 < u.size → byt (u.extract 0 p ++ u.extract (p + 1) u.size) j = byt u (j + 1) := by
    intro j hj hj'
    rw [hb, if_neg (by omega), byt_extract u (p + 1) u.size _ (Nat.le_refl _) (by omega)]
    congr 1; omega
  refine ⟨(wordB_iff _).2 ⟨by omega, fun j hj => ?_⟩, levW_take hs (by omega) b1 (fun t ht ht' => b2 t ht (by omega))⟩
  rcases Nat.lt_or_ge j p with h | h
  · rw [b1 j h]; exact h2 j (by omega)
  · rw [b2 j h (by omega)]; exact h2 (j + 1) (by omega)
theorem word_change {u c : ByteArray} {p : Nat} (hu : wordB u = true) (hc : Letter c) (hp : p < u.size) : wordB (u.extract 0 p ++ c ++ u.extract (p + 1) u.size) = true ∧ levW u (u.extract 0 p ++ c ++ u.extract (p + 1) u.size) ≤ 1 := by
  obtain ⟨h1, h2⟩ := (wordB_iff u).1 hu
  obtain ⟨c1, c2, c3⟩ := hc
  have s1 := size_extract u 0 p (by omega)
  have s2 := size_extract u (p + 1) u.size (Nat.le_refl _)
  have hs : (u.extract 0 p ++ c ++ u.extract (p + 1) u.size).size = u.size := by rw [ByteArray.size_append, ByteArray.size_append]; omega
  have hb : ∀ j, byt (u.extract 0 p ++ c ++ u.extract (p + 1) u.size) j = if j < p then byt (u.extract 0 p) j else if j < p + 1 then byt c (j - p) else byt (u.extract (p + 1) u.size) (j - (p + 1)) := by
    intro j
    rw [byt_append, byt_append, ByteArray.size_append, s1, c1]
    simp only [Nat.sub_zero]
    by_cases h : j < p
    · rw [if_pos (by omega), if_pos h, if_pos h]
    · by_cases h' : j < p + 1
      · rw [if_pos (by omega), if_neg h, if_neg h, if_pos h']
      · rw [if_neg (by omega), if_neg h, if_neg h']
  have b1 : ∀ j, j < u.size → j ≠ p → byt (u.extract 0 p ++ c ++ u.extract (p + 1) u.size) j = byt u j := by
    intro j hj hne
    rw [hb]
    by_cases h : j < p
    · rw [if_pos h, byt_extract u 0 p j (by omega) (by omega), Nat.zero_add]
    · rw [if_neg h, if_neg (by omega), byt_extract u (p + 1) u.size _ (Nat.le_refl _) (by omega)]
      congr 1; omega
  refine ⟨(wordB_iff _).2 ⟨by omega, fun j hj => ?_⟩, levW_change hs hp (fun t ht hne => (b1 t ht hne).symm)⟩
  by_cases h : j = p
  · subst h
    rw [hb, if_neg (by omega), if_pos (by omega), Nat.sub_self]; exact ⟨c2, c3⟩
  · rw [b1 j (by omega) h]; exact h2 j (by omega)
end Go.Proofs.Ytlkjimfkapcenaa
