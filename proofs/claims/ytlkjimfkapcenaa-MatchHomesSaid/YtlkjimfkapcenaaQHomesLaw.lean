/- What a law asks of homes: places in order, the next one found by a search through a map's keys, and that a place alone makes nobody sure. Plain functions. -/
import Derived.Test.YtlkjimfkapcenaaQNMap
import Derived.Test.YtlkjimfkapcenaaQSortedKeys
import Derived.Test.YtlkjimfkapcenaaQMoreSpec
namespace Go.Proofs.Ytlkjimfkapcenaa
open Go.RowKit

theorem asc_nodup {l : List Int} (h : l.Pairwise (· < ·)) : l.Nodup := List.Pairwise.imp (fun {a b} (k : a < b) => (fun (e : a = b) => by omega : a ≠ b)) h
theorem placesL_iff {day : Int} {rs : List Rcd} {p : Int} : p ∈ placesL day rs ↔ ∃ r ∈ rs, r.stays.any (atB day p) = true := by
  unfold placesL
  rw [(foldr_insP _).2, List.mem_map]
  constructor
  · rintro ⟨s, hs, e⟩
    obtain ⟨r, hr, h⟩ := List.mem_flatMap.1 hs
    obtain ⟨h1, h2⟩ := List.mem_filter.1 h
    refine ⟨r, hr, List.any_eq_true.2 ⟨s, h1, ?_⟩⟩
    unfold atB
    rw [h2, e]
    simp
  · rintro ⟨r, hr, h⟩
    obtain ⟨s, hs, h2⟩ := List.any_eq_true.1 h
    unfold atB at h2
    simp only [Bool.and_eq_true, decide_eq_true_eq] at h2
    exact ⟨s, List.mem_flatMap.2 ⟨r, hr, List.mem_filter.2 ⟨hs, h2.1⟩⟩, h2.2⟩
/-- A place is told just where somebody was. -/
theorem places_at {day p : Int} {rs S : List Rcd} (hS : S.Perm rs) : p ∈ placesL day S ↔ ∃ id, atF day rs rs.length 0 p id = true := by
  rw [placesL_iff]
  constructor
  · rintro ⟨r, hr, h⟩
    exact ⟨r.id, atF_all p r.id |>.2 ⟨r, hS.mem_iff.1 hr, rfl, h⟩⟩
  · rintro ⟨id, h⟩
    obtain ⟨r, hr, _, h2⟩ := (atF_all p id).1 h
    exact ⟨r, hS.mem_iff.2 hr, h2⟩
/-- The place that has been reached. -/
def lastQ (P : List Int) (m : Nat) : Int := if m = 0 then -1 else P[m - 1]!
/-- The least of some keys behind a place, as far as they have been seen. -/
structure NextQ (P : List Int) (last nx : Int) (left : Int → Prop) : Prop where
  is : (nx = -1 ∧ ∀ p ∈ P, ¬ left p → p ≤ last) ∨ (nx ∈ P ∧ last < nx ∧ ∀ p ∈ P, ¬ left p → last < p → nx ≤ p)
theorem NextQ.start (P : List Int) (last : Int) : NextQ P last (-1) (fun p => p ∈ P) := ⟨.inl ⟨rfl, fun _ hp h => absurd hp h⟩⟩
theorem NextQ.step {P : List Int} {last nx p0 : Int} {left : Int → Prop} (h : NextQ P last nx left) (h0 : ∀ p ∈ P, 0 ≤ p) (hp : p0 ∈ P) (hl : left p0) :
    NextQ P last (if last < p0 ∧ (nx < 0 ∨ p0 < nx) then p0 else nx) (fun p => left p ∧ p ≠ p0) := by
  have hd : ∀ p, ¬ (left p ∧ p ≠ p0) → ¬ left p ∨ p = p0 := fun p h => by
    by_cases e : p = p0
    · exact .inr e
    · exact .inl (fun h1 => h ⟨h1, e⟩)
  rcases h.is with ⟨h1, h2⟩ | ⟨h1, h2, h3⟩
  · by_cases e : last < p0
    · rw [if_pos ⟨e, .inl (by omega)⟩]
      refine ⟨.inr ⟨hp, e, fun p hpP hnl hlt => ?_⟩⟩
      rcases hd p hnl with h | h
      · have := h2 p hpP h; omega
      · omega
    · rw [if_neg (fun h => e h.1)]
      refine ⟨.inl ⟨h1, fun p hpP hnl => ?_⟩⟩
      rcases hd p hnl with h | h
      · exact h2 p hpP h
      · omega
  · have hn0 := h0 nx h1
    by_cases e : last < p0 ∧ (nx < 0 ∨ p0 < nx)
    · rw [if_pos e]
      refine ⟨.inr ⟨hp, e.1, fun p hpP hnl hlt => ?_⟩⟩
      rcases hd p hnl with h | h
      · have := h3 p hpP h hlt; omega
      · omega
    · rw [if_neg e]
      refine ⟨.inr ⟨h1, h2, fun p hpP hnl hlt => ?_⟩⟩
      rcases hd p hnl with h | h
      · exact h3 p hpP h hlt
      · subst h
        by_cases e2 : p < nx
        · exact absurd ⟨hlt, .inr e2⟩ e
        · omega
theorem NextQ.done {P : List Int} {m : Nat} {nx : Int} {left : Int → Prop} (h : NextQ P (lastQ P m) nx left) (hl : ∀ p, ¬ left p) (hm : m < P.length) (hs : P.Pairwise (· < ·)) (h0 : ∀ p ∈ P, 0 ≤ p) : nx = P[m]! := by
  have key := List.pairwise_iff_getElem.1 hs
  have hlast : lastQ P m < P[m]! := by
    unfold lastQ
    split
    · have := h0 _ (mem_get hm); omega
    · rw [getElem!_pos P (m - 1) (by omega), getElem!_pos P m hm]
      exact key (m - 1) m (by omega) hm (by omega)
  rcases h.is with ⟨_, h2⟩ | ⟨h1, h2, h3⟩
  · have := h2 _ (mem_get hm) (hl _)
    omega
  · have h4 := h3 _ (mem_get hm) (hl _) hlast
    obtain ⟨j, hj, e⟩ := List.getElem_of_mem h1
    have hmj : m ≤ j := by
      rcases Nat.lt_or_ge j m with h | h
      · exfalso
        have : P[j] ≤ lastQ P m := by
          unfold lastQ
          rw [if_neg (by omega), getElem!_pos P (m - 1) (by omega)]
          rcases Nat.lt_or_ge j (m - 1) with h5 | h5
          · have := key j (m - 1) hj (by omega) h5; omega
          · have e5 : j = m - 1 := by omega
            subst e5; omega
        omega
      · exact h
    rcases Nat.lt_or_ge m j with h6 | h6
    · have := key m j hm hj h6
      rw [getElem!_pos P m hm] at h4
      omega
    · have e6 : j = m := by omega
      subst e6
      rw [getElem!_pos P j hj]; exact e.symm
theorem lastQ_succ (P : List Int) (m : Nat) : lastQ P (m + 1) = P[m]! := by
  unfold lastQ
  rw [if_neg (by omega), Nat.add_sub_cancel]
/-- Nobody is sure for the place alone. -/
theorem sure_named {r : Rul} {a b : Rcd} (h : (cmpN r a b).vd = 2) : 2 ≤ (cmpN r a b).nm := by
  have hv : (cmpN r a b).vd = verdN a b (cmpN r a b).nm (cmpN r a b).nu (cmpN r a b).bi (cmpN r a b).pl := rfl
  rw [hv, verdN_bad] at h
  split at h
  · cases h
  · split at h
    · rename_i h1 h2
      unfold yesB at h2
      simp only [Bool.or_eq_true, Bool.and_eq_true, beq_iff_eq, decide_eq_true_eq] at h2
      rcases h2 with h2 | h2
      · exact h2.2
      · omega
    · cases h
end Go.Proofs.Ytlkjimfkapcenaa
