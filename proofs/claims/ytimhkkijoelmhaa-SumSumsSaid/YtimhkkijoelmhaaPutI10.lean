/- A subject put in from the right, by exchanges, in plain functions. For all lists of subjects. -/
import Derived.Test.YtimhkkijoelmhaaOrdPure10
import Derived.Test.YtimhkkijoelmhaaRowK
namespace Go.Proofs.Ytimhkkijoelmhaa
open Go.RowKit Go.Shelf Go.Sort

theorem putI_split {t : Sbj} {pre post : List Sbj} (h1 : ∀ x ∈ pre, ¬ t.id < x.id) (h2 : ∀ y r, post = y :: r → t.id < y.id) : putI t (pre ++ post) = pre ++ t :: post := by
  induction pre with
  | nil =>
    cases post with
    | nil => rfl
    | cons y r => simp [putI, h2 y r rfl]
  | cons x pre ih =>
    have hx := h1 x (by simp)
    simp only [List.cons_append, putI, hx]
    rw [ih (fun y hy => h1 y (by simp [hy]))]
    rfl

/-- Where a signal has come from the right. -/
structure PutI (t : Sbj) (l rest : List Sbj) (k : Nat) (d : Array Sbj) : Prop where
  ex : ∃ pre post, l = pre ++ post ∧ d.toList = pre ++ t :: (post ++ rest) ∧ pre.length = k ∧ ∀ y r, post = y :: r → t.id < y.id
theorem PutI.start (t : Sbj) (l rest : List Sbj) : PutI t l rest l.length (l ++ t :: rest).toArray := ⟨l, [], by simp, by simp, rfl, fun y r h => by cases h⟩
theorem PutI.size {t : Sbj} {l rest : List Sbj} {k : Nat} {d : Array Sbj} (h : PutI t l rest k d) : d.size = l.length + 1 + rest.length ∧ k < d.size := by
  obtain ⟨pre, post, e1, e2, e3, _⟩ := h.ex
  have := congrArg List.length e2
  have h2 := congrArg List.length e1
  simp at this h2
  omega
theorem PutI.at_ {t : Sbj} {l rest : List Sbj} {k : Nat} {d : Array Sbj} (h : PutI t l rest k d) : d[k]! = t := by
  obtain ⟨pre, post, e1, e2, e3, _⟩ := h.ex
  have hk := h.size.2
  rw [getElem!_pos d k hk]
  have : d.toList[k]? = some t := by
    rw [e2, List.getElem?_append_right (by omega), e3]
    simp
  rw [Array.getElem?_toList, Array.getElem?_eq_getElem hk] at this
  exact Option.some.inj this
theorem PutI.step {t : Sbj} {l rest : List Sbj} {k : Nat} {d : Array Sbj} (h : PutI t l rest (k + 1) d) (hl : t.id < d[k]!.id) : PutI t l rest k (swp d (k + 1) k) := by
  have ha := h.at_
  have hs := h.size
  obtain ⟨pre, post, e1, e2, e3, e4⟩ := h.ex
  obtain ⟨p, z, rfl⟩ : ∃ p z, pre = p ++ [z] := ⟨pre.dropLast, pre.getLast (by intro e; subst e; simp at e3), (List.dropLast_concat_getLast _).symm⟩
  have hp : p.length = k := by simpa using e3
  have hz : d[k]! = z := by
    rw [getElem!_pos d k (by omega)]
    have : d.toList[k]? = some z := by
      rw [e2, List.append_assoc, List.getElem?_append_right (by omega), hp]
      simp
    rw [Array.getElem?_toList, Array.getElem?_eq_getElem (by omega)] at this
    exact Option.some.inj this
  refine ⟨p, z :: post, by rw [e1]; simp, ?_, hp, fun y r hy => by cases hy; rw [← hz]; exact hl⟩
  have hsz : (swp d (k + 1) k).size = d.size := by simp [swp]
  apply List.ext_getElem?
  intro i
  by_cases hi : i < d.size
  · have e5 : (swp d (k + 1) k).toList[i]? = some ((swp d (k + 1) k)[i]!) := by
      rw [Array.getElem?_toList, Array.getElem?_eq_getElem (by omega), getElem!_pos _ i (by omega)]
    have e6 : d.toList[i]? = some d[i]! := by
      rw [Array.getElem?_toList, Array.getElem?_eq_getElem hi, getElem!_pos d i hi]
    rw [e5, swp_get d (show k + 1 < d.size by omega) (show k < d.size by omega)]
    rw [e2, List.append_assoc] at e6
    by_cases h1 : i = k
    · subst h1
      rw [if_pos rfl, ha, List.getElem?_append_right (by omega), hp]
      simp
    · by_cases h2 : i = k + 1
      · subst h2
        rw [if_neg h1, if_pos rfl, hz, List.getElem?_append_right (by omega), hp]
        simp
      · rw [if_neg h1, if_neg h2, ← e6]
        by_cases h3 : i < k
        · rw [List.getElem?_append_left (by omega), List.getElem?_append_left (by omega)]
        · obtain ⟨j, rfl⟩ : ∃ j, i = k + 2 + j := ⟨i - k - 2, by omega⟩
          have e7 : (p ++ ([z] ++ t :: (post ++ rest)))[k + 2 + j]? = (post ++ rest)[j]? := by
            rw [List.getElem?_append_right (by omega), hp, show k + 2 + j - k = j + 1 + 1 by omega]; simp
          have e8 : (p ++ t :: (z :: post ++ rest))[k + 2 + j]? = (post ++ rest)[j]? := by
            rw [List.getElem?_append_right (by omega), hp, show k + 2 + j - k = j + 1 + 1 by omega]; simp
          rw [e7, e8]
  · have hl1 : (swp d (k + 1) k).toList.length ≤ i := by simp; omega
    have h2 := congrArg List.length e2
    have hl2 : (p ++ t :: (z :: post ++ rest)).length ≤ i := by simp at h2 ⊢; omega
    rw [List.getElem?_eq_none hl1, List.getElem?_eq_none hl2]
theorem PutI.done {t : Sbj} {l rest : List Sbj} {k : Nat} {d : Array Sbj} (h : PutI t l rest k d) (ho : l.Pairwise (fun x y => x.id < y.id)) (hk : k = 0 ∨ ¬ t.id < d[k - 1]!.id) : d = (putI t l ++ rest).toArray := by
  have hs := h.size
  obtain ⟨pre, post, e1, e2, e3, e4⟩ := h.ex
  have h1 : ∀ x ∈ pre, ¬ t.id < x.id := by
    intro x hx
    by_cases hk0 : k = 0
    · subst hk0
      have : pre = [] := List.length_eq_zero_iff.1 e3
      subst this; simp at hx
    · have hk := hk.resolve_left hk0
      obtain ⟨p, z, rfl⟩ : ∃ p z, pre = p ++ [z] := ⟨pre.dropLast, pre.getLast (by intro e; subst e; simp at hx), (List.dropLast_concat_getLast _).symm⟩
      have hp : p.length = k - 1 := by simp at e3; omega
      have hz : d[k - 1]! = z := by
        rw [getElem!_pos d (k - 1) (by omega)]
        have : d.toList[k - 1]? = some z := by
          rw [e2, List.append_assoc, List.getElem?_append_right (by omega), hp]
          simp
        rw [Array.getElem?_toList, Array.getElem?_eq_getElem (by omega)] at this
        exact Option.some.inj this
      rw [hz] at hk
      rcases List.mem_append.1 hx with hx | hx
      · rw [e1, List.append_assoc] at ho
        have h5 := (List.pairwise_append.1 ho).2.2 x hx z (by simp)
        omega
      · simp at hx; subst hx; exact hk
  have := putI_split h1 e4
  rw [e1, this]
  have e9 : pre ++ t :: post ++ rest = d.toList := by rw [e2]; simp
  rw [e9]

/-- A row of the call's own, behind exchanges. -/
theorem own_back10 {W W' : World} {base g cap : Nat} {e : TypeId} {n : Nat} {xs : List Value} (h : W.ownsRow base e 2 (.slice (some ⟨g, 0, none⟩) n cap) n xs) {d : Array Sbj} (S : SWK Sbj.cells 2 W g 0 d W') (hH : HoldsK Sbj.cells 2 W' g 0 d) (hd : d.size = n) :
    W'.ownsRow base e 2 (.slice (some ⟨g, 0, none⟩) n cap) n (d.toList.flatMap Sbj.cells) := by
  refine ⟨by rw [flatMap_len Sbj.len]; simp [hd], ?_⟩
  rcases h.2 with ⟨h1, _⟩ | ⟨g', cap', cur, h1, h2, h3, h4, h5, h6, _⟩
  · cases h1
  · cases h1
    have hg : g < W.heap.size := (Array.getElem?_eq_some_iff.1 h3).1
    obtain ⟨cur', h7, h8⟩ : ∃ cur', W'.heap[g]? = some (.cells cur' e (0, 0)) ∧ cur'.size = cap * 2 := by
      obtain ⟨m, os, rfl⟩ := S
      refine ⟨putCells id 0 (flatK Sbj.cells 2 d) cur, ?_, ?_⟩
      · simp only [sortWorldK, grow, putRowK, putRow, mapBlock, Sort.ahead]
        rw [Array.getElem?_append_left (by simpa using hg), Array.getElem?_modify, if_pos rfl]
        have h3' : W.heap[g]? = some (.cells cur e (0, 0)) := h3
        rw [h3']
        rfl
      · rw [← h6]
        simp [putCells]
    refine .inr ⟨g, cap, cur', rfl, h2, h7, h4, h5, h8, ?_⟩
    apply List.ext_getElem?
    intro j
    by_cases hj : j < n * 2
    · rw [List.getElem?_take, if_pos hj, Array.getElem?_toList, flatK_at Sbj.len d.toList j (by simpa [hd] using hj)]
      have hc := (hH j (by rw [size_flatK, hd]; exact hj)).1
      rw [Nat.zero_add, cell_of_row W' g j cur' e _ h7, get_flatK _ _ _ _ (by rw [hd]; exact hj)] at hc
      rw [hc]
      simp
    · rw [List.getElem?_eq_none (by simp; omega), List.getElem?_eq_none (by rw [flatMap_len Sbj.len]; simp [hd]; omega)]
theorem holds10_get {W : World} {g : Nat} {d : Array Sbj} (h : HoldsK Sbj.cells 2 W g 0 d) {i : Nat} (hi : i < d.size) (q : Nat) (hq : q < 2) : W.cell? ⟨g, i * 2 + q, none⟩ = some (d[i]!.cells[q]!) ∧ W.frozen? ⟨g, i * 2 + q, none⟩ = false := by
  have hj : i * 2 + q < d.size * 2 := by omega
  have := h (i * 2 + q) (by rw [size_flatK]; exact hj)
  rw [Nat.zero_add, get_flatK _ _ _ _ hj, show (i * 2 + q) / 2 = i by omega, show (i * 2 + q) % 2 = q by omega] at this
  exact this
/-- An element, cell by cell. -/
theorem holds10_cells {W : World} {g : Nat} {d : Array Sbj} (h : HoldsK Sbj.cells 2 W g 0 d) {i : Nat} (hi : i < d.size) :
    (W.cell? ⟨g, i * 2, none⟩ = some (.int .i64 d[i]!.id) ∧ W.cell? ⟨g, i * 2 + 1, none⟩ = some (.slice d[i]!.a d[i]!.n d[i]!.c)) ∧ (W.frozen? ⟨g, i * 2, none⟩ = false ∧ W.frozen? ⟨g, i * 2 + 1, none⟩ = false) :=
  ⟨⟨(holds10_get h hi 0 (by omega)).1, (holds10_get h hi 1 (by omega)).1⟩, ⟨(holds10_get h hi 0 (by omega)).2, (holds10_get h hi 1 (by omega)).2⟩⟩
end Go.Proofs.Ytimhkkijoelmhaa
