/- A signal put in from the right, and a row of the call's own behind exchanges. For all lists of signals. -/
import Derived.Test.YtliehlefpodhaaaDoorQOwnKept
import Derived.Test.YtliehlefpodhaaaDoorQMergePure
import Derived.Test.YtliehlefpodhaaaDoorQRowK
namespace Go.Proofs.YtliehlefpodhaaaDoor
open Go.RowKit Go.Shelf Go.Sort

theorem putS_split {t : Sig} {pre post : List Sig} (h1 : ∀ x ∈ pre, befB t x = false) (h2 : ∀ y r, post = y :: r → befB t y = true) : putS t (pre ++ post) = pre ++ t :: post := by
  induction pre with
  | nil =>
    cases post with
    | nil => rfl
    | cons y r => simp [putS, h2 y r rfl]
  | cons x pre ih =>
    have hx := h1 x (by simp)
    simp only [List.cons_append, putS, hx]
    rw [ih (fun y hy => h1 y (by simp [hy]))]
    rfl

/-- Where a signal has come from the right. -/
structure PutQS (t : Sig) (l : List Sig) (k : Nat) (d : Array Sig) : Prop where
  ex : ∃ pre post, l = pre ++ post ∧ d.toList = pre ++ t :: post ∧ pre.length = k ∧ ∀ y r, post = y :: r → befB t y = true
theorem PutQS.start (t : Sig) (l : List Sig) : PutQS t l l.length (l ++ [t]).toArray := ⟨l, [], by simp, by simp, rfl, fun y r h => by cases h⟩
theorem PutQS.size {t : Sig} {l : List Sig} {k : Nat} {d : Array Sig} (h : PutQS t l k d) : d.size = l.length + 1 ∧ k < d.size := by
  obtain ⟨pre, post, e1, e2, e3, _⟩ := h.ex
  have := congrArg List.length e2
  have h2 := congrArg List.length e1
  simp at this h2
  omega
theorem PutQS.at_ {t : Sig} {l : List Sig} {k : Nat} {d : Array Sig} (h : PutQS t l k d) : d[k]! = t := by
  obtain ⟨pre, post, e1, e2, e3, _⟩ := h.ex
  have hk := h.size.2
  rw [getElem!_pos d k hk]
  have : d.toList[k]? = some t := by
    rw [e2, List.getElem?_append_right (by omega), e3]
    simp
  rw [Array.getElem?_toList, Array.getElem?_eq_getElem hk] at this
  exact Option.some.inj this
theorem PutQS.step {t : Sig} {l : List Sig} {k : Nat} {d : Array Sig} (h : PutQS t l (k + 1) d) (hl : befB t d[k]! = true) : PutQS t l k (swp d (k + 1) k) := by
  have ha := h.at_
  have hs := h.size
  obtain ⟨pre, post, e1, e2, e3, e4⟩ := h.ex
  obtain ⟨p, z, rfl⟩ : ∃ p z, pre = p ++ [z] := ⟨pre.dropLast, pre.getLast (by intro e; subst e; simp at e3), (List.dropLast_concat_getLast _).symm⟩
  have hp : p.length = k := by simpa using e3
  have hz : d[k]! = z := by
    rw [getElem!_pos d k (by omega)]
    have : d.toList[k]? = some z := by
      rw [e2, List.append_assoc, List.getElem?_append_right (by omega), hp]
      simp
    rw [Array.getElem?_toList, Array.getElem?_eq_getElem (by omega)] at this
    exact Option.some.inj this
  refine ⟨p, z :: post, by rw [e1]; simp, ?_, hp, fun y r hy => by cases hy; rw [← hz]; exact hl⟩
  have hsz : (swp d (k + 1) k).size = d.size := by simp [swp]
  apply List.ext_getElem?
  intro i
  by_cases hi : i < d.size
  · have e5 : (swp d (k + 1) k).toList[i]? = some ((swp d (k + 1) k)[i]!) := by
      rw [Array.getElem?_toList, Array.getElem?_eq_getElem (by omega), getElem!_pos _ i (by omega)]
    have e6 : d.toList[i]? = some d[i]! := by
      rw [Array.getElem?_toList, Array.getElem?_eq_getElem hi, getElem!_pos d i hi]
    rw [e5, swp_get d (show k + 1 < d.size by omega) (show k < d.size by omega)]
    rw [e2, List.append_assoc] at e6
    by_cases h1 : i = k
    · subst h1
      rw [if_pos rfl, ha, List.getElem?_append_right (by omega), hp]
      simp
    · by_cases h2 : i = k + 1
      · subst h2
        rw [if_neg h1, if_pos rfl, hz, List.getElem?_append_right (by omega), hp]
        simp
      · rw [if_neg h1, if_neg h2, ← e6]
        by_cases h3 : i < k
        · rw [List.getElem?_append_left (by omega), List.getElem?_append_left (by omega)]
        · obtain ⟨j, rfl⟩ : ∃ j, i = k + 2 + j := ⟨i - k - 2, by omega⟩
          have e7 : (p ++ ([z] ++ t :: post))[k + 2 + j]? = post[j]? := by
            rw [List.getElem?_append_right (by omega), hp, show k + 2 + j - k = j + 1 + 1 by omega]; simp
          have e8 : (p ++ t :: z :: post)[k + 2 + j]? = post[j]? := by
            rw [List.getElem?_append_right (by omega), hp, show k + 2 + j - k = j + 1 + 1 by omega]; simp
          rw [e7, e8]
  · have hl1 : (swp d (k + 1) k).toList.length ≤ i := by simp; omega
    have h2 := congrArg List.length e2
    have hl2 : (p ++ t :: z :: post).length ≤ i := by simp at h2 ⊢; omega
    rw [List.getElem?_eq_none hl1, List.getElem?_eq_none hl2]
theorem PutQS.done {t : Sig} {l : List Sig} {k : Nat} {d : Array Sig} (h : PutQS t l k d) (ho : l.Pairwise BefS) (hk : k = 0 ∨ befB t d[k - 1]! = false) : d = (putS t l).toArray := by
  have hs := h.size
  obtain ⟨pre, post, e1, e2, e3, e4⟩ := h.ex
  have h1 : ∀ x ∈ pre, befB t x = false := by
    intro x hx
    by_cases hk0 : k = 0
    · subst hk0
      have : pre = [] := List.length_eq_zero_iff.1 e3
      subst this; simp at hx
    · have hk := hk.resolve_left hk0
      obtain ⟨p, z, rfl⟩ : ∃ p z, pre = p ++ [z] := ⟨pre.dropLast, pre.getLast (by intro e; subst e; simp at hx), (List.dropLast_concat_getLast _).symm⟩
      have hp : p.length = k - 1 := by simp at e3; omega
      have hz : d[k - 1]! = z := by
        rw [getElem!_pos d (k - 1) (by omega)]
        have : d.toList[k - 1]? = some z := by
          rw [e2, List.append_assoc, List.getElem?_append_right (by omega), hp]
          simp
        rw [Array.getElem?_toList, Array.getElem?_eq_getElem (by omega)] at this
        exact Option.some.inj this
      rw [hz] at hk
      rcases List.mem_append.1 hx with hx | hx
      · rw [e1, List.append_assoc] at ho
        have h5 := (List.pairwise_append.1 ho).2.2 x hx z (by simp)
        cases hb : befB t x with
        | false => rfl
        | true =>
          have := BefS.trans (show BefS t x from hb) h5
          rw [show befB t z = true from this] at hk
          cases hk
      · simp at hx; subst hx; exact hk
  have := putS_split h1 e4
  rw [e1, this, ← e2]

/-- A row of the call's own, behind exchanges. -/
theorem own_backS {W W' : World} {base g cap : Nat} {e : TypeId} {n : Nat} {xs : List Value} (h : W.ownsRow base e 6 (.slice (some ⟨g, 0, none⟩) n cap) n xs) {d : Array Sig} (S : SWK Sig.cells 6 W g 0 d W') (hH : HoldsK Sig.cells 6 W' g 0 d) (hd : d.size = n) :
    W'.ownsRow base e 6 (.slice (some ⟨g, 0, none⟩) n cap) n (d.toList.flatMap Sig.cells) := by
  refine ⟨by rw [flatMap_len Sig.len]; simp [hd], ?_⟩
  rcases h.2 with ⟨h1, _⟩ | ⟨g', cap', cur, h1, h2, h3, h4, h5, h6, _⟩
  · cases h1
  · cases h1
    have hg : g < W.heap.size := (Array.getElem?_eq_some_iff.1 h3).1
    obtain ⟨cur', h7, h8⟩ : ∃ cur', W'.heap[g]? = some (.cells cur' e (0, 0)) ∧ cur'.size = cap * 6 := by
      obtain ⟨m, os, rfl⟩ := S
      refine ⟨putCells id 0 (flatK Sig.cells 6 d) cur, ?_, ?_⟩
      · simp only [sortWorldK, grow, putRowK, putRow, mapBlock, Sort.ahead]
        rw [Array.getElem?_append_left (by simpa using hg), Array.getElem?_modify, if_pos rfl]
        have h3' : W.heap[g]? = some (.cells cur e (0, 0)) := h3
        rw [h3']
        rfl
      · rw [← h6]
        simp [putCells]
    refine .inr ⟨g, cap, cur', rfl, h2, h7, h4, h5, h8, ?_⟩
    apply List.ext_getElem?
    intro j
    by_cases hj : j < n * 6
    · rw [List.getElem?_take, if_pos hj, Array.getElem?_toList, flatK_at Sig.len d.toList j (by simpa [hd] using hj)]
      have hc := (hH j (by rw [size_flatK, hd]; exact hj)).1
      rw [Nat.zero_add, cell_of_row W' g j cur' e _ h7, get_flatK _ _ _ _ (by rw [hd]; exact hj)] at hc
      rw [hc]
      simp
    · rw [List.getElem?_eq_none (by simp; omega), List.getElem?_eq_none (by rw [flatMap_len Sig.len]; simp [hd]; omega)]
theorem holdsS_get {W : World} {g : Nat} {d : Array Sig} (h : HoldsK Sig.cells 6 W g 0 d) {i : Nat} (hi : i < d.size) (q : Nat) (hq : q < 6) : W.cell? ⟨g, i * 6 + q, none⟩ = some (d[i]!.cells[q]!) ∧ W.frozen? ⟨g, i * 6 + q, none⟩ = false := by
  have hj : i * 6 + q < d.size * 6 := by omega
  have := h (i * 6 + q) (by rw [size_flatK]; exact hj)
  rw [Nat.zero_add, get_flatK _ _ _ _ hj, show (i * 6 + q) / 6 = i by omega, show (i * 6 + q) % 6 = q by omega] at this
  exact this
/-- An element, cell by cell. -/
theorem holdsS_cells {W : World} {g : Nat} {d : Array Sig} (h : HoldsK Sig.cells 6 W g 0 d) {i : Nat} (hi : i < d.size) :
    (W.cell? ⟨g, i * 6, none⟩ = some (.int .i64 d[i]!.bureau) ∧ W.cell? ⟨g, i * 6 + 1, none⟩ = some (.int .i64 d[i]!.id) ∧ W.cell? ⟨g, i * 6 + 2, none⟩ = some (.int .i64 d[i]!.file) ∧ W.cell? ⟨g, i * 6 + 3, none⟩ = some (.int .i64 d[i]!.day) ∧ W.cell? ⟨g, i * 6 + 4, none⟩ = some (.int .u8 d[i]!.kind) ∧ W.cell? ⟨g, i * 6 + 5, none⟩ = some (.int .i64 d[i]!.till)) ∧
    (W.frozen? ⟨g, i * 6, none⟩ = false ∧ W.frozen? ⟨g, i * 6 + 1, none⟩ = false ∧ W.frozen? ⟨g, i * 6 + 2, none⟩ = false ∧ W.frozen? ⟨g, i * 6 + 3, none⟩ = false ∧ W.frozen? ⟨g, i * 6 + 4, none⟩ = false ∧ W.frozen? ⟨g, i * 6 + 5, none⟩ = false) :=
  ⟨⟨(holdsS_get h hi 0 (by omega)).1, (holdsS_get h hi 1 (by omega)).1, (holdsS_get h hi 2 (by omega)).1, (holdsS_get h hi 3 (by omega)).1, (holdsS_get h hi 4 (by omega)).1, (holdsS_get h hi 5 (by omega)).1⟩,
   ⟨(holdsS_get h hi 0 (by omega)).2, (holdsS_get h hi 1 (by omega)).2, (holdsS_get h hi 2 (by omega)).2, (holdsS_get h hi 3 (by omega)).2, (holdsS_get h hi 4 (by omega)).2, (holdsS_get h hi 5 (by omega)).2⟩⟩
theorem put_ownS {W : World} {base : Nat} {e : TypeId} {v : Value} {o : List Sig} {t : Sig} (h : W.ownsRow base e 6 v (o.length + 1) (o.flatMap Sig.cells ++ t.cells)) :
    ∃ g cap, v = .slice (some ⟨g, 0, none⟩) (o.length + 1) cap ∧ o.length + 1 ≤ cap ∧ cap ≤ 9223372036854775807 ∧ base ≤ g ∧ g < W.heap.size ∧ HoldsK Sig.cells 6 W g 0 (o ++ [t]).toArray := by
  have hf : o.flatMap Sig.cells ++ t.cells = (o ++ [t]).flatMap Sig.cells := by simp
  have hl : o.length + 1 = (o ++ [t]).length := by simp
  rcases h.2 with ⟨_, h0⟩ | ⟨g, cap, cur, e, hb, hg, h1, h2, _, h4⟩
  · omega
  · refine ⟨g, cap, e, h1, h2, hb, (Array.getElem?_eq_some_iff.1 hg).1, holdsK_own Sig.len hg ?_⟩
    rw [← hl, ← hf]
    exact h4
theorem Sig.one8 (x : Sig) : ∀ v ∈ x.cells, v.oneCell' = true := by
  intro v hv
  simp [Sig.cells] at hv
  rcases hv with rfl | rfl | rfl | rfl | rfl | rfl <;> rfl

/-- What b adds, signal by signal. -/
theorem merge_take {a b : List Sig} {i : Nat} (hi : i < b.length) : mergeAll a (b.take (i + 1)) = if hasPl a b[i]! = true then mergeAll a (b.take i) else putS b[i]! (mergeAll a (b.take i)) := by
  unfold mergeAll newsS
  rw [List.take_succ_eq_append_getElem hi, List.filter_append, ← getElem!_pos b i hi, List.foldl_append]
  generalize b[i]! = x
  cases h : hasPl a x <;> simp [h]
theorem clash_take {a b : List Sig} {i : Nat} (hi : i < b.length) : clashB a (b.take (i + 1)) = (clashB a (b.take i) || a.any fun y => samePl b[i]! y && decide (y ≠ b[i]!)) := by
  unfold clashB
  rw [List.take_succ_eq_append_getElem hi, List.any_append, ← getElem!_pos b i hi]
  simp
theorem clash_at {a b : List Sig} {i : Nat} (hi : i < b.length) {y : Sig} (hy : y ∈ a) (h1 : samePl b[i]! y = true) (h2 : y ≠ b[i]!) : clashB a b = true := by
  unfold clashB
  rw [List.any_eq_true]
  refine ⟨b[i]!, by rw [getElem!_pos b i hi]; exact List.getElem_mem hi, ?_⟩
  rw [List.any_eq_true]
  generalize b[i]! = x at h1 h2
  exact ⟨y, hy, by simp [h1, h2]⟩
theorem merge_len (a b : List Sig) : (mergeAll a b).length ≤ a.length + b.length := by
  rw [(mergeAll_perm a b).length_eq, List.length_append]
  unfold newsS
  have := List.length_filter_le (fun x => !hasPl a x) b
  omega
end Go.Proofs.YtliehlefpodhaaaDoor
