/- A row of traces of the call's own, element by element. For every row. -/
import Derived.Test.YtliehlefpodhaaaDoorQBase
import Derived.Test.YtliehlefpodhaaaDoorQOrder
import Derived.Test.YtliehlefpodhaaaDoorQTrStable
namespace Go.Proofs.YtliehlefpodhaaaDoor
open Go.RowKit Go.Shelf Go.Sort Go.Lib

theorem Trc.one (x : Trc) : ∀ v ∈ x.cells, v.oneCell' = true := by
  intro v hv
  simp [Trc.cells] at hv
  rcases hv with rfl | rfl | rfl | rfl | rfl <;> rfl
theorem flatT_get (es : List Trc) (j : Nat) (hj : j < es.length * 5) : (es.flatMap Trc.cells)[j]? = some (es.toArray[j / 5]!.cells[j % 5]!) := by
  induction es generalizing j with
  | nil => simp at hj
  | cons e es ih =>
    show (e.cells ++ es.flatMap Trc.cells)[j]? = _
    by_cases h : j < 5
    · rw [List.getElem?_append_left (by rw [e.len]; exact h)]
      have h0 : j / 5 = 0 := by omega
      have h1 : j % 5 = j := by omega
      rw [h0, h1]
      have : j < e.cells.length := by rw [e.len]; exact h
      simp [this]
    · rw [List.getElem?_append_right (by rw [e.len]; omega), e.len, ih (j - 5) (by simp at hj; omega)]
      have h0 : j / 5 = (j - 5) / 5 + 1 := by omega
      have h1 : (j - 5) % 5 = j % 5 := by omega
      rw [h0, h1]
      have h2 : (j - 5) / 5 < es.length := by simp at hj; omega
      simp [h2]
theorem holdsT_own {W : World} {g : Nat} {cur : Array Value} {t : TypeId} {es : List Trc} (h : W.heap[g]? = some (.cells cur t (0, 0))) (hx : cur.toList.take (es.length * 5) = es.flatMap Trc.cells) : HoldsK Trc.cells 5 W g 0 es.toArray := by
  intro j hj
  rw [size_flatK] at hj
  have hj' : j < es.length * 5 := by simpa using hj
  have e1 : (cur.toList.take (es.length * 5))[j]? = some (es.toArray[j / 5]!.cells[j % 5]!) := by rw [hx]; exact flatT_get es j hj'
  rw [List.getElem?_take, if_pos hj', Array.getElem?_toList] at e1
  refine ⟨?_, by simp [World.frozen?, h]⟩
  rw [Nat.zero_add, cell_of_row W g j cur t _ h, e1, get_flatK _ _ _ _ hj]
  rfl
theorem rdT_holds {W : World} {g : Nat} {d : Array Trc} (h : HoldsK Trc.cells 5 W g 0 d) (hg : g < W.heap.size) : Rd W 5 (some ⟨g, 0, none⟩) d.size (d.toList.flatMap Trc.cells) := by
  refine ⟨by rw [flatMap_len Trc.len]; simp, fun _ => ⟨g, 0, rfl, hg, fun j u hu => ?_⟩⟩
  have hj : j < d.size * 5 := by
    have h1 := (List.getElem?_eq_some_iff.1 hu).1
    rw [flatMap_len Trc.len] at h1
    simpa [Nat.mul_comm] using h1
  rw [flatT_get d.toList j (by simpa using hj)] at hu
  have := (h j (by rw [size_flatK]; exact hj)).1
  rw [this, get_flatK _ _ _ _ hj]
  simpa using hu
theorem holdsT_gr {W W' : World} {g : Nat} {d : Array Trc} (h : HoldsK Trc.cells 5 W g 0 d) (k : Gr W W') (hg : g < W.heap.size) : HoldsK Trc.cells 5 W' g 0 d := fun j hj =>
  ⟨(k.cell hg).trans (h j hj).1, (k.frozen hg).trans (h j hj).2⟩
theorem holdsT_get {W : World} {g : Nat} {d : Array Trc} (h : HoldsK Trc.cells 5 W g 0 d) {i : Nat} (hi : i < d.size) (q : Nat) (hq : q < 5) : W.cell? ⟨g, i * 5 + q, none⟩ = some (d[i]!.cells[q]!) ∧ W.frozen? ⟨g, i * 5 + q, none⟩ = false := by
  have hj : i * 5 + q < d.size * 5 := by omega
  have := h (i * 5 + q) (by rw [size_flatK]; exact hj)
  rw [Nat.zero_add, get_flatK _ _ _ _ hj, show (i * 5 + q) / 5 = i by omega, show (i * 5 + q) % 5 = q by omega] at this
  exact this
/-- An element, cell by cell. -/
theorem holdsT_cells {W : World} {g : Nat} {d : Array Trc} (h : HoldsK Trc.cells 5 W g 0 d) {i : Nat} (hi : i < d.size) :
    (W.cell? ⟨g, i * 5, none⟩ = some (.int .i64 d[i]!.inq) ∧ W.cell? ⟨g, i * 5 + 1, none⟩ = some (.int .i64 d[i]!.who) ∧ W.cell? ⟨g, i * 5 + 2, none⟩ = some (.int .i64 d[i]!.day) ∧ W.cell? ⟨g, i * 5 + 3, none⟩ = some (.int .u8 d[i]!.purpose) ∧ W.cell? ⟨g, i * 5 + 4, none⟩ = some (.int .u8 d[i]!.became)) ∧
    (W.frozen? ⟨g, i * 5, none⟩ = false ∧ W.frozen? ⟨g, i * 5 + 1, none⟩ = false ∧ W.frozen? ⟨g, i * 5 + 2, none⟩ = false ∧ W.frozen? ⟨g, i * 5 + 3, none⟩ = false ∧ W.frozen? ⟨g, i * 5 + 4, none⟩ = false) :=
  ⟨⟨(holdsT_get h hi 0 (by omega)).1, (holdsT_get h hi 1 (by omega)).1, (holdsT_get h hi 2 (by omega)).1, (holdsT_get h hi 3 (by omega)).1, (holdsT_get h hi 4 (by omega)).1⟩,
   ⟨(holdsT_get h hi 0 (by omega)).2, (holdsT_get h hi 1 (by omega)).2, (holdsT_get h hi 2 (by omega)).2, (holdsT_get h hi 3 (by omega)).2, (holdsT_get h hi 4 (by omega)).2⟩⟩
theorem setMany_set (d : Array Trc) (i : Nat) (x : Trc) (hi : i < d.size) : setMany (flatK Trc.cells 5 d) (i * 5) x.cells = flatK Trc.cells 5 (d.setIfInBounds i x) := by
  refine ext_get! (by simp) fun t ht => ?_
  have ht' : t < d.size * 5 := by simpa using ht
  rw [get_setMany _ _ _ t (by simpa using ht'), get_flatK _ _ _ t ht', get_flatK _ _ _ t (by simpa using ht'), x.len]
  by_cases a : t / 5 = i
  · have e : (d.setIfInBounds i x)[i]! = x := by
      simp [hi]
    rw [if_pos ⟨by omega, by omega⟩, a, e, show t - i * 5 = t % 5 by omega]
  · rw [if_neg (by omega)]
    have : (d.setIfInBounds i x)[t / 5]! = d[t / 5]! := by
      have h5 : t / 5 < d.size := by omega
      rw [getElem!_pos (d.setIfInBounds i x) (t / 5) (by simpa using h5), getElem!_pos d (t / 5) h5, Array.getElem_setIfInBounds, if_neg (Ne.symm a)]
    rw [this]
theorem holdsT_set {W : World} {g : Nat} {d : Array Trc} (h : HoldsK Trc.cells 5 W g 0 d) {i : Nat} (hi : i < d.size) (x : Trc) : HoldsK Trc.cells 5 (W.setCells g (i * 5) x.cells) g 0 (d.setIfInBounds i x) := by
  unfold HoldsK
  rw [← setMany_set d i x hi]
  have := holds_setCells_c h (i * 5) x.cells (by rw [x.len, size_flatK]; omega)
  rwa [Nat.zero_add] at this
/-- The first ones of a row, behind stores to what lies past them. -/
theorem holdsT_pre {W : World} {g : Nat} {d : Array Trc} (h : HoldsK Trc.cells 5 W g 0 d) {i : Nat} (hi : i ≤ d.size) (vs : List Value) : HoldsK Trc.cells 5 (W.setCells g (i * 5) vs) g 0 (d.extract 0 i) := by
  intro j hj
  rw [size_flatK] at hj
  have hs : (d.extract 0 i).size = i := by simp; omega
  rw [hs] at hj
  have hj' : j < d.size * 5 := by omega
  obtain ⟨h1, h2⟩ := h j (by rw [size_flatK]; exact hj')
  refine ⟨?_, by rw [World.frozen?_setCells]; exact h2⟩
  rw [World.cell?_setCells_out g vs (i * 5) W ⟨g, 0 + j, none⟩ (fun _ _ => Or.inl (by show 0 + j < i * 5; omega)), h1, get_flatK _ _ _ _ hj', get_flatK _ _ _ _ (by rw [hs]; exact hj)]
  have e : (d.extract 0 i)[j / 5]! = d[j / 5]! := by
    have h5 : j / 5 < i := by omega
    rw [getElem!_pos (d.extract 0 i) (j / 5) (by rw [hs]; exact h5), getElem!_pos d (j / 5) (by omega)]
    simp
  rw [e]
theorem belowT_setCells {B : Nat} {a : World} (b : Nat) (hb : B ≤ b) : ∀ (vs : List Value) (o : Nat) {w : World}, Below B a w → Below B a (w.setCells b o vs)
  | [], _, _, h => h
  | v :: r, o, _, h => belowT_setCells b hb r (o + 1) (h.setCell (p := ⟨b, o, none⟩) hb v)
theorem gr_setCells {w W : World} {g : Nat} (h : Gr w W) (hg : w.heap.size ≤ g) (o : Nat) (vs : List Value) : Gr w (W.setCells g o vs) := belowT_setCells g hg vs o h
theorem gr_sortT {w W W' : World} {g : Nat} {d' : Array Trc} (h : Gr w W) (S : SWK Trc.cells 5 W g 0 d' W') (hg : w.heap.size ≤ g) : Gr w W' := by
  obtain ⟨n, os, rfl⟩ := S
  have hb : Below w.heap.size w W := h
  refine ⟨hb.os, hb.tape, hb.output, ?_, fun k hk => ?_⟩
  · exact Nat.le_trans hb.size (size_sortWorldK_c Trc.cells 5 W g 0 n d' os)
  · have hk' : k < W.heap.size := Nat.lt_of_lt_of_le hk hb.size
    rw [← hb.block k hk]
    simp only [sortWorldK, grow, putRowK, putRow, mapBlock, Sort.ahead]
    rw [Array.getElem?_append_left (by simpa using hk'), Array.getElem?_modify, if_neg (by omega)]
end Go.Proofs.YtliehlefpodhaaaDoor
