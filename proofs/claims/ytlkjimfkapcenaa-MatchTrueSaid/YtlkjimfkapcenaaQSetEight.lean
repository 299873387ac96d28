/- Eight cells stored one by one: what stays as it was. -/
import Derived.Test.YtlkjimfkapcenaaQRegGr
import Derived.Test.YtlkjimfkapcenaaQTwin
namespace Go.Proofs.Ytlkjimfkapcenaa
open Go.RowKit

theorem e8_set8u_row {W : World} {g : Nat} {t : TypeId} {z0 z1 z2 z3 z4 z5 z6 z7 y0 y1 y2 y3 y4 y5 y6 y7 : Value} (h : W.heap[g]? = some (.cells #[z0, z1, z2, z3, z4, z5, z6, z7] t (0, 0))) : ((((((((W.setCell ⟨g, 0, none⟩ y0).setCell ⟨g, 1, none⟩ y1).setCell ⟨g, 2, none⟩ y2).setCell ⟨g, 3, none⟩ y3).setCell ⟨g, 4, none⟩ y4).setCell ⟨g, 5, none⟩ y5).setCell ⟨g, 6, none⟩ y6).setCell ⟨g, 7, none⟩ y7).heap[g]? = some (.cells #[y0, y1, y2, y3, y4, y5, y6, y7] t (0, 0)) := set8_row h
theorem e8_set8u_far {W : World} {g : Nat} {y0 y1 y2 y3 y4 y5 y6 y7 : Value} {k : Nat} {o : Obj} (hk : k ≠ g) (h : W.heap[k]? = some o) : ((((((((W.setCell ⟨g, 0, none⟩ y0).setCell ⟨g, 1, none⟩ y1).setCell ⟨g, 2, none⟩ y2).setCell ⟨g, 3, none⟩ y3).setCell ⟨g, 4, none⟩ y4).setCell ⟨g, 5, none⟩ y5).setCell ⟨g, 6, none⟩ y6).setCell ⟨g, 7, none⟩ y7).heap[k]? = some o := (set8_far W g y0 y1 y2 y3 y4 y5 y6 y7 hk).trans h
theorem e8_set8u_gr {w W : World} {g : Nat} {y0 y1 y2 y3 y4 y5 y6 y7 : Value} (h : Gr w W) (hg : w.heap.size ≤ g) : Gr w ((((((((W.setCell ⟨g, 0, none⟩ y0).setCell ⟨g, 1, none⟩ y1).setCell ⟨g, 2, none⟩ y2).setCell ⟨g, 3, none⟩ y3).setCell ⟨g, 4, none⟩ y4).setCell ⟨g, 5, none⟩ y5).setCell ⟨g, 6, none⟩ y6).setCell ⟨g, 7, none⟩ y7) := set8_gr h hg y0 y1 y2 y3 y4 y5 y6 y7
theorem e8_row_up {W : World} {k : Nat} {o : Obj} (o' : Obj) (h : W.heap[k]? = some o) : (W.alloc o').heap[k]? = some o := (Below.heap_alloc W o' k (Array.getElem?_eq_some_iff.1 h).1).trans h
theorem e8_row_new1 (W : World) (o o' : Obj) : ((W.alloc o).alloc o').heap[W.heap.size + 1]? = some o' := (rows2 W o o').2
theorem e8_far_set8u {W : World} {g k : Nat} {y0 y1 y2 y3 y4 y5 y6 y7 : Value} {Y : Option Obj} (hk : k ≠ g) (h : W.heap[k]? = Y) : ((((((((W.setCell ⟨g, 0, none⟩ y0).setCell ⟨g, 1, none⟩ y1).setCell ⟨g, 2, none⟩ y2).setCell ⟨g, 3, none⟩ y3).setCell ⟨g, 4, none⟩ y4).setCell ⟨g, 5, none⟩ y5).setCell ⟨g, 6, none⟩ y6).setCell ⟨g, 7, none⟩ y7).heap[k]? = Y := (set8_far W g y0 y1 y2 y3 y4 y5 y6 y7 hk).trans h
theorem e8_le_set8u {W : World} {g L : Nat} {y0 y1 y2 y3 y4 y5 y6 y7 : Value} (h : L ≤ W.heap.size) : L ≤ ((((((((W.setCell ⟨g, 0, none⟩ y0).setCell ⟨g, 1, none⟩ y1).setCell ⟨g, 2, none⟩ y2).setCell ⟨g, 3, none⟩ y3).setCell ⟨g, 4, none⟩ y4).setCell ⟨g, 5, none⟩ y5).setCell ⟨g, 6, none⟩ y6).setCell ⟨g, 7, none⟩ y7).heap.size := Nat.le_trans h (Nat.le_of_eq (set8_size W g y0 y1 y2 y3 y4 y5 y6 y7).symm)
theorem e8_le_up {W : World} {L : Nat} {o : Obj} (h : L ≤ W.heap.size) : L ≤ (W.alloc o).heap.size := by simp; omega
theorem e8_far_up {W : World} {k : Nat} {o : Obj} {Y : Option Obj} (hk : k < W.heap.size) (h : W.heap[k]? = Y) : (W.alloc o).heap[k]? = Y := (Below.heap_alloc W o k hk).trans h
theorem e8_far_gr {W W' : World} {k : Nat} {Y : Option Obj} (g : Gr W W') (hk : k < W.heap.size) (h : W.heap[k]? = Y) : W'.heap[k]? = Y := (g.heap hk).trans h
theorem e8_far_drew {W : World} {k : Nat} {Y : Option Obj} (h : W.heap[k]? = Y) : W.drew.heap[k]? = Y := h
theorem e8_row_new_at {W : World} {i : Nat} {o : Obj} (h : i = W.heap.size) : (W.alloc o).heap[i]? = some o := h ▸ heap_alloc_new W o
end Go.Proofs.Ytlkjimfkapcenaa
