/- Eight cells stored into a block just made, and what lies in other blocks. For any program. -/
import Derived.Test.YtlkjimfkapcenaaGreatDoorQTwin
import Derived.Test.YtlkjimfkapcenaaGreatDoorQRegGr
namespace Go.Proofs.YtlkjimfkapcenaaGreatDoor
open Go.RowKit
section
variable {w W W' : World} {g k L : Nat} {t : TypeId} {y0 y1 y2 y3 y4 y5 y6 y7 z0 z1 z2 z3 z4 z5 z6 z7 : Value} {o : Obj} {Y : Option Obj}
theorem s8_row (h : W.heap[g]? = some (.cells #[z0, z1, z2, z3, z4, z5, z6, z7] t (0, 0))) : ((((((((W.setCell ⟨g, 0, none⟩ y0).setCell ⟨g, 1, none⟩ y1).setCell ⟨g, 2, none⟩ y2).setCell ⟨g, 3, none⟩ y3).setCell ⟨g, 4, none⟩ y4).setCell ⟨g, 5, none⟩ y5).setCell ⟨g, 6, none⟩ y6).setCell ⟨g, 7, none⟩ y7).heap[g]? = some (.cells #[y0, y1, y2, y3, y4, y5, y6, y7] t (0, 0)) := set8_row h
theorem s8_far (hk : k ≠ g) (h : W.heap[k]? = Y) : ((((((((W.setCell ⟨g, 0, none⟩ y0).setCell ⟨g, 1, none⟩ y1).setCell ⟨g, 2, none⟩ y2).setCell ⟨g, 3, none⟩ y3).setCell ⟨g, 4, none⟩ y4).setCell ⟨g, 5, none⟩ y5).setCell ⟨g, 6, none⟩ y6).setCell ⟨g, 7, none⟩ y7).heap[k]? = Y := (set8_far W g y0 y1 y2 y3 y4 y5 y6 y7 hk).trans h
theorem s8_gr (h : Gr w W) (hg : w.heap.size ≤ g) : Gr w ((((((((W.setCell ⟨g, 0, none⟩ y0).setCell ⟨g, 1, none⟩ y1).setCell ⟨g, 2, none⟩ y2).setCell ⟨g, 3, none⟩ y3).setCell ⟨g, 4, none⟩ y4).setCell ⟨g, 5, none⟩ y5).setCell ⟨g, 6, none⟩ y6).setCell ⟨g, 7, none⟩ y7) := set8_gr h hg y0 y1 y2 y3 y4 y5 y6 y7
theorem s8_le (h : L ≤ W.heap.size) : L ≤ ((((((((W.setCell ⟨g, 0, none⟩ y0).setCell ⟨g, 1, none⟩ y1).setCell ⟨g, 2, none⟩ y2).setCell ⟨g, 3, none⟩ y3).setCell ⟨g, 4, none⟩ y4).setCell ⟨g, 5, none⟩ y5).setCell ⟨g, 6, none⟩ y6).setCell ⟨g, 7, none⟩ y7).heap.size := Nat.le_trans h (Nat.le_of_eq (set8_size W g y0 y1 y2 y3 y4 y5 y6 y7).symm)
theorem al_le (h : L ≤ W.heap.size) : L ≤ (W.alloc o).heap.size := by simp; omega
theorem al_far (hk : k < W.heap.size) (h : W.heap[k]? = Y) : (W.alloc o).heap[k]? = Y := (Below.heap_alloc W o k hk).trans h
theorem gr_far (q : Gr W W') (hk : k < W.heap.size) (h : W.heap[k]? = Y) : W'.heap[k]? = Y := (q.heap hk).trans h
theorem dr_far (h : W.heap[k]? = Y) : W.drew.heap[k]? = Y := h
theorem al_new (h : k = W.heap.size) : (W.alloc o).heap[k]? = some o := h ▸ heap_alloc_new W o
theorem al_keep (h : W.heap[k]? = some o) (o' : Obj) : (W.alloc o').heap[k]? = some o := (Below.heap_alloc W o' k (Array.getElem?_eq_some_iff.1 h).1).trans h
end
end Go.Proofs.YtlkjimfkapcenaaGreatDoor
