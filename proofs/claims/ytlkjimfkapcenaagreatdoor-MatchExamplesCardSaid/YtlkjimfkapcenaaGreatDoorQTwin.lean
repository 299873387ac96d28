/- TwinRecord of the reference: a record in new memory. For records that are not great. -/
import Derived.Test.YtlkjimfkapcenaaGreatDoorQWithin
import Derived.Test.YtlkjimfkapcenaaGreatDoorQAppend
import Derived.Test.YtlkjimfkapcenaaGreatDoorQLaws
namespace Go.Proofs.YtlkjimfkapcenaaGreatDoor
open Go.RowKit

theorem info_string : (Tryz.prog.info? 9).map (fun i => (i.zero, i.size, i.bytes)) = some (some (.string ByteArray.empty), 1, 16) := by kernel_rfl
theorem info_stay : (Tryz.prog.info? 55).map (fun i => (i.zero, i.size, i.bytes)) = some (some (.agg #[.int .i64 0, .int .i64 0, .int .i64 0]), 3, 24) := by kernel_rfl

theorem VBlk.lit (w : World) (t : TypeId) (cs : Array Value) : VBlk (w.alloc (.cells cs t)) w.heap.size t cs.size (fun j => cs.getD j undef) :=
  VBlk.new w t cs _ _ rfl (fun j hj => by simp [hj])
/-- What lies in the two blocks of a record behind both appends. -/
theorem twin_facts {w w1 w2 : World} {v0 v1 v2 v3 v4 v5 v6 v7 u1 : Value} {z0 z1 z2 z3 z4 z5 z6 z7 : Value} {T e1 e2 : TypeId}
    (h1 : Below (w.heap.size + 1 + 1) (((w.alloc (.cells #[v0, v1, v2, v3, v4, v5, v6, v7] T)).alloc (.cells #[z0, z1, z2, z3, z4, z5, z6, z7] T)).alloc (.cells #[] e1)) w1)
    (h2 : Below w1.heap.size ((w1.setCell ⟨w.heap.size, 1, none⟩ u1).alloc (.cells #[] e2)) w2) :
    w2.cell? ⟨w.heap.size, 0, none⟩ = some v0 ∧ w2.cell? ⟨w.heap.size, 1, none⟩ = some u1 ∧ w2.cell? ⟨w.heap.size, 2, none⟩ = some v2 ∧ w2.cell? ⟨w.heap.size, 3, none⟩ = some v3 ∧ w2.cell? ⟨w.heap.size, 4, none⟩ = some v4 ∧
    w2.cell? ⟨w.heap.size, 5, none⟩ = some v5 ∧ w2.cell? ⟨w.heap.size, 6, none⟩ = some v6 ∧ w2.cell? ⟨w.heap.size, 7, none⟩ = some v7 ∧ w2.frozen? ⟨w.heap.size, 7, none⟩ = false ∧
    w2.cell? ⟨w.heap.size + 1, 0, none⟩ = some z0 ∧ w2.cell? ⟨w.heap.size + 1, 1, none⟩ = some z1 ∧ w2.cell? ⟨w.heap.size + 1, 2, none⟩ = some z2 ∧ w2.cell? ⟨w.heap.size + 1, 3, none⟩ = some z3 ∧ w2.cell? ⟨w.heap.size + 1, 4, none⟩ = some z4 ∧
    w2.cell? ⟨w.heap.size + 1, 5, none⟩ = some z5 ∧ w2.cell? ⟨w.heap.size + 1, 6, none⟩ = some z6 ∧ w2.cell? ⟨w.heap.size + 1, 7, none⟩ = some z7 ∧ ∀ j, w2.frozen? ⟨w.heap.size + 1, j, none⟩ = false := by
  have a : VBlk w1 w.heap.size T 8 _ := (((VBlk.lit w T #[v0, v1, v2, v3, v4, v5, v6, v7]).alloc _).alloc _).keep (h1.block _ (by omega))
  have hz := a.lt
  have b : VBlk w2 w.heap.size T 8 _ := ((a.set_ 1 u1).alloc _).keep (h2.block _ hz)
  have a' : VBlk w1 (w.heap.size + 1) T 8 (fun j => #[z0, z1, z2, z3, z4, z5, z6, z7].getD j undef) := by
    have := VBlk.lit (w.alloc (.cells #[v0, v1, v2, v3, v4, v5, v6, v7] T)) T #[z0, z1, z2, z3, z4, z5, z6, z7]
    rw [show (w.alloc (.cells #[v0, v1, v2, v3, v4, v5, v6, v7] T)).heap.size = w.heap.size + 1 by simp] at this
    exact (this.alloc _).keep (h1.block _ (by omega))
  have b' : VBlk w2 (w.heap.size + 1) T 8 (fun j => #[z0, z1, z2, z3, z4, z5, z6, z7].getD j undef) := ((a'.far (by show w.heap.size + 1 ≠ w.heap.size; omega) u1).alloc _).keep (h2.block _ a'.lt)
  exact ⟨b.cell (by omega), b.cell (by omega), b.cell (by omega), b.cell (by omega), b.cell (by omega), b.cell (by omega), b.cell (by omega), b.cell (by omega), b.frozen 7, b'.cell (by omega), b'.cell (by omega), b'.cell (by omega), b'.cell (by omega), b'.cell (by omega), b'.cell (by omega), b'.cell (by omega), b'.cell (by omega), b'.frozen⟩

/-- Eight cells stored, one behind the other. -/
def set8 (w : World) (g : Nat) (y0 y1 y2 y3 y4 y5 y6 y7 : Value) : World := (((((((w.setCell ⟨g, 0, none⟩ y0).setCell ⟨g, 1, none⟩ y1).setCell ⟨g, 2, none⟩ y2).setCell ⟨g, 3, none⟩ y3).setCell ⟨g, 4, none⟩ y4).setCell ⟨g, 5, none⟩ y5).setCell ⟨g, 6, none⟩ y6).setCell ⟨g, 7, none⟩ y7
theorem set8_row {w : World} {g : Nat} {T : TypeId} {z0 z1 z2 z3 z4 z5 z6 z7 y0 y1 y2 y3 y4 y5 y6 y7 : Value} (h : w.heap[g]? = some (.cells #[z0, z1, z2, z3, z4, z5, z6, z7] T (0, 0))) :
    (set8 w g y0 y1 y2 y3 y4 y5 y6 y7).heap[g]? = some (.cells #[y0, y1, y2, y3, y4, y5, y6, y7] T (0, 0)) := by
  have a0 : (w.setCell ⟨g, 0, none⟩ y0).heap[g]? = some (.cells #[y0, z1, z2, z3, z4, z5, z6, z7] T (0, 0)) := (heap_setCell_same w g 0 _ T y0 h).trans (by simp)
  have a1 : ((w.setCell ⟨g, 0, none⟩ y0).setCell ⟨g, 1, none⟩ y1).heap[g]? = some (.cells #[y0, y1, z2, z3, z4, z5, z6, z7] T (0, 0)) := (heap_setCell_same (w.setCell ⟨g, 0, none⟩ y0) g 1 _ T y1 a0).trans (by simp)
  have a2 : (((w.setCell ⟨g, 0, none⟩ y0).setCell ⟨g, 1, none⟩ y1).setCell ⟨g, 2, none⟩ y2).heap[g]? = some (.cells #[y0, y1, y2, z3, z4, z5, z6, z7] T (0, 0)) := (heap_setCell_same ((w.setCell ⟨g, 0, none⟩ y0).setCell ⟨g, 1, none⟩ y1) g 2 _ T y2 a1).trans (by simp)
  have a3 : ((((w.setCell ⟨g, 0, none⟩ y0).setCell ⟨g, 1, none⟩ y1).setCell ⟨g, 2, none⟩ y2).setCell ⟨g, 3, none⟩ y3).heap[g]? = some (.cells #[y0, y1, y2, y3, z4, z5, z6, z7] T (0, 0)) := (heap_setCell_same (((w.setCell ⟨g, 0, none⟩ y0).setCell ⟨g, 1, none⟩ y1).setCell ⟨g, 2, none⟩ y2) g 3 _ T y3 a2).trans (by simp)
  have a4 : (((((w.setCell ⟨g, 0, none⟩ y0).setCell ⟨g, 1, none⟩ y1).setCell ⟨g, 2, none⟩ y2).setCell ⟨g, 3, none⟩ y3).setCell ⟨g, 4, none⟩ y4).heap[g]? = some (.cells #[y0, y1, y2, y3, y4, z5, z6, z7] T (0, 0)) := (heap_setCell_same ((((w.setCell ⟨g, 0, none⟩ y0).setCell ⟨g, 1, none⟩ y1).setCell ⟨g, 2, none⟩ y2).setCell ⟨g, 3, none⟩ y3) g 4 _ T y4 a3).trans (by simp)
  have a5 : ((((((w.setCell ⟨g, 0, none⟩ y0).setCell ⟨g, 1, none⟩ y1).setCell ⟨g, 2, none⟩ y2).setCell ⟨g, 3, none⟩ y3).setCell ⟨g, 4, none⟩ y4).setCell ⟨g, 5, none⟩ y5).heap[g]? = some (.cells #[y0, y1, y2, y3, y4, y5, z6, z7] T (0, 0)) := (heap_setCell_same (((((w.setCell ⟨g, 0, none⟩ y0).setCell ⟨g, 1, none⟩ y1).setCell ⟨g, 2, none⟩ y2).setCell ⟨g, 3, none⟩ y3).setCell ⟨g, 4, none⟩ y4) g 5 _ T y5 a4).trans (by simp)
  have a6 : (((((((w.setCell ⟨g, 0, none⟩ y0).setCell ⟨g, 1, none⟩ y1).setCell ⟨g, 2, none⟩ y2).setCell ⟨g, 3, none⟩ y3).setCell ⟨g, 4, none⟩ y4).setCell ⟨g, 5, none⟩ y5).setCell ⟨g, 6, none⟩ y6).heap[g]? = some (.cells #[y0, y1, y2, y3, y4, y5, y6, z7] T (0, 0)) := (heap_setCell_same ((((((w.setCell ⟨g, 0, none⟩ y0).setCell ⟨g, 1, none⟩ y1).setCell ⟨g, 2, none⟩ y2).setCell ⟨g, 3, none⟩ y3).setCell ⟨g, 4, none⟩ y4).setCell ⟨g, 5, none⟩ y5) g 6 _ T y6 a5).trans (by simp)
  have a7 : ((((((((w.setCell ⟨g, 0, none⟩ y0).setCell ⟨g, 1, none⟩ y1).setCell ⟨g, 2, none⟩ y2).setCell ⟨g, 3, none⟩ y3).setCell ⟨g, 4, none⟩ y4).setCell ⟨g, 5, none⟩ y5).setCell ⟨g, 6, none⟩ y6).setCell ⟨g, 7, none⟩ y7).heap[g]? = some (.cells #[y0, y1, y2, y3, y4, y5, y6, y7] T (0, 0)) := (heap_setCell_same (((((((w.setCell ⟨g, 0, none⟩ y0).setCell ⟨g, 1, none⟩ y1).setCell ⟨g, 2, none⟩ y2).setCell ⟨g, 3, none⟩ y3).setCell ⟨g, 4, none⟩ y4).setCell ⟨g, 5, none⟩ y5).setCell ⟨g, 6, none⟩ y6) g 7 _ T y7 a6).trans (by simp)
  exact a7
theorem set8_far (w : World) (g : Nat) (y0 y1 y2 y3 y4 y5 y6 y7 : Value) {k : Nat} (hk : k ≠ g) : (set8 w g y0 y1 y2 y3 y4 y5 y6 y7).heap[k]? = w.heap[k]? := by
  unfold set8
  rw [Below.heap_setCell _ _ _ _ (by exact hk), Below.heap_setCell _ _ _ _ (by exact hk), Below.heap_setCell _ _ _ _ (by exact hk), Below.heap_setCell _ _ _ _ (by exact hk), Below.heap_setCell _ _ _ _ (by exact hk), Below.heap_setCell _ _ _ _ (by exact hk), Below.heap_setCell _ _ _ _ (by exact hk), Below.heap_setCell _ _ _ _ (by exact hk)]
theorem set8_size (w : World) (g : Nat) (y0 y1 y2 y3 y4 y5 y6 y7 : Value) : (set8 w g y0 y1 y2 y3 y4 y5 y6 y7).heap.size = w.heap.size := by
  simp [set8, World.setCell]
theorem set8_gr {a w : World} {g : Nat} (h : Gr a w) (hg : a.heap.size ≤ g) (y0 y1 y2 y3 y4 y5 y6 y7 : Value) : Gr a (set8 w g y0 y1 y2 y3 y4 y5 y6 y7) :=
  (((((((h.setCell hg _).setCell hg _).setCell hg _).setCell hg _).setCell hg _).setCell hg _).setCell hg _).setCell hg _
theorem twin_row {w w1 w2 : World} {X U U' : Obj} {Z : Array Value} {T : TypeId} {o : Nat} {u1 : Value} (h1 : Below (w.heap.size + 1 + 1) (((w.alloc X).alloc (.cells Z T)).alloc U) w1)
    (h2 : Below w1.heap.size ((w1.setCell ⟨w.heap.size, o, none⟩ u1).alloc U') w2) : w2.heap[w.heap.size + 1]? = some (.cells Z T (0, 0)) := by
  have hz : w.heap.size + 1 < w1.heap.size := by have := h1.size; simp at this; omega
  rw [h2.block _ hz, Below.heap_alloc _ _ _ (by simpa [World.setCell] using hz), Below.heap_setCell _ _ _ _ (by show w.heap.size + 1 ≠ w.heap.size; omega), h1.block _ (by omega), Below.heap_alloc _ _ _ (by simp)]
  exact heap_alloc2_new w _ _

theorem twin_gr1 {w w1 : World} {X Z U : Obj} (h1 : Below (w.heap.size + 1 + 1) (((w.alloc X).alloc Z).alloc U) w1) : Gr w w1 :=
  Below.trans (show Below w.heap.size w _ from (((Gr.refl w).alloc _).alloc _).alloc _) (h1.mono (by omega))
theorem twin_gr2 {w w1 w2 : World} {X Z U U' : Obj} {o : Nat} {u1 : Value} (h1 : Below (w.heap.size + 1 + 1) (((w.alloc X).alloc Z).alloc U) w1)
    (h2 : Below w1.heap.size ((w1.setCell ⟨w.heap.size, o, none⟩ u1).alloc U') w2) : Gr w w2 :=
  Below.trans (show Below w.heap.size w _ from ((twin_gr1 h1).setCell (Nat.le_refl _) _).alloc _) (h2.mono (twin_gr1 h1).size)

theorem own_cap {w : World} {base : Nat} {e : TypeId} {size n c : Nat} {A : Option Addr} {xs : List Value} (h : w.ownsRow base e size (.slice A n c) n xs) : n ≤ c ∧ c ≤ 9223372036854775807 := by
  rcases h.2 with ⟨hv, h0⟩ | ⟨g, cap, cur, hv, _, _, hnc, hcm, _⟩
  · injection hv with _ _ hc
    omega
  · injection hv with _ _ hc
    unfold maxLen at hcm
    omega

end Go.Proofs.YtlkjimfkapcenaaGreatDoor
