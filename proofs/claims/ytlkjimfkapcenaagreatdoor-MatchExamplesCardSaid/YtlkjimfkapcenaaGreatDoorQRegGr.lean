/- A region that draws its order, that reads, and whose calls may make memory: walked once, in the order of the text. For any program. What lies in boxes just made, in every world that grew. For any program. -/
import Derived.BigQuiet
import Derived.Deep.QuietTactic
import Derived.Test.YtlkjimfkapcenaaGreatDoorQBase
namespace Go.Proofs.YtlkjimfkapcenaaGreatDoor
open Go.RowKit

/-- A world that grew out of w. -/
structure GrW (w : World) where
  W : World
  gr : Gr w W
instance (w : World) : Inhabited (GrW w) := ⟨⟨w, Gr.refl w⟩⟩
theorem wp_region_gr {P : Program} {id : Nat} {Q : Exit → Act → World → Prop} {a : Act} {w : World} {l : List Oper} (hm : P.follows .mixedOrders = true) (hB : Region.lexB .any l.toArray = true)
    (h : wpQuiet P l.toArray (fun w' => ∃ p : GrW w, w' = p.W) (fun a' => ∀ w', (∃ p : GrW w, w' = p.W) → Q .normal a' w') l a) : (Code.region id l.toArray true).wp P Q a w :=
  wp_region_quiet (C := fun w' => ∃ p : GrW w, w' = p.W) hm hB ⟨⟨_, (Gr.refl w).drew⟩, rfl⟩ (by simpa using h)
section
variable {P : Program} {f : FuncId} {args : Array Value} {w : World} {v : Value}
theorem calls_gr {p : GrW w} (h : Calls P f args p.W fun e w' => e = .returned v ∧ Gr p.W w') : Calls P f args p.W fun e w'' => e = .returned v ∧ ∃ p' : GrW w, w'' = p'.W :=
  h.mono fun _ w' ⟨he, hg⟩ => ⟨he, ⟨w', p.gr.trans hg⟩, rfl⟩
theorem calls_gr_same {p : GrW w} (h : Calls P f args p.W fun e w' => e = .returned v ∧ p.W = w') : Calls P f args p.W fun e w'' => e = .returned v ∧ ∃ p' : GrW w, w'' = p'.W :=
  h.mono fun _ _ ⟨he, hg⟩ => ⟨he, p, hg.symm⟩
theorem GrW.cell {b o : Nat} (h : w.cell? ⟨b, o, none⟩ = some v) (p : GrW w) : p.W.cell? ⟨b, o, none⟩ = some v := (p.gr.cell (block_lt_of_cell h)).trans h
end
end Go.Proofs.YtlkjimfkapcenaaGreatDoor
namespace Go.Proofs.YtlkjimfkapcenaaGreatDoor
open Go.RowKit
section
variable {w W W' : World} {g : Nat} {t : TypeId}
theorem row_gr {o : Obj} (h : W.heap[g]? = some o) (k : Gr W W') : W'.heap[g]? = some o := (k.heap (Array.getElem?_eq_some_iff.1 h).1).trans h
theorem row_at {cs : Array Value} (h : W.heap[g]? = some (.cells cs t (0, 0))) (j : Nat) {v : Value} (hv : cs[j]? = some v) (p : GrW W) : p.W.cell? ⟨g, j, none⟩ = some v :=
  (cell_of_row p.W g j cs t (0, 0) (row_gr h p.gr)).trans hv
theorem row_cell {b o : Nat} {v : Value} (h : W.cell? ⟨b, o, none⟩ = some v) (k : Gr W W') : W'.cell? ⟨b, o, none⟩ = some v := (k.cell (block_lt_of_cell h)).trans h
theorem row_cell_at {cs : Array Value} (h : W.heap[g]? = some (.cells cs t (0, 0))) (j : Nat) {v : Value} (hv : cs[j]? = some v) : W.cell? ⟨g, j, none⟩ = some v := (cell_of_row W g j cs t (0, 0) h).trans hv
theorem rows2 (w : World) (o1 o2 : Obj) : ((w.alloc o1).alloc o2).heap[w.heap.size]? = some o1 ∧ ((w.alloc o1).alloc o2).heap[w.heap.size + 1]? = some o2 := by
  have e : (w.alloc o1).heap.size = w.heap.size + 1 := by simp
  refine ⟨?_, ?_⟩
  · rw [Below.heap_alloc _ _ _ (by omega)]; exact heap_alloc_new w _
  · rw [← e]; exact heap_alloc_new _ _
theorem rows3 (w : World) (o1 o2 o3 : Obj) : (((w.alloc o1).alloc o2).alloc o3).heap[w.heap.size]? = some o1 ∧ (((w.alloc o1).alloc o2).alloc o3).heap[w.heap.size + 1]? = some o2 ∧ (((w.alloc o1).alloc o2).alloc o3).heap[w.heap.size + 2]? = some o3 := by
  have e : (w.alloc o1).heap.size = w.heap.size + 1 := by simp
  have e2 : ((w.alloc o1).alloc o2).heap.size = w.heap.size + 2 := by simp
  refine ⟨?_, ?_, ?_⟩
  · rw [Below.heap_alloc _ _ _ (by omega), Below.heap_alloc _ _ _ (by omega)]; exact heap_alloc_new w _
  · rw [Below.heap_alloc _ _ _ (by omega), ← e]; exact heap_alloc_new _ _
  · rw [← e2]; exact heap_alloc_new _ _
theorem row1 {v0 : Value} (h : W.heap[g]? = some (.cells #[v0] t (0, 0))) : ∀ p : GrW W, p.W.cell? ⟨g, 0, none⟩ = some v0 := row_at h 0 rfl
theorem row4 {v0 v1 v2 v3 : Value} (h : W.heap[g]? = some (.cells #[v0, v1, v2, v3] t (0, 0))) :
    (∀ p : GrW W, p.W.cell? ⟨g, 0, none⟩ = some v0) ∧ (∀ p : GrW W, p.W.cell? ⟨g, 1, none⟩ = some v1) ∧ (∀ p : GrW W, p.W.cell? ⟨g, 2, none⟩ = some v2) ∧ (∀ p : GrW W, p.W.cell? ⟨g, 3, none⟩ = some v3) :=
  ⟨row_at h 0 rfl, row_at h 1 rfl, row_at h 2 rfl, row_at h 3 rfl⟩
theorem row5 {v0 v1 v2 v3 v4 : Value} (h : W.heap[g]? = some (.cells #[v0, v1, v2, v3, v4] t (0, 0))) :
    (∀ p : GrW W, p.W.cell? ⟨g, 0, none⟩ = some v0) ∧ (∀ p : GrW W, p.W.cell? ⟨g, 1, none⟩ = some v1) ∧ (∀ p : GrW W, p.W.cell? ⟨g, 2, none⟩ = some v2) ∧ (∀ p : GrW W, p.W.cell? ⟨g, 3, none⟩ = some v3) ∧ (∀ p : GrW W, p.W.cell? ⟨g, 4, none⟩ = some v4) :=
  ⟨row_at h 0 rfl, row_at h 1 rfl, row_at h 2 rfl, row_at h 3 rfl, row_at h 4 rfl⟩
theorem row8 {v0 v1 v2 v3 v4 v5 v6 v7 : Value} (h : W.heap[g]? = some (.cells #[v0, v1, v2, v3, v4, v5, v6, v7] t (0, 0))) :
    (∀ p : GrW W, p.W.cell? ⟨g, 0, none⟩ = some v0) ∧ (∀ p : GrW W, p.W.cell? ⟨g, 1, none⟩ = some v1) ∧ (∀ p : GrW W, p.W.cell? ⟨g, 2, none⟩ = some v2) ∧ (∀ p : GrW W, p.W.cell? ⟨g, 3, none⟩ = some v3) ∧
    (∀ p : GrW W, p.W.cell? ⟨g, 4, none⟩ = some v4) ∧ (∀ p : GrW W, p.W.cell? ⟨g, 5, none⟩ = some v5) ∧ (∀ p : GrW W, p.W.cell? ⟨g, 6, none⟩ = some v6) ∧ (∀ p : GrW W, p.W.cell? ⟨g, 7, none⟩ = some v7) :=
  ⟨row_at h 0 rfl, row_at h 1 rfl, row_at h 2 rfl, row_at h 3 rfl, row_at h 4 rfl, row_at h 5 rfl, row_at h 6 rfl, row_at h 7 rfl⟩
theorem keepc4 {v0 v1 v2 v3 : Value} (h : W.cell? ⟨g, 0, none⟩ = some v0 ∧ W.cell? ⟨g, 1, none⟩ = some v1 ∧ W.cell? ⟨g, 2, none⟩ = some v2 ∧ W.cell? ⟨g, 3, none⟩ = some v3) (k : Gr W W') : W'.cell? ⟨g, 0, none⟩ = some v0 ∧ W'.cell? ⟨g, 1, none⟩ = some v1 ∧ W'.cell? ⟨g, 2, none⟩ = some v2 ∧ W'.cell? ⟨g, 3, none⟩ = some v3 :=
  ⟨row_cell (h.1) k, row_cell (h.2.1) k, row_cell (h.2.2.1) k, row_cell (h.2.2.2) k⟩
theorem keepc5 {v0 v1 v2 v3 v4 : Value} (h : W.cell? ⟨g, 0, none⟩ = some v0 ∧ W.cell? ⟨g, 1, none⟩ = some v1 ∧ W.cell? ⟨g, 2, none⟩ = some v2 ∧ W.cell? ⟨g, 3, none⟩ = some v3 ∧ W.cell? ⟨g, 4, none⟩ = some v4) (k : Gr W W') : W'.cell? ⟨g, 0, none⟩ = some v0 ∧ W'.cell? ⟨g, 1, none⟩ = some v1 ∧ W'.cell? ⟨g, 2, none⟩ = some v2 ∧ W'.cell? ⟨g, 3, none⟩ = some v3 ∧ W'.cell? ⟨g, 4, none⟩ = some v4 :=
  ⟨row_cell (h.1) k, row_cell (h.2.1) k, row_cell (h.2.2.1) k, row_cell (h.2.2.2.1) k, row_cell (h.2.2.2.2) k⟩
theorem keepc8 {v0 v1 v2 v3 v4 v5 v6 v7 : Value} (h : W.cell? ⟨g, 0, none⟩ = some v0 ∧ W.cell? ⟨g, 1, none⟩ = some v1 ∧ W.cell? ⟨g, 2, none⟩ = some v2 ∧ W.cell? ⟨g, 3, none⟩ = some v3 ∧ W.cell? ⟨g, 4, none⟩ = some v4 ∧ W.cell? ⟨g, 5, none⟩ = some v5 ∧ W.cell? ⟨g, 6, none⟩ = some v6 ∧ W.cell? ⟨g, 7, none⟩ = some v7) (k : Gr W W') : W'.cell? ⟨g, 0, none⟩ = some v0 ∧ W'.cell? ⟨g, 1, none⟩ = some v1 ∧ W'.cell? ⟨g, 2, none⟩ = some v2 ∧ W'.cell? ⟨g, 3, none⟩ = some v3 ∧ W'.cell? ⟨g, 4, none⟩ = some v4 ∧ W'.cell? ⟨g, 5, none⟩ = some v5 ∧ W'.cell? ⟨g, 6, none⟩ = some v6 ∧ W'.cell? ⟨g, 7, none⟩ = some v7 :=
  ⟨row_cell (h.1) k, row_cell (h.2.1) k, row_cell (h.2.2.1) k, row_cell (h.2.2.2.1) k, row_cell (h.2.2.2.2.1) k, row_cell (h.2.2.2.2.2.1) k, row_cell (h.2.2.2.2.2.2.1) k, row_cell (h.2.2.2.2.2.2.2) k⟩
theorem cellsat4 {v0 v1 v2 v3 : Value} (h : W.heap[g]? = some (.cells #[v0, v1, v2, v3] t (0, 0))) : W.cell? ⟨g, 0, none⟩ = some v0 ∧ W.cell? ⟨g, 1, none⟩ = some v1 ∧ W.cell? ⟨g, 2, none⟩ = some v2 ∧ W.cell? ⟨g, 3, none⟩ = some v3 :=
  ⟨row_cell_at h 0 rfl, row_cell_at h 1 rfl, row_cell_at h 2 rfl, row_cell_at h 3 rfl⟩
theorem cellsat5 {v0 v1 v2 v3 v4 : Value} (h : W.heap[g]? = some (.cells #[v0, v1, v2, v3, v4] t (0, 0))) : W.cell? ⟨g, 0, none⟩ = some v0 ∧ W.cell? ⟨g, 1, none⟩ = some v1 ∧ W.cell? ⟨g, 2, none⟩ = some v2 ∧ W.cell? ⟨g, 3, none⟩ = some v3 ∧ W.cell? ⟨g, 4, none⟩ = some v4 :=
  ⟨row_cell_at h 0 rfl, row_cell_at h 1 rfl, row_cell_at h 2 rfl, row_cell_at h 3 rfl, row_cell_at h 4 rfl⟩
theorem cellsat8 {v0 v1 v2 v3 v4 v5 v6 v7 : Value} (h : W.heap[g]? = some (.cells #[v0, v1, v2, v3, v4, v5, v6, v7] t (0, 0))) : W.cell? ⟨g, 0, none⟩ = some v0 ∧ W.cell? ⟨g, 1, none⟩ = some v1 ∧ W.cell? ⟨g, 2, none⟩ = some v2 ∧ W.cell? ⟨g, 3, none⟩ = some v3 ∧ W.cell? ⟨g, 4, none⟩ = some v4 ∧ W.cell? ⟨g, 5, none⟩ = some v5 ∧ W.cell? ⟨g, 6, none⟩ = some v6 ∧ W.cell? ⟨g, 7, none⟩ = some v7 :=
  ⟨row_cell_at h 0 rfl, row_cell_at h 1 rfl, row_cell_at h 2 rfl, row_cell_at h 3 rfl, row_cell_at h 4 rfl, row_cell_at h 5 rfl, row_cell_at h 6 rfl, row_cell_at h 7 rfl⟩
theorem set5_row {z0 z1 z2 z3 z4 y0 y1 y2 y3 y4 : Value} (h : W.heap[g]? = some (.cells #[z0, z1, z2, z3, z4] t (0, 0))) :
    (((((W.setCell ⟨g, 0, none⟩ y0).setCell ⟨g, 1, none⟩ y1).setCell ⟨g, 2, none⟩ y2).setCell ⟨g, 3, none⟩ y3).setCell ⟨g, 4, none⟩ y4).heap[g]? = some (.cells #[y0, y1, y2, y3, y4] t (0, 0)) := by
  have a0 : (W.setCell ⟨g, 0, none⟩ y0).heap[g]? = some (.cells #[y0, z1, z2, z3, z4] t (0, 0)) := (heap_setCell_same W g 0 _ t y0 h).trans (by simp)
  have a1 : ((W.setCell ⟨g, 0, none⟩ y0).setCell ⟨g, 1, none⟩ y1).heap[g]? = some (.cells #[y0, y1, z2, z3, z4] t (0, 0)) := (heap_setCell_same (W.setCell ⟨g, 0, none⟩ y0) g 1 _ t y1 a0).trans (by simp)
  have a2 : (((W.setCell ⟨g, 0, none⟩ y0).setCell ⟨g, 1, none⟩ y1).setCell ⟨g, 2, none⟩ y2).heap[g]? = some (.cells #[y0, y1, y2, z3, z4] t (0, 0)) := (heap_setCell_same ((W.setCell ⟨g, 0, none⟩ y0).setCell ⟨g, 1, none⟩ y1) g 2 _ t y2 a1).trans (by simp)
  have a3 : ((((W.setCell ⟨g, 0, none⟩ y0).setCell ⟨g, 1, none⟩ y1).setCell ⟨g, 2, none⟩ y2).setCell ⟨g, 3, none⟩ y3).heap[g]? = some (.cells #[y0, y1, y2, y3, z4] t (0, 0)) := (heap_setCell_same (((W.setCell ⟨g, 0, none⟩ y0).setCell ⟨g, 1, none⟩ y1).setCell ⟨g, 2, none⟩ y2) g 3 _ t y3 a2).trans (by simp)
  exact (heap_setCell_same ((((W.setCell ⟨g, 0, none⟩ y0).setCell ⟨g, 1, none⟩ y1).setCell ⟨g, 2, none⟩ y2).setCell ⟨g, 3, none⟩ y3) g 4 _ t y4 a3).trans (by simp)
theorem set5_gr {w W : World} {g : Nat} (h : Gr w W) (hg : w.heap.size ≤ g) (y0 y1 y2 y3 y4 : Value) : Gr w (((((W.setCell ⟨g, 0, none⟩ y0).setCell ⟨g, 1, none⟩ y1).setCell ⟨g, 2, none⟩ y2).setCell ⟨g, 3, none⟩ y3).setCell ⟨g, 4, none⟩ y4) :=
  ((((h.setCell hg _).setCell hg _).setCell hg _).setCell hg _).setCell hg _
end
end Go.Proofs.YtlkjimfkapcenaaGreatDoor
