/- The comparison of signals when lists are merged, and where a signal is. For all signals. -/
import Derived.Test.YtliehlefpodhaaaDoorQOrder
import Derived.Test.YtliehlefpodhaaaDoorQRegGr
import Derived.Laws.Rows
namespace Go.Proofs.YtliehlefpodhaaaDoor
open Go.RowKit Go.Shelf Go.Sort

set_option maxHeartbeats 2000000 in
theorem mergeCmp_any (x y : Sig) (w : World) :
    Calls Tryd.prog 56 #[x.val, y.val] w fun e w' => e = .returned (.int .i64 (byN [Sig.bureau, Sig.id] x y)) ∧ Gs w w' := by
  have H := hid (fun W B (h0 : W.cell? ⟨B, 0, none⟩ = some (.func (.func 58) #[] #[])) (h1 : W.cell? ⟨B, 1, none⟩ = some (.func (.func 59) #[] #[])) => by2_any x y B 2 W h0 h1)
  generalize byN [Sig.bureau, Sig.id] x y = r at *
  unfold Sig.val at *
  go_enter Tryd.func56, Tryd.ntmps56
  go_wp2_with (go_at_call 57; (with_reducible refine (H.out _ _ ?_ ?_).mono ?_); rotate_right; rintro e w1 ⟨rfl, hb⟩; have HB := hid hb; clear hb)
  all_goals first
    | (rw [cell_top _ _ _ _ _ (by simp)]; rfl)
    | (go_ret
       exact ⟨rfl, (((Gs.refl w).alloc _).alloc _ |>.alloc _).trans HB.out⟩)

/-- A place, as a key. -/
def encPl (p : Int × Int) : Value := .agg #[.int .i64 p.1, .int .i64 p.2]
theorem encPl_inj (p q : Int × Int) (h : encPl p = encPl q) : p = q := by
  obtain ⟨a, b⟩ := p
  obtain ⟨c, d⟩ := q
  unfold encPl at h
  injection h with h
  simp at h
  rw [h.1, h.2]
set_option maxHeartbeats 2000000 in
theorem at_any (x : Sig) (w : World) :
    Calls Tryd.prog 54 #[x.val] w fun e w' => e = .returned (encPl (x.bureau, x.id)) ∧ Gs w w' := by
  obtain ⟨x0, x1, x2, x3, x4, x5⟩ := x
  unfold Sig.val encPl
  dsimp only
  go_enter Tryd.func54, Tryd.ntmps54
  go_wp2
  refine bodyPost_ret (v := .agg #[.int .i64 x0, .int .i64 x1]) ?_ rfl ⟨rfl, ((Gs.refl w).alloc _).alloc _⟩
  exact results_cell_row (p := 2) (ty := 104) Tryd.results54 _ _ (w.heap.size + 1) 104 _ (0, 0) _ rfl (heap_alloc2_new w _ _) Tryd.underlying104 rfl (by kernel_rfl)
end Go.Proofs.YtliehlefpodhaaaDoor
