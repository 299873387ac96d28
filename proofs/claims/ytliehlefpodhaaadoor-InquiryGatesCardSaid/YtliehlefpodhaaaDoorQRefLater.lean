/- later and latest of the reference of layer 9. For all signals. -/
import Derived.Test.YtliehlefpodhaaaDoorQBase
import Derived.Test.YtliehlefpodhaaaDoorQIn
import Derived.Test.YtliehlefpodhaaaDoorQRegGr
namespace Go.Proofs.YtliehlefpodhaaaDoor
open Go.RowKit

set_option maxHeartbeats 2000000 in
theorem refLater_any (x y : Sig) (w : World) :
    Calls Tryd.prog 79 #[x.val, y.val] w fun e w' => e = .returned (.bool (laterB x y)) ∧ Gr w w' := by
  obtain ⟨x0, x1, x2, x3, x4, x5⟩ := x
  obtain ⟨y0, y1, y2, y3, y4, y5⟩ := y
  unfold Sig.val laterB
  dsimp only
  obtain ⟨r, hr⟩ : ∃ r, decide (x3 > y3 ∨ (x3 = y3 ∧ (x0 > y0 ∨ (x0 = y0 ∧ x1 > y1)))) = r := ⟨_, rfl⟩
  rw [hr]
  have HR := hid hr
  clear hr
  rcases Int.lt_trichotomy x3 y3 with h | h | h
  · have e : r = false := by rw [← HR.out]; simp; omega
    subst e
    have n1 : ¬ y3 < x3 := by omega
    have n2 : (x3 == y3) = false := by simp; omega
    go_enter Tryd.func79, Tryd.ntmps79
    go_wp2
    go_ret
    exact ⟨rfl, by (repeat (first | with_reducible exact Gr.refl _ | with_reducible refine Gr.alloc ?_ _ | with_reducible refine Gr.setCell ?_ (by simp) _ | with_reducible refine Gr.setCell ?_ (by simp; omega) _ | with_reducible refine Gr.drew ?_ | with_reducible refine Gr.drewN ?_ _))⟩
  · subst h
    have n1 : ¬ x3 < x3 := by omega
    rcases Int.lt_trichotomy x0 y0 with h | h | h
    · have e : r = false := by rw [← HR.out]; simp; omega
      subst e
      have n3 : ¬ y0 < x0 := by omega
      have n4 : (x0 == y0) = false := by simp; omega
      go_enter Tryd.func79, Tryd.ntmps79
      go_wp2
      go_ret
      exact ⟨rfl, by (repeat (first | with_reducible exact Gr.refl _ | with_reducible refine Gr.alloc ?_ _ | with_reducible refine Gr.setCell ?_ (by simp) _ | with_reducible refine Gr.setCell ?_ (by simp; omega) _ | with_reducible refine Gr.drew ?_ | with_reducible refine Gr.drewN ?_ _))⟩
    · subst h
      have n3 : ¬ x0 < x0 := by omega
      have e : r = decide (y1 < x1) := by rw [← HR.out, Bool.eq_iff_iff]; simp
      subst e
      clear HR
      go_enter Tryd.func79, Tryd.ntmps79
      go_wp2
      all_goals
        go_ret
        exact ⟨by first | rfl | simp_all, by (repeat (first | with_reducible exact Gr.refl _ | with_reducible refine Gr.alloc ?_ _ | with_reducible refine Gr.setCell ?_ (by simp) _ | with_reducible refine Gr.setCell ?_ (by simp; omega) _ | with_reducible refine Gr.drew ?_ | with_reducible refine Gr.drewN ?_ _))⟩
    · have e : r = true := by rw [← HR.out]; simp; omega
      subst e
      go_enter Tryd.func79, Tryd.ntmps79
      go_wp2
      go_ret
      exact ⟨rfl, by (repeat (first | with_reducible exact Gr.refl _ | with_reducible refine Gr.alloc ?_ _ | with_reducible refine Gr.setCell ?_ (by simp) _ | with_reducible refine Gr.setCell ?_ (by simp; omega) _ | with_reducible refine Gr.drew ?_ | with_reducible refine Gr.drewN ?_ _))⟩
  · have e : r = true := by rw [← HR.out]; simp; omega
    subst e
    go_enter Tryd.func79, Tryd.ntmps79
    go_wp2
    go_ret
    exact ⟨rfl, by (repeat (first | with_reducible exact Gr.refl _ | with_reducible refine Gr.alloc ?_ _ | with_reducible refine Gr.setCell ?_ (by simp) _ | with_reducible refine Gr.setCell ?_ (by simp; omega) _ | with_reducible refine Gr.drew ?_ | with_reducible refine Gr.drewN ?_ _))⟩
end Go.Proofs.YtliehlefpodhaaaDoor
