/- How births agree, in the reference. For all valid births. -/
import Derived.Test.YtlkjimfkapcenaaBirths
namespace Go.Proofs.Ytlkjimfkapcenaa
open Go.RowKit

set_option maxRecDepth 100000 in
set_option maxHeartbeats 2000000 in
theorem refBirths_any (r : Rul) (l1 h1 l2 h2 : Int) (w : World)
    (ha1 : 0 ≤ l1 ∧ l1 ≤ 100000) (ha2 : 0 ≤ h1 ∧ h1 ≤ 100000) (hb1 : 0 ≤ l2 ∧ l2 ≤ 100000) (hb2 : 0 ≤ h2 ∧ h2 ≤ 100000) :
    Calls Try.prog 63 #[r.val, .agg #[.int .i64 l1, .int .i64 h1], .agg #[.int .i64 l2, .int .i64 h2]] w fun e w' => e = .returned (.int .u8 (birN r.days l1 h1 l2 h2)) ∧ Gr w w' := by
  obtain ⟨l, dg, dy, tg⟩ := r
  unfold Rul.val
  dsimp only
  by_cases e3 : l1 = h1
  · by_cases e1 : l1 = l2
    · by_cases e2 : h1 = h2
      · have E := hid (show birN dy l1 h1 l2 h2 = 3 by unfold birN; rw [if_pos (by omega)])
        subst e1 e2 e3
        go_enter Try.func63, Try.ntmps63
        go_wp2
        go_ret
        exact ⟨by rw [E.out]; rfl, by (repeat (first | with_reducible exact Gr.refl _ | with_reducible refine Gr.alloc ?_ _ | with_reducible refine Gr.setCell ?_ (by simp) _ | with_reducible refine Gr.setCell ?_ (by simp; omega) _ | with_reducible refine Gr.drew ?_ | with_reducible refine Gr.drewN ?_ _))⟩
      · subst e1 e3
        by_cases q1 : l1 - h2 ≤ dy
        · by_cases q2 : l1 - l1 ≤ dy
          · have E := hid (show birN dy l1 l1 l1 h2 = 1 by unfold birN; rw [if_neg (by omega), if_pos ⟨q1, q2⟩])
            go_enter Try.func63, Try.ntmps63
            go_wp2
            go_ret
            exact ⟨by rw [E.out]; rfl, by (repeat (first | with_reducible exact Gr.refl _ | with_reducible refine Gr.alloc ?_ _ | with_reducible refine Gr.setCell ?_ (by simp) _ | with_reducible refine Gr.setCell ?_ (by simp; omega) _ | with_reducible refine Gr.drew ?_ | with_reducible refine Gr.drewN ?_ _))⟩
          · have E := hid (show birN dy l1 l1 l1 h2 = 0 by unfold birN; rw [if_neg (by omega), if_neg (fun h => q2 h.2)])
            go_enter Try.func63, Try.ntmps63
            go_wp2
            go_ret
            exact ⟨by rw [E.out]; rfl, by (repeat (first | with_reducible exact Gr.refl _ | with_reducible refine Gr.alloc ?_ _ | with_reducible refine Gr.setCell ?_ (by simp) _ | with_reducible refine Gr.setCell ?_ (by simp; omega) _ | with_reducible refine Gr.drew ?_ | with_reducible refine Gr.drewN ?_ _))⟩
        · have E := hid (show birN dy l1 l1 l1 h2 = 0 by unfold birN; rw [if_neg (by omega), if_neg (fun h => q1 h.1)])
          go_enter Try.func63, Try.ntmps63
          go_wp2
          go_ret
          exact ⟨by rw [E.out]; rfl, by (repeat (first | with_reducible exact Gr.refl _ | with_reducible refine Gr.alloc ?_ _ | with_reducible refine Gr.setCell ?_ (by simp) _ | with_reducible refine Gr.setCell ?_ (by simp; omega) _ | with_reducible refine Gr.drew ?_ | with_reducible refine Gr.drewN ?_ _))⟩
    · subst e3
      by_cases q1 : l1 - h2 ≤ dy
      · by_cases q2 : l2 - l1 ≤ dy
        · have E := hid (show birN dy l1 l1 l2 h2 = 1 by unfold birN; rw [if_neg (by omega), if_pos ⟨q1, q2⟩])
          go_enter Try.func63, Try.ntmps63
          go_wp2
          go_ret
          exact ⟨by rw [E.out]; rfl, by (repeat (first | with_reducible exact Gr.refl _ | with_reducible refine Gr.alloc ?_ _ | with_reducible refine Gr.setCell ?_ (by simp) _ | with_reducible refine Gr.setCell ?_ (by simp; omega) _ | with_reducible refine Gr.drew ?_ | with_reducible refine Gr.drewN ?_ _))⟩
        · have E := hid (show birN dy l1 l1 l2 h2 = 0 by unfold birN; rw [if_neg (by omega), if_neg (fun h => q2 h.2)])
          go_enter Try.func63, Try.ntmps63
          go_wp2
          go_ret
          exact ⟨by rw [E.out]; rfl, by (repeat (first | with_reducible exact Gr.refl _ | with_reducible refine Gr.alloc ?_ _ | with_reducible refine Gr.setCell ?_ (by simp) _ | with_reducible refine Gr.setCell ?_ (by simp; omega) _ | with_reducible refine Gr.drew ?_ | with_reducible refine Gr.drewN ?_ _))⟩
      · have E := hid (show birN dy l1 l1 l2 h2 = 0 by unfold birN; rw [if_neg (by omega), if_neg (fun h => q1 h.1)])
        go_enter Try.func63, Try.ntmps63
        go_wp2
        go_ret
        exact ⟨by rw [E.out]; rfl, by (repeat (first | with_reducible exact Gr.refl _ | with_reducible refine Gr.alloc ?_ _ | with_reducible refine Gr.setCell ?_ (by simp) _ | with_reducible refine Gr.setCell ?_ (by simp; omega) _ | with_reducible refine Gr.drew ?_ | with_reducible refine Gr.drewN ?_ _))⟩
  · by_cases q1 : l1 - h2 ≤ dy
    · by_cases q2 : l2 - h1 ≤ dy
      · have E := hid (show birN dy l1 h1 l2 h2 = 1 by unfold birN; rw [if_neg (by omega), if_pos ⟨q1, q2⟩])
        go_enter Try.func63, Try.ntmps63
        go_wp2
        go_ret
        exact ⟨by rw [E.out]; rfl, by (repeat (first | with_reducible exact Gr.refl _ | with_reducible refine Gr.alloc ?_ _ | with_reducible refine Gr.setCell ?_ (by simp) _ | with_reducible refine Gr.setCell ?_ (by simp; omega) _ | with_reducible refine Gr.drew ?_ | with_reducible refine Gr.drewN ?_ _))⟩
      · have E := hid (show birN dy l1 h1 l2 h2 = 0 by unfold birN; rw [if_neg (by omega), if_neg (fun h => q2 h.2)])
        go_enter Try.func63, Try.ntmps63
        go_wp2
        go_ret
        exact ⟨by rw [E.out]; rfl, by (repeat (first | with_reducible exact Gr.refl _ | with_reducible refine Gr.alloc ?_ _ | with_reducible refine Gr.setCell ?_ (by simp) _ | with_reducible refine Gr.setCell ?_ (by simp; omega) _ | with_reducible refine Gr.drew ?_ | with_reducible refine Gr.drewN ?_ _))⟩
    · have E := hid (show birN dy l1 h1 l2 h2 = 0 by unfold birN; rw [if_neg (by omega), if_neg (fun h => q1 h.1)])
      go_enter Try.func63, Try.ntmps63
      go_wp2
      go_ret
      exact ⟨by rw [E.out]; rfl, by (repeat (first | with_reducible exact Gr.refl _ | with_reducible refine Gr.alloc ?_ _ | with_reducible refine Gr.setCell ?_ (by simp) _ | with_reducible refine Gr.setCell ?_ (by simp; omega) _ | with_reducible refine Gr.drew ?_ | with_reducible refine Gr.drewN ?_ _))⟩
end Go.Proofs.Ytlkjimfkapcenaa
