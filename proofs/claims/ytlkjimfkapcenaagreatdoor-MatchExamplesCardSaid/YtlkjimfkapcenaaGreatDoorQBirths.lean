/- How births agree, in the package match and in its reference. For all valid births. How births agree, in the reference. For all valid births. -/
import Derived.WalkLawsBesides
import Derived.Test.YtlkjimfkapcenaaGreatDoorQWithin
import Derived.Test.YtlkjimfkapcenaaGreatDoorQNumbers
namespace Go.Proofs.YtlkjimfkapcenaaGreatDoor
open Go.RowKit

/-- How births agree. -/
def birN (days l1 h1 l2 h2 : Int) : Int := if l1 = l2 ∧ h1 = h2 ∧ l1 = h1 then 3 else if l1 - h2 ≤ days ∧ l2 - h1 ≤ days then 1 else 0

set_option maxRecDepth 100000 in
set_option maxHeartbeats 2000000 in
theorem births_any (r : Rul) (a b : Rcd) (A : Option Addr) (n c : Nat) (B : Option Addr) (m d : Nat) (A' : Option Addr) (n' c' : Nat) (B' : Option Addr) (m' d' : Nat) (w : World)
    (ha1 : 0 ≤ a.lo ∧ a.lo ≤ 100000) (ha2 : 0 ≤ a.hi ∧ a.hi ≤ 100000) (ha3 : a.lo ≤ a.hi) (hb1 : 0 ≤ b.lo ∧ b.lo ≤ 100000) (hb2 : 0 ≤ b.hi ∧ b.hi ≤ 100000) (hb3 : b.lo ≤ b.hi) (hr : 0 ≤ r.days) :
    Calls Tryz.prog 32 #[r.val, a.val A n c B m d, b.val A' n' c' B' m' d'] w fun e w' => e = .returned (.int .u8 (birN r.days a.lo a.hi b.lo b.hi)) ∧ Gr w w' := by
  obtain ⟨l, dg, dy, tg⟩ := r
  obtain ⟨id, names, suf, l1, h1, p, tw, stays⟩ := a
  obtain ⟨id', names', suf', l2, h2, q, tw', stays'⟩ := b
  unfold Rul.val Rcd.val
  dsimp only at ha1 ha2 ha3 hb1 hb2 hb3 hr ⊢
  by_cases e12 : l1 = l2 ∧ h1 = h2
  · obtain ⟨e1, e2⟩ := e12
    subst e1 e2
    by_cases e3 : l1 = h1
    · have E := hid (show birN dy l1 h1 l1 h1 = 3 by unfold birN; rw [if_pos (by omega)])
      clear ha1 ha2 ha3 hb1 hb2 hb3 hr
      subst e3
      go_enter Tryz.func32, Tryz.ntmps32
      go_wp2
      go_ret
      exact ⟨by rw [E.out]; rfl, by (repeat (first | with_reducible exact Gr.refl _ | with_reducible refine Gr.alloc ?_ _ | with_reducible refine Gr.setCell ?_ (by simp) _ | with_reducible refine Gr.setCell ?_ (by simp; omega) _ | with_reducible refine Gr.drew ?_ | with_reducible refine Gr.drewN ?_ _))⟩
    · by_cases e4 : l1 - h1 ≤ dy
      · have E := hid (show birN dy l1 h1 l1 h1 = 1 by unfold birN; rw [if_neg (by omega), if_pos (by omega)])
        go_enter Tryz.func32, Tryz.ntmps32
        go_wp2
        go_ret
        exact ⟨by rw [E.out]; rfl, by (repeat (first | with_reducible exact Gr.refl _ | with_reducible refine Gr.alloc ?_ _ | with_reducible refine Gr.setCell ?_ (by simp) _ | with_reducible refine Gr.setCell ?_ (by simp; omega) _ | with_reducible refine Gr.drew ?_ | with_reducible refine Gr.drewN ?_ _))⟩
      · exact absurd hr (by omega)
  · by_cases e1 : l1 = l2
    · have e2 : ¬ h1 = h2 := fun h => e12 ⟨e1, h⟩
      clear e12
      subst e1
      by_cases m2 : h1 ≤ h2
      · by_cases e4 : l1 - h2 ≤ dy ∧ l1 - h1 ≤ dy
        · have E := hid (show birN dy l1 h1 l1 h2 = 1 by unfold birN; rw [if_neg (by omega), if_pos e4])
          obtain ⟨q1, q2⟩ := e4
          go_enter Tryz.func32, Tryz.ntmps32
          go_wp2
          go_ret
          exact ⟨by rw [E.out]; rfl, by (repeat (first | with_reducible exact Gr.refl _ | with_reducible refine Gr.alloc ?_ _ | with_reducible refine Gr.setCell ?_ (by simp) _ | with_reducible refine Gr.setCell ?_ (by simp; omega) _ | with_reducible refine Gr.drew ?_ | with_reducible refine Gr.drewN ?_ _))⟩
        · exact absurd hr (by omega)
      · by_cases e4 : l1 - h2 ≤ dy ∧ l1 - h1 ≤ dy
        · have E := hid (show birN dy l1 h1 l1 h2 = 1 by unfold birN; rw [if_neg (by omega), if_pos e4])
          obtain ⟨q1, q2⟩ := e4
          go_enter Tryz.func32, Tryz.ntmps32
          go_wp2
          go_ret
          exact ⟨by rw [E.out]; rfl, by (repeat (first | with_reducible exact Gr.refl _ | with_reducible refine Gr.alloc ?_ _ | with_reducible refine Gr.setCell ?_ (by simp) _ | with_reducible refine Gr.setCell ?_ (by simp; omega) _ | with_reducible refine Gr.drew ?_ | with_reducible refine Gr.drewN ?_ _))⟩
        · exact absurd hr (by omega)
    · clear e12
      by_cases m1 : l1 ≤ l2
      · by_cases m2 : h1 ≤ h2
        · by_cases e4 : l1 - h2 ≤ dy ∧ l2 - h1 ≤ dy
          · have E := hid (show birN dy l1 h1 l2 h2 = 1 by unfold birN; rw [if_neg (by omega), if_pos e4])
            obtain ⟨q1, q2⟩ := e4
            go_enter Tryz.func32, Tryz.ntmps32
            go_wp2
            go_ret
            exact ⟨by rw [E.out]; rfl, by (repeat (first | with_reducible exact Gr.refl _ | with_reducible refine Gr.alloc ?_ _ | with_reducible refine Gr.setCell ?_ (by simp) _ | with_reducible refine Gr.setCell ?_ (by simp; omega) _ | with_reducible refine Gr.drew ?_ | with_reducible refine Gr.drewN ?_ _))⟩
          · have E := hid (show birN dy l1 h1 l2 h2 = 0 by unfold birN; rw [if_neg (by omega), if_neg e4])
            have q : dy < l2 - h1 := by omega
            clear e4
            go_enter Tryz.func32, Tryz.ntmps32
            go_wp2
            go_ret
            exact ⟨by rw [E.out]; rfl, by (repeat (first | with_reducible exact Gr.refl _ | with_reducible refine Gr.alloc ?_ _ | with_reducible refine Gr.setCell ?_ (by simp) _ | with_reducible refine Gr.setCell ?_ (by simp; omega) _ | with_reducible refine Gr.drew ?_ | with_reducible refine Gr.drewN ?_ _))⟩
        · by_cases e4 : l1 - h2 ≤ dy ∧ l2 - h1 ≤ dy
          · have E := hid (show birN dy l1 h1 l2 h2 = 1 by unfold birN; rw [if_neg (by omega), if_pos e4])
            obtain ⟨q1, q2⟩ := e4
            go_enter Tryz.func32, Tryz.ntmps32
            go_wp2
            go_ret
            exact ⟨by rw [E.out]; rfl, by (repeat (first | with_reducible exact Gr.refl _ | with_reducible refine Gr.alloc ?_ _ | with_reducible refine Gr.setCell ?_ (by simp) _ | with_reducible refine Gr.setCell ?_ (by simp; omega) _ | with_reducible refine Gr.drew ?_ | with_reducible refine Gr.drewN ?_ _))⟩
          · exact absurd hr (by omega)
      · by_cases m2 : h1 ≤ h2
        · by_cases e4 : l1 - h2 ≤ dy ∧ l2 - h1 ≤ dy
          · have E := hid (show birN dy l1 h1 l2 h2 = 1 by unfold birN; rw [if_neg (by omega), if_pos e4])
            obtain ⟨q1, q2⟩ := e4
            go_enter Tryz.func32, Tryz.ntmps32
            go_wp2
            go_ret
            exact ⟨by rw [E.out]; rfl, by (repeat (first | with_reducible exact Gr.refl _ | with_reducible refine Gr.alloc ?_ _ | with_reducible refine Gr.setCell ?_ (by simp) _ | with_reducible refine Gr.setCell ?_ (by simp; omega) _ | with_reducible refine Gr.drew ?_ | with_reducible refine Gr.drewN ?_ _))⟩
          · exact absurd hr (by omega)
        · by_cases e4 : l1 - h2 ≤ dy ∧ l2 - h1 ≤ dy
          · have E := hid (show birN dy l1 h1 l2 h2 = 1 by unfold birN; rw [if_neg (by omega), if_pos e4])
            obtain ⟨q1, q2⟩ := e4
            go_enter Tryz.func32, Tryz.ntmps32
            go_wp2
            go_ret
            exact ⟨by rw [E.out]; rfl, by (repeat (first | with_reducible exact Gr.refl _ | with_reducible refine Gr.alloc ?_ _ | with_reducible refine Gr.setCell ?_ (by simp) _ | with_reducible refine Gr.setCell ?_ (by simp; omega) _ | with_reducible refine Gr.drew ?_ | with_reducible refine Gr.drewN ?_ _))⟩
          · have E := hid (show birN dy l1 h1 l2 h2 = 0 by unfold birN; rw [if_neg (by omega), if_neg e4])
            have q : dy < l1 - h2 := by omega
            clear e4
            go_enter Tryz.func32, Tryz.ntmps32
            go_wp2
            go_ret
            exact ⟨by rw [E.out]; rfl, by (repeat (first | with_reducible exact Gr.refl _ | with_reducible refine Gr.alloc ?_ _ | with_reducible refine Gr.setCell ?_ (by simp) _ | with_reducible refine Gr.setCell ?_ (by simp; omega) _ | with_reducible refine Gr.drew ?_ | with_reducible refine Gr.drewN ?_ _))⟩
end Go.Proofs.YtlkjimfkapcenaaGreatDoor
namespace Go.Proofs.YtlkjimfkapcenaaGreatDoor
open Go.RowKit

end Go.Proofs.YtlkjimfkapcenaaGreatDoor
