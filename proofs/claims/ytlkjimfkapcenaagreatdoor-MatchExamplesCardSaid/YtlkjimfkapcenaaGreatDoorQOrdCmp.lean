/- cmp.Compare at ints; the closures of ordered and listed, in the package match. For all records. -/
import Derived.Deep.DeepCutAuto
import Derived.Shelf.SlSortCmp.InsertionK
import Derived.Shelf.SlSortCmp.QuietGrown
import Derived.Test.YtlkjimfkapcenaaGreatDoorQSeqStr
import Derived.Test.YtlkjimfkapcenaaGreatDoorQRegGr
namespace Go.Proofs.YtlkjimfkapcenaaGreatDoor
open Go.RowKit Go.Shelf Go.Sort

def cmpI (x y : Int) : Int := if x < y then -1 else if y < x then 1 else 0

set_option maxHeartbeats 1000000 in
theorem isNaN_any (x : Int) (w : World) : Calls Tryz.prog 76 #[.int .i64 x] w fun e w' => e = .returned (.bool false) ∧ w = w' := by
  go_enter Tryz.func76, Tryz.ntmps76
  go_wp2
  go_ret
  exact ⟨by simp, rfl⟩

set_option maxHeartbeats 1000000 in
theorem cmp_any (x y : Int) (w : World) : Calls Tryz.prog 60 #[.int .i64 x, .int .i64 y] w fun e w' => e = .returned (.int .i64 (cmpI x y)) ∧ w = w' := by
  go_enter Tryz.func60, Tryz.ntmps60
  go_wp2_with ((go_at_call 76; (with_reducible refine (isNaN_any _ _).mono ?_); rotate_right; rintro e w' ⟨rfl, rfl⟩))
  all_goals (go_ret; refine ⟨?_, rfl⟩; unfold cmpI; (repeat' split) <;> first | rfl | (exfalso; omega))

set_option maxHeartbeats 1000000 in
theorem byId_any (x : Elt) (w : World) : Calls Tryz.prog 36 #[x.val] w fun e w' => e = .returned (.int .i64 x.r.id) ∧ w' = w.alloc (.cells x.cells.toArray 41) := by
  obtain ⟨⟨id, names, suf, l1, h1, p, tw, stays⟩, A, n, c, B, m, d⟩ := x
  unfold Elt.val Elt.cells
  dsimp only
  go_enter Tryz.func36, Tryz.ntmps36
  go_wp2
  go_ret
  exact ⟨rfl, rfl⟩

set_option maxRecDepth 100000 in
set_option maxHeartbeats 4000000 in
/-- The comparison of ordered: two boxes are laid, and one more at each call of by. -/
theorem ordCmp_any (x y : Elt) (c : Nat) (w : World) (hc : w.cell? ⟨c, 0, none⟩ = some (.func (.func 36) #[] #[])) :
    Calls Tryz.prog 59 #[x.val, y.val, .pointer (some ⟨c, 0, none⟩)] w fun e w' => e = .returned (.int .i64 (cmpI x.r.id y.r.id)) ∧ ∃ q os', w' = grow (w.drewN q) os' := by
  have hcl := block_lt_of_cell hc
  have H1 := hid (fun (z : Elt) (W : World) (q : Nat) (os : Array Obj) => (byId_any z (grow (W.drewN q) os)).mono (R' := fun e w'' => e = .returned (.int .i64 z.r.id) ∧ ∃ q' os', w'' = grow ((grow (W.drewN q) os).drewN q') os') (fun e w' h => ⟨h.1, 0, #[.cells z.cells.toArray 41 (0, 0)], by rw [h.2, alloc_eq_grow]; rfl⟩))
  have H2 := hid (fun (a b : Int) (W : World) (q : Nat) (os : Array Obj) => (cmp_any a b (grow (W.drewN q) os)).mono (R' := fun e w'' => e = .returned (.int .i64 (cmpI a b)) ∧ ∃ q' os', w'' = grow ((grow (W.drewN q) os).drewN q') os') (fun e w' h => ⟨h.1, 0, #[], by rw [← h.2, grow_empty]; rfl⟩))
  obtain ⟨⟨id, names, suf, l1, h1, p, tw, stays⟩, A, n, cc, B, m, d⟩ := x
  obtain ⟨⟨id', names', suf', l2, h2, q, tw', stays'⟩, A', n', cc', B', m', d'⟩ := y
  have HA := hid (fun (W : World) (u : Nat) os => H1.out ⟨⟨id, names, suf, l1, h1, p, tw, stays⟩, A, n, cc, B, m, d⟩ W u os)
  have HB := hid (fun (W : World) (u : Nat) os => H1.out ⟨⟨id', names', suf', l2, h2, q, tw', stays'⟩, A', n', cc', B', m', d'⟩ W u os)
  have HC := hid (fun W q os => H2.out id id' W q os)
  clear H1 H2
  unfold Elt.val Elt.cells at *
  dsimp only at *
  generalize cmpI id id' = r at *
  go_enter Tryz.func59, Tryz.ntmps59
  go_upto_region 1 with fail
  obtain ⟨E1, E2⟩ := rows2 w (.cells #[.int .i64 id, .slice A n cc, .int .u8 suf, .int .i64 l1, .int .i64 h1, .string p, .bool tw, .slice B m d] 41) (.cells #[.int .i64 id', .slice A' n' cc', .int .u8 suf', .int .i64 l2, .int .i64 h2, .string q, .bool tw', .slice B' m' d'] 41)
  have hz : ((w.alloc (.cells #[.int .i64 id, .slice A n cc, .int .u8 suf, .int .i64 l1, .int .i64 h1, .string p, .bool tw, .slice B m d] 41)).alloc (.cells #[.int .i64 id', .slice A' n' cc', .int .u8 suf', .int .i64 l2, .int .i64 h2, .string q, .bool tw', .slice B' m' d'] 41)).heap.size = w.heap.size + 1 + 1 := by simp
  have c0 : ((w.alloc (.cells #[.int .i64 id, .slice A n cc, .int .u8 suf, .int .i64 l1, .int .i64 h1, .string p, .bool tw, .slice B m d] 41)).alloc (.cells #[.int .i64 id', .slice A' n' cc', .int .u8 suf', .int .i64 l2, .int .i64 h2, .string q, .bool tw', .slice B' m' d'] 41)).cell? ⟨c, 0, none⟩ = some (.func (.func 36) #[] #[]) := by
    rw [Gr.cell (((Gr.refl w).alloc _).alloc _) hcl]; exact hc
  have HW : Hid (((w.alloc (.cells #[.int .i64 id, .slice A n cc, .int .u8 suf, .int .i64 l1, .int .i64 h1, .string p, .bool tw, .slice B m d] 41)).alloc (.cells #[.int .i64 id', .slice A' n' cc', .int .u8 suf', .int .i64 l2, .int .i64 h2, .string q, .bool tw', .slice B' m' d'] 41)) = grow w #[.cells #[.int .i64 id, .slice A n cc, .int .u8 suf, .int .i64 l1, .int .i64 h1, .string p, .bool tw, .slice B m d] 41 (0, 0), .cells #[.int .i64 id', .slice A' n' cc', .int .u8 suf', .int .i64 l2, .int .i64 h2, .string q, .bool tw', .slice B' m' d'] 41 (0, 0)]) := by
    show _ = _
    rw [alloc_eq_grow, alloc_eq_grow, grow_grow]; rfl
  generalize (w.alloc (.cells #[.int .i64 id, .slice A n cc, .int .u8 suf, .int .i64 l1, .int .i64 h1, .string p, .bool tw, .slice B m d] 41)).alloc (.cells #[.int .i64 id', .slice A' n' cc', .int .u8 suf', .int .i64 l2, .int .i64 h2, .string q, .bool tw', .slice B' m' d'] 41) = W2 at E1 E2 hz c0 HW ⊢
  have CL : ∀ {b o : Nat} {v : Value}, W2.cell? ⟨b, o, none⟩ = some v → ∀ n os, (grow (W2.drewN n) os).cell? ⟨b, o, none⟩ = some v := fun h => cell_grown (block_lt_of_cell h) h
  obtain ⟨a0, a1, a2, a3, a4, a5, a6, a7⟩ := cellsat8 E1
  obtain ⟨b0, b1, b2, b3, b4, b5, b6, b7⟩ := cellsat8 E2
  have k0 := CL c0
  have a0 := CL a0
  have a1 := CL a1
  have a2 := CL a2
  have a3 := CL a3
  have a4 := CL a4
  have a5 := CL a5
  have a6 := CL a6
  have a7 := CL a7
  have b0 := CL b0
  have b1 := CL b1
  have b2 := CL b2
  have b3 := CL b3
  have b4 := CL b4
  have b5 := CL b5
  have b6 := CL b6
  have b7 := CL b7
  clear CL E1 E2 c0 hc
  have mixed : Tryz.prog.follows .mixedOrders = true := by rfl
  go_quiet_grown (first
    | (go_at_call 36; with_reducible refine Calls.grown_of (HA.out _ _ _))
    | (go_at_call 36; with_reducible refine Calls.grown_of (HB.out _ _ _))
    | (go_at_call 60; with_reducible refine Calls.grown_of (HC.out _ _ _)))
  go_wp2
  go_ret
  exact ⟨rfl, nq, _, by rw [HW.out]; exact grow_grow (w.drewN nq) _ osq⟩
end Go.Proofs.YtlkjimfkapcenaaGreatDoor
