/- The tests of the package match's list of verdicts. For all records and agreements. -/
import Derived.Test.YtlkjimfkapcenaaAlike
namespace Go.Proofs.Ytlkjimfkapcenaa
open Go.RowKit

/-- A comparison: how names, numbers, births and places agree, and the verdict. -/
structure Cmp where
  nm : Int
  nu : Int
  bi : Int
  pl : Int
  vd : Int
/-- Its value. -/
def Cmp.val (x : Cmp) : Value := .agg #[.int .u8 x.nm, .int .u8 x.nu, .int .u8 x.bi, .int .u8 x.pl, .int .u8 x.vd]

set_option maxRecDepth 100000 in
theorem verd1_any (a b : Rcd) (A : Option Addr) (n c : Nat) (B : Option Addr) (m d : Nat) (A' : Option Addr) (n' c' : Nat) (B' : Option Addr) (m' d' : Nat) (w : World) :
    Calls Try.prog 76 #[a.val A n c B m d, b.val A' n' c' B' m' d'] w fun e w' => e = .returned (.bool (a.twin || b.twin)) ∧ Gr w w' := by
  obtain ⟨id, names, suf, l1, h1, p, tw, stays⟩ := a
  obtain ⟨id', names', suf', l2, h2, q, tw', stays'⟩ := b
  unfold Rcd.val
  dsimp only
  cases tw
  all_goals
    go_enter Try.func76, Try.ntmps76
    go_wp2
    go_ret
    exact ⟨by rfl, by (repeat (first | with_reducible exact Gr.refl _ | with_reducible refine Gr.alloc ?_ _ | with_reducible refine Gr.setCell ?_ (by simp) _ | with_reducible refine Gr.setCell ?_ (by simp; omega) _ | with_reducible refine Gr.drew ?_ | with_reducible refine Gr.drewN ?_ _))⟩

set_option maxRecDepth 100000 in
theorem verd2_any (a b : Rcd) (x : Cmp) (A : Option Addr) (n c : Nat) (B : Option Addr) (m d : Nat) (A' : Option Addr) (n' c' : Nat) (B' : Option Addr) (m' d' : Nat) (w : World) :
    Calls Try.prog 77 #[a.val A n c B m d, b.val A' n' c' B' m' d', x.val] w fun e w' => e = .returned (.bool (x.bi == 0)) ∧ Gr w w' := by
  obtain ⟨id, names, suf, l1, h1, p, tw, stays⟩ := a
  obtain ⟨id', names', suf', l2, h2, q, tw', stays'⟩ := b
  obtain ⟨nm, nu, bi, pl, vd⟩ := x
  unfold Rcd.val Cmp.val
  dsimp only
  go_enter Try.func77, Try.ntmps77
  go_wp2
  go_ret
  exact ⟨by rfl, by (repeat (first | with_reducible exact Gr.refl _ | with_reducible refine Gr.alloc ?_ _ | with_reducible refine Gr.setCell ?_ (by simp) _ | with_reducible refine Gr.setCell ?_ (by simp; omega) _ | with_reducible refine Gr.drew ?_ | with_reducible refine Gr.drewN ?_ _))⟩

set_option maxRecDepth 100000 in
theorem verd3_any (a b : Rcd) (x : Cmp) (A : Option Addr) (n c : Nat) (B : Option Addr) (m d : Nat) (A' : Option Addr) (n' c' : Nat) (B' : Option Addr) (m' d' : Nat) (w : World)
    (ha : 0 ≤ a.suffix ∧ a.suffix ≤ 2) (hb : 0 ≤ b.suffix ∧ b.suffix ≤ 2) :
    Calls Try.prog 78 #[a.val A n c B m d, b.val A' n' c' B' m' d', x.val] w fun e w' => e = .returned (.bool (decide (a.suffix ≠ 0 ∧ b.suffix ≠ 0 ∧ a.suffix ≠ b.suffix))) ∧ Gr w w' := by
  obtain ⟨id, names, suf, l1, h1, p, tw, stays⟩ := a
  obtain ⟨id', names', suf', l2, h2, q, tw', stays'⟩ := b
  obtain ⟨nm, nu, bi, pl, vd⟩ := x
  unfold Rcd.val Cmp.val
  dsimp only at ha hb ⊢
  have e1 : suf = 0 ∨ suf = 1 ∨ suf = 2 := by omega
  have e2 : suf' = 0 ∨ suf' = 1 ∨ suf' = 2 := by omega
  clear ha hb
  rcases e1 with rfl | rfl | rfl <;> rcases e2 with rfl | rfl | rfl
  all_goals
    go_enter Try.func78, Try.ntmps78
    go_wp2
    go_ret
    exact ⟨by rfl, by (repeat (first | with_reducible exact Gr.refl _ | with_reducible refine Gr.alloc ?_ _ | with_reducible refine Gr.setCell ?_ (by simp) _ | with_reducible refine Gr.setCell ?_ (by simp; omega) _ | with_reducible refine Gr.drew ?_ | with_reducible refine Gr.drewN ?_ _))⟩

set_option maxRecDepth 100000 in
theorem verd4_any (a b : Rcd) (x : Cmp) (A : Option Addr) (n c : Nat) (B : Option Addr) (m d : Nat) (A' : Option Addr) (n' c' : Nat) (B' : Option Addr) (m' d' : Nat) (w : World) :
    Calls Try.prog 79 #[a.val A n c B m d, b.val A' n' c' B' m' d', x.val] w fun e w' => e = .returned (.bool (x.nm == 0 && x.nu != 3)) ∧ Gr w w' := by
  obtain ⟨id, names, suf, l1, h1, p, tw, stays⟩ := a
  obtain ⟨id', names', suf', l2, h2, q, tw', stays'⟩ := b
  obtain ⟨nm, nu, bi, pl, vd⟩ := x
  unfold Rcd.val Cmp.val
  dsimp only
  cases e1 : nm == 0
  all_goals
    go_enter Try.func79, Try.ntmps79
    go_wp2
    go_ret
    exact ⟨by rfl, by (repeat (first | with_reducible exact Gr.refl _ | with_reducible refine Gr.alloc ?_ _ | with_reducible refine Gr.setCell ?_ (by simp) _ | with_reducible refine Gr.setCell ?_ (by simp; omega) _ | with_reducible refine Gr.drew ?_ | with_reducible refine Gr.drewN ?_ _))⟩

set_option maxRecDepth 100000 in
theorem verd5_any (a b : Rcd) (x : Cmp) (A : Option Addr) (n c : Nat) (B : Option Addr) (m d : Nat) (A' : Option Addr) (n' c' : Nat) (B' : Option Addr) (m' d' : Nat) (w : World) :
    Calls Try.prog 80 #[a.val A n c B m d, b.val A' n' c' B' m' d', x.val] w fun e w' => e = .returned (.bool (x.nu == 0 && x.pl != 3)) ∧ Gr w w' := by
  obtain ⟨id, names, suf, l1, h1, p, tw, stays⟩ := a
  obtain ⟨id', names', suf', l2, h2, q, tw', stays'⟩ := b
  obtain ⟨nm, nu, bi, pl, vd⟩ := x
  unfold Rcd.val Cmp.val
  dsimp only
  cases e1 : nu == 0
  all_goals
    go_enter Try.func80, Try.ntmps80
    go_wp2
    go_ret
    exact ⟨by rfl, by (repeat (first | with_reducible exact Gr.refl _ | with_reducible refine Gr.alloc ?_ _ | with_reducible refine Gr.setCell ?_ (by simp) _ | with_reducible refine Gr.setCell ?_ (by simp; omega) _ | with_reducible refine Gr.drew ?_ | with_reducible refine Gr.drewN ?_ _))⟩

set_option maxRecDepth 100000 in
theorem verd7_any (a b : Rcd) (x : Cmp) (A : Option Addr) (n c : Nat) (B : Option Addr) (m d : Nat) (A' : Option Addr) (n' c' : Nat) (B' : Option Addr) (m' d' : Nat) (w : World) :
    Calls Try.prog 82 #[a.val A n c B m d, b.val A' n' c' B' m' d', x.val] w fun e w' => e = .returned (.bool (x.nu == 3 && decide (2 ≤ x.nm))) ∧ Gr w w' := by
  obtain ⟨id, names, suf, l1, h1, p, tw, stays⟩ := a
  obtain ⟨id', names', suf', l2, h2, q, tw', stays'⟩ := b
  obtain ⟨nm, nu, bi, pl, vd⟩ := x
  unfold Rcd.val Cmp.val
  dsimp only
  cases e1 : nu == 3
  all_goals
    go_enter Try.func82, Try.ntmps82
    go_wp2
    go_ret
    exact ⟨by rfl, by (repeat (first | with_reducible exact Gr.refl _ | with_reducible refine Gr.alloc ?_ _ | with_reducible refine Gr.setCell ?_ (by simp) _ | with_reducible refine Gr.setCell ?_ (by simp; omega) _ | with_reducible refine Gr.drew ?_ | with_reducible refine Gr.drewN ?_ _))⟩
end Go.Proofs.Ytlkjimfkapcenaa
