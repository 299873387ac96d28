/- ruled of the package match, and Rules of its reference: whether rules are valid. For every input. -/
import Derived.Test.YtlkjimfkapcenaaWithin
namespace Go.Proofs.Ytlkjimfkapcenaa
open Go.RowKit

/-- Rules. -/
structure Rul where
  letters : Int
  digits : Int
  days : Int
  together : Int
def Rul.val (r : Rul) : Value := .agg #[.int .i64 r.letters, .int .i64 r.digits, .int .i64 r.days, .int .i64 r.together]
/-- Whether rules are valid. -/
def Rul.ok (r : Rul) : Bool := (inB 0 5 r.letters && inB 0 5 r.digits) && inB 0 1000 r.days && inB 1 1000 r.together

set_option maxHeartbeats 400000 in
theorem ruled_any (r : Rul) (w : World) :
    Calls Try.prog 33 #[r.val] w fun e w' => e = .returned (.bool r.ok) ∧ Gr w w' := by
  obtain ⟨l, d, y, t⟩ := r
  unfold Rul.val Rul.ok
  obtain ⟨b1, h1⟩ : ∃ b, (inB 0 5 l && inB 0 5 d) = b := ⟨_, rfl⟩
  obtain ⟨b2, h2⟩ : ∃ b, inB 0 1000 y = b := ⟨_, rfl⟩
  obtain ⟨b3, h3⟩ : ∃ b, inB 1 1000 t = b := ⟨_, rfl⟩
  dsimp only
  rw [h1, h2, h3]
  have H1 := hid h1
  have H2 := hid h2
  have H3 := hid h3
  clear h1 h2 h3
  go_enter Try.func33, Try.ntmps33
  go_wp2_with (first
    | (go_at_call 30; (with_reducible refine (within_two 0 5 l d b1 H1.out _ _ _ ?_ ?_ ?_).mono ?_); rotate_right; rintro e w1 ⟨rfl, hbw1⟩; obtain ⟨hcw1, hfw1, hzw1⟩ := hbw1.rules; (try simp at hzw1); have hzw1_0 : w.heap.size < w1.heap.size := (by omega); have hyw1_0 : w.heap.size ≤ w1.heap.size := (by omega))
    | (go_at_call 30; (with_reducible refine (within_one 0 1000 y b2 H2.out _ _ _ ?_ ?_).mono ?_); rotate_right; rintro e w2 ⟨rfl, hbw2⟩; obtain ⟨hcw2, hfw2, hzw2⟩ := hbw2.rules; (try simp at hzw2); have hzw2_0 : w.heap.size < w2.heap.size := (by omega); have hyw2_0 : w.heap.size ≤ w2.heap.size := (by omega))
    | (go_at_call 30; (with_reducible refine (within_one 1 1000 t b3 H3.out _ _ _ ?_ ?_).mono ?_); rotate_right; rintro e w3 ⟨rfl, hbw3⟩; obtain ⟨hcw3, hfw3, hzw3⟩ := hbw3.rules; (try simp at hzw3); have hzw3_0 : w.heap.size < w3.heap.size := (by omega); have hyw3_0 : w.heap.size ≤ w3.heap.size := (by omega)))
  all_goals first
    | (simp; done)
    | (go_ret
       refine ⟨by simp_all, ?_⟩
       (repeat (first | with_reducible exact Gr.refl _ | with_reducible refine Gr.trans ?_ hbw3 | with_reducible refine Gr.trans ?_ hbw2 | with_reducible refine Gr.trans ?_ hbw1 | with_reducible refine Gr.alloc ?_ _ | with_reducible refine Gr.setCell ?_ (by simp) _ | with_reducible refine Gr.setCell ?_ (by simp; omega) _ | with_reducible refine Gr.drew ?_ | with_reducible refine Gr.drewN ?_ _)))

theorem refWithin_any (n lo hi : Int) (r : Bool) (hr : inB lo hi n = r) (w : World) :
    Calls Try.prog 40 #[.int .i64 n, .int .i64 lo, .int .i64 hi] w fun e w' => e = .returned (.bool r) ∧ w = w' := by
  subst hr
  rw [show inB lo hi n = (decide (lo ≤ n) && decide (n ≤ hi)) by unfold inB; rw [Bool.eq_iff_iff]; simp]
  go_enter Try.func40, Try.ntmps40
  go_wp2
  all_goals (go_ret; exact ⟨by (simp_all; try omega), rfl⟩)

set_option maxHeartbeats 400000 in
theorem refRules_any (r : Rul) (w : World) :
    Calls Try.prog 21 #[r.val] w fun e w' => e = .returned (.bool r.ok) ∧ Gr w w' := by
  obtain ⟨l, d, y, t⟩ := r
  unfold Rul.val Rul.ok
  obtain ⟨b1, h1⟩ : ∃ b, inB 0 5 l = b := ⟨_, rfl⟩
  obtain ⟨b0, h0⟩ : ∃ b, inB 0 5 d = b := ⟨_, rfl⟩
  obtain ⟨b2, h2⟩ : ∃ b, inB 0 1000 y = b := ⟨_, rfl⟩
  obtain ⟨b3, h3⟩ : ∃ b, inB 1 1000 t = b := ⟨_, rfl⟩
  dsimp only
  rw [h1, h0, h2, h3]
  have H1 := hid h1
  have H0 := hid h0
  have H2 := hid h2
  have H3 := hid h3
  clear h1 h0 h2 h3
  go_enter Try.func21, Try.ntmps21
  go_wp2_with (first
    | (go_at_call 40; (with_reducible refine (refWithin_any l 0 5 b1 H1.out _).mono ?_); rotate_right; rintro e w' ⟨rfl, rfl⟩)
    | (go_at_call 40; (with_reducible refine (refWithin_any d 0 5 b0 H0.out _).mono ?_); rotate_right; rintro e w' ⟨rfl, rfl⟩)
    | (go_at_call 40; (with_reducible refine (refWithin_any y 0 1000 b2 H2.out _).mono ?_); rotate_right; rintro e w' ⟨rfl, rfl⟩)
    | (go_at_call 40; (with_reducible refine (refWithin_any t 1 1000 b3 H3.out _).mono ?_); rotate_right; rintro e w' ⟨rfl, rfl⟩))
  all_goals
    go_ret
    refine ⟨by simp_all, ?_⟩
    (repeat (first | with_reducible exact Gr.refl _ | with_reducible refine Gr.alloc ?_ _ | with_reducible refine Gr.setCell ?_ (by simp) _ | with_reducible refine Gr.setCell ?_ (by simp; omega) _ | with_reducible refine Gr.drew ?_ | with_reducible refine Gr.drewN ?_ _))

set_option maxHeartbeats 400000 in
theorem refSpanned_any (x y lo hi : Int) (r : Bool) (hr : (inB lo hi x && inB lo hi y && decide (x ≤ y)) = r) (w : World) :
    Calls Try.prog 41 #[.agg #[.int .i64 x, .int .i64 y], .int .i64 lo, .int .i64 hi] w fun e w' => e = .returned (.bool r) ∧ Gr w w' := by
  subst hr
  rw [show (inB lo hi x && inB lo hi y && decide (x ≤ y)) = (decide (lo ≤ x) && decide (x ≤ y) && decide (y ≤ hi)) by unfold inB; rw [Bool.eq_iff_iff]; simp; omega]
  go_enter Try.func41, Try.ntmps41
  go_wp2
  all_goals
    go_ret
    refine ⟨by (simp_all; try omega), ?_⟩
    (repeat (first | with_reducible exact Gr.refl _ | with_reducible refine Gr.alloc ?_ _ | with_reducible refine Gr.setCell ?_ (by simp) _ | with_reducible refine Gr.setCell ?_ (by simp; omega) _ | with_reducible refine Gr.drew ?_ | with_reducible refine Gr.drewN ?_ _))
end Go.Proofs.Ytlkjimfkapcenaa
