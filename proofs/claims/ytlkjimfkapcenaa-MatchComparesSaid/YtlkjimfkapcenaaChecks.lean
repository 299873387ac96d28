/- Check of the package match and of its reference. For all rules and records. -/
import Derived.Test.YtlkjimfkapcenaaRefRecord
namespace Go.Proofs.Ytlkjimfkapcenaa
open Go.RowKit

/-- The error of rules and a record. -/
def checkN (r : Rul) (a : Rcd) : Int := if r.ok then (if a.ok then 0 else 11) else 10

set_option maxHeartbeats 400000 in
theorem check_any (r : Rul) (a : Rcd) (A : Option Addr) (n c : Nat) (B : Option Addr) (m d : Nat) (w : World) (ha : a.In w A n B m) :
    Calls Try.prog 15 #[r.val, a.val A n c B m d] w fun e w' => e = .returned (.int .i64 (checkN r a)) ∧ Gr w w' := by
  unfold checkN
  have HU := hid (fun W => ruled_any r W)
  have HR := hid (fun W (h : Gr w W) => recorded_any a A n c B m d W (ha.gr h))
  obtain ⟨b1, h1⟩ : ∃ b, r.ok = b := ⟨_, rfl⟩
  obtain ⟨b2, h2⟩ : ∃ b, a.ok = b := ⟨_, rfl⟩
  rw [h1] at HU ⊢
  rw [h2] at HR ⊢
  clear h1 h2 ha
  unfold Rul.val at HU ⊢
  unfold Rcd.val at HR ⊢
  cases b1 <;> cases b2
  all_goals
    go_enter Try.func15, Try.ntmps15
    go_wp2_with (first
      | (go_at_call 33; (with_reducible refine (HU.out _).mono ?_); rotate_right; rintro e w1 ⟨rfl, hbw1⟩; obtain ⟨hcw1, hfw1, hzw1⟩ := hbw1.rules; (try simp at hzw1); have hzw1_0 : w.heap.size < w1.heap.size := (by omega); have hyw1_0 : w.heap.size ≤ w1.heap.size := (by omega); have hzw1_1 : w.heap.size + 1 < w1.heap.size := (by omega); have hyw1_1 : w.heap.size + 1 ≤ w1.heap.size := (by omega))
      | (go_at_call 34; (with_reducible refine (HR.out _ ?_).mono ?_); rotate_right; rintro e w2 ⟨rfl, hbw2⟩; obtain ⟨hcw2, hfw2, hzw2⟩ := hbw2.rules; (try simp at hzw2); have hzw2_0 : w.heap.size < w2.heap.size := (by omega); have hyw2_0 : w.heap.size ≤ w2.heap.size := (by omega)))
    all_goals first
      | (go_ret
         refine ⟨rfl, ?_⟩
         (repeat (first | with_reducible exact Gr.refl _ | with_reducible refine Gr.trans ?_ hbw2 | with_reducible refine Gr.trans ?_ hbw1 | with_reducible refine Gr.alloc ?_ _ | with_reducible refine Gr.setCell ?_ (by simp) _ | with_reducible refine Gr.setCell ?_ (by simp; omega) _ | with_reducible refine Gr.drew ?_ | with_reducible refine Gr.drewN ?_ _)))
      | ((repeat (first | with_reducible exact Gr.refl _ | with_reducible refine Gr.trans ?_ hbw2 | with_reducible refine Gr.trans ?_ hbw1 | with_reducible refine Gr.alloc ?_ _ | with_reducible refine Gr.setCell ?_ (by simp) _ | with_reducible refine Gr.setCell ?_ (by simp; omega) _ | with_reducible refine Gr.drew ?_ | with_reducible refine Gr.drewN ?_ _)); done)

set_option maxHeartbeats 400000 in
theorem refCheck_any (r : Rul) (a : Rcd) (A : Option Addr) (n c : Nat) (B : Option Addr) (m d : Nat) (w : World) (ha : a.In w A n B m) :
    Calls Try.prog 16 #[r.val, a.val A n c B m d] w fun e w' => e = .returned (.int .i64 (checkN r a)) ∧ Gr w w' := by
  unfold checkN
  have HU := hid (fun W => refRules_any r W)
  have HR := hid (fun W (h : Gr w W) => refRecord_any a A n c B m d W (ha.gr h))
  obtain ⟨b1, h1⟩ : ∃ b, r.ok = b := ⟨_, rfl⟩
  obtain ⟨b2, h2⟩ : ∃ b, a.ok = b := ⟨_, rfl⟩
  rw [h1] at HU ⊢
  rw [h2] at HR ⊢
  clear h1 h2 ha
  unfold Rul.val at HU ⊢
  unfold Rcd.val at HR ⊢
  cases b1 <;> cases b2
  all_goals
    go_enter Try.func16, Try.ntmps16
    go_wp2_with (first
      | (go_at_call 21; (with_reducible refine (HU.out _).mono ?_); rotate_right; rintro e w1 ⟨rfl, hbw1⟩; obtain ⟨hcw1, hfw1, hzw1⟩ := hbw1.rules; (try simp at hzw1); have hzw1_0 : w.heap.size < w1.heap.size := (by omega); have hyw1_0 : w.heap.size ≤ w1.heap.size := (by omega); have hzw1_1 : w.heap.size + 1 < w1.heap.size := (by omega); have hyw1_1 : w.heap.size + 1 ≤ w1.heap.size := (by omega))
      | (go_at_call 22; (with_reducible refine (HR.out _ ?_).mono ?_); rotate_right; rintro e w2 ⟨rfl, hbw2⟩; obtain ⟨hcw2, hfw2, hzw2⟩ := hbw2.rules; (try simp at hzw2); have hzw2_0 : w.heap.size < w2.heap.size := (by omega); have hyw2_0 : w.heap.size ≤ w2.heap.size := (by omega)))
    all_goals first
      | (go_ret
         refine ⟨rfl, ?_⟩
         (repeat (first | with_reducible exact Gr.refl _ | with_reducible refine Gr.trans ?_ hbw2 | with_reducible refine Gr.trans ?_ hbw1 | with_reducible refine Gr.alloc ?_ _ | with_reducible refine Gr.setCell ?_ (by simp) _ | with_reducible refine Gr.setCell ?_ (by simp; omega) _ | with_reducible refine Gr.drew ?_ | with_reducible refine Gr.drewN ?_ _)))
      | ((repeat (first | with_reducible exact Gr.refl _ | with_reducible refine Gr.trans ?_ hbw2 | with_reducible refine Gr.trans ?_ hbw1 | with_reducible refine Gr.alloc ?_ _ | with_reducible refine Gr.setCell ?_ (by simp) _ | with_reducible refine Gr.setCell ?_ (by simp; omega) _ | with_reducible refine Gr.drew ?_ | with_reducible refine Gr.drewN ?_ _)); done)
end Go.Proofs.Ytlkjimfkapcenaa
