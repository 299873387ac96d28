/- Edits of the package match and of its reference. For any two words. -/
import Derived.Test.YtlkjimfkapcenaaEdits
import Derived.Test.YtlkjimfkapcenaaRefEdits
namespace Go.Proofs.Ytlkjimfkapcenaa
open Go.RowKit

/-- Whether both are words. -/
def edOk (a b : ByteArray) : Bool := inB 0 20 a.size && inB 0 20 b.size
/-- The edits, and the error. -/
def edN (a b : ByteArray) : Int := if edOk a b then lev a b a.size b.size else 0
def edE (a b : ByteArray) : Int := if edOk a b then 0 else 2

set_option maxHeartbeats 400000 in
theorem editsTop_any (a b : ByteArray) (w : World) (ha : a.size ≤ maxLen) (hb : b.size ≤ maxLen) :
    Calls Try.prog 13 #[.string a, .string b] w fun e w' => e = .returned (.tuple #[.int .i64 (edN a b), .int .i64 (edE a b)]) ∧ Gr w w' := by
  unfold maxLen at ha hb
  have ha' : (a.size : Int) ≤ 9223372036854775807 := by omega
  have hb' : (b.size : Int) ≤ 9223372036854775807 := by omega
  clear ha hb
  unfold edN edE
  cases h : edOk a b with
  | false =>
    have H := hid (show (inB 0 20 a.size && inB 0 20 b.size) = false from h)
    clear h
    go_enter Try.func13, Try.ntmps13
    go_wp2_with (first
      | (go_at_call 30; (with_reducible refine (within_two 0 20 a.size b.size _ H.out _ _ _ ?_ ?_ ?_).mono ?_); rotate_right; rintro e w1 ⟨rfl, hbw1⟩; obtain ⟨hcw1, hfw1, hzw1⟩ := hbw1.rules; (try simp at hzw1); have hzw1_0 : w.heap.size < w1.heap.size := (by omega); have hyw1_0 : w.heap.size ≤ w1.heap.size := (by omega)))
    all_goals first
      | (simp; done)
      | (go_ret2
         refine ⟨rfl, ?_⟩
         (repeat (first | with_reducible exact Gr.refl _ | with_reducible refine Gr.trans ?_ hbw1 | with_reducible refine Gr.alloc ?_ _ | with_reducible refine Gr.setCell ?_ (by simp) _ | with_reducible refine Gr.setCell ?_ (by simp; omega) _ | with_reducible refine Gr.drew ?_ | with_reducible refine Gr.drewN ?_ _)))
  | true =>
    have H := hid (show (inB 0 20 a.size && inB 0 20 b.size) = true from h)
    have HE := hid (fun W => edits_any a b W (by have := H.out; unfold inB at this; simp at this; omega) (by have := H.out; unfold inB at this; simp at this; omega))
    clear h
    go_enter Try.func13, Try.ntmps13
    go_wp2_with (first
      | (go_at_call 30; (with_reducible refine (within_two 0 20 a.size b.size _ H.out _ _ _ ?_ ?_ ?_).mono ?_); rotate_right; rintro e w1 ⟨rfl, hbw1⟩; obtain ⟨hcw1, hfw1, hzw1⟩ := hbw1.rules; (try simp at hzw1); have hzw1_0 : w.heap.size < w1.heap.size := (by omega); have hyw1_0 : w.heap.size ≤ w1.heap.size := (by omega))
      | (go_at_call 31; (with_reducible refine (HE.out _).mono ?_); rotate_right; rintro e w2 ⟨rfl, hbw2⟩; obtain ⟨hcw2, hfw2, hzw2⟩ := hbw2.rules; (try simp at hzw2); have hzw2_0 : w.heap.size < w2.heap.size := (by omega); have hyw2_0 : w.heap.size ≤ w2.heap.size := (by omega)))
    all_goals first
      | (simp; done)
      | (go_ret2
         refine ⟨rfl, ?_⟩
         (repeat (first | with_reducible exact Gr.refl _ | with_reducible refine Gr.trans ?_ hbw2 | with_reducible refine Gr.trans ?_ hbw1 | with_reducible refine Gr.alloc ?_ _ | with_reducible refine Gr.setCell ?_ (by simp) _ | with_reducible refine Gr.setCell ?_ (by simp; omega) _ | with_reducible refine Gr.drew ?_ | with_reducible refine Gr.drewN ?_ _)))

set_option maxHeartbeats 400000 in
theorem refEditsTop_any (a b : ByteArray) (w : World) (ha : a.size ≤ maxLen) (hb : b.size ≤ maxLen) :
    Calls Try.prog 14 #[.string a, .string b] w fun e w' => e = .returned (.tuple #[.int .i64 (edN a b), .int .i64 (edE a b)]) ∧ Gr w w' := by
  unfold maxLen at ha hb
  have ha' : (a.size : Int) ≤ 9223372036854775807 := by omega
  have hb' : (b.size : Int) ≤ 9223372036854775807 := by omega
  clear ha hb
  unfold edN edE
  by_cases h : a.size ≤ 20 ∧ b.size ≤ 20
  · rw [show edOk a b = true by unfold edOk inB; simp; omega]
    obtain ⟨h1, h2⟩ := h
    have HE := hid (fun W => refEdits_any a b W (by omega) (by omega))
    have h1' : (a.size : Int) ≤ 20 := by omega
    have h2' : (b.size : Int) ≤ 20 := by omega
    clear h1 h2
    go_enter Try.func14, Try.ntmps14
    go_wp2_with (first
      | (go_at_call 32; (with_reducible refine (HE.out _).mono ?_); rotate_right; rintro e w2 ⟨rfl, hbw2⟩; obtain ⟨hcw2, hfw2, hzw2⟩ := hbw2.rules; (try simp at hzw2)))
    go_ret2
    refine ⟨rfl, ?_⟩
    (repeat (first | with_reducible exact Gr.refl _ | with_reducible refine Gr.trans ?_ hbw2 | with_reducible refine Gr.alloc ?_ _ | with_reducible refine Gr.setCell ?_ (by simp) _ | with_reducible refine Gr.setCell ?_ (by simp; omega) _ | with_reducible refine Gr.drew ?_ | with_reducible refine Gr.drewN ?_ _))
  · rw [show edOk a b = false by unfold edOk inB; rw [Bool.eq_false_iff]; simp; omega]
    by_cases h1 : a.size ≤ 20
    · have h1' : (a.size : Int) ≤ 20 := by omega
      have h2' : (20 : Int) < b.size := by omega
      clear h h1
      go_enter Try.func14, Try.ntmps14
      go_wp2
      go_ret2
      exact ⟨rfl, Gr.refl w⟩
    · have h1' : (20 : Int) < a.size := by omega
      clear h h1
      go_enter Try.func14, Try.ntmps14
      go_wp2
      go_ret2
      exact ⟨rfl, Gr.refl w⟩
end Go.Proofs.Ytlkjimfkapcenaa
