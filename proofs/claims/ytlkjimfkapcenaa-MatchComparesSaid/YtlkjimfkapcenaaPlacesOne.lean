/- Whether two stays overlap by the days of together: the closure of the package match's places. For all valid stays. -/
import Derived.Test.YtlkjimfkapcenaaVerdicts
import Derived.Test.YtlkjimfkapcenaaBirths
namespace Go.Proofs.Ytlkjimfkapcenaa
open Go.RowKit

/-- Whether two stays overlap enough. -/
def overB (tg : Int) (s x : Sty) : Bool := decide (tg - 1 ≤ (if s.to_ ≤ x.to_ then s.to_ else x.to_) - (if s.from_ < x.from_ then x.from_ else s.from_))

set_option maxRecDepth 100000 in
set_option maxHeartbeats 1000000 in
theorem places1_any (tg : Int) (s x : Sty) (g1 g2 : Nat) (w : World) (ht : 0 ≤ tg ∧ tg ≤ 1000000)
    (h1 : 0 ≤ s.from_ ∧ s.from_ ≤ 100000) (h2 : 0 ≤ s.to_ ∧ s.to_ ≤ 100000) (h3 : 0 ≤ x.from_ ∧ x.from_ ≤ 100000) (h4 : 0 ≤ x.to_ ∧ x.to_ ≤ 100000)
    (c1 : w.cell? ⟨g1, 1, none⟩ = some (.int .i64 s.from_)) (c2 : w.cell? ⟨g1, 2, none⟩ = some (.int .i64 s.to_)) (c3 : w.cell? ⟨g2, 3, none⟩ = some (.int .i64 tg)) :
    Calls Try.prog 75 #[x.val, .pointer (some ⟨g1, 0, none⟩), .pointer (some ⟨g2, 0, none⟩)] w fun e w' => e = .returned (.bool (overB tg s x)) ∧ Gr w w' := by
  obtain ⟨p, f, t⟩ := s
  obtain ⟨p', f', t'⟩ := x
  unfold Sty.val
  dsimp only at h1 h2 h3 h4 c1 c2 ⊢
  have b1 : g1 < w.heap.size := block_lt_of_cell c1
  have b2 : g2 < w.heap.size := block_lt_of_cell c3
  have n1 : g1 ≠ w.heap.size := by omega
  have n2 : g2 ≠ w.heap.size := by omega
  by_cases m1 : t ≤ t'
  · by_cases m2 : f < f'
    · have E := hid (show overB tg ⟨p, f, t⟩ ⟨p', f', t'⟩ = decide (tg - 1 ≤ t - f') by unfold overB; dsimp only; rw [if_pos m1, if_pos m2])
      go_enter Try.func75, Try.ntmps75
      go_wp2
      go_ret
      exact ⟨by rw [E.out]; rfl, by (repeat (first | with_reducible exact Gr.refl _ | with_reducible refine Gr.alloc ?_ _ | with_reducible refine Gr.setCell ?_ (by simp) _ | with_reducible refine Gr.setCell ?_ (by simp; omega) _ | with_reducible refine Gr.drew ?_ | with_reducible refine Gr.drewN ?_ _))⟩
    · have E := hid (show overB tg ⟨p, f, t⟩ ⟨p', f', t'⟩ = decide (tg - 1 ≤ t - f) by unfold overB; dsimp only; rw [if_pos m1, if_neg m2])
      go_enter Try.func75, Try.ntmps75
      go_wp2
      go_ret
      exact ⟨by rw [E.out]; rfl, by (repeat (first | with_reducible exact Gr.refl _ | with_reducible refine Gr.alloc ?_ _ | with_reducible refine Gr.setCell ?_ (by simp) _ | with_reducible refine Gr.setCell ?_ (by simp; omega) _ | with_reducible refine Gr.drew ?_ | with_reducible refine Gr.drewN ?_ _))⟩
  · by_cases m2 : f < f'
    · have E := hid (show overB tg ⟨p, f, t⟩ ⟨p', f', t'⟩ = decide (tg - 1 ≤ t' - f') by unfold overB; dsimp only; rw [if_neg m1, if_pos m2])
      go_enter Try.func75, Try.ntmps75
      go_wp2
      go_ret
      exact ⟨by rw [E.out]; rfl, by (repeat (first | with_reducible exact Gr.refl _ | with_reducible refine Gr.alloc ?_ _ | with_reducible refine Gr.setCell ?_ (by simp) _ | with_reducible refine Gr.setCell ?_ (by simp; omega) _ | with_reducible refine Gr.drew ?_ | with_reducible refine Gr.drewN ?_ _))⟩
    · have E := hid (show overB tg ⟨p, f, t⟩ ⟨p', f', t'⟩ = decide (tg - 1 ≤ t' - f) by unfold overB; dsimp only; rw [if_neg m1, if_neg m2])
      go_enter Try.func75, Try.ntmps75
      go_wp2
      go_ret
      exact ⟨by rw [E.out]; rfl, by (repeat (first | with_reducible exact Gr.refl _ | with_reducible refine Gr.alloc ?_ _ | with_reducible refine Gr.setCell ?_ (by simp) _ | with_reducible refine Gr.setCell ?_ (by simp; omega) _ | with_reducible refine Gr.drew ?_ | with_reducible refine Gr.drewN ?_ _))⟩
end Go.Proofs.Ytlkjimfkapcenaa
