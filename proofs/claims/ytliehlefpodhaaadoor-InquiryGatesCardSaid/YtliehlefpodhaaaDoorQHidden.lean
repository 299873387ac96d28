/- Which traces are not shown to others, and which lie past a span. For all traces. -/
import Derived.Test.YtliehlefpodhaaaDoorQBase
import Derived.Test.YtliehlefpodhaaaDoorQGs
import Derived.Test.YtliehlefpodhaaaDoorQRegGr
namespace Go.Proofs.YtliehlefpodhaaaDoor
open Go.RowKit Go.Shelf

set_option maxRecDepth 100000 in
set_option maxHeartbeats 2000000 in
theorem hidden_any (t : Trc) (now : Int) (b : Nat) (w : World) (hc : w.cell? ⟨b, 0, none⟩ = some (.int .i64 now)) (h1 : 0 ≤ now ∧ now ≤ 100000) (h2 : 0 ≤ t.day ∧ t.day ≤ 100000) :
    Calls Tryd.prog 44 #[t.val, .pointer (some ⟨b, 0, none⟩)] w fun e w' => e = .returned (.bool (hidB now t)) ∧ Gr w w' := by
  obtain ⟨t0, t1, t2, t3, t4⟩ := t
  unfold Trc.val hidB
  dsimp only at *
  obtain ⟨h3, h4⟩ := h1
  obtain ⟨h5, h6⟩ := h2
  have hb := block_lt_of_cell hc
  have hw : IntKind.i64.wrap (now - t2) = now - t2 := by rw [IntKind.wrap_i64]; omega
  obtain ⟨e1, k1⟩ : ∃ e, (t4 == 0) = e := ⟨_, rfl⟩
  obtain ⟨e2, k2⟩ : ∃ e, (t3 == 1) = e := ⟨_, rfl⟩
  have k1' : (t4 != 0) = !e1 := by rw [← k1]; rfl
  have k2' : (t3 != 1) = !e2 := by rw [← k2]; rfl
  rw [k1', k2']
  cases e1
  case' true => cases e2
  all_goals
    go_enter Tryd.func44, Tryd.ntmps44
    go_wp2
    go_ret
    exact ⟨by first | rfl | simp, by (repeat (first | with_reducible exact Gr.refl _ | with_reducible refine Gr.alloc ?_ _ | with_reducible refine Gr.setCell ?_ (by simp) _ | with_reducible refine Gr.setCell ?_ (by simp; omega) _ | with_reducible refine Gr.drew ?_ | with_reducible refine Gr.drewN ?_ _))⟩

set_option maxRecDepth 100000 in
set_option maxHeartbeats 2000000 in
theorem past_any (t x : Trc) (p : Nat) (A : Option Addr) (n c : Nat) (zs : List Trc) (w : World) (hc : w.cell? ⟨p, 0, none⟩ = some (.slice A n c)) (hr : Rd w 5 A n (zs.flatMap Trc.cells)) (hn : 0 < n) (hx : zs[0]! = x) (hbig : n ≤ 9223372036854775807) (h2 : 0 ≤ x.day ∧ x.day ≤ 100000) :
    Calls Tryd.prog 52 #[t.val, .pointer (some ⟨p, 0, none⟩)] w fun e w' => e = .returned (.bool (decide (t.day > x.day + 14))) ∧ Gr w w' := by
  obtain ⟨hk, b, off, rfl, hb, c0, c1, c2, c3, c4⟩ := hr.trc hn
  rw [hx] at c2
  clear c0 c1 c3 c4 hr hx
  obtain ⟨t0, t1, t2, t3, t4⟩ := t
  obtain ⟨x0, x1, x2, x3, x4⟩ := x
  unfold Trc.val
  dsimp only at *
  obtain ⟨h5, h6⟩ := h2
  have hp := block_lt_of_cell hc
  have hw : IntKind.i64.wrap (x2 + 14) = x2 + 14 := by rw [IntKind.wrap_i64]; omega
  have hn' : (0 : Int) < (n : Int) := by omega
  have hbig' : (n : Int) ≤ 9223372036854775807 := by omega
  simp only [Nat.zero_mul, Nat.add_zero] at c2
  go_enter Tryd.func52, Tryd.ntmps52
  go_wp2
  go_quiet (fail)
  go_wp2
  go_ret
  exact ⟨rfl, by (repeat (first | with_reducible exact Gr.refl _ | with_reducible refine Gr.alloc ?_ _ | with_reducible refine Gr.setCell ?_ (by simp) _ | with_reducible refine Gr.setCell ?_ (by simp; omega) _ | with_reducible refine Gr.drew ?_ | with_reducible refine Gr.drewN ?_ _))⟩
end Go.Proofs.YtliehlefpodhaaaDoor
