/- The closure of among, in the package match. For all words. -/
import Derived.Test.YtlkjimfkapcenaaAlike
namespace Go.Proofs.Ytlkjimfkapcenaa
open Go.RowKit

set_option maxRecDepth 100000 in
set_option maxHeartbeats 1000000 in
theorem among1_any (x y : ByteArray) (k : Int) (g1 g2 : Nat) (w : World) (hx : 0 < x.size) (hy : 0 < y.size) (zx : x.size ≤ 20) (zy : y.size ≤ 20)
    (c1 : w.cell? ⟨g1, 0, none⟩ = some (.string y)) (c2 : w.cell? ⟨g2, 0, none⟩ = some (.int .i64 k)) :
    Calls Try.prog 93 #[.string x, .pointer (some ⟨g1, 0, none⟩), .pointer (some ⟨g2, 0, none⟩)] w fun e w' => e = .returned (.bool (alikeB y x k)) ∧ Gr w w' := by
  have HL := hid (fun W => alike_any y x k W hy hx zy zx)
  clear hx hy zx zy
  generalize alikeB y x k = v at HL
  go_enter Try.func93, Try.ntmps93
  go_wp2_with ((go_at_call 94; (with_reducible refine (HL.out _).mono ?_); rotate_right; rintro e w1 ⟨rfl, hbw1⟩; obtain ⟨hcw1, hfw1, hzw1⟩ := hbw1.rules; (try simp at hzw1)))
  go_ret
  exact ⟨by rfl, by (repeat (first | with_reducible exact Gr.refl _ | with_reducible refine Gr.trans ?_ hbw1 | with_reducible refine Gr.alloc ?_ _ | with_reducible refine Gr.setCell ?_ (by simp) _ | with_reducible refine Gr.setCell ?_ (by simp; omega) _ | with_reducible refine Gr.drew ?_ | with_reducible refine Gr.drewN ?_ _))⟩
end Go.Proofs.Ytlkjimfkapcenaa
