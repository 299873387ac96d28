/- The text of an error: "error 10" for 10. No condition. -/
import Derived.Test.YtlkjimfkapcenaaGreatDoorProg
import Derived.Test.YtlkjimfkapcenaaGreatDoorQBase
namespace Go.Proofs.YtlkjimfkapcenaaGreatDoor
open Go.RowKit

set_option maxRecDepth 100000 in
theorem small_ten (w : World) : Calls Tryz.prog 64 #[.int .i64 10] w fun e w' => e = .returned (.string ⟨#[49, 48]⟩) ∧ w = w' := by
  go_enter Tryz.func64, Tryz.ntmps64
  go_wp2
  go_ret
  exact ⟨rfl, rfl⟩
set_option maxRecDepth 100000 in
theorem format_ten (w : World) : Calls Tryz.prog 40 #[.int .i64 10, .int .i64 10] w fun e w' => e = .returned (.string ⟨#[49, 48]⟩) ∧ w = w' := by
  go_enter Tryz.func40, Tryz.ntmps40
  go_wp2_with ((go_at_call 64; (with_reducible refine (small_ten _).mono ?_); rotate_right; rintro e w' ⟨rfl, rfl⟩))
  go_ret
  exact ⟨rfl, rfl⟩
theorem itoa_ten (w : World) : Calls Tryz.prog 25 #[.int .i64 10] w fun e w' => e = .returned (.string ⟨#[49, 48]⟩) ∧ w = w' := by
  go_enter Tryz.func25, Tryz.ntmps25
  go_wp2_with ((go_at_call 40; (with_reducible refine (format_ten _).mono ?_); rotate_right; rintro e w' ⟨rfl, rfl⟩))
  go_ret
  exact ⟨rfl, rfl⟩
theorem itoa_top (w : World) : Calls Tryz.prog 14 #[.int .i64 10] w fun e w' => e = .returned (.string ⟨#[49, 48]⟩) ∧ w = w' := by
  go_enter Tryz.func14, Tryz.ntmps14
  go_wp2_with ((go_at_call 25; (with_reducible refine (itoa_ten _).mono ?_); rotate_right; rintro e w' ⟨rfl, rfl⟩))
  go_ret
  exact ⟨rfl, rfl⟩
theorem err_ten (w : World) : Calls Tryz.prog 5 #[.int .i64 10] w fun e w' => e = .returned (.string ⟨#[101, 114, 114, 111, 114, 32, 49, 48]⟩) ∧ w = w' := by
  go_enter Tryz.func5, Tryz.ntmps5
  go_wp2_with ((go_at_call 14; (with_reducible refine (itoa_top _).mono ?_); rotate_right; rintro e w' ⟨rfl, rfl⟩))
  go_ret
  exact ⟨rfl, rfl⟩
end Go.Proofs.YtlkjimfkapcenaaGreatDoor
