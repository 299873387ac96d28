/- The package match's list of verdicts. -/
import Derived.Test.YtlkjimfkapcenaaVerdictsTwins
import Derived.Test.YtlkjimfkapcenaaAppend
import Derived.Test.YtlkjimfkapcenaaTwin
import Derived.Laws.EntriesVeiled
namespace Go.Proofs.Ytlkjimfkapcenaa
open Go.RowKit

/-- The cells of the list: each test and its verdict. -/
def verdCells (g : Nat) : Array Value :=
  #[.func (.func 77) #[] #[], .int .u8 0, .func (.func 78) #[] #[], .int .u8 0, .func (.func 79) #[] #[], .int .u8 0,
    .func (.func 80) #[] #[], .int .u8 0, .func (.func 81) #[] #[.pointer (some ⟨g, 0, none⟩)], .int .u8 0,
    .func (.func 82) #[] #[], .int .u8 2, .func (.func 83) #[] #[.pointer (some ⟨g, 0, none⟩)], .int .u8 2]

set_option maxRecDepth 100000 in
set_option maxHeartbeats 1000000 in
theorem verdicts_any (w : World) :
    Calls Try.prog 60 #[] w fun e w' => e = .returned (.slice (some ⟨w.heap.size + 1, 0, none⟩) 7 7) ∧
      ∃ T1 T2 : TypeId, w' = (w.alloc (.cells #[.func (.func 76) #[] #[]] T1)).alloc (.cells (verdCells w.heap.size) T2) := by
  go_enter Try.func60, Try.ntmps60
  go_wp2
  go_ret
  exact ⟨by rfl, _, _, by rfl⟩
end Go.Proofs.Ytlkjimfkapcenaa
