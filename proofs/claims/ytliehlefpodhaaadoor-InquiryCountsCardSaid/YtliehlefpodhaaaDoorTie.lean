/-
  DERIVED. GIVEN WITH THE SEED: THE PROGRAM's TIES (one call each: nine closed facts by the kernel) AND EACH ROW's TIE, after the 31st guide's Derived/Test/Toyas{Tie, Card}.lean. No idea stands in it: it is a product of the set-up. Laid BY PROGRAM, IN A SANDBOX (cutbox-door.mjs). By AI agents, Wed Nov 11 2026. No macro, syntax, notation, axiom, sorry.
-/
import Derived.Test.YtliehlefpodhaaaDoorRows
import Derived.LaidByTextLater
import Derived.SevenTiedAt
import Derived.LaidSub
import Derived.LaidOnce
namespace Go.Proofs.YtliehlefpodhaaaDoor
open Go
set_option maxRecDepth 100000
theorem seatTie1 : Tryd.prog.laidByTextLater [("goodname/inquiry.lasts", Rows.laid_goodname_inquiry_lasts), ("goodname/inquiry.rules", Rows.laid_goodname_inquiry_rules)] [.data, .funcs] true :=
  Program.laidByTextLater_by_one 22 8 7 (by kernel_rfl) (by kernel_rfl) (by kernel_rfl) (by kernel_rfl) (by kernel_rfl) (by kernel_rfl) (fun _ _ => by kernel_rfl)
theorem noOwnUnsafe : Tryd.pinned.checked.prog.headLifts.contains "ownunsafe" = false := by kernel_rfl
theorem tie : Tryd.prog.laidByTextLater [("goodname/inquiry.lasts", Rows.laid_goodname_inquiry_lasts), ("goodname/inquiry.rules", Rows.laid_goodname_inquiry_rules)] [.data, .funcs] true :=
  Program.laidByTextLater.sub seatTie1 ["goodname/inquiry.lasts", "goodname/inquiry.rules"] (by kernel_rfl) (by kernel_rfl)
theorem inquiryAsks_row_tie : Rows.inquiryAsksRow.laidByTextAt .later Tryd.pinned [.data, .funcs] true :=
  OpenClaim.laidByTextAt_later rfl rfl tie noOwnUnsafe
theorem inquiryExamples_row_tie : Rows.inquiryExamplesRow.laidByTextAt .later Tryd.pinned [.data, .funcs] true :=
  OpenClaim.laidByTextAt_later rfl rfl tie noOwnUnsafe
theorem inquiryMarks_row_tie : Rows.inquiryMarksRow.laidByTextAt .later Tryd.pinned [.data, .funcs] true :=
  OpenClaim.laidByTextAt_later rfl rfl tie noOwnUnsafe
theorem inquiryGates_row_tie : Rows.inquiryGatesRow.laidByTextAt .later Tryd.pinned [.data, .funcs] true :=
  OpenClaim.laidByTextAt_later rfl rfl tie noOwnUnsafe
theorem inquiryAnyOrder_row_tie : Rows.inquiryAnyOrderRow.laidByTextAt .later Tryd.pinned [.data, .funcs] true :=
  OpenClaim.laidByTextAt_later rfl rfl tie noOwnUnsafe
theorem inquiryHolds_row_tie : Rows.inquiryHoldsRow.laidByTextAt .later Tryd.pinned [.data, .funcs] true :=
  OpenClaim.laidByTextAt_later rfl rfl tie noOwnUnsafe
theorem inquiryOthers_row_tie : Rows.inquiryOthersRow.laidByTextAt .later Tryd.pinned [.data, .funcs] true :=
  OpenClaim.laidByTextAt_later rfl rfl tie noOwnUnsafe
theorem inquiryCounts_row_tie : Rows.inquiryCountsRow.laidByTextAt .later Tryd.pinned [.data, .funcs] true :=
  OpenClaim.laidByTextAt_later rfl rfl tie noOwnUnsafe
theorem tie2 : Tryd.prog.laidByTextLater [("goodname/inquiry.lasts", Rows.laid_goodname_inquiry_lasts)] [.data] true :=
  Program.laidByTextLater.sub seatTie1 ["goodname/inquiry.lasts"] (by kernel_rfl) (by kernel_rfl)
theorem inquiryMerges_row_tie : Rows.inquiryMergesRow.laidByTextAt .later Tryd.pinned [.data] true :=
  OpenClaim.laidByTextAt_later rfl rfl tie2 noOwnUnsafe
theorem inquiryAsksUpto_row_tie : Rows.inquiryAsksUptoRow.laidByTextAt .later Tryd.pinned [.data, .funcs] true :=
  OpenClaim.laidByTextAt_later rfl rfl tie noOwnUnsafe
theorem inquiryMergesUpto_row_tie : Rows.inquiryMergesUptoRow.laidByTextAt .later Tryd.pinned [.data] true :=
  OpenClaim.laidByTextAt_later rfl rfl tie2 noOwnUnsafe
theorem inquiryExamplesUpto_row_tie : Rows.inquiryExamplesUptoRow.laidByTextAt .later Tryd.pinned [.data, .funcs] true :=
  OpenClaim.laidByTextAt_later rfl rfl tie noOwnUnsafe
theorem inquiryMarksUpto_row_tie : Rows.inquiryMarksUptoRow.laidByTextAt .later Tryd.pinned [.data, .funcs] true :=
  OpenClaim.laidByTextAt_later rfl rfl tie noOwnUnsafe
theorem inquiryGatesUpto_row_tie : Rows.inquiryGatesUptoRow.laidByTextAt .later Tryd.pinned [.data, .funcs] true :=
  OpenClaim.laidByTextAt_later rfl rfl tie noOwnUnsafe
theorem inquiryAnyOrderUpto_row_tie : Rows.inquiryAnyOrderUptoRow.laidByTextAt .later Tryd.pinned [.data, .funcs] true :=
  OpenClaim.laidByTextAt_later rfl rfl tie noOwnUnsafe
theorem inquiryHoldsUpto_row_tie : Rows.inquiryHoldsUptoRow.laidByTextAt .later Tryd.pinned [.data, .funcs] true :=
  OpenClaim.laidByTextAt_later rfl rfl tie noOwnUnsafe
theorem inquiryOthersUpto_row_tie : Rows.inquiryOthersUptoRow.laidByTextAt .later Tryd.pinned [.data, .funcs] true :=
  OpenClaim.laidByTextAt_later rfl rfl tie noOwnUnsafe
theorem inquiryCountsUpto_row_tie : Rows.inquiryCountsUptoRow.laidByTextAt .later Tryd.pinned [.data, .funcs] true :=
  OpenClaim.laidByTextAt_later rfl rfl tie noOwnUnsafe
end Go.Proofs.YtliehlefpodhaaaDoor
