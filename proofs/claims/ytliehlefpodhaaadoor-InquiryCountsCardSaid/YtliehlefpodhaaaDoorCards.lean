/-
  DERIVED. GIVEN WITH THE SEED: THE CARDS: each row of YtliehlefpodhaaaDoorRows.lean that lists a variable, with what it lists TIED to the program's text (the seventh form; the later family's looks); each row that meets fmt, with fmt's text TOLD by the authors' own Lean function (tested against real Go, not proved from fmt's source: count such statements apart). THE CARD IS WHAT COUNTS. Prove the row's statement (the work); the ties are given (YtliehlefpodhaaaDoorTie.lean); close each card by the builder's one call (the guide's Derived/Test/ToyasCard.lean, 'card_holds'). Laid BY PROGRAM, IN A SANDBOX (cutbox-door.mjs). By AI agents, Wed Nov 11 2026. No macro, syntax, notation, axiom, sorry.
-/
import Derived.Test.YtliehlefpodhaaaDoorRows
import GoSem.ClaimSeven
namespace Go.Proofs.YtliehlefpodhaaaDoor
namespace Rows

/-- THE TIED CARD OF 'goodnamelaw09.InquiryAsks'. -/
def inquiryAsksCard : Claim7 := { stood := { row := inquiryAsksRow, standIns := [], harness := (true, "41ae3035231df4bd885741b293ce54e768d7d990a8b8c938e13411bf6fd063b2"), looks := false }, kinds := [], alts := [], laidByText := true, laidKinds := [.data, .funcs], laidTests := true, laidLooks := .later }
def InquiryAsksCardSaid : Prop := Claim7.holds Tryd.pinned (.plain (OpenSpec.ofChange inquiryAsksSpec)) inquiryAsksCard

/-- THE TIED CARD OF 'goodnamelaw09.InquiryMerges'. -/
def inquiryMergesCard : Claim7 := { stood := { row := inquiryMergesRow, standIns := [], harness := (true, "41ae3035231df4bd885741b293ce54e768d7d990a8b8c938e13411bf6fd063b2"), looks := false }, kinds := [], alts := [], laidByText := true, laidKinds := [.data], laidTests := true, laidLooks := .later }
def InquiryMergesCardSaid : Prop := Claim7.holds Tryd.pinned (.plain (OpenSpec.ofChange inquiryMergesSpec)) inquiryMergesCard

/-- THE TIED CARD OF 'goodnamelaw09.InquiryExamples'. -/
def inquiryExamplesCard : Claim7 := { stood := { row := inquiryExamplesRow, standIns := [], harness := (true, "41ae3035231df4bd885741b293ce54e768d7d990a8b8c938e13411bf6fd063b2"), looks := false }, kinds := [], alts := [], laidByText := true, laidKinds := [.data, .funcs], laidTests := true, laidLooks := .later }
def InquiryExamplesCardSaid : Prop := Claim7.holds Tryd.pinned (.plain (OpenSpec.ofChange inquiryExamplesSpec)) inquiryExamplesCard

/-- THE TIED CARD OF 'goodnamelaw09.InquiryMarks'. -/
def inquiryMarksCard : Claim7 := { stood := { row := inquiryMarksRow, standIns := [], harness := (true, "41ae3035231df4bd885741b293ce54e768d7d990a8b8c938e13411bf6fd063b2"), looks := false }, kinds := [], alts := [], laidByText := true, laidKinds := [.data, .funcs], laidTests := true, laidLooks := .later }
def InquiryMarksCardSaid : Prop := Claim7.holds Tryd.pinned (.plain (OpenSpec.ofChange inquiryMarksSpec)) inquiryMarksCard

/-- THE TIED CARD OF 'goodnamelaw09.InquiryGates'. -/
def inquiryGatesCard : Claim7 := { stood := { row := inquiryGatesRow, standIns := [], harness := (true, "41ae3035231df4bd885741b293ce54e768d7d990a8b8c938e13411bf6fd063b2"), looks := false }, kinds := [], alts := [], laidByText := true, laidKinds := [.data, .funcs], laidTests := true, laidLooks := .later }
def InquiryGatesCardSaid : Prop := Claim7.holds Tryd.pinned (.plain (OpenSpec.ofChange inquiryGatesSpec)) inquiryGatesCard

/-- THE TIED CARD OF 'goodnamelaw09.InquiryAnyOrder'. -/
def inquiryAnyOrderCard : Claim7 := { stood := { row := inquiryAnyOrderRow, standIns := [], harness := (true, "41ae3035231df4bd885741b293ce54e768d7d990a8b8c938e13411bf6fd063b2"), looks := false }, kinds := [], alts := [], laidByText := true, laidKinds := [.data, .funcs], laidTests := true, laidLooks := .later }
def InquiryAnyOrderCardSaid : Prop := Claim7.holds Tryd.pinned (.plain (OpenSpec.ofChange inquiryAnyOrderSpec)) inquiryAnyOrderCard

/-- THE TIED CARD OF 'goodnamelaw09.InquiryHolds'. -/
def inquiryHoldsCard : Claim7 := { stood := { row := inquiryHoldsRow, standIns := [], harness := (true, "41ae3035231df4bd885741b293ce54e768d7d990a8b8c938e13411bf6fd063b2"), looks := false }, kinds := [], alts := [], laidByText := true, laidKinds := [.data, .funcs], laidTests := true, laidLooks := .later }
def InquiryHoldsCardSaid : Prop := Claim7.holds Tryd.pinned (.plain (OpenSpec.ofChange inquiryHoldsSpec)) inquiryHoldsCard

/-- THE TIED CARD OF 'goodnamelaw09.InquiryOthers'. -/
def inquiryOthersCard : Claim7 := { stood := { row := inquiryOthersRow, standIns := [], harness := (true, "41ae3035231df4bd885741b293ce54e768d7d990a8b8c938e13411bf6fd063b2"), looks := false }, kinds := [], alts := [], laidByText := true, laidKinds := [.data, .funcs], laidTests := true, laidLooks := .later }
def InquiryOthersCardSaid : Prop := Claim7.holds Tryd.pinned (.plain (OpenSpec.ofChange inquiryOthersSpec)) inquiryOthersCard

/-- THE TIED CARD OF 'goodnamelaw09.InquiryCounts'. -/
def inquiryCountsCard : Claim7 := { stood := { row := inquiryCountsRow, standIns := [], harness := (true, "41ae3035231df4bd885741b293ce54e768d7d990a8b8c938e13411bf6fd063b2"), looks := false }, kinds := [], alts := [], laidByText := true, laidKinds := [.data, .funcs], laidTests := true, laidLooks := .later }
def InquiryCountsCardSaid : Prop := Claim7.holds Tryd.pinned (.plain (OpenSpec.ofChange inquiryCountsSpec)) inquiryCountsCard

/-- THE SECOND FORM's CARD OF 'goodnamelaw09.InquiryAsks'. -/
def inquiryAsksUptoCard : Claim7 := { stood := { row := inquiryAsksUptoRow, standIns := [], harness := (true, "41ae3035231df4bd885741b293ce54e768d7d990a8b8c938e13411bf6fd063b2"), looks := false }, kinds := [], alts := [], laidByText := true, laidKinds := [.data, .funcs], laidTests := true, laidLooks := .later }
def InquiryAsksUptoCardSaid : Prop := Claim7.holds Tryd.pinned (.plain (OpenSpec.upto inquiryAsksSpec)) inquiryAsksUptoCard

/-- THE SECOND FORM's CARD OF 'goodnamelaw09.InquiryMerges'. -/
def inquiryMergesUptoCard : Claim7 := { stood := { row := inquiryMergesUptoRow, standIns := [], harness := (true, "41ae3035231df4bd885741b293ce54e768d7d990a8b8c938e13411bf6fd063b2"), looks := false }, kinds := [], alts := [], laidByText := true, laidKinds := [.data], laidTests := true, laidLooks := .later }
def InquiryMergesUptoCardSaid : Prop := Claim7.holds Tryd.pinned (.plain (OpenSpec.upto inquiryMergesSpec)) inquiryMergesUptoCard

/-- THE SECOND FORM's CARD OF 'goodnamelaw09.InquiryExamples'. -/
def inquiryExamplesUptoCard : Claim7 := { stood := { row := inquiryExamplesUptoRow, standIns := [], harness := (true, "41ae3035231df4bd885741b293ce54e768d7d990a8b8c938e13411bf6fd063b2"), looks := false }, kinds := [], alts := [], laidByText := true, laidKinds := [.data, .funcs], laidTests := true, laidLooks := .later }
def InquiryExamplesUptoCardSaid : Prop := Claim7.holds Tryd.pinned (.plain (OpenSpec.upto inquiryExamplesSpec)) inquiryExamplesUptoCard

/-- THE SECOND FORM's CARD OF 'goodnamelaw09.InquiryMarks'. -/
def inquiryMarksUptoCard : Claim7 := { stood := { row := inquiryMarksUptoRow, standIns := [], harness := (true, "41ae3035231df4bd885741b293ce54e768d7d990a8b8c938e13411bf6fd063b2"), looks := false }, kinds := [], alts := [], laidByText := true, laidKinds := [.data, .funcs], laidTests := true, laidLooks := .later }
def InquiryMarksUptoCardSaid : Prop := Claim7.holds Tryd.pinned (.plain (OpenSpec.upto inquiryMarksSpec)) inquiryMarksUptoCard

/-- THE SECOND FORM's CARD OF 'goodnamelaw09.InquiryGates'. -/
def inquiryGatesUptoCard : Claim7 := { stood := { row := inquiryGatesUptoRow, standIns := [], harness := (true, "41ae3035231df4bd885741b293ce54e768d7d990a8b8c938e13411bf6fd063b2"), looks := false }, kinds := [], alts := [], laidByText := true, laidKinds := [.data, .funcs], laidTests := true, laidLooks := .later }
def InquiryGatesUptoCardSaid : Prop := Claim7.holds Tryd.pinned (.plain (OpenSpec.upto inquiryGatesSpec)) inquiryGatesUptoCard

/-- THE SECOND FORM's CARD OF 'goodnamelaw09.InquiryAnyOrder'. -/
def inquiryAnyOrderUptoCard : Claim7 := { stood := { row := inquiryAnyOrderUptoRow, standIns := [], harness := (true, "41ae3035231df4bd885741b293ce54e768d7d990a8b8c938e13411bf6fd063b2"), looks := false }, kinds := [], alts := [], laidByText := true, laidKinds := [.data, .funcs], laidTests := true, laidLooks := .later }
def InquiryAnyOrderUptoCardSaid : Prop := Claim7.holds Tryd.pinned (.plain (OpenSpec.upto inquiryAnyOrderSpec)) inquiryAnyOrderUptoCard

/-- THE SECOND FORM's CARD OF 'goodnamelaw09.InquiryHolds'. -/
def inquiryHoldsUptoCard : Claim7 := { stood := { row := inquiryHoldsUptoRow, standIns := [], harness := (true, "41ae3035231df4bd885741b293ce54e768d7d990a8b8c938e13411bf6fd063b2"), looks := false }, kinds := [], alts := [], laidByText := true, laidKinds := [.data, .funcs], laidTests := true, laidLooks := .later }
def InquiryHoldsUptoCardSaid : Prop := Claim7.holds Tryd.pinned (.plain (OpenSpec.upto inquiryHoldsSpec)) inquiryHoldsUptoCard

/-- THE SECOND FORM's CARD OF 'goodnamelaw09.InquiryOthers'. -/
def inquiryOthersUptoCard : Claim7 := { stood := { row := inquiryOthersUptoRow, standIns := [], harness := (true, "41ae3035231df4bd885741b293ce54e768d7d990a8b8c938e13411bf6fd063b2"), looks := false }, kinds := [], alts := [], laidByText := true, laidKinds := [.data, .funcs], laidTests := true, laidLooks := .later }
def InquiryOthersUptoCardSaid : Prop := Claim7.holds Tryd.pinned (.plain (OpenSpec.upto inquiryOthersSpec)) inquiryOthersUptoCard

/-- THE SECOND FORM's CARD OF 'goodnamelaw09.InquiryCounts'. -/
def inquiryCountsUptoCard : Claim7 := { stood := { row := inquiryCountsUptoRow, standIns := [], harness := (true, "41ae3035231df4bd885741b293ce54e768d7d990a8b8c938e13411bf6fd063b2"), looks := false }, kinds := [], alts := [], laidByText := true, laidKinds := [.data, .funcs], laidTests := true, laidLooks := .later }
def InquiryCountsUptoCardSaid : Prop := Claim7.holds Tryd.pinned (.plain (OpenSpec.upto inquiryCountsSpec)) inquiryCountsUptoCard
end Rows
end Go.Proofs.YtliehlefpodhaaaDoor
