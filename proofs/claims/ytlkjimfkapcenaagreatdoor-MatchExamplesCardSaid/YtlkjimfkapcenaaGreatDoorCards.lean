/-
  DERIVED. GIVEN WITH THE SEED: THE CARDS: each row of YtlkjimfkapcenaaGreatDoorRows.lean that lists a variable, with what it lists TIED to the program's text (the seventh form; the later family's looks); each row that meets fmt, with fmt's text TOLD by the authors' own Lean function (tested against real Go, not proved from fmt's source: count such statements apart). THE CARD IS WHAT COUNTS. Prove the row's statement (the work); the ties are given (YtlkjimfkapcenaaGreatDoorTie.lean); close each card by the builder's one call (the guide's Derived/Test/ToyasCard.lean, 'card_holds'). Laid BY PROGRAM, IN A SANDBOX (cutbox-door.mjs). By AI agents, Wed Nov 11 2026. No macro, syntax, notation, axiom, sorry.
-/
import Derived.Test.YtlkjimfkapcenaaGreatDoorRows
import GoSem.ClaimSeven
namespace Go.Proofs.YtlkjimfkapcenaaGreatDoor
namespace Rows

/-- THE TIED CARD OF 'goodnamelaw01.MatchExamples'. -/
def matchExamplesCard : Claim7 := { stood := { row := matchExamplesRow, standIns := [], harness := (true, "396f29dc66c85857e2f9e77521380eb3aeb743b8f0f1f1947523c674804a0e2b"), looks := false }, kinds := [], alts := [], laidByText := true, laidKinds := [.data, .data, .data], laidTests := true, laidLooks := .later }
def MatchExamplesCardSaid : Prop := Claim7.holds Tryz.pinned (.plain (OpenSpec.ofChange matchExamplesSpec)) matchExamplesCard

/-- THE SECOND FORM's CARD OF 'goodnamelaw01.MatchExamples'. -/
def matchExamplesUptoCard : Claim7 := { stood := { row := matchExamplesUptoRow, standIns := [], harness := (true, "396f29dc66c85857e2f9e77521380eb3aeb743b8f0f1f1947523c674804a0e2b"), looks := false }, kinds := [], alts := [], laidByText := true, laidKinds := [.data, .data, .data], laidTests := true, laidLooks := .later }
def MatchExamplesUptoCardSaid : Prop := Claim7.holds Tryz.pinned (.plain (OpenSpec.upto matchExamplesSpec)) matchExamplesUptoCard
end Rows
end Go.Proofs.YtlkjimfkapcenaaGreatDoor
