/-
  No cell of these rows narrows 'for every input' (looked for: loops, veiled, ifaces, maps, wideKeys, modest, calm, conditions, laid).
  DERIVED. THE GIVEN ROWS OF THIS SEAT. 10 by the template 'for every input the law returns true; each argument reads behind the call as it read before'; 0 by the template 'total and deterministic' (their statements: YtimhkkijoelmhaaTotals.lean).
  GIVEN WITH THE SEED: the statements are not yours to turn. If you find one false, say at which input.
  Laid BY PROGRAM, IN A SANDBOX (cutbox-rows.mjs): the forced cells as the released guide's own fill.sh prints them over the translation 6548ba17e4898599… (all of the seat's roots in one cut). By AI agents, Wed Nov 11 2026. No macro, syntax, notation, axiom, sorry.
-/
import Derived.Test.YtimhkkijoelmhaaChecked
import GoSem.Claim
import GoSem.ClaimJoined
import GoSem.ClaimMapViews
import Derived.JoinedTies
import Derived.KernelRfl
namespace Go.Proofs.Ytimhkkijoelmhaa
/- THE CELL 'sum', in the pinned program and in every row, IS THE sha256 OF THE DUMP (.gsa) THAT YtimhkkijoelmhaaProg.lean LOADS. Nothing in Lean hashes anything: it is a label: what it is worth is what the hold of that sum in a sandbox is worth. -/
noncomputable def Try.pinned : Pinned := { name := "ytimhkkijoelmhaa", sum := "6548ba17e48985995c18d16aebc315ff69fef6e56e21e3660ab33b982094ef8d", checked := Try.checked }
namespace Rows
def none {H : Type} : Left H := { results := [], args := [] }

/-- 'goodnamelaw10.SumSums': WHATEVER THE INPUT: true; the input reads as it did. -/
def sumSumsSpec : ChangeSpec := { name := "sumSums", fn := fun _ => fun
  | [d1, d2, d3] => { results := [.lit (.bool true)], args := [d1, d2, d3] }
  | _ => none }
def sumSumsRow : OpenClaim := { program := "ytimhkkijoelmhaa", sum := "6548ba17e48985995c18d16aebc315ff69fef6e56e21e3660ab33b982094ef8d", func := "goodname/goodnamelaw10.SumSums", spec := "sumSums", unfollowed := true, recurses := true, apart := false }
def SumSumsSaid : Prop := sumSumsRow.holds Try.pinned (OpenSpec.ofChange sumSumsSpec)

/-- ITS FALSE NEIGHBOUR: 'it returns false'. Refute it at one input. -/
def sumSumsWrong : ChangeSpec := { name := "sumSums", fn := fun _ => fun
  | [d1, d2, d3] => { results := [.lit (.bool false)], args := [d1, d2, d3] }
  | _ => none }
def SumSumsWrongFalsely : Prop := sumSumsRow.holds Try.pinned (OpenSpec.ofChange sumSumsWrong)

/-- 'goodnamelaw10.SumDeduces': WHATEVER THE INPUT: true; the input reads as it did. -/
def sumDeducesSpec : ChangeSpec := { name := "sumDeduces", fn := fun _ => fun
  | [d1, d2, d3, d4] => { results := [.lit (.bool true)], args := [d1, d2, d3, d4] }
  | _ => none }
def sumDeducesRow : OpenClaim := { program := "ytimhkkijoelmhaa", sum := "6548ba17e48985995c18d16aebc315ff69fef6e56e21e3660ab33b982094ef8d", func := "goodname/goodnamelaw10.SumDeduces", spec := "sumDeduces", unfollowed := true, recurses := true, apart := false }
def SumDeducesSaid : Prop := sumDeducesRow.holds Try.pinned (OpenSpec.ofChange sumDeducesSpec)

/-- ITS FALSE NEIGHBOUR: 'it returns false'. Refute it at one input. -/
def sumDeducesWrong : ChangeSpec := { name := "sumDeduces", fn := fun _ => fun
  | [d1, d2, d3, d4] => { results := [.lit (.bool false)], args := [d1, d2, d3, d4] }
  | _ => none }
def SumDeducesWrongFalsely : Prop := sumDeducesRow.holds Try.pinned (OpenSpec.ofChange sumDeducesWrong)

/-- 'goodnamelaw10.SumHides': WHATEVER THE INPUT: true; the input reads as it did. -/
def sumHidesSpec : ChangeSpec := { name := "sumHides", fn := fun _ => fun
  | [d1, d2, d3, d4] => { results := [.lit (.bool true)], args := [d1, d2, d3, d4] }
  | _ => none }
def sumHidesRow : OpenClaim := { program := "ytimhkkijoelmhaa", sum := "6548ba17e48985995c18d16aebc315ff69fef6e56e21e3660ab33b982094ef8d", func := "goodname/goodnamelaw10.SumHides", spec := "sumHides", unfollowed := true, recurses := true, apart := false }
def SumHidesSaid : Prop := sumHidesRow.holds Try.pinned (OpenSpec.ofChange sumHidesSpec)

/-- ITS FALSE NEIGHBOUR: 'it returns false'. Refute it at one input. -/
def sumHidesWrong : ChangeSpec := { name := "sumHides", fn := fun _ => fun
  | [d1, d2, d3, d4] => { results := [.lit (.bool false)], args := [d1, d2, d3, d4] }
  | _ => none }
def SumHidesWrongFalsely : Prop := sumHidesRow.holds Try.pinned (OpenSpec.ofChange sumHidesWrong)

/-- 'goodnamelaw10.SumExamples': WHATEVER THE INPUT: true; the input reads as it did. -/
def sumExamplesSpec : ChangeSpec := { name := "sumExamples", fn := fun _ => fun
  | [] => { results := [.lit (.bool true)], args := [] }
  | _ => none }
def sumExamplesRow : OpenClaim := { program := "ytimhkkijoelmhaa", sum := "6548ba17e48985995c18d16aebc315ff69fef6e56e21e3660ab33b982094ef8d", func := "goodname/goodnamelaw10.SumExamples", spec := "sumExamples", unfollowed := true, recurses := true, apart := false }
def SumExamplesSaid : Prop := sumExamplesRow.holds Try.pinned (OpenSpec.ofChange sumExamplesSpec)

/-- ITS FALSE NEIGHBOUR: 'it returns false'. Refute it at one input. -/
def sumExamplesWrong : ChangeSpec := { name := "sumExamples", fn := fun _ => fun
  | [] => { results := [.lit (.bool false)], args := [] }
  | _ => none }
def SumExamplesWrongFalsely : Prop := sumExamplesRow.holds Try.pinned (OpenSpec.ofChange sumExamplesWrong)

/-- 'goodnamelaw10.SumBound': WHATEVER THE INPUT: true; the input reads as it did. -/
def sumBoundSpec : ChangeSpec := { name := "sumBound", fn := fun _ => fun
  | [d1, d2, d3, d4] => { results := [.lit (.bool true)], args := [d1, d2, d3, d4] }
  | _ => none }
def sumBoundRow : OpenClaim := { program := "ytimhkkijoelmhaa", sum := "6548ba17e48985995c18d16aebc315ff69fef6e56e21e3660ab33b982094ef8d", func := "goodname/goodnamelaw10.SumBound", spec := "sumBound", unfollowed := true, recurses := true, apart := false }
def SumBoundSaid : Prop := sumBoundRow.holds Try.pinned (OpenSpec.ofChange sumBoundSpec)

/-- ITS FALSE NEIGHBOUR: 'it returns false'. Refute it at one input. -/
def sumBoundWrong : ChangeSpec := { name := "sumBound", fn := fun _ => fun
  | [d1, d2, d3, d4] => { results := [.lit (.bool false)], args := [d1, d2, d3, d4] }
  | _ => none }
def SumBoundWrongFalsely : Prop := sumBoundRow.holds Try.pinned (OpenSpec.ofChange sumBoundWrong)

/-- 'goodnamelaw10.SumApart': WHATEVER THE INPUT: true; the input reads as it did. -/
def sumApartSpec : ChangeSpec := { name := "sumApart", fn := fun _ => fun
  | [d1, d2, d3, d4] => { results := [.lit (.bool true)], args := [d1, d2, d3, d4] }
  | _ => none }
def sumApartRow : OpenClaim := { program := "ytimhkkijoelmhaa", sum := "6548ba17e48985995c18d16aebc315ff69fef6e56e21e3660ab33b982094ef8d", func := "goodname/goodnamelaw10.SumApart", spec := "sumApart", unfollowed := true, recurses := true, apart := false }
def SumApartSaid : Prop := sumApartRow.holds Try.pinned (OpenSpec.ofChange sumApartSpec)

/-- ITS FALSE NEIGHBOUR: 'it returns false'. Refute it at one input. -/
def sumApartWrong : ChangeSpec := { name := "sumApart", fn := fun _ => fun
  | [d1, d2, d3, d4] => { results := [.lit (.bool false)], args := [d1, d2, d3, d4] }
  | _ => none }
def SumApartWrongFalsely : Prop := sumApartRow.holds Try.pinned (OpenSpec.ofChange sumApartWrong)

/-- 'goodnamelaw10.SumHow': WHATEVER THE INPUT: true; the input reads as it did. -/
def sumHowSpec : ChangeSpec := { name := "sumHow", fn := fun _ => fun
  | [d1, d2, d3, d4] => { results := [.lit (.bool true)], args := [d1, d2, d3, d4] }
  | _ => none }
def sumHowRow : OpenClaim := { program := "ytimhkkijoelmhaa", sum := "6548ba17e48985995c18d16aebc315ff69fef6e56e21e3660ab33b982094ef8d", func := "goodname/goodnamelaw10.SumHow", spec := "sumHow", unfollowed := true, recurses := true, apart := false }
def SumHowSaid : Prop := sumHowRow.holds Try.pinned (OpenSpec.ofChange sumHowSpec)

/-- ITS FALSE NEIGHBOUR: 'it returns false'. Refute it at one input. -/
def sumHowWrong : ChangeSpec := { name := "sumHow", fn := fun _ => fun
  | [d1, d2, d3, d4] => { results := [.lit (.bool false)], args := [d1, d2, d3, d4] }
  | _ => none }
def SumHowWrongFalsely : Prop := sumHowRow.holds Try.pinned (OpenSpec.ofChange sumHowWrong)

/-- 'goodnamelaw10.SumHide': WHATEVER THE INPUT: true; the input reads as it did. -/
def sumHideSpec : ChangeSpec := { name := "sumHide", fn := fun _ => fun
  | [d1, d2, d3, d4] => { results := [.lit (.bool true)], args := [d1, d2, d3, d4] }
  | _ => none }
def sumHideRow : OpenClaim := { program := "ytimhkkijoelmhaa", sum := "6548ba17e48985995c18d16aebc315ff69fef6e56e21e3660ab33b982094ef8d", func := "goodname/goodnamelaw10.SumHide", spec := "sumHide", unfollowed := true, recurses := true, apart := false }
def SumHideSaid : Prop := sumHideRow.holds Try.pinned (OpenSpec.ofChange sumHideSpec)

/-- ITS FALSE NEIGHBOUR: 'it returns false'. Refute it at one input. -/
def sumHideWrong : ChangeSpec := { name := "sumHide", fn := fun _ => fun
  | [d1, d2, d3, d4] => { results := [.lit (.bool false)], args := [d1, d2, d3, d4] }
  | _ => none }
def SumHideWrongFalsely : Prop := sumHideRow.holds Try.pinned (OpenSpec.ofChange sumHideWrong)

/-- 'goodnamelaw10.SumMore': WHATEVER THE INPUT: true; the input reads as it did. -/
def sumMoreSpec : ChangeSpec := { name := "sumMore", fn := fun _ => fun
  | [d1, d2, d3, d4, d5] => { results := [.lit (.bool true)], args := [d1, d2, d3, d4, d5] }
  | _ => none }
def sumMoreRow : OpenClaim := { program := "ytimhkkijoelmhaa", sum := "6548ba17e48985995c18d16aebc315ff69fef6e56e21e3660ab33b982094ef8d", func := "goodname/goodnamelaw10.SumMore", spec := "sumMore", unfollowed := true, recurses := true, apart := false }
def SumMoreSaid : Prop := sumMoreRow.holds Try.pinned (OpenSpec.ofChange sumMoreSpec)

/-- ITS FALSE NEIGHBOUR: 'it returns false'. Refute it at one input. -/
def sumMoreWrong : ChangeSpec := { name := "sumMore", fn := fun _ => fun
  | [d1, d2, d3, d4, d5] => { results := [.lit (.bool false)], args := [d1, d2, d3, d4, d5] }
  | _ => none }
def SumMoreWrongFalsely : Prop := sumMoreRow.holds Try.pinned (OpenSpec.ofChange sumMoreWrong)

/-- 'goodnamelaw10.SumBut': WHATEVER THE INPUT: true; the input reads as it did. -/
def sumButSpec : ChangeSpec := { name := "sumBut", fn := fun _ => fun
  | [d1, d2, d3] => { results := [.lit (.bool true)], args := [d1, d2, d3] }
  | _ => none }
def sumButRow : OpenClaim := { program := "ytimhkkijoelmhaa", sum := "6548ba17e48985995c18d16aebc315ff69fef6e56e21e3660ab33b982094ef8d", func := "goodname/goodnamelaw10.SumBut", spec := "sumBut", unfollowed := true, recurses := true, apart := false }
def SumButSaid : Prop := sumButRow.holds Try.pinned (OpenSpec.ofChange sumButSpec)

/-- ITS FALSE NEIGHBOUR: 'it returns false'. Refute it at one input. -/
def sumButWrong : ChangeSpec := { name := "sumBut", fn := fun _ => fun
  | [d1, d2, d3] => { results := [.lit (.bool false)], args := [d1, d2, d3] }
  | _ => none }
def SumButWrongFalsely : Prop := sumButRow.holds Try.pinned (OpenSpec.ofChange sumButWrong)

/- THE SECOND FORM. 'bulk': how many values and letters a reading holds, each counted each time it is reached (what is shared counts as often as it is met; a slice's spare places count too). A statement '..UptoSaid' is the law's where the arguments, and the package variables that the reading takes, are together of bulk at most 1048576: NARROWER than '..Said'. Prove '..Said' where nothing that the law and all that it calls make is longer than what came in: it says more and counts as full. Else prove '..UptoSaid'. A law counts once. -/
mutual
def uptoBulk {H : Type} : DataW H → Nat
  | .lit (.string bytes) => bytes.length + 1
  | .lit _ => 1
  | .nil => 1
  | .ptr d => uptoBulk d + 1
  | .slice elems spare => uptoBulkAll elems + uptoBulkAll spare + 1
  | .agg parts => uptoBulkAll parts + 1
  | .iface _ d => uptoBulk d + 1
  | .map entries => uptoBulkEntries entries + 1
  | .held _ => 1
def uptoBulkAll {H : Type} : List (DataW H) → Nat
  | [] => 0
  | d :: r => uptoBulk d + uptoBulkAll r
def uptoBulkEntries {H : Type} : List (Lit × DataW H) → Nat
  | [] => 0
  | x :: r => uptoBulkEntry x + uptoBulkEntries r
def uptoBulkEntry {H : Type} : Lit × DataW H → Nat
  | (.string bytes, d) => bytes.length + uptoBulk d + 1
  | (_, d) => uptoBulk d + 1
 end
def uptoSmall : (H : Type) → List (DataW H) → Bool := fun _ ds => decide (uptoBulkAll ds ≤ 1048576)
def OpenSpec.upto (s : _root_.Go.ChangeSpec) : _root_.Go.OpenSpec := { _root_.Go.OpenSpec.ofChange s with cond := some uptoSmall }

/-- 'goodnamelaw10.SumSums', WHERE WHAT IT READS IS OF BULK AT MOST 1048576: true; the input reads as it did. -/
def sumSumsUptoRow : OpenClaim := { program := "ytimhkkijoelmhaa", sum := "6548ba17e48985995c18d16aebc315ff69fef6e56e21e3660ab33b982094ef8d", func := "goodname/goodnamelaw10.SumSums", spec := "sumSums", unfollowed := true, recurses := true, apart := false, narrowed := true }
def SumSumsUptoSaid : Prop := sumSumsUptoRow.holds Try.pinned (OpenSpec.upto sumSumsSpec)

/-- 'goodnamelaw10.SumDeduces', WHERE WHAT IT READS IS OF BULK AT MOST 1048576: true; the input reads as it did. -/
def sumDeducesUptoRow : OpenClaim := { program := "ytimhkkijoelmhaa", sum := "6548ba17e48985995c18d16aebc315ff69fef6e56e21e3660ab33b982094ef8d", func := "goodname/goodnamelaw10.SumDeduces", spec := "sumDeduces", unfollowed := true, recurses := true, apart := false, narrowed := true }
def SumDeducesUptoSaid : Prop := sumDeducesUptoRow.holds Try.pinned (OpenSpec.upto sumDeducesSpec)

/-- 'goodnamelaw10.SumHides', WHERE WHAT IT READS IS OF BULK AT MOST 1048576: true; the input reads as it did. -/
def sumHidesUptoRow : OpenClaim := { program := "ytimhkkijoelmhaa", sum := "6548ba17e48985995c18d16aebc315ff69fef6e56e21e3660ab33b982094ef8d", func := "goodname/goodnamelaw10.SumHides", spec := "sumHides", unfollowed := true, recurses := true, apart := false, narrowed := true }
def SumHidesUptoSaid : Prop := sumHidesUptoRow.holds Try.pinned (OpenSpec.upto sumHidesSpec)

/-- 'goodnamelaw10.SumExamples', WHERE WHAT IT READS IS OF BULK AT MOST 1048576: true; the input reads as it did. -/
def sumExamplesUptoRow : OpenClaim := { program := "ytimhkkijoelmhaa", sum := "6548ba17e48985995c18d16aebc315ff69fef6e56e21e3660ab33b982094ef8d", func := "goodname/goodnamelaw10.SumExamples", spec := "sumExamples", unfollowed := true, recurses := true, apart := false, narrowed := true }
def SumExamplesUptoSaid : Prop := sumExamplesUptoRow.holds Try.pinned (OpenSpec.upto sumExamplesSpec)

/-- 'goodnamelaw10.SumBound', WHERE WHAT IT READS IS OF BULK AT MOST 1048576: true; the input reads as it did. -/
def sumBoundUptoRow : OpenClaim := { program := "ytimhkkijoelmhaa", sum := "6548ba17e48985995c18d16aebc315ff69fef6e56e21e3660ab33b982094ef8d", func := "goodname/goodnamelaw10.SumBound", spec := "sumBound", unfollowed := true, recurses := true, apart := false, narrowed := true }
def SumBoundUptoSaid : Prop := sumBoundUptoRow.holds Try.pinned (OpenSpec.upto sumBoundSpec)

/-- 'goodnamelaw10.SumApart', WHERE WHAT IT READS IS OF BULK AT MOST 1048576: true; the input reads as it did. -/
def sumApartUptoRow : OpenClaim := { program := "ytimhkkijoelmhaa", sum := "6548ba17e48985995c18d16aebc315ff69fef6e56e21e3660ab33b982094ef8d", func := "goodname/goodnamelaw10.SumApart", spec := "sumApart", unfollowed := true, recurses := true, apart := false, narrowed := true }
def SumApartUptoSaid : Prop := sumApartUptoRow.holds Try.pinned (OpenSpec.upto sumApartSpec)

/-- 'goodnamelaw10.SumHow', WHERE WHAT IT READS IS OF BULK AT MOST 1048576: true; the input reads as it did. -/
def sumHowUptoRow : OpenClaim := { program := "ytimhkkijoelmhaa", sum := "6548ba17e48985995c18d16aebc315ff69fef6e56e21e3660ab33b982094ef8d", func := "goodname/goodnamelaw10.SumHow", spec := "sumHow", unfollowed := true, recurses := true, apart := false, narrowed := true }
def SumHowUptoSaid : Prop := sumHowUptoRow.holds Try.pinned (OpenSpec.upto sumHowSpec)

/-- 'goodnamelaw10.SumHide', WHERE WHAT IT READS IS OF BULK AT MOST 1048576: true; the input reads as it did. -/
def sumHideUptoRow : OpenClaim := { program := "ytimhkkijoelmhaa", sum := "6548ba17e48985995c18d16aebc315ff69fef6e56e21e3660ab33b982094ef8d", func := "goodname/goodnamelaw10.SumHide", spec := "sumHide", unfollowed := true, recurses := true, apart := false, narrowed := true }
def SumHideUptoSaid : Prop := sumHideUptoRow.holds Try.pinned (OpenSpec.upto sumHideSpec)

/-- 'goodnamelaw10.SumMore', WHERE WHAT IT READS IS OF BULK AT MOST 1048576: true; the input reads as it did. -/
def sumMoreUptoRow : OpenClaim := { program := "ytimhkkijoelmhaa", sum := "6548ba17e48985995c18d16aebc315ff69fef6e56e21e3660ab33b982094ef8d", func := "goodname/goodnamelaw10.SumMore", spec := "sumMore", unfollowed := true, recurses := true, apart := false, narrowed := true }
def SumMoreUptoSaid : Prop := sumMoreUptoRow.holds Try.pinned (OpenSpec.upto sumMoreSpec)

/-- 'goodnamelaw10.SumBut', WHERE WHAT IT READS IS OF BULK AT MOST 1048576: true; the input reads as it did. -/
def sumButUptoRow : OpenClaim := { program := "ytimhkkijoelmhaa", sum := "6548ba17e48985995c18d16aebc315ff69fef6e56e21e3660ab33b982094ef8d", func := "goodname/goodnamelaw10.SumBut", spec := "sumBut", unfollowed := true, recurses := true, apart := false, narrowed := true }
def SumButUptoSaid : Prop := sumButUptoRow.holds Try.pinned (OpenSpec.upto sumButSpec)

end Rows
end Go.Proofs.Ytimhkkijoelmhaa
