/-
  No cell of these rows narrows 'for every input' (looked for: loops, veiled, ifaces, maps, wideKeys, modest, calm, conditions, laid).
  DERIVED. THE GIVEN ROWS OF THIS SEAT. 8 by the template 'for every input the law returns true; each argument reads behind the call as it read before'; 0 by the template 'total and deterministic' (their statements: YtlkjimfkapcenaaTotals.lean).
  GIVEN WITH THE SEED: the statements are not yours to turn. If you find one false, say at which input.
  Laid BY PROGRAM, IN A SANDBOX (cutbox-rows.mjs): the forced cells as the released guide's own fill.sh prints them over the translation 9d57b07c296f30d6… (all of the seat's roots in one cut). By AI agents, Wed Nov 11 2026. No macro, syntax, notation, axiom, sorry.
-/
import Derived.Test.YtlkjimfkapcenaaChecked
import GoSem.Claim
import GoSem.ClaimJoined
import GoSem.ClaimMapViews
import Derived.JoinedTies
import Derived.KernelRfl
namespace Go.Proofs.Ytlkjimfkapcenaa
/- THE CELL 'sum', in the pinned program and in every row, IS THE sha256 OF THE DUMP (.gsa) THAT YtlkjimfkapcenaaProg.lean LOADS. Nothing in Lean hashes anything: it is a label: what it is worth is what the hold of that sum in a sandbox is worth. -/
noncomputable def Try.pinned : Pinned := { name := "ytlkjimfkapcenaa", sum := "9d57b07c296f30d6c52fb9c9a87c0a6214b8e38b7b0cb33cb3814354c262fdbc", checked := Try.checked }
namespace Rows
def none {H : Type} : Left H := { results := [], args := [] }

/-- 'goodnamelaw01.MatchChecks': WHATEVER THE INPUT: true; the input reads as it did. -/
def matchChecksSpec : ChangeSpec := { name := "matchChecks", fn := fun _ => fun
  | [d1, d2, d3, d4] => { results := [.lit (.bool true)], args := [d1, d2, d3, d4] }
  | _ => none }
def matchChecksRow : OpenClaim := { program := "ytlkjimfkapcenaa", sum := "9d57b07c296f30d6c52fb9c9a87c0a6214b8e38b7b0cb33cb3814354c262fdbc", func := "goodname/goodnamelaw01.MatchChecks", spec := "matchChecks", unfollowed := true, recurses := true, plainKeys := false, apart := false }
def MatchChecksSaid : Prop := matchChecksRow.holds Try.pinned (OpenSpec.ofChange matchChecksSpec)

/-- ITS FALSE NEIGHBOUR: 'it returns false'. Refute it at one input. -/
def matchChecksWrong : ChangeSpec := { name := "matchChecks", fn := fun _ => fun
  | [d1, d2, d3, d4] => { results := [.lit (.bool false)], args := [d1, d2, d3, d4] }
  | _ => none }
def MatchChecksWrongFalsely : Prop := matchChecksRow.holds Try.pinned (OpenSpec.ofChange matchChecksWrong)

/-- 'goodnamelaw01.MatchCompares': WHATEVER THE INPUT: true; the input reads as it did. -/
def matchComparesSpec : ChangeSpec := { name := "matchCompares", fn := fun _ => fun
  | [d1, d2, d3] => { results := [.lit (.bool true)], args := [d1, d2, d3] }
  | _ => none }
def matchComparesRow : OpenClaim := { program := "ytlkjimfkapcenaa", sum := "9d57b07c296f30d6c52fb9c9a87c0a6214b8e38b7b0cb33cb3814354c262fdbc", func := "goodname/goodnamelaw01.MatchCompares", spec := "matchCompares", unfollowed := true, recurses := true, plainKeys := false, apart := false }
def MatchComparesSaid : Prop := matchComparesRow.holds Try.pinned (OpenSpec.ofChange matchComparesSpec)

/-- ITS FALSE NEIGHBOUR: 'it returns false'. Refute it at one input. -/
def matchComparesWrong : ChangeSpec := { name := "matchCompares", fn := fun _ => fun
  | [d1, d2, d3] => { results := [.lit (.bool false)], args := [d1, d2, d3] }
  | _ => none }
def MatchComparesWrongFalsely : Prop := matchComparesRow.holds Try.pinned (OpenSpec.ofChange matchComparesWrong)

/-- 'goodnamelaw01.MatchTrue': WHATEVER THE INPUT: true; the input reads as it did. -/
def matchTrueSpec : ChangeSpec := { name := "matchTrue", fn := fun _ => fun
  | [d1, d2, d3] => { results := [.lit (.bool true)], args := [d1, d2, d3] }
  | _ => none }
def matchTrueRow : OpenClaim := { program := "ytlkjimfkapcenaa", sum := "9d57b07c296f30d6c52fb9c9a87c0a6214b8e38b7b0cb33cb3814354c262fdbc", func := "goodname/goodnamelaw01.MatchTrue", spec := "matchTrue", unfollowed := true, recurses := true, plainKeys := false, apart := false }
def MatchTrueSaid : Prop := matchTrueRow.holds Try.pinned (OpenSpec.ofChange matchTrueSpec)

/-- ITS FALSE NEIGHBOUR: 'it returns false'. Refute it at one input. -/
def matchTrueWrong : ChangeSpec := { name := "matchTrue", fn := fun _ => fun
  | [d1, d2, d3] => { results := [.lit (.bool false)], args := [d1, d2, d3] }
  | _ => none }
def MatchTrueWrongFalsely : Prop := matchTrueRow.holds Try.pinned (OpenSpec.ofChange matchTrueWrong)

/-- 'goodnamelaw01.MatchApart': WHATEVER THE INPUT: true; the input reads as it did. -/
def matchApartSpec : ChangeSpec := { name := "matchApart", fn := fun _ => fun
  | [d1, d2, d3] => { results := [.lit (.bool true)], args := [d1, d2, d3] }
  | _ => none }
def matchApartRow : OpenClaim := { program := "ytlkjimfkapcenaa", sum := "9d57b07c296f30d6c52fb9c9a87c0a6214b8e38b7b0cb33cb3814354c262fdbc", func := "goodname/goodnamelaw01.MatchApart", spec := "matchApart", unfollowed := true, recurses := true, plainKeys := false, apart := false }
def MatchApartSaid : Prop := matchApartRow.holds Try.pinned (OpenSpec.ofChange matchApartSpec)

/-- ITS FALSE NEIGHBOUR: 'it returns false'. Refute it at one input. -/
def matchApartWrong : ChangeSpec := { name := "matchApart", fn := fun _ => fun
  | [d1, d2, d3] => { results := [.lit (.bool false)], args := [d1, d2, d3] }
  | _ => none }
def MatchApartWrongFalsely : Prop := matchApartRow.holds Try.pinned (OpenSpec.ofChange matchApartWrong)

/-- 'goodnamelaw01.MatchEdits': WHATEVER THE INPUT: true; the input reads as it did. -/
def matchEditsSpec : ChangeSpec := { name := "matchEdits", fn := fun _ => fun
  | [d1, d2, d3, d4] => { results := [.lit (.bool true)], args := [d1, d2, d3, d4] }
  | _ => none }
def matchEditsRow : OpenClaim := { program := "ytlkjimfkapcenaa", sum := "9d57b07c296f30d6c52fb9c9a87c0a6214b8e38b7b0cb33cb3814354c262fdbc", func := "goodname/goodnamelaw01.MatchEdits", spec := "matchEdits", unfollowed := true, recurses := true, plainKeys := false, apart := false }
def MatchEditsSaid : Prop := matchEditsRow.holds Try.pinned (OpenSpec.ofChange matchEditsSpec)

/-- ITS FALSE NEIGHBOUR: 'it returns false'. Refute it at one input. -/
def matchEditsWrong : ChangeSpec := { name := "matchEdits", fn := fun _ => fun
  | [d1, d2, d3, d4] => { results := [.lit (.bool false)], args := [d1, d2, d3, d4] }
  | _ => none }
def MatchEditsWrongFalsely : Prop := matchEditsRow.holds Try.pinned (OpenSpec.ofChange matchEditsWrong)

/-- 'goodnamelaw01.MatchMore': WHATEVER THE INPUT: true; the input reads as it did. -/
def matchMoreSpec : ChangeSpec := { name := "matchMore", fn := fun _ => fun
  | [d1, d2, d3, d4] => { results := [.lit (.bool true)], args := [d1, d2, d3, d4] }
  | _ => none }
def matchMoreRow : OpenClaim := { program := "ytlkjimfkapcenaa", sum := "9d57b07c296f30d6c52fb9c9a87c0a6214b8e38b7b0cb33cb3814354c262fdbc", func := "goodname/goodnamelaw01.MatchMore", spec := "matchMore", unfollowed := true, recurses := true, plainKeys := false, apart := false }
def MatchMoreSaid : Prop := matchMoreRow.holds Try.pinned (OpenSpec.ofChange matchMoreSpec)

/-- ITS FALSE NEIGHBOUR: 'it returns false'. Refute it at one input. -/
def matchMoreWrong : ChangeSpec := { name := "matchMore", fn := fun _ => fun
  | [d1, d2, d3, d4] => { results := [.lit (.bool false)], args := [d1, d2, d3, d4] }
  | _ => none }
def MatchMoreWrongFalsely : Prop := matchMoreRow.holds Try.pinned (OpenSpec.ofChange matchMoreWrong)

/-- 'goodnamelaw01.MatchPairs': WHATEVER THE INPUT: true; the input reads as it did. -/
def matchPairsSpec : ChangeSpec := { name := "matchPairs", fn := fun _ => fun
  | [d1, d2, d3] => { results := [.lit (.bool true)], args := [d1, d2, d3] }
  | _ => none }
def matchPairsRow : OpenClaim := { program := "ytlkjimfkapcenaa", sum := "9d57b07c296f30d6c52fb9c9a87c0a6214b8e38b7b0cb33cb3814354c262fdbc", func := "goodname/goodnamelaw01.MatchPairs", spec := "matchPairs", unfollowed := true, recurses := true, plainKeys := false, apart := false }
def MatchPairsSaid : Prop := matchPairsRow.holds Try.pinned (OpenSpec.ofChange matchPairsSpec)

/-- ITS FALSE NEIGHBOUR: 'it returns false'. Refute it at one input. -/
def matchPairsWrong : ChangeSpec := { name := "matchPairs", fn := fun _ => fun
  | [d1, d2, d3] => { results := [.lit (.bool false)], args := [d1, d2, d3] }
  | _ => none }
def MatchPairsWrongFalsely : Prop := matchPairsRow.holds Try.pinned (OpenSpec.ofChange matchPairsWrong)

/-- 'goodnamelaw01.MatchHomes': WHATEVER THE INPUT: true; the input reads as it did. -/
def matchHomesSpec : ChangeSpec := { name := "matchHomes", fn := fun _ => fun
  | [d1, d2, d3] => { results := [.lit (.bool true)], args := [d1, d2, d3] }
  | _ => none }
def matchHomesRow : OpenClaim := { program := "ytlkjimfkapcenaa", sum := "9d57b07c296f30d6c52fb9c9a87c0a6214b8e38b7b0cb33cb3814354c262fdbc", func := "goodname/goodnamelaw01.MatchHomes", spec := "matchHomes", unfollowed := true, recurses := true, plainKeys := false, apart := false }
def MatchHomesSaid : Prop := matchHomesRow.holds Try.pinned (OpenSpec.ofChange matchHomesSpec)

/-- ITS FALSE NEIGHBOUR: 'it returns false'. Refute it at one input. -/
def matchHomesWrong : ChangeSpec := { name := "matchHomes", fn := fun _ => fun
  | [d1, d2, d3] => { results := [.lit (.bool false)], args := [d1, d2, d3] }
  | _ => none }
def MatchHomesWrongFalsely : Prop := matchHomesRow.holds Try.pinned (OpenSpec.ofChange matchHomesWrong)

/- THE SECOND FORM. 'bulk': how many values and letters a reading holds, each counted each time it is reached (what is shared counts as often as it is met; a slice's spare places count too). A statement '..UptoSaid' is the law's where the arguments, and the package variables that the reading takes, are together of bulk at most 1048576: NARROWER than '..Said'. Prove '..Said' where nothing that the law and all that it calls make is longer than what came in: it says more and counts as full. Else prove '..UptoSaid'. A law counts once. -/
mutual
def uptoBulk {H : Type} : DataW H → Nat
  | .lit (.string bytes) => bytes.length + 1
  | .lit _ => 1
  | .nil => 1
  | .ptr d => uptoBulk d + 1
  | .slice elems spare => uptoBulkAll elems + uptoBulkAll spare + 1
  | .agg parts => uptoBulkAll parts + 1
  | .iface _ d => uptoBulk d + 1
  | .map entries => uptoBulkEntries entries + 1
  | .held _ => 1
def uptoBulkAll {H : Type} : List (DataW H) → Nat
  | [] => 0
  | d :: r => uptoBulk d + uptoBulkAll r
def uptoBulkEntries {H : Type} : List (Lit × DataW H) → Nat
  | [] => 0
  | x :: r => uptoBulkEntry x + uptoBulkEntries r
def uptoBulkEntry {H : Type} : Lit × DataW H → Nat
  | (.string bytes, d) => bytes.length + uptoBulk d + 1
  | (_, d) => uptoBulk d + 1
 end
def uptoSmall : (H : Type) → List (DataW H) → Bool := fun _ ds => decide (uptoBulkAll ds ≤ 1048576)
def OpenSpec.upto (s : _root_.Go.ChangeSpec) : _root_.Go.OpenSpec := { _root_.Go.OpenSpec.ofChange s with cond := some uptoSmall }

/-- 'goodnamelaw01.MatchChecks', WHERE WHAT IT READS IS OF BULK AT MOST 1048576: true; the input reads as it did. -/
def matchChecksUptoRow : OpenClaim := { program := "ytlkjimfkapcenaa", sum := "9d57b07c296f30d6c52fb9c9a87c0a6214b8e38b7b0cb33cb3814354c262fdbc", func := "goodname/goodnamelaw01.MatchChecks", spec := "matchChecks", unfollowed := true, recurses := true, plainKeys := false, apart := false, narrowed := true }
def MatchChecksUptoSaid : Prop := matchChecksUptoRow.holds Try.pinned (OpenSpec.upto matchChecksSpec)

/-- 'goodnamelaw01.MatchCompares', WHERE WHAT IT READS IS OF BULK AT MOST 1048576: true; the input reads as it did. -/
def matchComparesUptoRow : OpenClaim := { program := "ytlkjimfkapcenaa", sum := "9d57b07c296f30d6c52fb9c9a87c0a6214b8e38b7b0cb33cb3814354c262fdbc", func := "goodname/goodnamelaw01.MatchCompares", spec := "matchCompares", unfollowed := true, recurses := true, plainKeys := false, apart := false, narrowed := true }
def MatchComparesUptoSaid : Prop := matchComparesUptoRow.holds Try.pinned (OpenSpec.upto matchComparesSpec)

/-- 'goodnamelaw01.MatchTrue', WHERE WHAT IT READS IS OF BULK AT MOST 1048576: true; the input reads as it did. -/
def matchTrueUptoRow : OpenClaim := { program := "ytlkjimfkapcenaa", sum := "9d57b07c296f30d6c52fb9c9a87c0a6214b8e38b7b0cb33cb3814354c262fdbc", func := "goodname/goodnamelaw01.MatchTrue", spec := "matchTrue", unfollowed := true, recurses := true, plainKeys := false, apart := false, narrowed := true }
def MatchTrueUptoSaid : Prop := matchTrueUptoRow.holds Try.pinned (OpenSpec.upto matchTrueSpec)

/-- 'goodnamelaw01.MatchApart', WHERE WHAT IT READS IS OF BULK AT MOST 1048576: true; the input reads as it did. -/
def matchApartUptoRow : OpenClaim := { program := "ytlkjimfkapcenaa", sum := "9d57b07c296f30d6c52fb9c9a87c0a6214b8e38b7b0cb33cb3814354c262fdbc", func := "goodname/goodnamelaw01.MatchApart", spec := "matchApart", unfollowed := true, recurses := true, plainKeys := false, apart := false, narrowed := true }
def MatchApartUptoSaid : Prop := matchApartUptoRow.holds Try.pinned (OpenSpec.upto matchApartSpec)

/-- 'goodnamelaw01.MatchEdits', WHERE WHAT IT READS IS OF BULK AT MOST 1048576: true; the input reads as it did. -/
def matchEditsUptoRow : OpenClaim := { program := "ytlkjimfkapcenaa", sum := "9d57b07c296f30d6c52fb9c9a87c0a6214b8e38b7b0cb33cb3814354c262fdbc", func := "goodname/goodnamelaw01.MatchEdits", spec := "matchEdits", unfollowed := true, recurses := true, plainKeys := false, apart := false, narrowed := true }
def MatchEditsUptoSaid : Prop := matchEditsUptoRow.holds Try.pinned (OpenSpec.upto matchEditsSpec)

/-- 'goodnamelaw01.MatchMore', WHERE WHAT IT READS IS OF BULK AT MOST 1048576: true; the input reads as it did. -/
def matchMoreUptoRow : OpenClaim := { program := "ytlkjimfkapcenaa", sum := "9d57b07c296f30d6c52fb9c9a87c0a6214b8e38b7b0cb33cb3814354c262fdbc", func := "goodname/goodnamelaw01.MatchMore", spec := "matchMore", unfollowed := true, recurses := true, plainKeys := false, apart := false, narrowed := true }
def MatchMoreUptoSaid : Prop := matchMoreUptoRow.holds Try.pinned (OpenSpec.upto matchMoreSpec)

/-- 'goodnamelaw01.MatchPairs', WHERE WHAT IT READS IS OF BULK AT MOST 1048576: true; the input reads as it did. -/
def matchPairsUptoRow : OpenClaim := { program := "ytlkjimfkapcenaa", sum := "9d57b07c296f30d6c52fb9c9a87c0a6214b8e38b7b0cb33cb3814354c262fdbc", func := "goodname/goodnamelaw01.MatchPairs", spec := "matchPairs", unfollowed := true, recurses := true, plainKeys := false, apart := false, narrowed := true }
def MatchPairsUptoSaid : Prop := matchPairsUptoRow.holds Try.pinned (OpenSpec.upto matchPairsSpec)

/-- 'goodnamelaw01.MatchHomes', WHERE WHAT IT READS IS OF BULK AT MOST 1048576: true; the input reads as it did. -/
def matchHomesUptoRow : OpenClaim := { program := "ytlkjimfkapcenaa", sum := "9d57b07c296f30d6c52fb9c9a87c0a6214b8e38b7b0cb33cb3814354c262fdbc", func := "goodname/goodnamelaw01.MatchHomes", spec := "matchHomes", unfollowed := true, recurses := true, plainKeys := false, apart := false, narrowed := true }
def MatchHomesUptoSaid : Prop := matchHomesUptoRow.holds Try.pinned (OpenSpec.upto matchHomesSpec)

end Rows
end Go.Proofs.Ytlkjimfkapcenaa
