/-
  NARROWER THAN 'FOR EVERY INPUT', by the rows' own cells (each row's printed sentence says how): InquiryAsks: laid · InquiryMerges: laid · InquiryExamples: laid · InquiryMarks: laid · InquiryGates: laid · InquiryAnyOrder: laid · InquiryHolds: laid · InquiryOthers: laid · InquiryCounts: laid.
  DERIVED. THE GIVEN ROWS OF THIS SEAT. 9 by the template 'for every input the law returns true; each argument reads behind the call as it read before'; 0 by the template 'total and deterministic' (their statements: YtliehlefpodhaaaDoorTotals.lean).
  GIVEN WITH THE SEED: the statements are not yours to turn. If you find one false, say at which input.
  Laid BY PROGRAM, IN A SANDBOX (cutbox-rows.mjs): the forced cells as the released guide's own fill.sh prints them over the translation 2b7a79d101d08f99… (all of the seat's roots in one cut). By AI agents, Wed Nov 11 2026. No macro, syntax, notation, axiom, sorry.
-/
import Derived.Test.YtliehlefpodhaaaDoorChecked
import GoSem.Claim
import GoSem.ClaimJoined
import GoSem.ClaimMapViews
import Derived.JoinedTies
import Derived.KernelRfl
namespace Go.Proofs.YtliehlefpodhaaaDoor
/- THE CELL 'sum', in the pinned program and in every row, IS THE sha256 OF THE DUMP (.gsa) THAT YtliehlefpodhaaaDoorProg.lean LOADS. Nothing in Lean hashes anything: it is a label: what it is worth is what the hold of that sum in a sandbox is worth. -/
noncomputable def Tryd.pinned : Pinned := { name := "ytliehlefpodhaaadoor", sum := "2b7a79d101d08f995e8a41243c59e1d41a70c00a3f5b1f9680d1115660c3e010", checked := Tryd.checked }
namespace Rows
def none {H : Type} : Left H := { results := [], args := [] }

/- WHAT THE LISTED PACKAGE-LEVEL VARIABLES READ AS WHEN THE CALL BEGINS. Each datum BY PROGRAM (the guide's laid-datum.mjs) off the statement by which the dump's own 'gosem.cut.vars' lays the variable. In a bare row this is a premise. The card (YtliehlefpodhaaaDoorCards.lean) ties it to the program's text. -/
def laid_goodname_inquiry_lasts {H : Type} : DataW H := .agg [.lit (.bool false), .lit (.bool false), .lit (.bool false), .lit (.bool true), .lit (.bool true), .lit (.bool false)]
def laid_goodname_inquiry_rules {H : Type} : DataW H := .iface "func table" (.slice [.agg [.lit (.int .u8 1), .iface "func" (.lit (.string [103, 111, 111, 100, 110, 97, 109, 101, 47, 105, 110, 113, 117, 105, 114, 121, 46, 114, 117, 108, 101, 115, 36, 49]))], .agg [.lit (.int .u8 2), .iface "func" (.lit (.string [103, 111, 111, 100, 110, 97, 109, 101, 47, 105, 110, 113, 117, 105, 114, 121, 46, 114, 117, 108, 101, 115, 36, 50]))], .agg [.lit (.int .u8 3), .iface "func" (.lit (.string [103, 111, 111, 100, 110, 97, 109, 101, 47, 105, 110, 113, 117, 105, 114, 121, 46, 114, 117, 108, 101, 115, 36, 51]))]] [])

/-- 'goodnamelaw09.InquiryAsks': WHATEVER THE INPUT: true; the input reads as it did. -/
def inquiryAsksSpec : ChangeSpec := { name := "inquiryAsks", fn := fun _ => fun
  | [d1, d2, d3, d4, d5, d6] => { results := [.lit (.bool true)], args := [d1, d2, d3, d4, d5, d6] }
  | _ => none }
def inquiryAsksRow : OpenClaim := { program := "ytliehlefpodhaaadoor", sum := "2b7a79d101d08f995e8a41243c59e1d41a70c00a3f5b1f9680d1115660c3e010", func := "goodname/goodnamelaw09.InquiryAsks", spec := "inquiryAsks", unfollowed := true, recurses := true, named := ["goodname/inquiry.lasts", "goodname/inquiry.rules"], plainKeys := false, apart := false, laid := [("goodname/inquiry.lasts", laid_goodname_inquiry_lasts), ("goodname/inquiry.rules", laid_goodname_inquiry_rules)] }
def InquiryAsksSaid : Prop := inquiryAsksRow.holds Tryd.pinned (OpenSpec.ofChange inquiryAsksSpec)

/-- ITS FALSE NEIGHBOUR: 'it returns false'. Refute it at one input. -/
def inquiryAsksWrong : ChangeSpec := { name := "inquiryAsks", fn := fun _ => fun
  | [d1, d2, d3, d4, d5, d6] => { results := [.lit (.bool false)], args := [d1, d2, d3, d4, d5, d6] }
  | _ => none }
def InquiryAsksWrongFalsely : Prop := inquiryAsksRow.holds Tryd.pinned (OpenSpec.ofChange inquiryAsksWrong)

/-- 'goodnamelaw09.InquiryMerges': WHATEVER THE INPUT: true; the input reads as it did. -/
def inquiryMergesSpec : ChangeSpec := { name := "inquiryMerges", fn := fun _ => fun
  | [d1, d2, d3, d4] => { results := [.lit (.bool true)], args := [d1, d2, d3, d4] }
  | _ => none }
def inquiryMergesRow : OpenClaim := { program := "ytliehlefpodhaaadoor", sum := "2b7a79d101d08f995e8a41243c59e1d41a70c00a3f5b1f9680d1115660c3e010", func := "goodname/goodnamelaw09.InquiryMerges", spec := "inquiryMerges", unfollowed := true, recurses := true, named := ["goodname/inquiry.lasts"], plainKeys := false, apart := false, laid := [("goodname/inquiry.lasts", laid_goodname_inquiry_lasts)] }
def InquiryMergesSaid : Prop := inquiryMergesRow.holds Tryd.pinned (OpenSpec.ofChange inquiryMergesSpec)

/-- ITS FALSE NEIGHBOUR: 'it returns false'. Refute it at one input. -/
def inquiryMergesWrong : ChangeSpec := { name := "inquiryMerges", fn := fun _ => fun
  | [d1, d2, d3, d4] => { results := [.lit (.bool false)], args := [d1, d2, d3, d4] }
  | _ => none }
def InquiryMergesWrongFalsely : Prop := inquiryMergesRow.holds Tryd.pinned (OpenSpec.ofChange inquiryMergesWrong)

/-- 'goodnamelaw09.InquiryExamples': WHATEVER THE INPUT: true; the input reads as it did. -/
def inquiryExamplesSpec : ChangeSpec := { name := "inquiryExamples", fn := fun _ => fun
  | [] => { results := [.lit (.bool true)], args := [] }
  | _ => none }
def inquiryExamplesRow : OpenClaim := { program := "ytliehlefpodhaaadoor", sum := "2b7a79d101d08f995e8a41243c59e1d41a70c00a3f5b1f9680d1115660c3e010", func := "goodname/goodnamelaw09.InquiryExamples", spec := "inquiryExamples", unfollowed := true, recurses := true, named := ["goodname/inquiry.lasts", "goodname/inquiry.rules"], plainKeys := false, apart := false, laid := [("goodname/inquiry.lasts", laid_goodname_inquiry_lasts), ("goodname/inquiry.rules", laid_goodname_inquiry_rules)] }
def InquiryExamplesSaid : Prop := inquiryExamplesRow.holds Tryd.pinned (OpenSpec.ofChange inquiryExamplesSpec)

/-- ITS FALSE NEIGHBOUR: 'it returns false'. Refute it at one input. -/
def inquiryExamplesWrong : ChangeSpec := { name := "inquiryExamples", fn := fun _ => fun
  | [] => { results := [.lit (.bool false)], args := [] }
  | _ => none }
def InquiryExamplesWrongFalsely : Prop := inquiryExamplesRow.holds Tryd.pinned (OpenSpec.ofChange inquiryExamplesWrong)

/-- 'goodnamelaw09.InquiryMarks': WHATEVER THE INPUT: true; the input reads as it did. -/
def inquiryMarksSpec : ChangeSpec := { name := "inquiryMarks", fn := fun _ => fun
  | [d1, d2, d3, d4] => { results := [.lit (.bool true)], args := [d1, d2, d3, d4] }
  | _ => none }
def inquiryMarksRow : OpenClaim := { program := "ytliehlefpodhaaadoor", sum := "2b7a79d101d08f995e8a41243c59e1d41a70c00a3f5b1f9680d1115660c3e010", func := "goodname/goodnamelaw09.InquiryMarks", spec := "inquiryMarks", unfollowed := true, recurses := true, named := ["goodname/inquiry.lasts", "goodname/inquiry.rules"], plainKeys := false, apart := false, laid := [("goodname/inquiry.lasts", laid_goodname_inquiry_lasts), ("goodname/inquiry.rules", laid_goodname_inquiry_rules)] }
def InquiryMarksSaid : Prop := inquiryMarksRow.holds Tryd.pinned (OpenSpec.ofChange inquiryMarksSpec)

/-- ITS FALSE NEIGHBOUR: 'it returns false'. Refute it at one input. -/
def inquiryMarksWrong : ChangeSpec := { name := "inquiryMarks", fn := fun _ => fun
  | [d1, d2, d3, d4] => { results := [.lit (.bool false)], args := [d1, d2, d3, d4] }
  | _ => none }
def InquiryMarksWrongFalsely : Prop := inquiryMarksRow.holds Tryd.pinned (OpenSpec.ofChange inquiryMarksWrong)

/-- 'goodnamelaw09.InquiryGates': WHATEVER THE INPUT: true; the input reads as it did. -/
def inquiryGatesSpec : ChangeSpec := { name := "inquiryGates", fn := fun _ => fun
  | [d1, d2] => { results := [.lit (.bool true)], args := [d1, d2] }
  | _ => none }
def inquiryGatesRow : OpenClaim := { program := "ytliehlefpodhaaadoor", sum := "2b7a79d101d08f995e8a41243c59e1d41a70c00a3f5b1f9680d1115660c3e010", func := "goodname/goodnamelaw09.InquiryGates", spec := "inquiryGates", unfollowed := true, recurses := true, named := ["goodname/inquiry.lasts", "goodname/inquiry.rules"], plainKeys := false, apart := false, laid := [("goodname/inquiry.lasts", laid_goodname_inquiry_lasts), ("goodname/inquiry.rules", laid_goodname_inquiry_rules)] }
def InquiryGatesSaid : Prop := inquiryGatesRow.holds Tryd.pinned (OpenSpec.ofChange inquiryGatesSpec)

/-- ITS FALSE NEIGHBOUR: 'it returns false'. Refute it at one input. -/
def inquiryGatesWrong : ChangeSpec := { name := "inquiryGates", fn := fun _ => fun
  | [d1, d2] => { results := [.lit (.bool false)], args := [d1, d2] }
  | _ => none }
def InquiryGatesWrongFalsely : Prop := inquiryGatesRow.holds Tryd.pinned (OpenSpec.ofChange inquiryGatesWrong)

/-- 'goodnamelaw09.InquiryAnyOrder': WHATEVER THE INPUT: true; the input reads as it did. -/
def inquiryAnyOrderSpec : ChangeSpec := { name := "inquiryAnyOrder", fn := fun _ => fun
  | [d1, d2, d3] => { results := [.lit (.bool true)], args := [d1, d2, d3] }
  | _ => none }
def inquiryAnyOrderRow : OpenClaim := { program := "ytliehlefpodhaaadoor", sum := "2b7a79d101d08f995e8a41243c59e1d41a70c00a3f5b1f9680d1115660c3e010", func := "goodname/goodnamelaw09.InquiryAnyOrder", spec := "inquiryAnyOrder", unfollowed := true, recurses := true, named := ["goodname/inquiry.lasts", "goodname/inquiry.rules"], plainKeys := false, apart := false, laid := [("goodname/inquiry.lasts", laid_goodname_inquiry_lasts), ("goodname/inquiry.rules", laid_goodname_inquiry_rules)] }
def InquiryAnyOrderSaid : Prop := inquiryAnyOrderRow.holds Tryd.pinned (OpenSpec.ofChange inquiryAnyOrderSpec)

/-- ITS FALSE NEIGHBOUR: 'it returns false'. Refute it at one input. -/
def inquiryAnyOrderWrong : ChangeSpec := { name := "inquiryAnyOrder", fn := fun _ => fun
  | [d1, d2, d3] => { results := [.lit (.bool false)], args := [d1, d2, d3] }
  | _ => none }
def InquiryAnyOrderWrongFalsely : Prop := inquiryAnyOrderRow.holds Tryd.pinned (OpenSpec.ofChange inquiryAnyOrderWrong)

/-- 'goodnamelaw09.InquiryHolds': WHATEVER THE INPUT: true; the input reads as it did. -/
def inquiryHoldsSpec : ChangeSpec := { name := "inquiryHolds", fn := fun _ => fun
  | [d1, d2, d3, d4, d5] => { results := [.lit (.bool true)], args := [d1, d2, d3, d4, d5] }
  | _ => none }
def inquiryHoldsRow : OpenClaim := { program := "ytliehlefpodhaaadoor", sum := "2b7a79d101d08f995e8a41243c59e1d41a70c00a3f5b1f9680d1115660c3e010", func := "goodname/goodnamelaw09.InquiryHolds", spec := "inquiryHolds", unfollowed := true, recurses := true, named := ["goodname/inquiry.lasts", "goodname/inquiry.rules"], plainKeys := false, apart := false, laid := [("goodname/inquiry.lasts", laid_goodname_inquiry_lasts), ("goodname/inquiry.rules", laid_goodname_inquiry_rules)] }
def InquiryHoldsSaid : Prop := inquiryHoldsRow.holds Tryd.pinned (OpenSpec.ofChange inquiryHoldsSpec)

/-- ITS FALSE NEIGHBOUR: 'it returns false'. Refute it at one input. -/
def inquiryHoldsWrong : ChangeSpec := { name := "inquiryHolds", fn := fun _ => fun
  | [d1, d2, d3, d4, d5] => { results := [.lit (.bool false)], args := [d1, d2, d3, d4, d5] }
  | _ => none }
def InquiryHoldsWrongFalsely : Prop := inquiryHoldsRow.holds Tryd.pinned (OpenSpec.ofChange inquiryHoldsWrong)

/-- 'goodnamelaw09.InquiryOthers': WHATEVER THE INPUT: true; the input reads as it did. -/
def inquiryOthersSpec : ChangeSpec := { name := "inquiryOthers", fn := fun _ => fun
  | [d1, d2, d3, d4, d5] => { results := [.lit (.bool true)], args := [d1, d2, d3, d4, d5] }
  | _ => none }
def inquiryOthersRow : OpenClaim := { program := "ytliehlefpodhaaadoor", sum := "2b7a79d101d08f995e8a41243c59e1d41a70c00a3f5b1f9680d1115660c3e010", func := "goodname/goodnamelaw09.InquiryOthers", spec := "inquiryOthers", unfollowed := true, recurses := true, named := ["goodname/inquiry.lasts", "goodname/inquiry.rules"], plainKeys := false, apart := false, laid := [("goodname/inquiry.lasts", laid_goodname_inquiry_lasts), ("goodname/inquiry.rules", laid_goodname_inquiry_rules)] }
def InquiryOthersSaid : Prop := inquiryOthersRow.holds Tryd.pinned (OpenSpec.ofChange inquiryOthersSpec)

/-- ITS FALSE NEIGHBOUR: 'it returns false'. Refute it at one input. -/
def inquiryOthersWrong : ChangeSpec := { name := "inquiryOthers", fn := fun _ => fun
  | [d1, d2, d3, d4, d5] => { results := [.lit (.bool false)], args := [d1, d2, d3, d4, d5] }
  | _ => none }
def InquiryOthersWrongFalsely : Prop := inquiryOthersRow.holds Tryd.pinned (OpenSpec.ofChange inquiryOthersWrong)

/-- 'goodnamelaw09.InquiryCounts': WHATEVER THE INPUT: true; the input reads as it did. -/
def inquiryCountsSpec : ChangeSpec := { name := "inquiryCounts", fn := fun _ => fun
  | [d1, d2, d3, d4, d5] => { results := [.lit (.bool true)], args := [d1, d2, d3, d4, d5] }
  | _ => none }
def inquiryCountsRow : OpenClaim := { program := "ytliehlefpodhaaadoor", sum := "2b7a79d101d08f995e8a41243c59e1d41a70c00a3f5b1f9680d1115660c3e010", func := "goodname/goodnamelaw09.InquiryCounts", spec := "inquiryCounts", unfollowed := true, recurses := true, named := ["goodname/inquiry.lasts", "goodname/inquiry.rules"], plainKeys := false, apart := false, laid := [("goodname/inquiry.lasts", laid_goodname_inquiry_lasts), ("goodname/inquiry.rules", laid_goodname_inquiry_rules)] }
def InquiryCountsSaid : Prop := inquiryCountsRow.holds Tryd.pinned (OpenSpec.ofChange inquiryCountsSpec)

/-- ITS FALSE NEIGHBOUR: 'it returns false'. Refute it at one input. -/
def inquiryCountsWrong : ChangeSpec := { name := "inquiryCounts", fn := fun _ => fun
  | [d1, d2, d3, d4, d5] => { results := [.lit (.bool false)], args := [d1, d2, d3, d4, d5] }
  | _ => none }
def InquiryCountsWrongFalsely : Prop := inquiryCountsRow.holds Tryd.pinned (OpenSpec.ofChange inquiryCountsWrong)

/- THE SECOND FORM. 'bulk': how many values and letters a reading holds, each counted each time it is reached (what is shared counts as often as it is met; a slice's spare places count too). A statement '..UptoSaid' is the law's where the arguments, and the package variables that the reading takes, are together of bulk at most 1048576: NARROWER than '..Said'. Prove '..Said' where nothing that the law and all that it calls make is longer than what came in: it says more and counts as full. Else prove '..UptoSaid'. A law counts once. -/
mutual
def uptoBulk {H : Type} : DataW H → Nat
  | .lit (.string bytes) => bytes.length + 1
  | .lit _ => 1
  | .nil => 1
  | .ptr d => uptoBulk d + 1
  | .slice elems spare => uptoBulkAll elems + uptoBulkAll spare + 1
  | .agg parts => uptoBulkAll parts + 1
  | .iface _ d => uptoBulk d + 1
  | .map entries => uptoBulkEntries entries + 1
  | .held _ => 1
def uptoBulkAll {H : Type} : List (DataW H) → Nat
  | [] => 0
  | d :: r => uptoBulk d + uptoBulkAll r
def uptoBulkEntries {H : Type} : List (Lit × DataW H) → Nat
  | [] => 0
  | x :: r => uptoBulkEntry x + uptoBulkEntries r
def uptoBulkEntry {H : Type} : Lit × DataW H → Nat
  | (.string bytes, d) => bytes.length + uptoBulk d + 1
  | (_, d) => uptoBulk d + 1
 end
def uptoSmall : (H : Type) → List (DataW H) → Bool := fun _ ds => decide (uptoBulkAll ds ≤ 1048576)
def OpenSpec.upto (s : _root_.Go.ChangeSpec) : _root_.Go.OpenSpec := { _root_.Go.OpenSpec.ofChange s with cond := some uptoSmall }

/-- 'goodnamelaw09.InquiryAsks', WHERE WHAT IT READS IS OF BULK AT MOST 1048576: true; the input reads as it did. -/
def inquiryAsksUptoRow : OpenClaim := { program := "ytliehlefpodhaaadoor", sum := "2b7a79d101d08f995e8a41243c59e1d41a70c00a3f5b1f9680d1115660c3e010", func := "goodname/goodnamelaw09.InquiryAsks", spec := "inquiryAsks", unfollowed := true, recurses := true, named := ["goodname/inquiry.lasts", "goodname/inquiry.rules"], plainKeys := false, apart := false, laid := [("goodname/inquiry.lasts", laid_goodname_inquiry_lasts), ("goodname/inquiry.rules", laid_goodname_inquiry_rules)], narrowed := true }
def InquiryAsksUptoSaid : Prop := inquiryAsksUptoRow.holds Tryd.pinned (OpenSpec.upto inquiryAsksSpec)

/-- 'goodnamelaw09.InquiryMerges', WHERE WHAT IT READS IS OF BULK AT MOST 1048576: true; the input reads as it did. -/
def inquiryMergesUptoRow : OpenClaim := { program := "ytliehlefpodhaaadoor", sum := "2b7a79d101d08f995e8a41243c59e1d41a70c00a3f5b1f9680d1115660c3e010", func := "goodname/goodnamelaw09.InquiryMerges", spec := "inquiryMerges", unfollowed := true, recurses := true, named := ["goodname/inquiry.lasts"], plainKeys := false, apart := false, laid := [("goodname/inquiry.lasts", laid_goodname_inquiry_lasts)], narrowed := true }
def InquiryMergesUptoSaid : Prop := inquiryMergesUptoRow.holds Tryd.pinned (OpenSpec.upto inquiryMergesSpec)

/-- 'goodnamelaw09.InquiryExamples', WHERE WHAT IT READS IS OF BULK AT MOST 1048576: true; the input reads as it did. -/
def inquiryExamplesUptoRow : OpenClaim := { program := "ytliehlefpodhaaadoor", sum := "2b7a79d101d08f995e8a41243c59e1d41a70c00a3f5b1f9680d1115660c3e010", func := "goodname/goodnamelaw09.InquiryExamples", spec := "inquiryExamples", unfollowed := true, recurses := true, named := ["goodname/inquiry.lasts", "goodname/inquiry.rules"], plainKeys := false, apart := false, laid := [("goodname/inquiry.lasts", laid_goodname_inquiry_lasts), ("goodname/inquiry.rules", laid_goodname_inquiry_rules)], narrowed := true }
def InquiryExamplesUptoSaid : Prop := inquiryExamplesUptoRow.holds Tryd.pinned (OpenSpec.upto inquiryExamplesSpec)

/-- 'goodnamelaw09.InquiryMarks', WHERE WHAT IT READS IS OF BULK AT MOST 1048576: true; the input reads as it did. -/
def inquiryMarksUptoRow : OpenClaim := { program := "ytliehlefpodhaaadoor", sum := "2b7a79d101d08f995e8a41243c59e1d41a70c00a3f5b1f9680d1115660c3e010", func := "goodname/goodnamelaw09.InquiryMarks", spec := "inquiryMarks", unfollowed := true, recurses := true, named := ["goodname/inquiry.lasts", "goodname/inquiry.rules"], plainKeys := false, apart := false, laid := [("goodname/inquiry.lasts", laid_goodname_inquiry_lasts), ("goodname/inquiry.rules", laid_goodname_inquiry_rules)], narrowed := true }
def InquiryMarksUptoSaid : Prop := inquiryMarksUptoRow.holds Tryd.pinned (OpenSpec.upto inquiryMarksSpec)

/-- 'goodnamelaw09.InquiryGates', WHERE WHAT IT READS IS OF BULK AT MOST 1048576: true; the input reads as it did. -/
def inquiryGatesUptoRow : OpenClaim := { program := "ytliehlefpodhaaadoor", sum := "2b7a79d101d08f995e8a41243c59e1d41a70c00a3f5b1f9680d1115660c3e010", func := "goodname/goodnamelaw09.InquiryGates", spec := "inquiryGates", unfollowed := true, recurses := true, named := ["goodname/inquiry.lasts", "goodname/inquiry.rules"], plainKeys := false, apart := false, laid := [("goodname/inquiry.lasts", laid_goodname_inquiry_lasts), ("goodname/inquiry.rules", laid_goodname_inquiry_rules)], narrowed := true }
def InquiryGatesUptoSaid : Prop := inquiryGatesUptoRow.holds Tryd.pinned (OpenSpec.upto inquiryGatesSpec)

/-- 'goodnamelaw09.InquiryAnyOrder', WHERE WHAT IT READS IS OF BULK AT MOST 1048576: true; the input reads as it did. -/
def inquiryAnyOrderUptoRow : OpenClaim := { program := "ytliehlefpodhaaadoor", sum := "2b7a79d101d08f995e8a41243c59e1d41a70c00a3f5b1f9680d1115660c3e010", func := "goodname/goodnamelaw09.InquiryAnyOrder", spec := "inquiryAnyOrder", unfollowed := true, recurses := true, named := ["goodname/inquiry.lasts", "goodname/inquiry.rules"], plainKeys := false, apart := false, laid := [("goodname/inquiry.lasts", laid_goodname_inquiry_lasts), ("goodname/inquiry.rules", laid_goodname_inquiry_rules)], narrowed := true }
def InquiryAnyOrderUptoSaid : Prop := inquiryAnyOrderUptoRow.holds Tryd.pinned (OpenSpec.upto inquiryAnyOrderSpec)

/-- 'goodnamelaw09.InquiryHolds', WHERE WHAT IT READS IS OF BULK AT MOST 1048576: true; the input reads as it did. -/
def inquiryHoldsUptoRow : OpenClaim := { program := "ytliehlefpodhaaadoor", sum := "2b7a79d101d08f995e8a41243c59e1d41a70c00a3f5b1f9680d1115660c3e010", func := "goodname/goodnamelaw09.InquiryHolds", spec := "inquiryHolds", unfollowed := true, recurses := true, named := ["goodname/inquiry.lasts", "goodname/inquiry.rules"], plainKeys := false, apart := false, laid := [("goodname/inquiry.lasts", laid_goodname_inquiry_lasts), ("goodname/inquiry.rules", laid_goodname_inquiry_rules)], narrowed := true }
def InquiryHoldsUptoSaid : Prop := inquiryHoldsUptoRow.holds Tryd.pinned (OpenSpec.upto inquiryHoldsSpec)

/-- 'goodnamelaw09.InquiryOthers', WHERE WHAT IT READS IS OF BULK AT MOST 1048576: true; the input reads as it did. -/
def inquiryOthersUptoRow : OpenClaim := { program := "ytliehlefpodhaaadoor", sum := "2b7a79d101d08f995e8a41243c59e1d41a70c00a3f5b1f9680d1115660c3e010", func := "goodname/goodnamelaw09.InquiryOthers", spec := "inquiryOthers", unfollowed := true, recurses := true, named := ["goodname/inquiry.lasts", "goodname/inquiry.rules"], plainKeys := false, apart := false, laid := [("goodname/inquiry.lasts", laid_goodname_inquiry_lasts), ("goodname/inquiry.rules", laid_goodname_inquiry_rules)], narrowed := true }
def InquiryOthersUptoSaid : Prop := inquiryOthersUptoRow.holds Tryd.pinned (OpenSpec.upto inquiryOthersSpec)

/-- 'goodnamelaw09.InquiryCounts', WHERE WHAT IT READS IS OF BULK AT MOST 1048576: true; the input reads as it did. -/
def inquiryCountsUptoRow : OpenClaim := { program := "ytliehlefpodhaaadoor", sum := "2b7a79d101d08f995e8a41243c59e1d41a70c00a3f5b1f9680d1115660c3e010", func := "goodname/goodnamelaw09.InquiryCounts", spec := "inquiryCounts", unfollowed := true, recurses := true, named := ["goodname/inquiry.lasts", "goodname/inquiry.rules"], plainKeys := false, apart := false, laid := [("goodname/inquiry.lasts", laid_goodname_inquiry_lasts), ("goodname/inquiry.rules", laid_goodname_inquiry_rules)], narrowed := true }
def InquiryCountsUptoSaid : Prop := inquiryCountsUptoRow.holds Tryd.pinned (OpenSpec.upto inquiryCountsSpec)

end Rows
end Go.Proofs.YtliehlefpodhaaaDoor
