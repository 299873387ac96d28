/- InquiryCounts holds, and its card: whatever the input, the law answers true, and its arguments read as they read. For every input; the listed package-level variables hold what the program's text lays into them. (Printed by gen_hold.py.) -/
import Derived.Test.YtliehlefpodhaaaDoorQLawCounts
import Derived.Test.YtliehlefpodhaaaDoorOLaid9
import Derived.Test.YtliehlefpodhaaaDoorTie
import Derived.Test.YtliehlefpodhaaaDoorCards
import Derived.ProofKit
import Derived.OpenShut
import Derived.SevenTiedAt
namespace Go.Proofs.YtliehlefpodhaaaDoor
open Go.ChangeShapes Go.WideShapes Go.ChangeAt Go.RowKit

theorem Tryd.own : ownKnob Tryd.prog.godebug = none := by kernel_rfl
theorem Tryd.laidOutB : laidOutB Tryd.prog = true := by kernel_rfl
/-- The door's own heap meets the condition. -/
theorem inquiryCounts_door (os : Os) (args : Array Value) : laidMetH Tryd.prog laidBoth ((World.doorLaid Tryd.prog 22 os).forCall (fun _ _ => 0) ⟨#[], args, []⟩).memory :=
  laidMetH_of_parts3 (fuel := 8) (laidMet_of_run' 8 (by kernel_rfl) (by kernel_rfl)) (by kernel_rfl) (by kernel_rfl)

set_option maxRecDepth 100000 in
theorem inquiryCounts_lifted (os : Os) (started : os.Started) (H : Type) (enc : TypeId × Value → H) :
    ReturnsInHanded {} Tryd.checked os 11 .any (fun w args => (Rows.inquiryCountsSpec.pre enc Tryd.prog Tryd.f11 [] false w args ∧ laidMetH Tryd.prog laidBoth w) ∧ sizedMet enc Tryd.prog Tryd.f11 (OpenSpec.ofChange Rows.inquiryCountsSpec) false w args)
      (Rows.inquiryCountsSpec.post enc Tryd.prog Tryd.f11 false true false false) := by
  refine returnsInHanded_of_change_and (C := Tryd.checked) (X := fun w _ => laidMetH Tryd.prog laidBoth w) (fun _ _ _ hh h => h.of_heap hh) Tryd.own started (by kernel_rfl) Tryd.func11
    (ChangeSpec.witness_shaped (enc := enc) (C := Tryd.checked) (os := os) (X := fun w _ => laidMetH Tryd.prog laidBoth w) false (World.doorLaid Tryd.prog 22 os) #[.agg #[.slice none 0 0, .slice none 0 0], .slice none 0 0, .int .i64 0, .int .i64 0, .agg #[.int .i64 0, .int .i64 0, .int .i64 0, .int .i64 0, .int .u8 0, .bool false]] 8 rfl (World.shaped_of_RefB (by kernel_rfl) (by kernel_rfl)) (by kernel_rfl) (by kernel_rfl) (by kernel_rfl) (inquiryCounts_door os _)) ?_
  intro W base args ds gs before hval0 hW _ _ hL _
  have hval : ∀ (j : Nat) t v, Tryd.f11.params[j]? = some t → args[j]? = some v → Value.okWide Tryd.prog W .any base t v := hval0
  have hW' := hW
  obtain ⟨p, q, hA0, hV, rfl, hfz, hnd⟩ := hW
  have hA : DataW.TrodAll enc Tryd.prog W 0 (fun _ => true) true Tryd.f11.params.toList args.toList ds p := hA0
  have hAll := hA0
  rw [Tryd.params11] at hA hval
  obtain ⟨rfl, rfl⟩ := trodVars_none hV
  obtain ⟨v0, vs1, d0, ds1, p0, q0', e0, e0', rfl, h0, hA1⟩ := trodAll_cons hA
  obtain ⟨v1, vs2, d1, ds2, p1, q1', e1, e1', rfl, h1, hA2⟩ := trodAll_cons hA1
  obtain ⟨v2, vs3, d2, ds3, p2, q2', e2, e2', rfl, h2, hA3⟩ := trodAll_cons hA2
  obtain ⟨v3, vs4, d3, ds4, p3, q3', e3, e3', rfl, h3, hA4⟩ := trodAll_cons hA3
  obtain ⟨v4, vs5, d4, ds5, p4, q4', e4, e4', rfl, h4, hA5⟩ := trodAll_cons hA4
  obtain ⟨rfl, rfl, rfl⟩ := trodAll_nil hA5
  subst e4 e4'
  subst e3 e3'
  subst e2 e2'
  subst e1 e1'
  subst e0'
  obtain rfl : args = #[v0, v1, v2, v3, v4] := Array.ext' e0
  clear e0
  obtain ⟨g0, ls0, ss0, rfl, hg0, cl0, cs0⟩ := read_gate (hval 0 25 v0 rfl rfl) h0
  have had0 := gate_addr (hval 0 25 _ rfl rfl)
  obtain ⟨A1, n1, c1, zs1, rfl, hi1, ci1⟩ := read_inqs (hval 1 28 v1 rfl rfl) h1
  obtain ⟨x2, rfl, _, _, wx2⟩ := open_int Tryd.underlying3 (hval 2 3 v2 rfl rfl) h2
  have wi2 := wf_i64 wx2
  obtain ⟨x3, rfl, _, _, wx3⟩ := open_int Tryd.underlying3 (hval 3 3 v3 rfl rfl) h3
  have wi3 := wf_i64 wx3
  obtain ⟨q4, rfl, hq4⟩ := read_inquiry (hval 4 27 v4 rfl rfl) h4
  obtain ⟨b, off, cap, hR⟩ := laidR_of hL
  have hG := laidL_of (laidLasts_of hL)
  clear hA0 hval0
  refine (inquiryCounts_any g0 ls0 ss0 A1 n1 c1 zs1 x2 x3 q4 b off cap W hg0 had0 hi1 ci1.1 hq4 hR hG).mono fun e W' ⟨he, bel⟩ => ?_
  subst he
  have bel' : Below W.heap.size W W' := bel
  exact ⟨_, rfl, _, _, _, [], _, [], hW', trodAll_mk1 (shut_bool Tryd.underlying4 _), below_all Tryd.laidOutB bel' (by kernel_rfl) hAll, rfl, bel'.frame _, fun h => by cases h⟩

theorem inquiryCounts_holds : Rows.InquiryCountsSaid :=
  OpenClaim.holds_of_wide 11 Tryd.f11 rfl rfl rfl rfl rfl rfl rfl ⟨rfl, rfl, rfl, rfl, rfl⟩ rfl rfl rfl rfl rfl (by kernel_rfl) Tryd.func11 (by kernel_rfl)
    (of_decide_eq_true (by kernel_rfl)) (by unfold Func.isWrapper; rw [if_neg (of_decide_eq_false (by kernel_rfl))]; exact ⟨rfl, rfl⟩)
    (fun os started H enc _ => inquiryCounts_lifted os started H enc)
theorem inquiryCounts_card_holds : Rows.InquiryCountsCardSaid :=
  Claim7.holds_tied_plain_at .later [] [.data, .funcs] true (true, "41ae3035231df4bd885741b293ce54e768d7d990a8b8c938e13411bf6fd063b2") false
    inquiryCounts_holds (fun _ h => by cases h) (by kernel_rfl) (fun _ h => by cases h) inquiryCounts_row_tie rfl ⟨rfl, rfl⟩ (by kernel_rfl) rfl
    (fun f fn hf hfn => by
      obtain rfl : f = 11 := Option.some.inj ((show Tryd.prog.funcNamed "goodname/goodnamelaw09.InquiryCounts" = some 11 by kernel_rfl).symm.trans hf) |>.symm
      obtain rfl : fn = Tryd.f11 := (Option.some.inj (Tryd.func11.symm.trans hfn)).symm
      exact ⟨by kernel_rfl, fun j t ht => by
        rw [Tryd.params11] at ht
        have hall : (Tryd.f11.params.toList.all fun u => !Tryd.prog.wantsStandIn u) = true := by kernel_rfl
        rw [Tryd.params11] at hall
        have hm := Array.mem_of_getElem? ht
        exact (show Tryd.prog.wantsStandIn t = false by simpa using List.all_eq_true.1 hall t (by simpa using hm))⟩)
    (by kernel_rfl)
#print axioms inquiryCounts_card_holds
end Go.Proofs.YtliehlefpodhaaaDoor
