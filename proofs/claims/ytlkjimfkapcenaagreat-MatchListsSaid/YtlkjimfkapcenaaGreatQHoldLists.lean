/- MatchLists holds. For every input. -/
import Derived.ChangeOld
import Derived.OpenShut
import Derived.ProofKit
import Derived.ShutString
import Derived.Test.YtlkjimfkapcenaaGreatRows
import Derived.Test.YtlkjimfkapcenaaGreatQLawLists
import Derived.Test.YtlkjimfkapcenaaGreatQReadRec
import Derived.Test.YtlkjimfkapcenaaGreatQReadRcs
namespace Go.Proofs.YtlkjimfkapcenaaGreat
open Go.ChangeShapes Go.WideShapes Go.ChangeAt Go.RowKit
open Go.ChangeMaps (open_string shut_string)

theorem Tryz.own : ownKnob Tryz.prog.godebug = none := by kernel_rfl
theorem Tryz.laidOutB : laidOutB Tryz.prog = true := by kernel_rfl

set_option maxRecDepth 100000 in
theorem matchLists_lifted (os : Os) (started : os.Started) (H : Type) (enc : TypeId × Value → H) :
    ReturnsInHanded {} Tryz.checked os 3 .any (Rows.matchListsSpec.pre6 enc Tryz.prog Tryz.f3 Rows.matchListsRow.domain false) (Rows.matchListsSpec.post enc Tryz.prog Tryz.f3 false true false false) := by
  refine returnsInHanded_of_change (C := Tryz.checked) Tryz.own started (by kernel_rfl) Tryz.func3
    (ChangeSpec.witness6 (enc := enc) (C := Tryz.checked) false ⟨#[], #[.agg #[.int .i64 0, .int .i64 0, .int .i64 0, .int .i64 0], .slice none 0 0, .int .i64 0], []⟩ 8 (by kernel_rfl) (by kernel_rfl) (by kernel_rfl) (by kernel_rfl)) ?_
  intro W base args ds gs before hval0 hW _ _
  have hval : ∀ (j : Nat) t v, Tryz.f3.params[j]? = some t → args[j]? = some v → Value.okWide Tryz.prog W .any base t v := hval0
  have hW' := hW
  obtain ⟨p, q, hA0, hV, rfl, hfz, hnd⟩ := hW
  have hA : DataW.TrodAll enc Tryz.prog W 0 (fun _ => true) true Tryz.f3.params.toList args.toList ds p := hA0
  rw [Tryz.params3] at hA hval
  obtain ⟨v0, v1, v2, d0, d1, d2, p0, p1, p2, rfl, rfl, rfl, h0, h1, h2⟩ := trodAll_three hA
  obtain ⟨rfl, rfl⟩ := trodVars_none hV
  have lt0 : ∀ x ∈ p0, x.block < W.heap.size := by obtain ⟨m, hm⟩ := h0; exact DataW.trod_lt m _ _ _ hm
  have lt1 : ∀ x ∈ p1, x.block < W.heap.size := by obtain ⟨m, hm⟩ := h1; exact DataW.trod_lt m _ _ _ hm
  have lt2 : ∀ x ∈ p2, x.block < W.heap.size := by obtain ⟨m, hm⟩ := h2; exact DataW.trod_lt m _ _ _ hm
  have k0 := h0
  have k1 := h1
  have k2 := h2
  obtain ⟨r, rfl⟩ := read_rules (hval 0 23 v0 rfl rfl) h0
  obtain ⟨A, n, c, es, rfl, hes, _, _⟩ := read_rcs (hval 1 24 v1 rfl rfl) h1
  obtain ⟨y, rfl, _, _, _⟩ := open_int Tryz.underlying3 (hval 2 3 v2 rfl rfl) h2
  clear hA0 hval0
  refine (matchLists_any r es A n c y W hes).mono fun e W' ⟨he, bel⟩ => ?_
  subst he
  have bel' : Below W.heap.size W W' := bel
  exact ⟨_, rfl, _, _, _, [], _, [], hW', trodAll_mk1 (shut_bool Tryz.underlying4 _),
    (trodAll_mk3 (Below.trod Tryz.laidOutB (by kernel_rfl) (of_decide_eq_true (by kernel_rfl)) k0 bel' lt0) (Below.trod Tryz.laidOutB (by kernel_rfl) (of_decide_eq_true (by kernel_rfl)) k1 bel' lt1) (Below.trod Tryz.laidOutB (by kernel_rfl) (of_decide_eq_true (by kernel_rfl)) k2 bel' lt2)), rfl, bel'.frame _, fun h => by cases h⟩

theorem matchLists_holds : Rows.MatchListsSaid :=
  OpenClaim.holds_of_wide 3 Tryz.f3 rfl rfl rfl rfl rfl rfl rfl ⟨rfl, rfl, rfl, rfl, rfl⟩ rfl rfl rfl rfl rfl (by kernel_rfl) Tryz.func3 (by kernel_rfl)
    (of_decide_eq_true (by kernel_rfl)) (by unfold Func.isWrapper; rw [if_neg (of_decide_eq_false (by kernel_rfl))]; exact ⟨rfl, rfl⟩)
    (fun os started H enc _ => matchLists_lifted os started H enc)
#print axioms matchLists_holds
end Go.Proofs.YtlkjimfkapcenaaGreat
