/- SumBut holds: everybody but one: from three sums the value of whoever stands at a place follows, and nothing follows from two. For every input. -/
import Derived.Test.YtimhkkijoelmhaaRows
import Derived.Test.YtimhkkijoelmhaaQLawBut10
import Derived.Test.YtimhkkijoelmhaaQRead10
import Derived.ProofKit
import Derived.OpenShut
import Derived.ChangeOld
import Derived.Carry
namespace Go.Proofs.Ytimhkkijoelmhaa
open Go.ChangeShapes Go.WideShapes Go.ChangeAt Go.RowKit

theorem Try.own : ownKnob Try.prog.godebug = none := by kernel_rfl
theorem Try.laidOutB : laidOutB Try.prog = true := by kernel_rfl

theorem wf_u16x {n : Int} (h : (Lit.int IntKind.u16 n).wf = true) : 0 ≤ n ∧ n ≤ 65535 := by
  simp only [Lit.wf, Bool.and_eq_true, decide_eq_true_eq] at h
  exact ⟨h.1, h.2⟩
theorem cells_u16 : Try.prog.cellsOf 70 = 1 := by kernel_rfl
theorem flat_u16s (l : List Int) : l.flatMap (fun x => [Value.int .u16 x]) = l.map (Value.int .u16) := by
  induction l with
  | nil => rfl
  | cons x r ih => rw [List.flatMap_cons, ih]; rfl
set_option maxRecDepth 100000 in
theorem read_u16s {H : Type} {enc : TypeId × Value → H} {w : World} {base : Nat} {spare : Nat → Bool} {held : Bool} {r : Reach} {b0 : Nat} {v : Value} {dd : DataW H} {p : List MemPlace} (hv : Value.okWide Try.prog w r b0 69 v) (h : DataW.Trod enc Try.prog w base spare held 69 v dd p) :
    ∃ (A : Option Addr) (n c : Nat) (zs : List Int), v = .slice A n c ∧ Rd w 1 A n (zs.map (Value.int .u16)) ∧ (∀ i, i < n → 0 ≤ zs[i]! ∧ zs[i]! ≤ 65535) ∧ n ≤ 9223372036854775807 := by
  obtain ⟨a, len, cap, rfl⟩ := okWide_slice Try.underlying69 hv
  obtain ⟨fuel, hf⟩ := h
  obtain ⟨B, m, d, zs, e, h1, h2, h3, _⟩ := read_rows (f := fun x : Int => [Value.int .u16 x]) (k := 1) (by decide) (fun _ => rfl) Try.underlying69 cells_u16 (fun x => 0 ≤ x ∧ x ≤ 65535) (fun _ _ _ h => by
    obtain ⟨a0, e0, _, w0⟩ := DataW.trod_int Try.underlying70 h
    exact ⟨a0, e0, wf_u16x w0⟩) hf
  simp [Value.cells] at e
  obtain ⟨rfl, rfl, rfl⟩ := e
  rw [flat_u16s] at h1
  have hl : zs.length = len := by have := h1.len; simpa using this
  exact ⟨_, _, _, zs, rfl, h1, fun i hi => by rw [getElem!_pos zs i (by omega)]; exact h3 _ (List.getElem_mem _), h2⟩

theorem wf_u8x {n : Int} (h : (Lit.int IntKind.u8 n).wf = true) : 0 ≤ n ∧ n ≤ 255 := by
  simp only [Lit.wf, Bool.and_eq_true, decide_eq_true_eq] at h
  exact ⟨h.1, h.2⟩

set_option maxRecDepth 100000 in
theorem sumBut_lifted (os : Os) (started : os.Started) (H : Type) (enc : TypeId × Value → H) :
    ReturnsInHanded {} Try.checked os 12 .any (Rows.sumButSpec.pre6 enc Try.prog Try.f12 Rows.sumButRow.domain false) (Rows.sumButSpec.post enc Try.prog Try.f12 false true false false) := by
  refine returnsInHanded_of_change (C := Try.checked) Try.own started (by kernel_rfl) Try.func12
    (ChangeSpec.witness6 (enc := enc) (C := Try.checked) false ⟨#[], #[.slice none 0 0, .int .u8 0, .int .u16 0], []⟩ 8 (by kernel_rfl) (by kernel_rfl) (by kernel_rfl) (by kernel_rfl)) ?_
  intro W base args ds gs before hval0 hW _ _
  have hval : ∀ (j : Nat) t v, Try.f12.params[j]? = some t → args[j]? = some v → Value.okWide Try.prog W .any base t v := hval0
  have hW' := hW
  obtain ⟨p, q, hA0, hV, rfl, hfz, hnd⟩ := hW
  have hA : DataW.TrodAll enc Try.prog W 0 (fun _ => true) true Try.f12.params.toList args.toList ds p := hA0
  rw [Try.params12] at hA hval
  obtain ⟨v0, v1, v2, d0, d1, d2, p0, p1, p2, rfl, rfl, rfl, h0, h1, h2⟩ := trodAll_three hA
  obtain ⟨rfl, rfl⟩ := trodVars_none hV
  have lt0 : ∀ x ∈ p0, x.block < W.heap.size := by obtain ⟨m, hm⟩ := h0; exact DataW.trod_lt m _ _ _ hm
  have lt1 : ∀ x ∈ p1, x.block < W.heap.size := by obtain ⟨m, hm⟩ := h1; exact DataW.trod_lt m _ _ _ hm
  have lt2 : ∀ x ∈ p2, x.block < W.heap.size := by obtain ⟨m, hm⟩ := h2; exact DataW.trod_lt m _ _ _ hm
  have k0 := h0
  have k1 := h1
  have k2 := h2
  obtain ⟨A0, n0, c0, zs0, rfl, hi0, hb0, hm0⟩ := read_u16s (hval 0 69 v0 rfl rfl) h0
  obtain ⟨x1, rfl, _, _, wx1⟩ := open_int Try.underlying5 (hval 1 5 v1 rfl rfl) h1
  obtain ⟨x2, rfl, _, _, wx2⟩ := open_int Try.underlying70 (hval 2 70 v2 rfl rfl) h2
  clear hA0 hval0
  refine (sumBut_any A0 n0 c0 zs0 x1 x2 W hi0 hb0 hm0 (wf_u8x wx1) (wf_u16x wx2)).mono fun e W' ⟨he, bel⟩ => ?_
  subst he
  have bel' : Below W.heap.size W W' := bel
  exact ⟨_, rfl, _, _, _, [], _, [], hW', trodAll_mk1 (shut_bool Try.underlying4 _),
    (trodAll_mk3 (Below.trod Try.laidOutB (by kernel_rfl) (of_decide_eq_true (by kernel_rfl)) k0 bel' lt0) (Below.trod Try.laidOutB (by kernel_rfl) (of_decide_eq_true (by kernel_rfl)) k1 bel' lt1) (Below.trod Try.laidOutB (by kernel_rfl) (of_decide_eq_true (by kernel_rfl)) k2 bel' lt2)), rfl, bel'.frame _, fun h => by cases h⟩

theorem sumBut_holds : Rows.SumButSaid :=
  OpenClaim.holds_of_wide 12 Try.f12 rfl rfl rfl rfl rfl rfl rfl ⟨rfl, rfl, rfl, rfl, rfl⟩ rfl rfl rfl rfl rfl (by kernel_rfl) Try.func12 (by kernel_rfl)
    (of_decide_eq_true (by kernel_rfl)) (by unfold Func.isWrapper; rw [if_neg (of_decide_eq_false (by kernel_rfl))]; exact ⟨rfl, rfl⟩)
    (fun os started H enc _ => sumBut_lifted os started H enc)
#print axioms sumBut_holds
end Go.Proofs.Ytimhkkijoelmhaa
