/- What the listed package-level variables of the package inquiry hold: the tables of kinds and of rules. For every start. -/
import Derived.Deep.Slices
import Derived.LaidMore
import Derived.LaidSub
import Derived.MakeChecks
import Derived.OpenShut
import Derived.Stop.Joined
import Derived.Test.YtliehlefpodhaaaDoorRows
import Derived.Test.YtliehlefpodhaaaDoorQRight
import Derived.Test.YtliehlefpodhaaaDoorQAsk
namespace Go.Proofs.YtliehlefpodhaaaDoor
open Go.ChangeShapes Go.WideShapes Go.RowKit

theorem gLasts : Tryd.prog.globalNamed "goodname/inquiry.lasts" = some 1 := by kernel_rfl
theorem gRules : Tryd.prog.globalNamed "goodname/inquiry.rules" = some 0 := by kernel_rfl
theorem tLasts : (Tryd.prog.globals[1]?).map (·.type) = some 127 := by kernel_rfl
theorem tRules : (Tryd.prog.globals[0]?).map (·.type) = some 118 := by kernel_rfl
theorem cells_rule : Tryd.prog.cellsOf 121 = 2 := by kernel_rfl
theorem cells_so : Tryd.prog.cellsOf 119 = 1 := by kernel_rfl
theorem cells_bool9 : Tryd.prog.cellsOf 4 = 1 := by kernel_rfl
theorem cells_u89 : Tryd.prog.cellsOf 5 = 1 := by kernel_rfl
theorem cells_lasts : Tryd.prog.cellsOf 127 = 6 := by kernel_rfl

def laidLasts : List (String × DataW Unit) := [("goodname/inquiry.lasts", Rows.laid_goodname_inquiry_lasts)]
def laidBoth : List (String × DataW Unit) := [("goodname/inquiry.lasts", Rows.laid_goodname_inquiry_lasts), ("goodname/inquiry.rules", Rows.laid_goodname_inquiry_rules)]

theorem laidL_of {W : World} (h : laidMetH Tryd.prog laidLasts W) : LaidL W := by
  rw [MakeChecks.laidMetH_plain _ _ _ (by kernel_rfl)] at h
  obtain ⟨ps, ⟨g0, t0, cs0, f0, p0, q0, hg0, ht0, hv0, hd0, _, _⟩, _, _⟩ := h
  obtain rfl := Option.some.inj (gLasts.symm.trans hg0)
  obtain rfl := Option.some.inj (tLasts.symm.trans ht0)
  obtain ⟨xs, m1, _, hx1, hlen, hn, hel⟩ := DataW.trod_array Tryd.underlying127 hd0
  rw [cells_lasts] at hlen
  have hb : ∀ i, i < 6 → ∃ b : Bool, cs0[i]? = some (.bool b) ∧ (xs.map (·.1))[i]? = some (.lit (.bool b)) := by
    intro i hi
    have h1 := hel i hi
    rw [cells_bool9, Nat.mul_one] at h1
    have hix : i < xs.length := by omega
    rw [List.getElem?_eq_getElem hix] at h1
    obtain ⟨b, hb1, hb2⟩ := DataW.trod_bool Tryd.underlying4 h1
    refine ⟨b, ?_, by rw [List.getElem?_map, List.getElem?_eq_getElem hix]; simp [hb2]⟩
    have h2 := congrArg (fun l => l[0]?) hb1
    simp only [List.getElem?_take, List.getElem?_drop] at h2
    simpa using h2
  have hx2 : xs.map (·.1) = [.lit (.bool false), .lit (.bool false), .lit (.bool false), .lit (.bool true), .lit (.bool true), .lit (.bool false)] := by
    have := congrArg Prod.fst hx1
    simp only [Rows.laid_goodname_inquiry_lasts] at this
    injection this with h3
    exact h3.symm
  have hc : ∀ k, k < 6 → W.cell? ⟨1, k, none⟩ = some (.bool (lastB k)) := by
    intro k hk
    obtain ⟨b, h1, h2⟩ := hb k hk
    rw [World.var?_cell gLasts hv0 k, h1]
    rw [hx2] at h2
    have : k = 0 ∨ k = 1 ∨ k = 2 ∨ k = 3 ∨ k = 4 ∨ k = 5 := by omega
    rcases this with rfl | rfl | rfl | rfl | rfl | rfl <;> (simp at h2; subst h2; rfl)
  exact ⟨block_lt_of_cell (hc 0 (by omega)), hc⟩

theorem laidLasts_of {W : World} (h : laidMetH Tryd.prog laidBoth W) : laidMetH Tryd.prog laidLasts W :=
  laidMetH.filter (fun x => x.2.handleName?.isNone) h

set_option maxRecDepth 100000 in
theorem laidR_of {W : World} (h : laidMetH Tryd.prog laidBoth W) : ∃ b off cap, LaidR W b off cap := by
  obtain ⟨g, t, cs, fuel, p, hg, ht, hv, hd⟩ := h.funcs (List.mem_cons_of_mem _ (List.mem_singleton.2 rfl))
  obtain rfl := Option.some.inj (gRules.symm.trans hg)
  obtain rfl := Option.some.inj (tRules.symm.trans ht)
  have hd' : DataW.trod (funcToken Tryd.prog) Tryd.prog W 0 (fun _ => true) true fuel 118 cs.toList = some (.slice [.agg [.lit (.int .u8 1), .held [103, 111, 111, 100, 110, 97, 109, 101, 47, 105, 110, 113, 117, 105, 114, 121, 46, 114, 117, 108, 101, 115, 36, 49]], .agg [.lit (.int .u8 2), .held [103, 111, 111, 100, 110, 97, 109, 101, 47, 105, 110, 113, 117, 105, 114, 121, 46, 114, 117, 108, 101, 115, 36, 50]], .agg [.lit (.int .u8 3), .held [103, 111, 111, 100, 110, 97, 109, 101, 47, 105, 110, 113, 117, 105, 114, 121, 46, 114, 117, 108, 101, 115, 36, 51]]] [], p) := hd
  rcases Go.Deep.open_slice Tryd.underlying118 hd' with ⟨_, hx⟩ | ⟨a, len, cap, m, n, D, Pl, hcs, _, hlc, _, hm, hx, hel⟩
  · cases hx
  simp only [Prod.mk.injEq, DataW.slice.injEq] at hx
  obtain ⟨⟨hx1, _⟩, _⟩ := hx
  have hl := congrArg List.length hx1
  simp at hl
  subst hl
  have hm3 : 3 ≤ m := by rw [hm]; split <;> omega
  have hrow : ∀ i (k : Int) (b : UInt8) (r : List UInt8) (f0 : FuncId), i < 3 → D i = .agg [.lit (.int .u8 k), .held (b :: r)] → ((List.range Tryd.prog.funcs.size).filter fun f => (Tryd.prog.funcs[f]?).any (·.name.toUTF8.data.toList == b :: r)) = [f0] →
      W.cell? (a.add (i * 2)) = some (.int .u8 k) ∧ W.cell? (a.add (i * 2 + 1)) = some (.func (.func f0) #[] #[]) := by
    intro i k b r f0 hi hD hone
    obtain ⟨cs', hc, htr⟩ := hel i (by omega)
    rw [cells_rule] at hc
    obtain ⟨_, hcl, hat⟩ := World.cells?_some hc
    rw [hD] at htr
    obtain ⟨xs, m1, _, hx2, _, hxl, hg2⟩ := DataW.trod_struct Tryd.underlying121 htr
    obtain ⟨c0, c1, rfl⟩ : ∃ c0 c1, cs' = [c0, c1] := by
      match cs', hcl with
      | [c0, c1], _ => exact ⟨c0, c1, rfl⟩
    obtain ⟨y0, y1, rfl⟩ : ∃ y0 y1, xs = [y0, y1] := by
      match xs, (show xs.length = 2 from hxl) with
      | [y0, y1], _ => exact ⟨y0, y1, rfl⟩
    have e0 := hg2 0 _ rfl
    have e1 := hg2 1 _ rfl
    simp [cells_u89, cells_so] at e0 e1
    simp only [Prod.mk.injEq, List.map_cons, List.map_nil, DataW.agg.injEq, List.cons.injEq, and_true] at hx2
    obtain ⟨⟨hy0, hy1⟩, _⟩ := hx2
    obtain ⟨k', hk1, hk2, _⟩ := DataW.trod_int Tryd.underlying5 e0
    obtain ⟨y1a, y1b⟩ := y1
    dsimp only at hy1
    subst hy1
    have hf := func_of_trod (f0 := f0) Tryd.underlying119 hone e1
    have a0 := hat 0 (by omega)
    have a1 := hat 1 (by omega)
    rw [Go.Deep.add_add] at a0 a1
    have hkk : k' = k := by
      have hk3 := congrArg Prod.fst hk2
      rw [← hy0] at hk3
      simp at hk3
      exact hk3.symm
    subst hkk
    simp at hk1
    refine ⟨by simpa [hk1] using a0, by simpa [hf] using a1⟩
  have hD : ∀ i, i < 3 → (some (D i) : Option (DataW (List UInt8))) = [.agg [.lit (.int .u8 1), .held [103, 111, 111, 100, 110, 97, 109, 101, 47, 105, 110, 113, 117, 105, 114, 121, 46, 114, 117, 108, 101, 115, 36, 49]], .agg [.lit (.int .u8 2), .held [103, 111, 111, 100, 110, 97, 109, 101, 47, 105, 110, 113, 117, 105, 114, 121, 46, 114, 117, 108, 101, 115, 36, 50]], .agg [.lit (.int .u8 3), .held [103, 111, 111, 100, 110, 97, 109, 101, 47, 105, 110, 113, 117, 105, 114, 121, 46, 114, 117, 108, 101, 115, 36, 51]]][i]? := by
    intro i hi
    rw [hx1]
    simp [hi]
  obtain ⟨r0, r1⟩ := hrow 0 1 _ _ 124 (by omega) (Option.some.inj (hD 0 (by omega))) (by kernel_rfl)
  obtain ⟨r2, r3⟩ := hrow 1 2 _ _ 126 (by omega) (Option.some.inj (hD 1 (by omega))) (by kernel_rfl)
  obtain ⟨r4, r5⟩ := hrow 2 3 _ _ 127 (by omega) (Option.some.inj (hD 2 (by omega))) (by kernel_rfl)
  obtain ⟨b, off, spot⟩ := a
  have hspot : spot = none := by simpa [Addr.add] using World.cell?_spot r0
  subst hspot
  have hgc : W.cell? ⟨0, 0, none⟩ = some (.slice (some ⟨b, off, none⟩) 3 cap) := by
    have := World.var?_cell hg hv 0
    rw [this]
    have h1 : cs[0]? = cs.toList[0]? := by simp
    rw [h1, hcs]
    rfl
  have hh0 : W.cell? ⟨b, off, none⟩ = some (.int .u8 1) := by simpa [Addr.add] using r0
  refine ⟨b, off, cap, hgc, block_lt_of_cell hh0, block_lt_of_cell hgc, hh0, ?_, ?_, ?_, ?_, ?_⟩
  · simpa [Addr.add] using r1
  · simpa [Addr.add] using r2
  · simpa [Addr.add] using r3
  · simpa [Addr.add] using r4
  · simpa [Addr.add] using r5
end Go.Proofs.YtliehlefpodhaaaDoor
