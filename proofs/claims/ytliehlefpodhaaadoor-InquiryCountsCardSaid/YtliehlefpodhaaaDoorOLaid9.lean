/- What the listed package-level variables of the package inquiry hold: the tables of kinds and of rules. For every start. What is read of an argument: gates, inquiries, lists of them. For every argument that reads. All arguments of a call, behind a world that only grew: they read as they read. For any program. Where the signals of an argument lie: in memory that is there. For every argument. -/
import Derived.Carry
import Derived.ChangeShapes
import Derived.Deep.Slices
import Derived.LaidMore
import Derived.LaidSub
import Derived.Lib.SmallJoins
import Derived.MakeChecks
import Derived.OpenShut
import Derived.ProofKit
import Derived.Stop.Joined
import Derived.Test.YtliehlefpodhaaaDoorRows
import Derived.Test.YtliehlefpodhaaaDoorORight
import Derived.Test.YtliehlefpodhaaaDoorOGate
import Derived.Test.YtliehlefpodhaaaDoorOAsk
namespace Go.Proofs.YtliehlefpodhaaaDoor
open Go.ChangeShapes Go.WideShapes Go.RowKit

theorem gLasts : Tryd.prog.globalNamed "goodname/inquiry.lasts" = some 1 := by kernel_rfl
theorem gRules : Tryd.prog.globalNamed "goodname/inquiry.rules" = some 0 := by kernel_rfl
theorem tLasts : (Tryd.prog.globals[1]?).map (·.type) = some 127 := by kernel_rfl
theorem tRules : (Tryd.prog.globals[0]?).map (·.type) = some 118 := by kernel_rfl
theorem cells_rule : Tryd.prog.cellsOf 121 = 2 := by kernel_rfl
theorem cells_so : Tryd.prog.cellsOf 119 = 1 := by kernel_rfl
theorem cells_bool9 : Tryd.prog.cellsOf 4 = 1 := by kernel_rfl
theorem cells_u89 : Tryd.prog.cellsOf 5 = 1 := by kernel_rfl
theorem cells_lasts : Tryd.prog.cellsOf 127 = 6 := by kernel_rfl

def laidLasts : List (String × DataW Unit) := [("goodname/inquiry.lasts", Rows.laid_goodname_inquiry_lasts)]
def laidBoth : List (String × DataW Unit) := [("goodname/inquiry.lasts", Rows.laid_goodname_inquiry_lasts), ("goodname/inquiry.rules", Rows.laid_goodname_inquiry_rules)]

theorem laidL_of {W : World} (h : laidMetH Tryd.prog laidLasts W) : LaidL W := by
  rw [MakeChecks.laidMetH_plain _ _ _ (by kernel_rfl)] at h
  obtain ⟨ps, ⟨g0, t0, cs0, f0, p0, q0, hg0, ht0, hv0, hd0, _, _⟩, _, _⟩ := h
  obtain rfl := Option.some.inj (gLasts.symm.trans hg0)
  obtain rfl := Option.some.inj (tLasts.symm.trans ht0)
  obtain ⟨xs, m1, _, hx1, hlen, hn, hel⟩ := DataW.trod_array Tryd.underlying127 hd0
  rw [cells_lasts] at hlen
  have hb : ∀ i, i < 6 → ∃ b : Bool, cs0[i]? = some (.bool b) ∧ (xs.map (·.1))[i]? = some (.lit (.bool b)) := by
    intro i hi
    have h1 := hel i hi
    rw [cells_bool9, Nat.mul_one] at h1
    have hix : i < xs.length := by omega
    rw [List.getElem?_eq_getElem hix] at h1
    obtain ⟨b, hb1, hb2⟩ := DataW.trod_bool Tryd.underlying4 h1
    refine ⟨b, ?_, by rw [List.getElem?_map, List.getElem?_eq_getElem hix]; simp [hb2]⟩
    have h2 := congrArg (fun l => l[0]?) hb1
    simp only [List.getElem?_take, List.getElem?_drop] at h2
    simpa using h2
  have hx2 : xs.map (·.1) = [.lit (.bool false), .lit (.bool false), .lit (.bool false), .lit (.bool true), .lit (.bool true), .lit (.bool false)] := by
    have := congrArg Prod.fst hx1
    simp only [Rows.laid_goodname_inquiry_lasts] at this
    injection this with h3
    exact h3.symm
  have hc : ∀ k, k < 6 → W.cell? ⟨1, k, none⟩ = some (.bool (lastB k)) := by
    intro k hk
    obtain ⟨b, h1, h2⟩ := hb k hk
    rw [World.var?_cell gLasts hv0 k, h1]
    rw [hx2] at h2
    have : k = 0 ∨ k = 1 ∨ k = 2 ∨ k = 3 ∨ k = 4 ∨ k = 5 := by omega
    rcases this with rfl | rfl | rfl | rfl | rfl | rfl <;> (simp at h2; subst h2; rfl)
  exact ⟨block_lt_of_cell (hc 0 (by omega)), hc⟩

theorem laidLasts_of {W : World} (h : laidMetH Tryd.prog laidBoth W) : laidMetH Tryd.prog laidLasts W :=
  laidMetH.filter (fun x => x.2.handleName?.isNone) h

set_option maxRecDepth 100000 in
theorem laidR_of {W : World} (h : laidMetH Tryd.prog laidBoth W) : ∃ b off cap, LaidR W b off cap := by
  obtain ⟨g, t, cs, fuel, p, hg, ht, hv, hd⟩ := h.funcs (List.mem_cons_of_mem _ (List.mem_singleton.2 rfl))
  obtain rfl := Option.some.inj (gRules.symm.trans hg)
  obtain rfl := Option.some.inj (tRules.symm.trans ht)
  have hd' : DataW.trod (funcToken Tryd.prog) Tryd.prog W 0 (fun _ => true) true fuel 118 cs.toList = some (.slice [.agg [.lit (.int .u8 1), .held [103, 111, 111, 100, 110, 97, 109, 101, 47, 105, 110, 113, 117, 105, 114, 121, 46, 114, 117, 108, 101, 115, 36, 49]], .agg [.lit (.int .u8 2), .held [103, 111, 111, 100, 110, 97, 109, 101, 47, 105, 110, 113, 117, 105, 114, 121, 46, 114, 117, 108, 101, 115, 36, 50]], .agg [.lit (.int .u8 3), .held [103, 111, 111, 100, 110, 97, 109, 101, 47, 105, 110, 113, 117, 105, 114, 121, 46, 114, 117, 108, 101, 115, 36, 51]]] [], p) := hd
  rcases Go.Deep.open_slice Tryd.underlying118 hd' with ⟨_, hx⟩ | ⟨a, len, cap, m, n, D, Pl, hcs, _, hlc, _, hm, hx, hel⟩
  · cases hx
  simp only [Prod.mk.injEq, DataW.slice.injEq] at hx
  obtain ⟨⟨hx1, _⟩, _⟩ := hx
  have hl := congrArg List.length hx1
  simp at hl
  subst hl
  have hm3 : 3 ≤ m := by rw [hm]; split <;> omega
  have hrow : ∀ i (k : Int) (b : UInt8) (r : List UInt8) (f0 : FuncId), i < 3 → D i = .agg [.lit (.int .u8 k), .held (b :: r)] → ((List.range Tryd.prog.funcs.size).filter fun f => (Tryd.prog.funcs[f]?).any (·.name.toUTF8.data.toList == b :: r)) = [f0] →
      W.cell? (a.add (i * 2)) = some (.int .u8 k) ∧ W.cell? (a.add (i * 2 + 1)) = some (.func (.func f0) #[] #[]) := by
    intro i k b r f0 hi hD hone
    obtain ⟨cs', hc, htr⟩ := hel i (by omega)
    rw [cells_rule] at hc
    obtain ⟨_, hcl, hat⟩ := World.cells?_some hc
    rw [hD] at htr
    obtain ⟨xs, m1, _, hx2, _, hxl, hg2⟩ := DataW.trod_struct Tryd.underlying121 htr
    obtain ⟨c0, c1, rfl⟩ : ∃ c0 c1, cs' = [c0, c1] := by
      match cs', hcl with
      | [c0, c1], _ => exact ⟨c0, c1, rfl⟩
    obtain ⟨y0, y1, rfl⟩ : ∃ y0 y1, xs = [y0, y1] := by
      match xs, (show xs.length = 2 from hxl) with
      | [y0, y1], _ => exact ⟨y0, y1, rfl⟩
    have e0 := hg2 0 _ rfl
    have e1 := hg2 1 _ rfl
    simp [cells_u89, cells_so] at e0 e1
    simp only [Prod.mk.injEq, List.map_cons, List.map_nil, DataW.agg.injEq, List.cons.injEq, and_true] at hx2
    obtain ⟨⟨hy0, hy1⟩, _⟩ := hx2
    obtain ⟨k', hk1, hk2, _⟩ := DataW.trod_int Tryd.underlying5 e0
    obtain ⟨y1a, y1b⟩ := y1
    dsimp only at hy1
    subst hy1
    have hf := func_of_trod (f0 := f0) Tryd.underlying119 hone e1
    have a0 := hat 0 (by omega)
    have a1 := hat 1 (by omega)
    rw [Go.Deep.add_add] at a0 a1
    have hkk : k' = k := by
      have hk3 := congrArg Prod.fst hk2
      rw [← hy0] at hk3
      simp at hk3
      exact hk3.symm
    subst hkk
    simp at hk1
    refine ⟨by simpa [hk1] using a0, by simpa [hf] using a1⟩
  have hD : ∀ i, i < 3 → (some (D i) : Option (DataW (List UInt8))) = [.agg [.lit (.int .u8 1), .held [103, 111, 111, 100, 110, 97, 109, 101, 47, 105, 110, 113, 117, 105, 114, 121, 46, 114, 117, 108, 101, 115, 36, 49]], .agg [.lit (.int .u8 2), .held [103, 111, 111, 100, 110, 97, 109, 101, 47, 105, 110, 113, 117, 105, 114, 121, 46, 114, 117, 108, 101, 115, 36, 50]], .agg [.lit (.int .u8 3), .held [103, 111, 111, 100, 110, 97, 109, 101, 47, 105, 110, 113, 117, 105, 114, 121, 46, 114, 117, 108, 101, 115, 36, 51]]][i]? := by
    intro i hi
    rw [hx1]
    simp [hi]
  obtain ⟨r0, r1⟩ := hrow 0 1 _ _ 124 (by omega) (Option.some.inj (hD 0 (by omega))) (by kernel_rfl)
  obtain ⟨r2, r3⟩ := hrow 1 2 _ _ 126 (by omega) (Option.some.inj (hD 1 (by omega))) (by kernel_rfl)
  obtain ⟨r4, r5⟩ := hrow 2 3 _ _ 127 (by omega) (Option.some.inj (hD 2 (by omega))) (by kernel_rfl)
  obtain ⟨b, off, spot⟩ := a
  have hspot : spot = none := by simpa [Addr.add] using World.cell?_spot r0
  subst hspot
  have hgc : W.cell? ⟨0, 0, none⟩ = some (.slice (some ⟨b, off, none⟩) 3 cap) := by
    have := World.var?_cell hg hv 0
    rw [this]
    have h1 : cs[0]? = cs.toList[0]? := by simp
    rw [h1, hcs]
    rfl
  have hh0 : W.cell? ⟨b, off, none⟩ = some (.int .u8 1) := by simpa [Addr.add] using r0
  refine ⟨b, off, cap, hgc, block_lt_of_cell hh0, block_lt_of_cell hgc, hh0, ?_, ?_, ?_, ?_, ?_⟩
  · simpa [Addr.add] using r1
  · simpa [Addr.add] using r2
  · simpa [Addr.add] using r3
  · simpa [Addr.add] using r4
  · simpa [Addr.add] using r5
end Go.Proofs.YtliehlefpodhaaaDoor
namespace Go.Proofs.YtliehlefpodhaaaDoor
open Go.RowKit Go.ChangeShapes Go.WideShapes Go.Deep Go.Joins

theorem cells_int : Tryd.prog.cellsOf 3 = 1 := by kernel_rfl
theorem cells_u8 : Tryd.prog.cellsOf 5 = 1 := by kernel_rfl
theorem cells_bool : Tryd.prog.cellsOf 4 = 1 := by kernel_rfl
theorem cells_lics : Tryd.prog.cellsOf 22 = 1 := by kernel_rfl
theorem cells_sigs : Tryd.prog.cellsOf 23 = 1 := by kernel_rfl
theorem cells_lic : Tryd.prog.cellsOf 65 = 4 := by kernel_rfl
theorem cells_sig : Tryd.prog.cellsOf 67 = 6 := by kernel_rfl
theorem cells_inq : Tryd.prog.cellsOf 27 = 6 := by kernel_rfl
theorem cells_gate : Tryd.prog.cellsOf 25 = 2 := by kernel_rfl

theorem spot_of_cell {w : World} {a : Addr} {v : Value} (h : w.cell? a = some v) : a.spot = none := by
  unfold World.cell? at h
  split at h
  · split at h
    · cases h
    · rename_i hs; simpa using hs
  · cases h
theorem add_of_none {a : Addr} (h : a.spot = none) (i : Nat) : a.add i = ⟨a.block, a.off + i, none⟩ := by
  obtain ⟨b, o, s⟩ := a
  dsimp only at h
  subst h
  exact Addr.add_lit b o i
theorem list2 {α : Type} {l : List α} (h : l.length = 2) : ∃ a0 a1 : α, l = [a0, a1] := by
  match l, h with
  | [a0, a1], _ => exact ⟨a0, a1, rfl⟩
theorem list4 {α : Type} {l : List α} (h : l.length = 4) : ∃ a0 a1 a2 a3 : α, l = [a0, a1, a2, a3] := by
  match l, h with
  | [a0, a1, a2, a3], _ => exact ⟨a0, a1, a2, a3, rfl⟩
theorem list6 {α : Type} {l : List α} (h : l.length = 6) : ∃ a0 a1 a2 a3 a4 a5 : α, l = [a0, a1, a2, a3, a4, a5] := by
  match l, h with
  | [a0, a1, a2, a3, a4, a5], _ => exact ⟨a0, a1, a2, a3, a4, a5, rfl⟩
theorem wf_u8 {n : Int} (h : (Lit.int IntKind.u8 n).wf = true) : 0 ≤ n ∧ n ≤ 255 := by
  simp only [Lit.wf, Bool.and_eq_true, decide_eq_true_eq] at h
  exact ⟨h.1, h.2⟩

section
variable {H : Type} {enc : TypeId × Value → H} {w : World} {base : Nat} {spare : Nat → Bool} {held : Bool} {fuel : Nat} {cs : List Value} {x : DataW H × List MemPlace}
theorem read_sig (h : DataW.trod enc Tryd.prog w base spare held fuel 67 cs = some x) : ∃ s : Sig, cs = s.cells ∧ 0 ≤ s.kind ∧ s.kind ≤ 255 := by
  obtain ⟨xs, n, _, _, hcl, hxl, hg⟩ := DataW.trod_struct Tryd.underlying67 h
  rw [cells_sig] at hcl
  obtain ⟨c0, c1, c2, c3, c4, c5, rfl⟩ := list6 hcl
  obtain ⟨y0, y1, y2, y3, y4, y5, rfl⟩ := list6 (show xs.length = 6 from hxl)
  have h0 := hg 0 _ rfl
  have h1 := hg 1 _ rfl
  have h2 := hg 2 _ rfl
  have h3 := hg 3 _ rfl
  have h4 := hg 4 _ rfl
  have h5 := hg 5 _ rfl
  simp [cells_int, cells_u8] at h0 h1 h2 h3 h4 h5
  obtain ⟨a0, e0, _⟩ := DataW.trod_int Tryd.underlying3 h0
  obtain ⟨a1, e1, _⟩ := DataW.trod_int Tryd.underlying3 h1
  obtain ⟨a2, e2, _⟩ := DataW.trod_int Tryd.underlying3 h2
  obtain ⟨a3, e3, _⟩ := DataW.trod_int Tryd.underlying3 h3
  obtain ⟨a4, e4, _, w4⟩ := DataW.trod_int Tryd.underlying5 h4
  obtain ⟨a5, e5, _⟩ := DataW.trod_int Tryd.underlying3 h5
  simp at e0 e1 e2 e3 e4 e5
  subst e0 e1 e2 e3 e4 e5
  exact ⟨⟨a0, a1, a2, a3, a4, a5⟩, rfl, wf_u8 w4⟩
theorem read_lic (h : DataW.trod enc Tryd.prog w base spare held fuel 65 cs = some x) : ∃ s : Lic, cs = s.cells ∧ 0 ≤ s.purpose ∧ s.purpose ≤ 255 := by
  obtain ⟨xs, n, _, _, hcl, hxl, hg⟩ := DataW.trod_struct Tryd.underlying65 h
  rw [cells_lic] at hcl
  obtain ⟨c0, c1, c2, c3, rfl⟩ := list4 hcl
  obtain ⟨y0, y1, y2, y3, rfl⟩ := list4 (show xs.length = 4 from hxl)
  have h0 := hg 0 _ rfl
  have h1 := hg 1 _ rfl
  have h2 := hg 2 _ rfl
  have h3 := hg 3 _ rfl
  simp [cells_int, cells_u8] at h0 h1 h2 h3
  obtain ⟨a0, e0, _⟩ := DataW.trod_int Tryd.underlying3 h0
  obtain ⟨a1, e1, _, w1⟩ := DataW.trod_int Tryd.underlying5 h1
  obtain ⟨a2, e2, _⟩ := DataW.trod_int Tryd.underlying3 h2
  obtain ⟨a3, e3, _⟩ := DataW.trod_int Tryd.underlying3 h3
  simp at e0 e1 e2 e3
  subst e0 e1 e2 e3
  exact ⟨⟨a0, a1, a2, a3⟩, rfl, wf_u8 w1⟩
theorem read_inq (h : DataW.trod enc Tryd.prog w base spare held fuel 27 cs = some x) : ∃ s : Inq, cs = s.cells ∧ 0 ≤ s.purpose ∧ s.purpose ≤ 255 := by
  obtain ⟨xs, n, _, _, hcl, hxl, hg⟩ := DataW.trod_struct Tryd.underlying27 h
  rw [cells_inq] at hcl
  obtain ⟨c0, c1, c2, c3, c4, c5, rfl⟩ := list6 hcl
  obtain ⟨y0, y1, y2, y3, y4, y5, rfl⟩ := list6 (show xs.length = 6 from hxl)
  have h0 := hg 0 _ rfl
  have h1 := hg 1 _ rfl
  have h2 := hg 2 _ rfl
  have h3 := hg 3 _ rfl
  have h4 := hg 4 _ rfl
  have h5 := hg 5 _ rfl
  simp [cells_int, cells_u8, cells_bool] at h0 h1 h2 h3 h4 h5
  obtain ⟨a0, e0, _⟩ := DataW.trod_int Tryd.underlying3 h0
  obtain ⟨a1, e1, _⟩ := DataW.trod_int Tryd.underlying3 h1
  obtain ⟨a2, e2, _⟩ := DataW.trod_int Tryd.underlying3 h2
  obtain ⟨a3, e3, _⟩ := DataW.trod_int Tryd.underlying3 h3
  obtain ⟨a4, e4, _, w4⟩ := DataW.trod_int Tryd.underlying5 h4
  obtain ⟨a5, e5, _⟩ := DataW.trod_bool Tryd.underlying4 h5
  simp at e0 e1 e2 e3 e4 e5
  subst e0 e1 e2 e3 e4 e5
  exact ⟨⟨a0, a1, a2, a3, a4, a5⟩, rfl, wf_u8 w4⟩

/-- A slice of things of k cells each. -/
theorem read_rows {α : Type} [Inhabited α] {f : α → List Value} {k : Nat} (hk : 0 < k) (hl : ∀ x, (f x).length = k) {t e : TypeId} (ht : Tryd.prog.underlying t = some (.slice e)) (hce : Tryd.prog.cellsOf e = k) (Q : α → Prop)
    (one : ∀ (n : Nat) (cs' : List Value) (y : DataW H × List MemPlace), DataW.trod enc Tryd.prog w base spare held n e cs' = some y → ∃ s : α, cs' = f s ∧ Q s)
    (h : DataW.trod enc Tryd.prog w base spare held fuel t cs = some x) : ∃ (B : Option Addr) (m d : Nat) (zs : List α), cs = [.slice B m d] ∧ Rd w k B m (zs.flatMap f) ∧ m ≤ 9223372036854775807 ∧ (∀ s ∈ zs, Q s) ∧ m ≤ d ∧ d ≤ 9223372036854775807 := by
  rcases open_slice ht h with ⟨rfl, _⟩ | ⟨a, len, cap, m, n, D, Pl, rfl, _, hlc, hcm, hm, _, hi⟩
  · exact ⟨none, 0, 0, [], rfl, Rd.nil_, by omega, by simp, by omega, by omega⟩
  · have hlm : len ≤ m := by rw [hm]; split <;> omega
    have hex : ∀ i, ∃ s : α, i < len → (Q s ∧ ∀ j u, (f s)[j]? = some u → w.cell? (a.add (i * k + j)) = some u) := by
      intro i
      by_cases hi' : i < len
      · obtain ⟨cs', hc, ht'⟩ := hi i (by omega)
        rw [hce] at hc
        obtain ⟨s, rfl, hq⟩ := one _ _ _ ht'
        obtain ⟨_, _, hat⟩ := World.cells?_some hc
        refine ⟨s, fun _ => ⟨hq, fun j u hu => ?_⟩⟩
        have hj : j < k := by
          rcases Nat.lt_or_ge j k with h | h
          · exact h
          · rw [List.getElem?_eq_none (by rw [hl]; exact h)] at hu; cases hu
        rw [← Go.Deep.add_add, hat j hj, hu]
      · exact ⟨default, fun h => absurd h hi'⟩
    let g : Nat → α := fun i => Classical.choose (hex i)
    have hf : ∀ i, i < len → (Q (g i) ∧ ∀ j u, (f (g i))[j]? = some u → w.cell? (a.add (i * k + j)) = some u) := fun i => Classical.choose_spec (hex i)
    refine ⟨some a, len, cap, (List.range len).map g, rfl, ⟨by rw [flatMap_len hl]; simp, fun hn => ?_⟩, by unfold maxLen at hcm; omega, fun s hs => ?_, hlc, by unfold maxLen at hcm; omega⟩
    · have h0 := (hf 0 hn).2 0 _ (List.getElem?_eq_getElem (by rw [hl]; exact hk))
      have hs : a.spot = none := spot_of_cell (by simpa [Addr.add] using h0)
      have hbl := block_lt_of_cell h0
      rw [add_of_none hs] at hbl
      refine ⟨a.block, a.off, by rw [show a = ⟨a.block, a.off, a.spot⟩ from rfl, hs], hbl, fun j u hu => ?_⟩
      have hj : j < len * k := by
        have hl' := flatMap_len hl ((List.range len).map g)
        rcases Nat.lt_or_ge j (len * k) with h | h
        · exact h
        · rw [List.getElem?_eq_none (by rw [hl']; simpa using h)] at hu; cases hu
      have hkk : j / k < len := Nat.div_lt_of_lt_mul (by rw [Nat.mul_comm]; exact hj)
      have e : j = j / k * k + j % k := (Nat.div_add_mod' j k).symm
      rw [e] at hu ⊢
      rw [flatMap_get hl (by simpa using hkk) (Nat.mod_lt _ hk)] at hu
      have e2 : ((List.range len).map g)[j / k]! = g (j / k) := by
        rw [getElem!_pos _ _ (by simpa using hkk)]; simp
      rw [e2] at hu
      have := (hf (j / k) hkk).2 (j % k) u hu
      rwa [add_of_none hs] at this
    · obtain ⟨i, hi, rfl⟩ := List.mem_map.1 hs
      exact (hf i (by simpa using hi)).1
theorem read_sigs (h : DataW.trod enc Tryd.prog w base spare held fuel 23 cs = some x) : ∃ (B : Option Addr) (m d : Nat) (zs : List Sig), cs = [.slice B m d] ∧ SigsIn w B m zs ∧ m ≤ d ∧ d ≤ 9223372036854775807 := by
  obtain ⟨B, m, d, zs, e, h1, h2, h3, h4, h5⟩ := read_rows (f := Sig.cells) (k := 6) (by decide) Sig.len Tryd.underlying23 cells_sig (fun s => 0 ≤ s.kind ∧ s.kind ≤ 255) (fun _ _ _ h => read_sig h) h
  exact ⟨B, m, d, zs, e, ⟨h1, h2, h3⟩, h4, h5⟩
theorem read_lics (h : DataW.trod enc Tryd.prog w base spare held fuel 22 cs = some x) : ∃ (B : Option Addr) (m d : Nat) (zs : List Lic), cs = [.slice B m d] ∧ LicsIn w B m zs ∧ m ≤ d ∧ d ≤ 9223372036854775807 := by
  obtain ⟨B, m, d, zs, e, h1, h2, h3, h4, h5⟩ := read_rows (f := Lic.cells) (k := 4) (by decide) Lic.len Tryd.underlying22 cells_lic (fun s => 0 ≤ s.purpose ∧ s.purpose ≤ 255) (fun _ _ _ h => read_lic h) h
  exact ⟨B, m, d, zs, e, ⟨h1, h2, h3⟩, h4, h5⟩
theorem read_inqs_cells (h : DataW.trod enc Tryd.prog w base spare held fuel 28 cs = some x) : ∃ (B : Option Addr) (m d : Nat) (zs : List Inq), cs = [.slice B m d] ∧ InqsIn w B m zs ∧ m ≤ d ∧ d ≤ 9223372036854775807 := by
  obtain ⟨B, m, d, zs, e, h1, h2, h3, h4, h5⟩ := read_rows (f := Inq.cells) (k := 6) (by decide) Inq.len Tryd.underlying28 cells_inq (fun s => 0 ≤ s.purpose ∧ s.purpose ≤ 255) (fun _ _ _ h => read_inq h) h
  exact ⟨B, m, d, zs, e, ⟨h1, h2, h3⟩, h4, h5⟩
set_option maxRecDepth 100000 in
theorem read_gate {r : Reach} {b0 : Nat} {v : Value} {dd : DataW H} {p : List MemPlace} (hv : Value.okWide Tryd.prog w r b0 25 v) (h : DataW.Trod enc Tryd.prog w base spare held 25 v dd p) :
    ∃ (g : Gat) (ls : List Lic) (ss : List Sig), v = g.val ∧ GatIn w g ls ss ∧ (g.ln ≤ g.lc ∧ g.lc ≤ 9223372036854775807) ∧ (g.sn ≤ g.sc ∧ g.sc ≤ 9223372036854775807) := by
  obtain ⟨cs, rfl, _⟩ := okWide_struct Tryd.underlying25 hv
  obtain ⟨fuel, hf⟩ := h
  obtain ⟨xs, n, _, _, hcl, hxl, hg⟩ := DataW.trod_struct Tryd.underlying25 hf
  rw [cells_gate] at hcl
  obtain ⟨c0, c1, hcs⟩ := list2 hcl
  obtain ⟨y0, y1, rfl⟩ := list2 (show xs.length = 2 from hxl)
  have h0 := hg 0 _ rfl
  have h1 := hg 1 _ rfl
  rw [hcs] at h0 h1
  simp [cells_lics, cells_sigs] at h0 h1
  obtain ⟨la, ln, lc, ls, e0, hl, q0⟩ := read_lics h0
  obtain ⟨sa, sn, sc, ss, e1, hs, q1⟩ := read_sigs h1
  simp at e0 e1
  subst e0 e1
  simp [Value.cells] at hcs
  refine ⟨⟨la, ln, lc, sa, sn, sc⟩, ls, ss, ?_, ⟨hl, hs⟩, q0, q1⟩
  unfold Gat.val
  congr 1
  exact Array.ext' hcs
set_option maxRecDepth 100000 in
theorem read_inquiry {r : Reach} {b0 : Nat} {v : Value} {dd : DataW H} {p : List MemPlace} (hv : Value.okWide Tryd.prog w r b0 27 v) (h : DataW.Trod enc Tryd.prog w base spare held 27 v dd p) :
    ∃ q : Inq, v = q.val ∧ 0 ≤ q.purpose ∧ q.purpose ≤ 255 := by
  obtain ⟨cs, rfl, _⟩ := okWide_struct Tryd.underlying27 hv
  obtain ⟨fuel, hf⟩ := h
  obtain ⟨q, hq, hu⟩ := read_inq hf
  refine ⟨q, ?_, hu⟩
  simp [Value.cells] at hq
  unfold Inq.val
  congr 1
  exact Array.ext' hq
set_option maxRecDepth 100000 in
theorem read_inqs {r : Reach} {b0 : Nat} {v : Value} {dd : DataW H} {p : List MemPlace} (hv : Value.okWide Tryd.prog w r b0 28 v) (h : DataW.Trod enc Tryd.prog w base spare held 28 v dd p) :
    ∃ (B : Option Addr) (m d : Nat) (zs : List Inq), v = .slice B m d ∧ InqsIn w B m zs ∧ m ≤ d ∧ d ≤ 9223372036854775807 := by
  obtain ⟨a, len, cap, rfl⟩ := okWide_slice Tryd.underlying28 hv
  obtain ⟨fuel, hf⟩ := h
  obtain ⟨B, m, d, zs, e, h1⟩ := read_inqs_cells hf
  simp [Value.cells] at e
  obtain ⟨rfl, rfl, rfl⟩ := e
  exact ⟨_, _, _, zs, rfl, h1⟩
set_option maxRecDepth 100000 in
theorem read_sigs_val {r : Reach} {b0 : Nat} {v : Value} {dd : DataW H} {p : List MemPlace} (hv : Value.okWide Tryd.prog w r b0 23 v) (h : DataW.Trod enc Tryd.prog w base spare held 23 v dd p) :
    ∃ (B : Option Addr) (m d : Nat) (zs : List Sig), v = .slice B m d ∧ SigsIn w B m zs ∧ m ≤ d ∧ d ≤ 9223372036854775807 := by
  obtain ⟨a, len, cap, rfl⟩ := okWide_slice Tryd.underlying23 hv
  obtain ⟨fuel, hf⟩ := h
  obtain ⟨B, m, d, zs, e, h1⟩ := read_sigs hf
  simp [Value.cells] at e
  obtain ⟨rfl, rfl, rfl⟩ := e
  exact ⟨_, _, _, zs, rfl, h1⟩
end
theorem wf_i64 {n : Int} (h : (Lit.int IntKind.i64 n).wf = true) : -9223372036854775808 ≤ n ∧ n ≤ 9223372036854775807 := by
  simp only [Lit.wf, Bool.and_eq_true, decide_eq_true_eq] at h
  exact ⟨h.1, h.2⟩
end Go.Proofs.YtliehlefpodhaaaDoor
namespace Go.Proofs.YtliehlefpodhaaaDoor
open Go.ChangeShapes Go.RowKit

theorem below_all {H : Type} {enc : TypeId × Value → H} {P : Program} (hl : laidOutB P = true) {W W' : World} (hb : Below W.heap.size W W') : ∀ {ts : List TypeId} {vs : List Value} {ds : List (DataW H)} {ps : List MemPlace},
    (ts.all fun t => P.readableRec t && decide (t < P.types.size)) = true → DataW.TrodAll enc P W 0 (fun _ => true) true ts vs ds ps → DataW.TrodAll enc P W' 0 (fun b => decide (b < W.heap.size)) true ts vs ds ps := by
  intro ts
  induction ts with
  | nil =>
    intro vs ds ps _ h
    obtain ⟨rfl, rfl, rfl⟩ := trodAll_nil h
    exact rfl
  | cons t ts ih =>
    intro vs ds ps ha h
    simp only [List.all_cons, Bool.and_eq_true, decide_eq_true_eq] at ha
    obtain ⟨v, vs', d, ds', p, q, rfl, rfl, rfl, h1, h2⟩ := trodAll_cons h
    have hlt : ∀ x ∈ p, x.block < W.heap.size := by
      obtain ⟨m, hm⟩ := h1
      exact DataW.trod_lt m _ _ _ hm
    exact ⟨p, q, Below.trod hl ha.1.1 ha.1.2 h1 hb hlt, ih ha.2 h2, rfl⟩
end Go.Proofs.YtliehlefpodhaaaDoor
namespace Go.Proofs.YtliehlefpodhaaaDoor
open Go.RowKit

theorem has_lt {P : Program} {w : World} {r : Reach} {base : Nat} {a : Addr} {e : TypeId} {n : Nat} (h : w.has P r base a e n) : a.block < w.heap.size := by
  obtain ⟨_, _, row, cells, hs, _⟩ := h
  unfold World.shape? at hs
  rcases Nat.lt_or_ge a.block w.heap.size with h | h
  · exact h
  · rw [Array.getElem?_eq_none h] at hs
    simp at hs
set_option maxRecDepth 100000 in
theorem cell_addr {w : World} {r : Reach} {base : Nat} {A : Option Addr} {n c : Nat} {t e : TypeId} (ht : Tryd.prog.underlying t = some (.slice e)) (h : Cell.okWide Tryd.prog w r base t (.slice A n c)) : ∀ b o, A = some ⟨b, o, none⟩ → b < w.heap.size := by
  intro b o hA
  subst hA
  unfold Cell.okWide at h
  rw [ht] at h
  unfold Cell.ok at h
  rw [ht] at h
  exact has_lt h.2.2
set_option maxRecDepth 100000 in
theorem gate_addr {w : World} {r : Reach} {base : Nat} {g : Gat} (hv : Value.okWide Tryd.prog w r base 25 g.val) : ∀ b o, g.sa = some ⟨b, o, none⟩ → b < w.heap.size := by
  unfold Value.okWide at hv
  rw [Tryd.underlying25] at hv
  obtain ⟨cs, e, _, ts, hct, _, hall⟩ := hv
  have e' : #[.slice g.la g.ln g.lc, .slice g.sa g.sn g.sc] = cs := by unfold Gat.val at e; injection e
  subst e'
  have hts : Tryd.prog.cellTypes Tryd.prog.depth 25 = some [22, 23] := by kernel_rfl
  obtain rfl := Option.some.inj (hts.symm.trans hct)
  obtain ⟨u, hu, hok⟩ := hall 1 _ rfl
  have hu2 : u = 23 := (Option.some.inj hu).symm
  subst hu2
  exact cell_addr Tryd.underlying23 hok
set_option maxRecDepth 100000 in
theorem sigs_addr {w : World} {r : Reach} {base : Nat} {A : Option Addr} {n c : Nat} (hv : Value.okWide Tryd.prog w r base 23 (.slice A n c)) : ∀ b o, A = some ⟨b, o, none⟩ → b < w.heap.size := by
  unfold Value.okWide at hv
  rw [Tryd.underlying23] at hv
  exact cell_addr Tryd.underlying23 hv
end Go.Proofs.YtliehlefpodhaaaDoor
