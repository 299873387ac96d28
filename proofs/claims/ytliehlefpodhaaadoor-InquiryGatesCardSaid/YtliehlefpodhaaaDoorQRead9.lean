/- What is read of an argument: gates, inquiries, lists of them. For every argument that reads. -/
import Derived.Deep.Slices
import Derived.Lib.SmallJoins
import Derived.ProofKit
import Derived.Test.YtliehlefpodhaaaDoorQGate
namespace Go.Proofs.YtliehlefpodhaaaDoor
open Go.RowKit Go.ChangeShapes Go.WideShapes Go.Deep Go.Joins

theorem cells_int : Tryd.prog.cellsOf 3 = 1 := by kernel_rfl
theorem cells_u8 : Tryd.prog.cellsOf 5 = 1 := by kernel_rfl
theorem cells_bool : Tryd.prog.cellsOf 4 = 1 := by kernel_rfl
theorem cells_lics : Tryd.prog.cellsOf 22 = 1 := by kernel_rfl
theorem cells_sigs : Tryd.prog.cellsOf 23 = 1 := by kernel_rfl
theorem cells_lic : Tryd.prog.cellsOf 65 = 4 := by kernel_rfl
theorem cells_sig : Tryd.prog.cellsOf 67 = 6 := by kernel_rfl
theorem cells_inq : Tryd.prog.cellsOf 27 = 6 := by kernel_rfl
theorem cells_gate : Tryd.prog.cellsOf 25 = 2 := by kernel_rfl

theorem spot_of_cell {w : World} {a : Addr} {v : Value} (h : w.cell? a = some v) : a.spot = none := by
  unfold World.cell? at h
  split at h
  · split at h
    · cases h
    · rename_i hs; simpa using hs
  · cases h
theorem add_of_none {a : Addr} (h : a.spot = none) (i : Nat) : a.add i = ⟨a.block, a.off + i, none⟩ := by
  obtain ⟨b, o, s⟩ := a
  dsimp only at h
  subst h
  exact Addr.add_lit b o i
theorem list2 {α : Type} {l : List α} (h : l.length = 2) : ∃ a0 a1 : α, l = [a0, a1] := by
  match l, h with
  | [a0, a1], _ => exact ⟨a0, a1, rfl⟩
theorem list4 {α : Type} {l : List α} (h : l.length = 4) : ∃ a0 a1 a2 a3 : α, l = [a0, a1, a2, a3] := by
  match l, h with
  | [a0, a1, a2, a3], _ => exact ⟨a0, a1, a2, a3, rfl⟩
theorem list6 {α : Type} {l : List α} (h : l.length = 6) : ∃ a0 a1 a2 a3 a4 a5 : α, l = [a0, a1, a2, a3, a4, a5] := by
  match l, h with
  | [a0, a1, a2, a3, a4, a5], _ => exact ⟨a0, a1, a2, a3, a4, a5, rfl⟩
theorem wf_u8 {n : Int} (h : (Lit.int IntKind.u8 n).wf = true) : 0 ≤ n ∧ n ≤ 255 := by
  simp only [Lit.wf, Bool.and_eq_true, decide_eq_true_eq] at h
  exact ⟨h.1, h.2⟩

section
variable {H : Type} {enc : TypeId × Value → H} {w : World} {base : Nat} {spare : Nat → Bool} {held : Bool} {fuel : Nat} {cs : List Value} {x : DataW H × List MemPlace}
theorem read_sig (h : DataW.trod enc Tryd.prog w base spare held fuel 67 cs = some x) : ∃ s : Sig, cs = s.cells ∧ 0 ≤ s.kind ∧ s.kind ≤ 255 := by
  obtain ⟨xs, n, _, _, hcl, hxl, hg⟩ := DataW.trod_struct Tryd.underlying67 h
  rw [cells_sig] at hcl
  obtain ⟨c0, c1, c2, c3, c4, c5, rfl⟩ := list6 hcl
  obtain ⟨y0, y1, y2, y3, y4, y5, rfl⟩ := list6 (show xs.length = 6 from hxl)
  have h0 := hg 0 _ rfl
  have h1 := hg 1 _ rfl
  have h2 := hg 2 _ rfl
  have h3 := hg 3 _ rfl
  have h4 := hg 4 _ rfl
  have h5 := hg 5 _ rfl
  simp [cells_int, cells_u8] at h0 h1 h2 h3 h4 h5
  obtain ⟨a0, e0, _⟩ := DataW.trod_int Tryd.underlying3 h0
  obtain ⟨a1, e1, _⟩ := DataW.trod_int Tryd.underlying3 h1
  obtain ⟨a2, e2, _⟩ := DataW.trod_int Tryd.underlying3 h2
  obtain ⟨a3, e3, _⟩ := DataW.trod_int Tryd.underlying3 h3
  obtain ⟨a4, e4, _, w4⟩ := DataW.trod_int Tryd.underlying5 h4
  obtain ⟨a5, e5, _⟩ := DataW.trod_int Tryd.underlying3 h5
  simp at e0 e1 e2 e3 e4 e5
  subst e0 e1 e2 e3 e4 e5
  exact ⟨⟨a0, a1, a2, a3, a4, a5⟩, rfl, wf_u8 w4⟩
theorem read_lic (h : DataW.trod enc Tryd.prog w base spare held fuel 65 cs = some x) : ∃ s : Lic, cs = s.cells ∧ 0 ≤ s.purpose ∧ s.purpose ≤ 255 := by
  obtain ⟨xs, n, _, _, hcl, hxl, hg⟩ := DataW.trod_struct Tryd.underlying65 h
  rw [cells_lic] at hcl
  obtain ⟨c0, c1, c2, c3, rfl⟩ := list4 hcl
  obtain ⟨y0, y1, y2, y3, rfl⟩ := list4 (show xs.length = 4 from hxl)
  have h0 := hg 0 _ rfl
  have h1 := hg 1 _ rfl
  have h2 := hg 2 _ rfl
  have h3 := hg 3 _ rfl
  simp [cells_int, cells_u8] at h0 h1 h2 h3
  obtain ⟨a0, e0, _⟩ := DataW.trod_int Tryd.underlying3 h0
  obtain ⟨a1, e1, _, w1⟩ := DataW.trod_int Tryd.underlying5 h1
  obtain ⟨a2, e2, _⟩ := DataW.trod_int Tryd.underlying3 h2
  obtain ⟨a3, e3, _⟩ := DataW.trod_int Tryd.underlying3 h3
  simp at e0 e1 e2 e3
  subst e0 e1 e2 e3
  exact ⟨⟨a0, a1, a2, a3⟩, rfl, wf_u8 w1⟩
theorem read_inq (h : DataW.trod enc Tryd.prog w base spare held fuel 27 cs = some x) : ∃ s : Inq, cs = s.cells ∧ 0 ≤ s.purpose ∧ s.purpose ≤ 255 := by
  obtain ⟨xs, n, _, _, hcl, hxl, hg⟩ := DataW.trod_struct Tryd.underlying27 h
  rw [cells_inq] at hcl
  obtain ⟨c0, c1, c2, c3, c4, c5, rfl⟩ := list6 hcl
  obtain ⟨y0, y1, y2, y3, y4, y5, rfl⟩ := list6 (show xs.length = 6 from hxl)
  have h0 := hg 0 _ rfl
  have h1 := hg 1 _ rfl
  have h2 := hg 2 _ rfl
  have h3 := hg 3 _ rfl
  have h4 := hg 4 _ rfl
  have h5 := hg 5 _ rfl
  simp [cells_int, cells_u8, cells_bool] at h0 h1 h2 h3 h4 h5
  obtain ⟨a0, e0, _⟩ := DataW.trod_int Tryd.underlying3 h0
  obtain ⟨a1, e1, _⟩ := DataW.trod_int Tryd.underlying3 h1
  obtain ⟨a2, e2, _⟩ := DataW.trod_int Tryd.underlying3 h2
  obtain ⟨a3, e3, _⟩ := DataW.trod_int Tryd.underlying3 h3
  obtain ⟨a4, e4, _, w4⟩ := DataW.trod_int Tryd.underlying5 h4
  obtain ⟨a5, e5, _⟩ := DataW.trod_bool Tryd.underlying4 h5
  simp at e0 e1 e2 e3 e4 e5
  subst e0 e1 e2 e3 e4 e5
  exact ⟨⟨a0, a1, a2, a3, a4, a5⟩, rfl, wf_u8 w4⟩

/-- A slice of things of k cells each. -/
theorem read_rows {α : Type} [Inhabited α] {f : α → List Value} {k : Nat} (hk : 0 < k) (hl : ∀ x, (f x).length = k) {t e : TypeId} (ht : Tryd.prog.underlying t = some (.slice e)) (hce : Tryd.prog.cellsOf e = k) (Q : α → Prop)
    (one : ∀ (n : Nat) (cs' : List Value) (y : DataW H × List MemPlace), DataW.trod enc Tryd.prog w base spare held n e cs' = some y → ∃ s : α, cs' = f s ∧ Q s)
    (h : DataW.trod enc Tryd.prog w base spare held fuel t cs = some x) : ∃ (B : Option Addr) (m d : Nat) (zs : List α), cs = [.slice B m d] ∧ Rd w k B m (zs.flatMap f) ∧ m ≤ 9223372036854775807 ∧ (∀ s ∈ zs, Q s) ∧ m ≤ d ∧ d ≤ 9223372036854775807 := by
  rcases open_slice ht h with ⟨rfl, _⟩ | ⟨a, len, cap, m, n, D, Pl, rfl, _, hlc, hcm, hm, _, hi⟩
  · exact ⟨none, 0, 0, [], rfl, Rd.nil_, by omega, by simp, by omega, by omega⟩
  · have hlm : len ≤ m := by rw [hm]; split <;> omega
    have hex : ∀ i, ∃ s : α, i < len → (Q s ∧ ∀ j u, (f s)[j]? = some u → w.cell? (a.add (i * k + j)) = some u) := by
      intro i
      by_cases hi' : i < len
      · obtain ⟨cs', hc, ht'⟩ := hi i (by omega)
        rw [hce] at hc
        obtain ⟨s, rfl, hq⟩ := one _ _ _ ht'
        obtain ⟨_, _, hat⟩ := World.cells?_some hc
        refine ⟨s, fun _ => ⟨hq, fun j u hu => ?_⟩⟩
        have hj : j < k := by
          rcases Nat.lt_or_ge j k with h | h
          · exact h
          · rw [List.getElem?_eq_none (by rw [hl]; exact h)] at hu; cases hu
        rw [← Go.Deep.add_add, hat j hj, hu]
      · exact ⟨default, fun h => absurd h hi'⟩
    let g : Nat → α := fun i => Classical.choose (hex i)
    have hf : ∀ i, i < len → (Q (g i) ∧ ∀ j u, (f (g i))[j]? = some u → w.cell? (a.add (i * k + j)) = some u) := fun i => Classical.choose_spec (hex i)
    refine ⟨some a, len, cap, (List.range len).map g, rfl, ⟨by rw [flatMap_len hl]; simp, fun hn => ?_⟩, by unfold maxLen at hcm; omega, fun s hs => ?_, hlc, by unfold maxLen at hcm; omega⟩
    · have h0 := (hf 0 hn).2 0 _ (List.getElem?_eq_getElem (by rw [hl]; exact hk))
      have hs : a.spot = none := spot_of_cell (by simpa [Addr.add] using h0)
      have hbl := block_lt_of_cell h0
      rw [add_of_none hs] at hbl
      refine ⟨a.block, a.off, by rw [show a = ⟨a.block, a.off, a.spot⟩ from rfl, hs], hbl, fun j u hu => ?_⟩
      have hj : j < len * k := by
        have hl' := flatMap_len hl ((List.range len).map g)
        rcases Nat.lt_or_ge j (len * k) with h | h
        · exact h
        · rw [List.getElem?_eq_none (by rw [hl']; simpa using h)] at hu; cases hu
      have hkk : j / k < len := Nat.div_lt_of_lt_mul (by rw [Nat.mul_comm]; exact hj)
      have e : j = j / k * k + j % k := (Nat.div_add_mod' j k).symm
      rw [e] at hu ⊢
      rw [flatMap_get hl (by simpa using hkk) (Nat.mod_lt _ hk)] at hu
      have e2 : ((List.range len).map g)[j / k]! = g (j / k) := by
        rw [getElem!_pos _ _ (by simpa using hkk)]; simp
      rw [e2] at hu
      have := (hf (j / k) hkk).2 (j % k) u hu
      rwa [add_of_none hs] at this
    · obtain ⟨i, hi, rfl⟩ := List.mem_map.1 hs
      exact (hf i (by simpa using hi)).1
theorem read_sigs (h : DataW.trod enc Tryd.prog w base spare held fuel 23 cs = some x) : ∃ (B : Option Addr) (m d : Nat) (zs : List Sig), cs = [.slice B m d] ∧ SigsIn w B m zs ∧ m ≤ d ∧ d ≤ 9223372036854775807 := by
  obtain ⟨B, m, d, zs, e, h1, h2, h3, h4, h5⟩ := read_rows (f := Sig.cells) (k := 6) (by decide) Sig.len Tryd.underlying23 cells_sig (fun s => 0 ≤ s.kind ∧ s.kind ≤ 255) (fun _ _ _ h => read_sig h) h
  exact ⟨B, m, d, zs, e, ⟨h1, h2, h3⟩, h4, h5⟩
theorem read_lics (h : DataW.trod enc Tryd.prog w base spare held fuel 22 cs = some x) : ∃ (B : Option Addr) (m d : Nat) (zs : List Lic), cs = [.slice B m d] ∧ LicsIn w B m zs ∧ m ≤ d ∧ d ≤ 9223372036854775807 := by
  obtain ⟨B, m, d, zs, e, h1, h2, h3, h4, h5⟩ := read_rows (f := Lic.cells) (k := 4) (by decide) Lic.len Tryd.underlying22 cells_lic (fun s => 0 ≤ s.purpose ∧ s.purpose ≤ 255) (fun _ _ _ h => read_lic h) h
  exact ⟨B, m, d, zs, e, ⟨h1, h2, h3⟩, h4, h5⟩
theorem read_inqs_cells (h : DataW.trod enc Tryd.prog w base spare held fuel 28 cs = some x) : ∃ (B : Option Addr) (m d : Nat) (zs : List Inq), cs = [.slice B m d] ∧ InqsIn w B m zs ∧ m ≤ d ∧ d ≤ 9223372036854775807 := by
  obtain ⟨B, m, d, zs, e, h1, h2, h3, h4, h5⟩ := read_rows (f := Inq.cells) (k := 6) (by decide) Inq.len Tryd.underlying28 cells_inq (fun s => 0 ≤ s.purpose ∧ s.purpose ≤ 255) (fun _ _ _ h => read_inq h) h
  exact ⟨B, m, d, zs, e, ⟨h1, h2, h3⟩, h4, h5⟩
set_option maxRecDepth 100000 in
theorem read_gate {r : Reach} {b0 : Nat} {v : Value} {dd : DataW H} {p : List MemPlace} (hv : Value.okWide Tryd.prog w r b0 25 v) (h : DataW.Trod enc Tryd.prog w base spare held 25 v dd p) :
    ∃ (g : Gat) (ls : List Lic) (ss : List Sig), v = g.val ∧ GatIn w g ls ss ∧ (g.ln ≤ g.lc ∧ g.lc ≤ 9223372036854775807) ∧ (g.sn ≤ g.sc ∧ g.sc ≤ 9223372036854775807) := by
  obtain ⟨cs, rfl, _⟩ := okWide_struct Tryd.underlying25 hv
  obtain ⟨fuel, hf⟩ := h
  obtain ⟨xs, n, _, _, hcl, hxl, hg⟩ := DataW.trod_struct Tryd.underlying25 hf
  rw [cells_gate] at hcl
  obtain ⟨c0, c1, hcs⟩ := list2 hcl
  obtain ⟨y0, y1, rfl⟩ := list2 (show xs.length = 2 from hxl)
  have h0 := hg 0 _ rfl
  have h1 := hg 1 _ rfl
  rw [hcs] at h0 h1
  simp [cells_lics, cells_sigs] at h0 h1
  obtain ⟨la, ln, lc, ls, e0, hl, q0⟩ := read_lics h0
  obtain ⟨sa, sn, sc, ss, e1, hs, q1⟩ := read_sigs h1
  simp at e0 e1
  subst e0 e1
  simp [Value.cells] at hcs
  refine ⟨⟨la, ln, lc, sa, sn, sc⟩, ls, ss, ?_, ⟨hl, hs⟩, q0, q1⟩
  unfold Gat.val
  congr 1
  exact Array.ext' hcs
set_option maxRecDepth 100000 in
theorem read_inquiry {r : Reach} {b0 : Nat} {v : Value} {dd : DataW H} {p : List MemPlace} (hv : Value.okWide Tryd.prog w r b0 27 v) (h : DataW.Trod enc Tryd.prog w base spare held 27 v dd p) :
    ∃ q : Inq, v = q.val ∧ 0 ≤ q.purpose ∧ q.purpose ≤ 255 := by
  obtain ⟨cs, rfl, _⟩ := okWide_struct Tryd.underlying27 hv
  obtain ⟨fuel, hf⟩ := h
  obtain ⟨q, hq, hu⟩ := read_inq hf
  refine ⟨q, ?_, hu⟩
  simp [Value.cells] at hq
  unfold Inq.val
  congr 1
  exact Array.ext' hq
set_option maxRecDepth 100000 in
theorem read_inqs {r : Reach} {b0 : Nat} {v : Value} {dd : DataW H} {p : List MemPlace} (hv : Value.okWide Tryd.prog w r b0 28 v) (h : DataW.Trod enc Tryd.prog w base spare held 28 v dd p) :
    ∃ (B : Option Addr) (m d : Nat) (zs : List Inq), v = .slice B m d ∧ InqsIn w B m zs ∧ m ≤ d ∧ d ≤ 9223372036854775807 := by
  obtain ⟨a, len, cap, rfl⟩ := okWide_slice Tryd.underlying28 hv
  obtain ⟨fuel, hf⟩ := h
  obtain ⟨B, m, d, zs, e, h1⟩ := read_inqs_cells hf
  simp [Value.cells] at e
  obtain ⟨rfl, rfl, rfl⟩ := e
  exact ⟨_, _, _, zs, rfl, h1⟩
set_option maxRecDepth 100000 in
theorem read_sigs_val {r : Reach} {b0 : Nat} {v : Value} {dd : DataW H} {p : List MemPlace} (hv : Value.okWide Tryd.prog w r b0 23 v) (h : DataW.Trod enc Tryd.prog w base spare held 23 v dd p) :
    ∃ (B : Option Addr) (m d : Nat) (zs : List Sig), v = .slice B m d ∧ SigsIn w B m zs ∧ m ≤ d ∧ d ≤ 9223372036854775807 := by
  obtain ⟨a, len, cap, rfl⟩ := okWide_slice Tryd.underlying23 hv
  obtain ⟨fuel, hf⟩ := h
  obtain ⟨B, m, d, zs, e, h1⟩ := read_sigs hf
  simp [Value.cells] at e
  obtain ⟨rfl, rfl, rfl⟩ := e
  exact ⟨_, _, _, zs, rfl, h1⟩
end
theorem wf_i64 {n : Int} (h : (Lit.int IntKind.i64 n).wf = true) : -9223372036854775808 ≤ n ∧ n ≤ 9223372036854775807 := by
  simp only [Lit.wf, Bool.and_eq_true, decide_eq_true_eq] at h
  exact ⟨h.1, h.2⟩
end Go.Proofs.YtliehlefpodhaaaDoor
