/- What is read of an argument that is a list of numbers. For every argument that reads. -/
import Derived.Test.YtliehlefpodhaaaDoorOLaid9
namespace Go.Proofs.YtliehlefpodhaaaDoor
open Go.RowKit Go.ChangeShapes Go.WideShapes Go.Deep

theorem cells_u32 : Tryd.prog.cellsOf 116 = 1 := by kernel_rfl
section
variable {H : Type} {enc : TypeId × Value → H} {w : World} {base : Nat} {spare : Nat → Bool} {held : Bool} {fuel : Nat} {cs : List Value} {x : DataW H × List MemPlace}
theorem read_u32 (h : DataW.trod enc Tryd.prog w base spare held fuel 116 cs = some x) : ∃ s : Int, cs = [.int .u32 s] ∧ 0 ≤ s ∧ s ≤ 4294967295 := by
  obtain ⟨a0, e0, _, w0⟩ := DataW.trod_int Tryd.underlying116 h
  simp only [Lit.wf, Bool.and_eq_true, decide_eq_true_eq] at w0
  exact ⟨a0, e0, w0.1, w0.2⟩
theorem read_u32s (h : DataW.trod enc Tryd.prog w base spare held fuel 76 cs = some x) : ∃ (B : Option Addr) (m d : Nat) (zs : List Int), cs = [.slice B m d] ∧ Rd w 1 B m (zs.map (Value.int .u32)) ∧ m ≤ 9223372036854775807 ∧ ∀ z ∈ zs, 0 ≤ z ∧ z ≤ 4294967295 := by
  rcases open_slice Tryd.underlying76 h with ⟨rfl, _⟩ | ⟨a, len, cap, m, n, D, Pl, rfl, _, hlc, hcm, hm, _, hi⟩
  · exact ⟨none, 0, 0, [], rfl, Rd.nil_, by omega, by simp⟩
  · have hlm : len ≤ m := by rw [hm]; split <;> omega
    have hex : ∀ i, ∃ s : Int, (0 ≤ s ∧ s ≤ 4294967295) ∧ (i < len → w.cell? (a.add i) = some (.int .u32 s)) := by
      intro i
      by_cases hi' : i < len
      · obtain ⟨cs', hc, ht⟩ := hi i (by omega)
        rw [cells_u32] at hc
        obtain ⟨s, rfl, h1⟩ := read_u32 ht
        obtain ⟨_, _, hat⟩ := World.cells?_some hc
        refine ⟨s, h1, fun _ => ?_⟩
        have := hat 0 (by omega)
        rw [Go.Deep.add_add] at this
        simpa using this
      · exact ⟨0, by omega, fun h => absurd h hi'⟩
    let f : Nat → Int := fun i => Classical.choose (hex i)
    have hf : ∀ i, (0 ≤ f i ∧ f i ≤ 4294967295) ∧ (i < len → w.cell? (a.add i) = some (.int .u32 (f i))) := fun i => Classical.choose_spec (hex i)
    refine ⟨some a, len, cap, (List.range len).map f, rfl, ⟨by simp, fun hn => ?_⟩, by unfold maxLen at hcm; omega, fun z hz => ?_⟩
    · have h0 := (hf 0).2 hn
      have hs : a.spot = none := spot_of_cell (by simpa [Addr.add] using h0)
      have hbl := block_lt_of_cell h0
      rw [add_of_none hs] at hbl
      refine ⟨a.block, a.off, by rw [show a = ⟨a.block, a.off, a.spot⟩ from rfl, hs], hbl, fun j u hu => ?_⟩
      have hj : j < len := by
        rcases Nat.lt_or_ge j len with h | h
        · exact h
        · rw [List.getElem?_eq_none (by simpa using h)] at hu; cases hu
      have := (hf j).2 hj
      rw [add_of_none hs] at this
      rw [this]
      simpa [hj] using hu
    · obtain ⟨i, _, rfl⟩ := List.mem_map.1 hz
      exact (hf i).1
set_option maxRecDepth 100000 in
theorem read_u32s_val {r : Reach} {b0 : Nat} {v : Value} {dd : DataW H} {p : List MemPlace} (hv : Value.okWide Tryd.prog w r b0 76 v) (h : DataW.Trod enc Tryd.prog w base spare held 76 v dd p) :
    ∃ (B : Option Addr) (m d : Nat) (zs : List Int), v = .slice B m d ∧ Rd w 1 B m (zs.map (Value.int .u32)) ∧ m ≤ 9223372036854775807 ∧ ∀ z ∈ zs, 0 ≤ z ∧ z ≤ 4294967295 := by
  obtain ⟨A, n, c, rfl⟩ := okWide_slice Tryd.underlying76 hv
  obtain ⟨fuel, hf⟩ := h
  obtain ⟨B, m, d, zs, e, h1, h2, h3⟩ := read_u32s hf
  simp [Value.cells] at e
  obtain ⟨rfl, rfl, rfl⟩ := e
  exact ⟨_, _, _, zs, rfl, h1, h2, h3⟩
end
end Go.Proofs.YtliehlefpodhaaaDoor
