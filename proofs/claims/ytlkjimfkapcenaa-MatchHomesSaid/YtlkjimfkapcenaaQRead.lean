/- What is read of an argument: a record, rules, as the walks want them. For every argument that reads. -/
import Derived.Deep.Slices
import Derived.Deep.Strs
import Derived.ProofKit
import Derived.SliceStrings
import Derived.Test.YtlkjimfkapcenaaQWithin
namespace Go.Proofs.Ytlkjimfkapcenaa
open Go.RowKit Go.ChangeShapes Go.WideShapes Go.Deep

theorem cells_int : Try.prog.cellsOf 3 = 1 := by kernel_rfl
theorem cells_string : Try.prog.cellsOf 9 = 1 := by kernel_rfl
theorem cells_u8 : Try.prog.cellsOf 5 = 1 := by kernel_rfl
theorem cells_bool : Try.prog.cellsOf 4 = 1 := by kernel_rfl
theorem cells_names : Try.prog.cellsOf 24 = 1 := by kernel_rfl
theorem cells_stays : Try.prog.cellsOf 27 = 1 := by kernel_rfl
theorem cells_span : Try.prog.cellsOf 26 = 2 := by kernel_rfl
theorem cells_stay : Try.prog.cellsOf 75 = 3 := by kernel_rfl
theorem cells_record : Try.prog.cellsOf 29 = 8 := by kernel_rfl
theorem cells_rules : Try.prog.cellsOf 23 = 4 := by kernel_rfl

theorem spot_of_cell {w : World} {a : Addr} {v : Value} (h : w.cell? a = some v) : a.spot = none := by
  unfold World.cell? at h
  split at h
  · split at h
    · cases h
    · rename_i hs; simpa using hs
  · cases h
theorem add_of_none {a : Addr} (h : a.spot = none) (i : Nat) : a.add i = ⟨a.block, a.off + i, none⟩ := by
  obtain ⟨b, o, s⟩ := a
  dsimp only at h
  subst h
  exact Addr.add_lit b o i

theorem list2 {α : Type} {l : List α} (h : l.length = 2) : ∃ a0 a1 : α, l = [a0, a1] := by
  match l, h with
  | [a0, a1], _ => exact ⟨a0, a1, rfl⟩
theorem list3 {α : Type} {l : List α} (h : l.length = 3) : ∃ a0 a1 a2 : α, l = [a0, a1, a2] := by
  match l, h with
  | [a0, a1, a2], _ => exact ⟨a0, a1, a2, rfl⟩
theorem list7 {α : Type} {l : List α} (h : l.length = 7) : ∃ a0 a1 a2 a3 a4 a5 a6 : α, l = [a0, a1, a2, a3, a4, a5, a6] := by
  match l, h with
  | [a0, a1, a2, a3, a4, a5, a6], _ => exact ⟨a0, a1, a2, a3, a4, a5, a6, rfl⟩
theorem list8 {α : Type} {l : List α} (h : l.length = 8) : ∃ a0 a1 a2 a3 a4 a5 a6 a7 : α, l = [a0, a1, a2, a3, a4, a5, a6, a7] := by
  match l, h with
  | [a0, a1, a2, a3, a4, a5, a6, a7], _ => exact ⟨a0, a1, a2, a3, a4, a5, a6, a7, rfl⟩

section
variable {H : Type} {enc : TypeId × Value → H} {w : World} {base : Nat} {spare : Nat → Bool} {held : Bool} {fuel : Nat} {cs : List Value} {x : DataW H × List MemPlace}
theorem read_sty (h : DataW.trod enc Try.prog w base spare held fuel 75 cs = some x) : ∃ s : Sty, cs = s.cells := by
  obtain ⟨xs, n, _, _, hcl, hxl, hg⟩ := DataW.trod_struct Try.underlying75 h
  rw [cells_stay] at hcl
  obtain ⟨c0, c1, c2, rfl⟩ := list3 hcl
  obtain ⟨y0, y1, y2, rfl⟩ := list3 (show xs.length = 3 from hxl)
  have h0 := hg 0 _ rfl
  have h1 := hg 1 _ rfl
  have h2 := hg 2 _ rfl
  simp [cells_int] at h0 h1 h2
  obtain ⟨a0, e0, _⟩ := DataW.trod_int Try.underlying3 h0
  obtain ⟨a1, e1, _⟩ := DataW.trod_int Try.underlying3 h1
  obtain ⟨a2, e2, _⟩ := DataW.trod_int Try.underlying3 h2
  simp at e0 e1 e2
  subst e0 e1 e2
  exact ⟨⟨a0, a1, a2⟩, rfl⟩
theorem read_stays (h : DataW.trod enc Try.prog w base spare held fuel 27 cs = some x) : ∃ (B : Option Addr) (m d : Nat) (zs : List Sty), cs = [.slice B m d] ∧ Rd w 3 B m (zs.flatMap Sty.cells) ∧ m ≤ 9223372036854775807 := by
  rcases open_slice Try.underlying27 h with ⟨rfl, _⟩ | ⟨a, len, cap, m, n, D, Pl, rfl, _, hlc, hcm, hm, _, hi⟩
  · exact ⟨none, 0, 0, [], rfl, Rd.nil_, by omega⟩
  · have hlm : len ≤ m := by rw [hm]; split <;> omega
    have hex : ∀ i, ∃ s : Sty, i < len → ∀ j u, s.cells[j]? = some u → w.cell? (a.add (i * 3 + j)) = some u := by
      intro i
      by_cases hi' : i < len
      · obtain ⟨cs', hc, ht⟩ := hi i (by omega)
        rw [cells_stay] at hc
        obtain ⟨s, rfl⟩ := read_sty ht
        obtain ⟨_, _, hat⟩ := World.cells?_some hc
        refine ⟨s, fun _ j u hu => ?_⟩
        have hj : j < 3 := by
          rcases Nat.lt_or_ge j 3 with h | h
          · exact h
          · rw [List.getElem?_eq_none (by simpa [Sty.cells] using h)] at hu; cases hu
        rw [← Go.Deep.add_add, hat j hj, hu]
      · exact ⟨default, fun h => absurd h hi'⟩
    let f : Nat → Sty := fun i => Classical.choose (hex i)
    have hf : ∀ i, i < len → ∀ j u, (f i).cells[j]? = some u → w.cell? (a.add (i * 3 + j)) = some u := fun i => Classical.choose_spec (hex i)
    refine ⟨some a, len, cap, (List.range len).map f, rfl, ⟨by rw [flatMap_len Sty.len]; simp, fun hn => ?_⟩, by unfold maxLen at hcm; omega⟩
    have h0 := hf 0 hn 0 _ rfl
    have hs : a.spot = none := spot_of_cell (by simpa [Addr.add] using h0)
    have hbl := block_lt_of_cell h0
    rw [add_of_none hs] at hbl
    refine ⟨a.block, a.off, by rw [show a = ⟨a.block, a.off, a.spot⟩ from rfl, hs], hbl, fun j u hu => ?_⟩
    have hj : j < len * 3 := by
      have hl := flatMap_len Sty.len ((List.range len).map f)
      rcases Nat.lt_or_ge j (len * 3) with h | h
      · exact h
      · rw [List.getElem?_eq_none (by rw [hl]; simpa using h)] at hu; cases hu
    have hk : j / 3 < len := by omega
    have e : j = j / 3 * 3 + j % 3 := by omega
    rw [e] at hu ⊢
    rw [flatMap_get Sty.len (by simpa using hk) (Nat.mod_lt _ (by omega))] at hu
    have e2 : ((List.range len).map f)[j / 3]! = f (j / 3) := by
      rw [getElem!_pos _ _ (by simpa using hk)]; simp
    rw [e2] at hu
    have := hf (j / 3) hk (j % 3) u hu
    rwa [add_of_none hs] at this
theorem read_names (h : DataW.trod enc Try.prog w base spare held fuel 24 cs = some x) : ∃ (A : Option Addr) (n c : Nat) (zs : List ByteArray), cs = [.slice A n c] ∧ Rd w 1 A n (zs.map Value.string) ∧ n ≤ 9223372036854775807 ∧ (∀ s ∈ zs, s.size ≤ maxLen) ∧ n ≤ c ∧ c ≤ 9223372036854775807 := by
  rcases open_strings Try.underlying24 Try.underlying9 cells_string h with ⟨rfl, _⟩ | ⟨a, len, cap, ss, rfl, _, hlc, hcm, hsl, _, hcell, hsz⟩
  · exact ⟨none, 0, 0, [], rfl, Rd.nil_, by omega, by simp, by omega, by omega⟩
  · have hll : len ≤ ss.length := by rw [hsl]; split <;> omega
    refine ⟨some a, len, cap, ss.take len, rfl, ⟨by simp; omega, fun hn => ?_⟩, by unfold maxLen at hcm; omega, fun s hs => hsz s (List.mem_of_mem_take hs), hlc, by unfold maxLen at hcm; omega⟩
    have h0 := hcell 0 (by omega)
    have hs : a.spot = none := spot_of_cell (by simpa [Addr.add] using h0)
    have hbl := block_lt_of_cell h0
    rw [add_of_none hs] at hbl
    refine ⟨a.block, a.off, by rw [show a = ⟨a.block, a.off, a.spot⟩ from rfl, hs], hbl, fun j u hu => ?_⟩
    rw [List.getElem?_map] at hu
    cases hq : (ss.take len)[j]? with
    | none => rw [hq] at hu; cases hu
    | some s =>
      rw [hq] at hu
      simp only [Option.map_some, Option.some.injEq] at hu
      subst hu
      rw [List.getElem?_take] at hq
      split at hq
      · have hc := hcell j (by omega)
        rw [add_of_none hs] at hc
        rw [hc, List.getD_eq_getElem?_getD, hq]
        rfl
      · cases hq
end
end Go.Proofs.Ytlkjimfkapcenaa
