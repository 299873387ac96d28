/- What is read of an argument: a list of records, a number. For every argument that reads. -/
import Derived.Deep.Slices
import Derived.ProofKit
import Derived.Test.YtlkjimfkapcenaaQPairSpec
import Derived.Test.YtlkjimfkapcenaaQReadRec
namespace Go.Proofs.Ytlkjimfkapcenaa
open Go.RowKit Go.ChangeShapes Go.WideShapes Go.Deep Go.Joins

theorem wf_i64 {n : Int} (h : (Lit.int IntKind.i64 n).wf = true) : -9223372036854775808 ≤ n ∧ n ≤ 9223372036854775807 := by
  simp only [Lit.wf, Bool.and_eq_true, decide_eq_true_eq] at h
  exact ⟨h.1, h.2⟩
section
variable {H : Type} {enc : TypeId × Value → H} {w : World} {base : Nat} {spare : Nat → Bool} {held : Bool} {fuel : Nat} {cs : List Value} {x : DataW H × List MemPlace}
/-- A slice of things of k cells each. -/
theorem read_rows {α : Type} [Inhabited α] {f : α → List Value} {k : Nat} (hk : 0 < k) (hl : ∀ x, (f x).length = k) {t e : TypeId} (ht : Try.prog.underlying t = some (.slice e)) (hce : Try.prog.cellsOf e = k) (Q : α → Prop)
    (one : ∀ (n : Nat) (cs' : List Value) (y : DataW H × List MemPlace), DataW.trod enc Try.prog w base spare held n e cs' = some y → ∃ s : α, cs' = f s ∧ Q s)
    (h : DataW.trod enc Try.prog w base spare held fuel t cs = some x) : ∃ (B : Option Addr) (m d : Nat) (zs : List α), cs = [.slice B m d] ∧ Rd w k B m (zs.flatMap f) ∧ m ≤ 9223372036854775807 ∧ (∀ s ∈ zs, Q s) ∧ m ≤ d ∧ d ≤ 9223372036854775807 := by
  rcases open_slice ht h with ⟨rfl, _⟩ | ⟨a, len, cap, m, n, D, Pl, rfl, _, hlc, hcm, hm, _, hi⟩
  · exact ⟨none, 0, 0, [], rfl, Rd.nil_, by omega, by simp, by omega, by omega⟩
  · have hlm : len ≤ m := by rw [hm]; split <;> omega
    have hex : ∀ i, ∃ s : α, i < len → (Q s ∧ ∀ j u, (f s)[j]? = some u → w.cell? (a.add (i * k + j)) = some u) := by
      intro i
      by_cases hi' : i < len
      · obtain ⟨cs', hc, ht'⟩ := hi i (by omega)
        rw [hce] at hc
        obtain ⟨s, rfl, hq⟩ := one _ _ _ ht'
        obtain ⟨_, _, hat⟩ := World.cells?_some hc
        refine ⟨s, fun _ => ⟨hq, fun j u hu => ?_⟩⟩
        have hj : j < k := by
          rcases Nat.lt_or_ge j k with h | h
          · exact h
          · rw [List.getElem?_eq_none (by rw [hl]; exact h)] at hu; cases hu
        rw [← Go.Deep.add_add, hat j hj, hu]
      · exact ⟨default, fun h => absurd h hi'⟩
    let g : Nat → α := fun i => Classical.choose (hex i)
    have hf : ∀ i, i < len → (Q (g i) ∧ ∀ j u, (f (g i))[j]? = some u → w.cell? (a.add (i * k + j)) = some u) := fun i => Classical.choose_spec (hex i)
    refine ⟨some a, len, cap, (List.range len).map g, rfl, ⟨by rw [flatMap_len hl]; simp, fun hn => ?_⟩, by unfold maxLen at hcm; omega, fun s hs => ?_, hlc, by unfold maxLen at hcm; omega⟩
    · have h0 := (hf 0 hn).2 0 _ (List.getElem?_eq_getElem (by rw [hl]; exact hk))
      have hs : a.spot = none := spot_of_cell (by simpa [Addr.add] using h0)
      have hbl := block_lt_of_cell h0
      rw [add_of_none hs] at hbl
      refine ⟨a.block, a.off, by rw [show a = ⟨a.block, a.off, a.spot⟩ from rfl, hs], hbl, fun j u hu => ?_⟩
      have hj : j < len * k := by
        have hl' := flatMap_len hl ((List.range len).map g)
        rcases Nat.lt_or_ge j (len * k) with h | h
        · exact h
        · rw [List.getElem?_eq_none (by rw [hl']; simpa using h)] at hu; cases hu
      have hkk : j / k < len := Nat.div_lt_of_lt_mul (by rw [Nat.mul_comm]; exact hj)
      have e : j = j / k * k + j % k := (Nat.div_add_mod' j k).symm
      rw [e] at hu ⊢
      rw [flatMap_get hl (by simpa using hkk) (Nat.mod_lt _ hk)] at hu
      have e2 : ((List.range len).map g)[j / k]! = g (j / k) := by
        rw [getElem!_pos _ _ (by simpa using hkk)]; simp
      rw [e2] at hu
      have := (hf (j / k) hkk).2 (j % k) u hu
      rwa [add_of_none hs] at this
    · obtain ⟨i, hi, rfl⟩ := List.mem_map.1 hs
      exact (hf i (by simpa using hi)).1
theorem read_rcs_cells (h : DataW.trod enc Try.prog w base spare held fuel 58 cs = some x) : ∃ (B : Option Addr) (m d : Nat) (zs : List Elt), cs = [.slice B m d] ∧ RecsIn w B m zs ∧ m ≤ d ∧ d ≤ 9223372036854775807 := by
  obtain ⟨B, m, d, zs, e, h1, h2, h3, h4, h5⟩ := read_rows (f := Elt.cells) (k := 8) (by decide) Elt.len Try.underlying58 cells_record (fun s => EltIn w s) (fun n cs' y h => by
    have hl := (DataW.trod_struct Try.underlying29 h)
    obtain ⟨r, A, n1, c1, B, m, d, e, h1, h2, h3, h4⟩ := read_record_cells_cap h
    refine ⟨⟨r, A, n1, c1, B, m, d⟩, ?_, h1, ⟨h2, h3⟩, h4⟩
    unfold Rcd.val at e
    injection e with e
    have := congrArg Array.toList e
    simpa [Elt.cells] using this) h
  exact ⟨B, m, d, zs, e, ⟨h1, h2, h3⟩, h4, h5⟩
set_option maxRecDepth 100000 in
theorem read_rcs {r : Reach} {b0 : Nat} {v : Value} {dd : DataW H} {p : List MemPlace} (hv : Value.okWide Try.prog w r b0 58 v) (h : DataW.Trod enc Try.prog w base spare held 58 v dd p) :
    ∃ (B : Option Addr) (m d : Nat) (zs : List Elt), v = .slice B m d ∧ RecsIn w B m zs ∧ m ≤ d ∧ d ≤ 9223372036854775807 := by
  obtain ⟨a, len, cap, rfl⟩ := okWide_slice Try.underlying58 hv
  obtain ⟨fuel, hf⟩ := h
  obtain ⟨B, m, d, zs, e, h1⟩ := read_rcs_cells hf
  simp [Value.cells] at e
  obtain ⟨rfl, rfl, rfl⟩ := e
  exact ⟨_, _, _, zs, rfl, h1⟩
end
end Go.Proofs.Ytlkjimfkapcenaa
