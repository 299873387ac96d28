/- What is read of an argument: tables and lists of questions, with their capacity. For every argument that reads. -/
import Derived.Test.YtimhkkijoelmhaaQRead10
namespace Go.Proofs.Ytimhkkijoelmhaa
open Go.RowKit Go.ChangeShapes Go.WideShapes Go.Deep Go.Joins

section
variable {H : Type} {enc : TypeId × Value → H} {w : World} {base : Nat} {spare : Nat → Bool} {held : Bool}
set_option maxRecDepth 100000 in
theorem read_table_cap {r : Reach} {b0 : Nat} {v : Value} {dd : DataW H} {p : List MemPlace} (hv : Value.okWide Try.prog w r b0 22 v) (h : DataW.Trod enc Try.prog w base spare held 22 v dd p) :
    ∃ (A : Option Addr) (n c : Nat) (zs : List Sbj), v = .slice A n c ∧ SbjsIn w A n zs ∧ n ≤ c ∧ c ≤ 9223372036854775807 := by
  obtain ⟨a, len, cap, rfl⟩ := okWide_slice Try.underlying22 hv
  obtain ⟨fuel, hf⟩ := h
  obtain ⟨B, m, d, zs, e, h1, h2, h3, h4, h5⟩ := read_rows (f := Sbj.cells) (k := 2) (by decide) Sbj.len Try.underlying22 cells_sbj (fun s => (Rd w 1 s.a s.n (s.vals.map (Value.int .i64)) ∧ s.n ≤ 9223372036854775807) ∧ -9223372036854775808 ≤ s.id ∧ s.id ≤ 9223372036854775807) (fun _ _ _ h => read_sbj h) hf
  simp [Value.cells] at e
  obtain ⟨rfl, rfl, rfl⟩ := e
  exact ⟨_, _, _, zs, rfl, ⟨h1, h2, fun s hs => (h3 s hs).1, fun s hs => (h3 s hs).2⟩, h4, h5⟩
set_option maxRecDepth 100000 in
theorem read_questions_cap {r : Reach} {b0 : Nat} {v : Value} {dd : DataW H} {p : List MemPlace} (hv : Value.okWide Try.prog w r b0 27 v) (h : DataW.Trod enc Try.prog w base spare held 27 v dd p) :
    ∃ (A : Option Addr) (n c : Nat) (qs : List Qst), v = .slice A n c ∧ QstsIn w A n qs ∧ n ≤ c ∧ c ≤ 9223372036854775807 := by
  obtain ⟨a, len, cap, rfl⟩ := okWide_slice Try.underlying27 hv
  obtain ⟨fuel, hf⟩ := h
  obtain ⟨B, m, d, zs, e, h1, h2, h3, h4, h5⟩ := read_rows (f := Qst.cells) (k := 4) (by decide) Qst.len Try.underlying27 cells_qst (fun s => QstIn w s) (fun _ _ _ h => read_qst h) hf
  simp [Value.cells] at e
  obtain ⟨rfl, rfl, rfl⟩ := e
  exact ⟨_, _, _, zs, rfl, ⟨h1, h2, h3⟩, h4, h5⟩
end
end Go.Proofs.Ytimhkkijoelmhaa
