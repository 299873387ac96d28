/- What is read of an argument: tables, questions, lists of them. For every argument that reads. -/
import Derived.Deep.Slices
import Derived.Lib.SmallJoins
import Derived.ProofKit
import Derived.Test.YtimhkkijoelmhaaQOrd10
namespace Go.Proofs.Ytimhkkijoelmhaa
open Go.RowKit Go.ChangeShapes Go.WideShapes Go.Deep Go.Joins

theorem cells_int : Try.prog.cellsOf 3 = 1 := by kernel_rfl
theorem cells_ints : Try.prog.cellsOf 30 = 1 := by kernel_rfl
theorem cells_sbj : Try.prog.cellsOf 60 = 2 := by kernel_rfl
theorem cells_whr : Try.prog.cellsOf 72 = 3 := by kernel_rfl
theorem cells_whrs : Try.prog.cellsOf 23 = 1 := by kernel_rfl
theorem cells_qst : Try.prog.cellsOf 25 = 4 := by kernel_rfl
theorem spot_of_cell {w : World} {a : Addr} {v : Value} (h : w.cell? a = some v) : a.spot = none := by
  unfold World.cell? at h
  split at h
  · split at h
    · cases h
    · rename_i hs; simpa using hs
  · cases h
theorem add_of_none {a : Addr} (h : a.spot = none) (i : Nat) : a.add i = ⟨a.block, a.off + i, none⟩ := by
  obtain ⟨b, o, s⟩ := a
  dsimp only at h
  subst h
  exact Addr.add_lit b o i
theorem list2 {α : Type} {l : List α} (h : l.length = 2) : ∃ a0 a1 : α, l = [a0, a1] := by
  match l, h with
  | [a0, a1], _ => exact ⟨a0, a1, rfl⟩
theorem list4 {α : Type} {l : List α} (h : l.length = 4) : ∃ a0 a1 a2 a3 : α, l = [a0, a1, a2, a3] := by
  match l, h with
  | [a0, a1, a2, a3], _ => exact ⟨a0, a1, a2, a3, rfl⟩
theorem list6 {α : Type} {l : List α} (h : l.length = 6) : ∃ a0 a1 a2 a3 a4 a5 : α, l = [a0, a1, a2, a3, a4, a5] := by
  match l, h with
  | [a0, a1, a2, a3, a4, a5], _ => exact ⟨a0, a1, a2, a3, a4, a5, rfl⟩
theorem list3 {α : Type} {l : List α} (h : l.length = 3) : ∃ a0 a1 a2 : α, l = [a0, a1, a2] := by
  match l, h with
  | [a0, a1, a2], _ => exact ⟨a0, a1, a2, rfl⟩
theorem wf_i64 {n : Int} (h : (Lit.int IntKind.i64 n).wf = true) : -9223372036854775808 ≤ n ∧ n ≤ 9223372036854775807 := by
  simp only [Lit.wf, Bool.and_eq_true, decide_eq_true_eq] at h
  exact ⟨h.1, h.2⟩
theorem flat_ints (l : List Int) : l.flatMap (fun x => [Value.int .i64 x]) = l.map (Value.int .i64) := by
  induction l with
  | nil => rfl
  | cons x r ih => rw [List.flatMap_cons, ih]; rfl

section
variable {H : Type} {enc : TypeId × Value → H} {w : World} {base : Nat} {spare : Nat → Bool} {held : Bool} {fuel : Nat} {cs : List Value} {x : DataW H × List MemPlace}
/-- A slice of things of k cells each. -/
theorem read_rows {α : Type} [Inhabited α] {f : α → List Value} {k : Nat} (hk : 0 < k) (hl : ∀ x, (f x).length = k) {t e : TypeId} (ht : Try.prog.underlying t = some (.slice e)) (hce : Try.prog.cellsOf e = k) (Q : α → Prop)
    (one : ∀ (n : Nat) (cs' : List Value) (y : DataW H × List MemPlace), DataW.trod enc Try.prog w base spare held n e cs' = some y → ∃ s : α, cs' = f s ∧ Q s)
    (h : DataW.trod enc Try.prog w base spare held fuel t cs = some x) : ∃ (B : Option Addr) (m d : Nat) (zs : List α), cs = [.slice B m d] ∧ Rd w k B m (zs.flatMap f) ∧ m ≤ 9223372036854775807 ∧ (∀ s ∈ zs, Q s) ∧ m ≤ d ∧ d ≤ 9223372036854775807 := by
  rcases open_slice ht h with ⟨rfl, _⟩ | ⟨a, len, cap, m, n, D, Pl, rfl, _, hlc, hcm, hm, _, hi⟩
  · exact ⟨none, 0, 0, [], rfl, Rd.nil_, by omega, by simp, by omega, by omega⟩
  · have hlm : len ≤ m := by rw [hm]; split <;> omega
    have hex : ∀ i, ∃ s : α, i < len → (Q s ∧ ∀ j u, (f s)[j]? = some u → w.cell? (a.add (i * k + j)) = some u) := by
      intro i
      by_cases hi' : i < len
      · obtain ⟨cs', hc, ht'⟩ := hi i (by omega)
        rw [hce] at hc
        obtain ⟨s, rfl, hq⟩ := one _ _ _ ht'
        obtain ⟨_, _, hat⟩ := World.cells?_some hc
        refine ⟨s, fun _ => ⟨hq, fun j u hu => ?_⟩⟩
        have hj : j < k := by
          rcases Nat.lt_or_ge j k with h | h
          · exact h
          · rw [List.getElem?_eq_none (by rw [hl]; exact h)] at hu; cases hu
        rw [← Go.Deep.add_add, hat j hj, hu]
      · exact ⟨default, fun h => absurd h hi'⟩
    let g : Nat → α := fun i => Classical.choose (hex i)
    have hf : ∀ i, i < len → (Q (g i) ∧ ∀ j u, (f (g i))[j]? = some u → w.cell? (a.add (i * k + j)) = some u) := fun i => Classical.choose_spec (hex i)
    refine ⟨some a, len, cap, (List.range len).map g, rfl, ⟨by rw [flatMap_len hl]; simp, fun hn => ?_⟩, by unfold maxLen at hcm; omega, fun s hs => ?_, hlc, by unfold maxLen at hcm; omega⟩
    · have h0 := (hf 0 hn).2 0 _ (List.getElem?_eq_getElem (by rw [hl]; exact hk))
      have hs : a.spot = none := spot_of_cell (by simpa [Addr.add] using h0)
      have hbl := block_lt_of_cell h0
      rw [add_of_none hs] at hbl
      refine ⟨a.block, a.off, by rw [show a = ⟨a.block, a.off, a.spot⟩ from rfl, hs], hbl, fun j u hu => ?_⟩
      have hj : j < len * k := by
        have hl' := flatMap_len hl ((List.range len).map g)
        rcases Nat.lt_or_ge j (len * k) with h | h
        · exact h
        · rw [List.getElem?_eq_none (by rw [hl']; simpa using h)] at hu; cases hu
      have hkk : j / k < len := Nat.div_lt_of_lt_mul (by rw [Nat.mul_comm]; exact hj)
      have e : j = j / k * k + j % k := (Nat.div_add_mod' j k).symm
      rw [e] at hu ⊢
      rw [flatMap_get hl (by simpa using hkk) (Nat.mod_lt _ hk)] at hu
      have e2 : ((List.range len).map g)[j / k]! = g (j / k) := by
        rw [getElem!_pos _ _ (by simpa using hkk)]; simp
      rw [e2] at hu
      have := (hf (j / k) hkk).2 (j % k) u hu
      rwa [add_of_none hs] at this
    · obtain ⟨i, hi, rfl⟩ := List.mem_map.1 hs
      exact (hf i (by simpa using hi)).1
theorem read_int1 (h : DataW.trod enc Try.prog w base spare held fuel 3 cs = some x) : ∃ s : Int, cs = [Value.int .i64 s] ∧ True := by
  obtain ⟨a0, e0, _⟩ := DataW.trod_int Try.underlying3 h
  exact ⟨a0, e0, trivial⟩
theorem read_ints (h : DataW.trod enc Try.prog w base spare held fuel 30 cs = some x) : ∃ (B : Option Addr) (m d : Nat) (zs : List Int), cs = [.slice B m d] ∧ Rd w 1 B m (zs.map (Value.int .i64)) ∧ m ≤ 9223372036854775807 := by
  obtain ⟨B, m, d, zs, e, h1, h2, h3, h4, h5⟩ := read_rows (f := fun x : Int => [Value.int .i64 x]) (k := 1) (by decide) (fun _ => rfl) Try.underlying30 cells_int (fun _ => True) (fun _ _ _ h => read_int1 h) h
  rw [flat_ints] at h1
  exact ⟨B, m, d, zs, e, h1, h2⟩
theorem read_sbj (h : DataW.trod enc Try.prog w base spare held fuel 60 cs = some x) : ∃ s : Sbj, cs = s.cells ∧ (Rd w 1 s.a s.n (s.vals.map (Value.int .i64)) ∧ s.n ≤ 9223372036854775807) ∧ -9223372036854775808 ≤ s.id ∧ s.id ≤ 9223372036854775807 := by
  obtain ⟨xs, n, _, _, hcl, hxl, hg⟩ := DataW.trod_struct Try.underlying60 h
  rw [cells_sbj] at hcl
  obtain ⟨c0, c1, rfl⟩ := list2 hcl
  obtain ⟨y0, y1, rfl⟩ := list2 (show xs.length = 2 from hxl)
  have h0 := hg 0 _ rfl
  have h1 := hg 1 _ rfl
  simp [cells_int, cells_ints] at h0 h1
  obtain ⟨a0, e0, _, w0⟩ := DataW.trod_int Try.underlying3 h0
  obtain ⟨B, m, d, zs, e1, hr, hm⟩ := read_ints h1
  simp at e0 e1
  subst e0 e1
  exact ⟨⟨a0, B, m, d, zs⟩, rfl, ⟨hr, hm⟩, wf_i64 w0⟩
theorem read_whr (h : DataW.trod enc Try.prog w base spare held fuel 72 cs = some x) : ∃ s : Whr, cs = s.cells ∧ True := by
  obtain ⟨xs, n, _, _, hcl, hxl, hg⟩ := DataW.trod_struct Try.underlying72 h
  rw [cells_whr] at hcl
  obtain ⟨c0, c1, c2, rfl⟩ := list3 hcl
  obtain ⟨y0, y1, y2, rfl⟩ := list3 (show xs.length = 3 from hxl)
  have h0 := hg 0 _ rfl
  have h1 := hg 1 _ rfl
  have h2 := hg 2 _ rfl
  simp [cells_int] at h0 h1 h2
  obtain ⟨a0, e0, _⟩ := DataW.trod_int Try.underlying3 h0
  obtain ⟨a1, e1, _⟩ := DataW.trod_int Try.underlying3 h1
  obtain ⟨a2, e2, _⟩ := DataW.trod_int Try.underlying3 h2
  simp at e0 e1 e2
  subst e0 e1 e2
  exact ⟨⟨a0, a1, a2⟩, rfl, trivial⟩
theorem read_whrs (h : DataW.trod enc Try.prog w base spare held fuel 23 cs = some x) : ∃ (B : Option Addr) (m d : Nat) (zs : List Whr), cs = [.slice B m d] ∧ Rd w 3 B m (zs.flatMap Whr.cells) ∧ m ≤ 9223372036854775807 := by
  obtain ⟨B, m, d, zs, e, h1, h2, h3, h4, h5⟩ := read_rows (f := Whr.cells) (k := 3) (by decide) Whr.len Try.underlying23 cells_whr (fun _ => True) (fun _ _ _ h => read_whr h) h
  exact ⟨B, m, d, zs, e, h1, h2⟩
theorem read_qst (h : DataW.trod enc Try.prog w base spare held fuel 25 cs = some x) : ∃ s : Qst, cs = s.cells ∧ QstIn w s := by
  obtain ⟨xs, n, _, _, hcl, hxl, hg⟩ := DataW.trod_struct Try.underlying25 h
  rw [cells_qst] at hcl
  obtain ⟨c0, c1, c2, c3, rfl⟩ := list4 hcl
  obtain ⟨y0, y1, y2, y3, rfl⟩ := list4 (show xs.length = 4 from hxl)
  have h0 := hg 0 _ rfl
  have h1 := hg 1 _ rfl
  have h2 := hg 2 _ rfl
  have h3 := hg 3 _ rfl
  simp [cells_int, cells_whrs] at h0 h1 h2 h3
  obtain ⟨B, m, d, zs, e0, hr, hm⟩ := read_whrs h0
  obtain ⟨a1, e1, _⟩ := DataW.trod_int Try.underlying3 h1
  obtain ⟨a2, e2, _⟩ := DataW.trod_int Try.underlying3 h2
  obtain ⟨a3, e3, _⟩ := DataW.trod_int Try.underlying3 h3
  simp at e0 e1 e2 e3
  subst e0 e1 e2 e3
  exact ⟨⟨B, m, d, zs, a1, a2, a3⟩, rfl, ⟨hr, hm⟩⟩
set_option maxRecDepth 100000 in
theorem read_question {r : Reach} {b0 : Nat} {v : Value} {dd : DataW H} {p : List MemPlace} (hv : Value.okWide Try.prog w r b0 25 v) (h : DataW.Trod enc Try.prog w base spare held 25 v dd p) : ∃ q : Qst, v = q.val ∧ QstIn w q := by
  obtain ⟨cs, rfl, _⟩ := okWide_struct Try.underlying25 hv
  obtain ⟨fuel, hf⟩ := h
  obtain ⟨q, hq, hu⟩ := read_qst hf
  refine ⟨q, ?_, hu⟩
  simp [Value.cells] at hq
  unfold Qst.val
  congr 1
  exact Array.ext' hq
set_option maxRecDepth 100000 in
theorem read_table {r : Reach} {b0 : Nat} {v : Value} {dd : DataW H} {p : List MemPlace} (hv : Value.okWide Try.prog w r b0 22 v) (h : DataW.Trod enc Try.prog w base spare held 22 v dd p) :
    ∃ (A : Option Addr) (n c : Nat) (zs : List Sbj), v = .slice A n c ∧ SbjsIn w A n zs := by
  obtain ⟨a, len, cap, rfl⟩ := okWide_slice Try.underlying22 hv
  obtain ⟨fuel, hf⟩ := h
  obtain ⟨B, m, d, zs, e, h1, h2, h3, _⟩ := read_rows (f := Sbj.cells) (k := 2) (by decide) Sbj.len Try.underlying22 cells_sbj (fun s => (Rd w 1 s.a s.n (s.vals.map (Value.int .i64)) ∧ s.n ≤ 9223372036854775807) ∧ -9223372036854775808 ≤ s.id ∧ s.id ≤ 9223372036854775807) (fun _ _ _ h => read_sbj h) hf
  simp [Value.cells] at e
  obtain ⟨rfl, rfl, rfl⟩ := e
  exact ⟨_, _, _, zs, rfl, h1, h2, fun s hs => (h3 s hs).1, fun s hs => (h3 s hs).2⟩
set_option maxRecDepth 100000 in
theorem read_questions {r : Reach} {b0 : Nat} {v : Value} {dd : DataW H} {p : List MemPlace} (hv : Value.okWide Try.prog w r b0 27 v) (h : DataW.Trod enc Try.prog w base spare held 27 v dd p) :
    ∃ (A : Option Addr) (n c : Nat) (qs : List Qst), v = .slice A n c ∧ QstsIn w A n qs := by
  obtain ⟨a, len, cap, rfl⟩ := okWide_slice Try.underlying27 hv
  obtain ⟨fuel, hf⟩ := h
  obtain ⟨B, m, d, zs, e, h1, h2, h3, _⟩ := read_rows (f := Qst.cells) (k := 4) (by decide) Qst.len Try.underlying27 cells_qst (fun s => QstIn w s) (fun _ _ _ h => read_qst h) hf
  simp [Value.cells] at e
  obtain ⟨rfl, rfl, rfl⟩ := e
  exact ⟨_, _, _, zs, rfl, h1, h2, h3⟩
end
end Go.Proofs.Ytimhkkijoelmhaa
