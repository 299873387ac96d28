/- What is read of an argument: a record, and rules. For every argument that reads. -/
import Derived.Lib.SmallJoins
import Derived.Test.YtlkjimfkapcenaaQWithin
import Derived.Test.YtlkjimfkapcenaaQRead
namespace Go.Proofs.Ytlkjimfkapcenaa
open Go.RowKit Go.ChangeShapes Go.WideShapes Go.Deep Go.Joins

section
variable {H : Type} {enc : TypeId × Value → H} {w : World} {base : Nat} {spare : Nat → Bool} {held : Bool} {fuel : Nat} {cs : List Value} {x : DataW H × List MemPlace}
theorem read_record_cells_cap (h : DataW.trod enc Try.prog w base spare held fuel 29 cs = some x) :
    ∃ (r : Rcd) (A : Option Addr) (n c : Nat) (B : Option Addr) (m d : Nat), Value.agg cs.toArray = r.val A n c B m d ∧ r.In w A n B m ∧ n ≤ c ∧ c ≤ 9223372036854775807 ∧ 0 ≤ r.suffix := by
  obtain ⟨xs, n, _, _, hcl, hxl, hg⟩ := DataW.trod_struct Try.underlying29 h
  rw [cells_record] at hcl
  obtain ⟨c0, c1, c2, c3, c4, c5, c6, c7, rfl⟩ := list8 hcl
  obtain ⟨y0, y1, y2, y3, y4, y5, y6, rfl⟩ := list7 (show xs.length = 7 from hxl)
  have h0 := hg 0 _ rfl
  have h1 := hg 1 _ rfl
  have h2 := hg 2 _ rfl
  have h3 := hg 3 _ rfl
  have h4 := hg 4 _ rfl
  have h5 := hg 5 _ rfl
  have h6 := hg 6 _ rfl
  simp [cells_int, cells_names, cells_u8, cells_span, cells_string, cells_bool, cells_stays] at h0 h1 h2 h3 h4 h5 h6
  obtain ⟨id, e0, _⟩ := DataW.trod_int Try.underlying3 h0
  obtain ⟨A, n1, c, names, e1, hr1, hn1, hw1, hc1, hc2⟩ := read_names h1
  obtain ⟨suf, e2, _, w2⟩ := DataW.trod_int Try.underlying5 h2
  obtain ⟨num, e4, _, hnum⟩ := DataW.trod_string Try.underlying9 h4
  obtain ⟨tw, e5, _⟩ := DataW.trod_bool Try.underlying4 h5
  obtain ⟨B, m, d, stays, e6, hr6, hm6⟩ := read_stays h6
  obtain ⟨ys, n', _, _, _, hyl, hgs⟩ := DataW.trod_struct Try.underlying26 h3
  have hy : ys.length = 2 := hyl
  obtain ⟨z0, z1, rfl⟩ := list2 hy
  have g0 := hgs 0 _ rfl
  have g1 := hgs 1 _ rfl
  simp [cells_int] at g0 g1
  obtain ⟨lo, e3, _⟩ := DataW.trod_int Try.underlying3 g0
  obtain ⟨hi, e3', _⟩ := DataW.trod_int Try.underlying3 g1
  simp at e0 e1 e2 e3 e3' e4 e5 e6
  subst e0 e1 e2 e3 e3' e4 e5 e6
  exact ⟨⟨id, names, suf, lo, hi, num, tw, stays⟩, A, n1, c, B, m, d, rfl, ⟨hr1, hr6, hn1, hm6, hw1, hnum⟩, hc1, hc2, by
    have hs := w2
    simp only [Lit.wf, Bool.and_eq_true, decide_eq_true_eq] at hs
    exact hs.1⟩
set_option maxRecDepth 100000 in
theorem read_record_cap {r : Reach} {b0 : Nat} {v : Value} {dd : DataW H} {p : List MemPlace} (hv : Value.okWide Try.prog w r b0 29 v) (h : DataW.Trod enc Try.prog w base spare held 29 v dd p) :
    ∃ (r : Rcd) (A : Option Addr) (n c : Nat) (B : Option Addr) (m d : Nat), v = r.val A n c B m d ∧ r.In w A n B m ∧ n ≤ c ∧ c ≤ 9223372036854775807 ∧ 0 ≤ r.suffix := by
  obtain ⟨cs, rfl, _⟩ := okWide_struct Try.underlying29 hv
  obtain ⟨fuel, hf⟩ := h
  have := read_record_cells_cap hf
  simpa [Value.cells] using this
set_option maxRecDepth 100000 in
theorem read_record {r : Reach} {b0 : Nat} {v : Value} {dd : DataW H} {p : List MemPlace} (hv : Value.okWide Try.prog w r b0 29 v) (h : DataW.Trod enc Try.prog w base spare held 29 v dd p) :
    ∃ (r : Rcd) (A : Option Addr) (n c : Nat) (B : Option Addr) (m d : Nat), v = r.val A n c B m d ∧ r.In w A n B m := by
  obtain ⟨r, A, n, c, B, m, d, e, h, _⟩ := read_record_cap hv h
  exact ⟨r, A, n, c, B, m, d, e, h⟩
set_option maxRecDepth 100000 in
theorem read_rules {r : Reach} {b0 : Nat} {v : Value} {dd : DataW H} {p : List MemPlace} (hv : Value.okWide Try.prog w r b0 23 v) (h : DataW.Trod enc Try.prog w base spare held 23 v dd p) :
    ∃ r : Rul, v = r.val := by
  obtain ⟨v0, v1, v2, v3, y0, y1, y2, y3, n, rfl, _, _, h0, h1, h2, h3⟩ := open_agg4 Try.underlying23 (by kernel_rfl) cells_rules hv h
  obtain ⟨a0, e0, _⟩ := DataW.trod_int Try.underlying3 h0
  obtain ⟨a1, e1, _⟩ := DataW.trod_int Try.underlying3 h1
  obtain ⟨a2, e2, _⟩ := DataW.trod_int Try.underlying3 h2
  obtain ⟨a3, e3, _⟩ := DataW.trod_int Try.underlying3 h3
  simp at e0 e1 e2 e3
  subst e0 e1 e2 e3
  exact ⟨⟨a0, a1, a2, a3⟩, rfl⟩
end
end Go.Proofs.Ytlkjimfkapcenaa
