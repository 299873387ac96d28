/- slices.Collect over slices.Values, at subjects: a copy of the elements in a row of the call's own. For up to a thousand elements. (Printed by gen_sumkit.py.) -/
import Derived.OwnWalkIn
import Derived.RangeFuncNested
import Derived.Test.YtimhkkijoelmhaaQEltS
import Derived.Test.YtimhkkijoelmhaaQAppend
import Derived.Test.YtimhkkijoelmhaaQAmong9
namespace Go.Proofs.Ytimhkkijoelmhaa
open Go.RowKit Go.Shelf
attribute [local go_sem] Oper.semAt_some

theorem info_sbj : (Try.prog.info? 60).map (fun i => (i.zero, i.size, i.bytes)) = some (some (.agg #[.int .i64 0, .slice none 0 0]), 2, 32) := by kernel_rfl

def flatE (es : List Sbj) : List Value := es.flatMap Sbj.cells
theorem flatE_len (es : List Sbj) : (flatE es).length = es.length * 2 := by
  induction es with
  | nil => rfl
  | cons e es ih => simp only [flatE, List.flatMap_cons, List.length_append, List.length_cons] at ih ⊢; rw [ih, e.len]; omega
theorem flatE_snoc (es : List Sbj) (x : Sbj) : flatE (es ++ [x]) = flatE es ++ x.cells := by simp [flatE]
theorem flatE_one (es : List Sbj) : ∀ v ∈ flatE es, v.oneCell' = true := fun v hv => by
  obtain ⟨e, _, h⟩ := List.mem_flatMap.1 hv
  exact e.one v h
theorem own_kept {W W' : World} {base : Nat} {e : TypeId} {size n : Nat} {v : Value} {xs : List Value} {row : Option Nat} (h : W.ownsRow base e size v n xs) (hg : W.grownBy W' row) (hr : ∀ r, row = some r → ∃ o : Obj, W.heap[r]? = some o ∧ o.isCells = false) : W'.ownsRow base e size v n xs := by
  refine h.kept hg ?_
  rcases h.2 with ⟨rfl, _⟩ | ⟨g, cap, cur, rfl, _, hgg, _⟩
  · exact .inl rfl
  · refine .inr fun e' => ?_
    obtain ⟨o, ho, hc⟩ := hr g e'.symm
    rw [hgg] at ho
    cases ho
    cases hc
theorem cellsat2 {W : World} {g : Nat} {t : TypeId} {v0 v1 : Value} (h : W.heap[g]? = some (.cells #[v0, v1] t (0, 0))) : W.cell? ⟨g, 0, none⟩ = some v0 ∧ W.cell? ⟨g, 1, none⟩ = some v1 := ⟨row_cell_at h 0 rfl, row_cell_at h 1 rfl⟩
theorem cells_new (W : World) (C : Array Value) (t : TypeId) (xs : List Value) (h : C.toList = xs) : ∀ j u, xs[j]? = some u → (W.alloc (.cells C t)).cell? ((⟨W.heap.size, 0, none⟩ : Addr).add j) = some u := by
  intro j u hu
  subst h
  have := cell_of_row (W.alloc (.cells C t)) W.heap.size j C t _ (heap_alloc_new W _)
  have e : ((⟨W.heap.size, 0, none⟩ : Addr).add j) = ⟨W.heap.size, j, none⟩ := by
    simp only [Addr.add, Nat.zero_add]
    split
    · rename_i h0; rw [h0]
    · rfl
  rw [e, this]
  simpa using hu
/-- The box of a slice is not the row that it owns. -/
theorem own_not {W : World} {base : Nat} {e : TypeId} {size n : Nat} {v : Value} {xs : List Value} (h : W.ownsRow base e size v n xs) {B : Nat} (hB : B < base) : some B ≠ v.ownBlock := by
  rcases h.2 with ⟨rfl, _⟩ | ⟨g, cap, cur, rfl, hb, _⟩
  · simp [Value.ownBlock]
  · simp only [Value.ownBlock, ne_eq, Option.some.injEq]
    omega

theorem own_cells {W : World} {base : Nat} {e : TypeId} {size n : Nat} {v : Value} {xs : List Value} (h : W.ownsRow base e size v n xs) {j : Nat} {o : Obj} (hj : v.ownBlock = some j) (ho : W.heap[j]? = some o) : o.isCells = true := by
  rcases h.2 with ⟨rfl, _⟩ | ⟨g, cap, cur, rfl, hb, hg, _⟩
  · simp [Value.ownBlock] at hj
  · simp [Value.ownBlock] at hj
    subst hj
    rw [hg] at ho
    cases ho
    rfl
theorem own_base {W : World} {base base' : Nat} {e : TypeId} {size n : Nat} {v : Value} {xs : List Value} (h : W.ownsRow base e size v n xs) (hb : base' ≤ base) : W.ownsRow base' e size v n xs := by
  refine ⟨h.1, ?_⟩
  rcases h.2 with hn | ⟨g, cap, cur, hv, hbg, rest⟩
  · exact .inl hn
  · exact .inr ⟨g, cap, cur, hv, Nat.le_trans hb hbg, rest⟩

def ApI (w : World) (pre : List Sbj) (W : World) : Prop :=
  ∃ v, Boxed W w.heap.size 22 v ∧ W.ownsRow (w.heap.size + 1) 60 2 v pre.length (flatE pre) ∧ Below w.heap.size w W
theorem apI_own (w : World) {B : Nat} (hB : w.heap.size ≤ B) : OwnFrom B (ApI w) := by
  rintro s X Y row ⟨v, b1, e1, hb⟩ hg hr
  have hr' : ∀ r, row = some r → ∃ o : Obj, X.heap[r]? = some o ∧ o.isCells = false := fun r e => (hr r e).2
  exact ⟨v, boxed_own _ _ (fun (_ : Unit) => v) () X Y row b1 hg hr', own_kept e1 hg hr', ownFrom_below (β := Unit) (Nat.le_refl _) hB () X Y row hb hg hr⟩

set_option maxRecDepth 100000 in
set_option maxHeartbeats 4000000 in
theorem sr_appendSeq (es : List Sbj) (A : Option Addr) (cap Bs : Nat) (w0 w : World) (hw : Gr w0 w) (hBs : Bs < w.heap.size) (hc : w.cell? ⟨Bs, 0, none⟩ = some (.slice A es.length cap)) (hI : RdE w0 A es.length es) (hN : es.length ≤ 1000) :
    CallsIn Fence.wide 3 Try.prog 105 #[.slice none 0 0, .func (.func 95) #[] #[.pointer (some ⟨Bs, 0, none⟩)]] w fun e w' => ∃ v, e = .returned v ∧ w'.ownsRow w.heap.size 60 2 v es.length (flatE es) ∧ Gr w w' := by
  obtain ⟨i0, hi0, hz0, hs0, hy0⟩ := info_parts info_sbj
  refine callsIn_of_wp_marks Try.func105 rfl trivial ?_ rfl
  simp only [Try.ntmps105, List.size_toArray, List.length_cons, List.length_nil, Nat.reduceAdd, Nat.reduceSub, Array.replicate_succ, Array.replicate_zero, List.push_toArray, List.append_toArray, List.nil_append, List.cons_append]
  gi_wp2
  have b0 := Boxed.new w 22 (.slice none 0 0)
  have g1 : Gr w (w.alloc (.cells #[.slice none 0 0] 22)) := (Gr.refl w).alloc _
  have hsz : (w.alloc (.cells #[.slice none 0 0] 22)).heap.size = w.heap.size + 1 := by simp
  have c0 : (w.alloc (.cells #[.slice none 0 0] 22)).cell? ⟨Bs, 0, none⟩ = some (.slice A es.length cap) := (g1.cell hBs).trans hc
  generalize w.alloc (.cells #[.slice none 0 0] 22) = W0 at b0 g1 hsz c0 ⊢
  have hI0 : ApI w [] W0 := ⟨_, b0, ⟨rfl, .inl ⟨rfl, rfl⟩⟩, g1⟩
  refine wpIn_rangeFunc_ownH rfl (by omega) (gf := 95) (lb := #[.pointer (some ⟨Bs, 0, none⟩)]) rfl trivial (enters_of Try.func95 (by kernel_rfl) rfl)
    (sr_values_stops Fence.wide 2 trivial rfl (by omega) Bs w0.heap.size A cap es (by omega) w0 W0 (by omega) rfl (hw.trans g1) c0 hI) belowK_t (belowK_b (n₀ := w0.heap.size) (w := W0) (by have := hw.size; omega)) (Below.refl _ _) (fun _ => rfl)
    (ApI w) (fun _ _ _ => False) (apI_own w (by omega)) (fun c => fun _ _ _ _ h _ _ => h) hI0
    (fun x a' W => ∃ Bx, w.heap.size < Bx ∧ W.heap[Bx]? = some (.cells x.cells.toArray 60 (0, 0)) ∧ a' = { tmps := #[.slice none 0 0, .func (.func 95) #[] #[.pointer (some ⟨Bs, 0, none⟩)], .pointer (some ⟨w.heap.size, 0, none⟩), undef, .slice none 0 0, .pointer (some ⟨Bx, 0, none⟩), .func (.func 95) #[] #[.pointer (some ⟨Bs, 0, none⟩)], x.val, undef, undef, undef, undef, undef], defers := [] })
    (fun x a' _ X Y row hs hg hr => by obtain ⟨Bx, e1, e2, e3⟩ := hs; exact ⟨Bx, e1, row_kept e2 hg (fun r e => (hr r e).2), e3⟩)
    ?assign ?body ?done ?stop
  case assign =>
    rintro l pre x W K ⟨v, d1, e1, hB⟩ hK
    have HK := hid (hK { tmps := #[.slice none 0 0, .func (.func 95) #[] #[.pointer (some ⟨Bs, 0, none⟩)], .pointer (some ⟨w.heap.size, 0, none⟩), undef, .slice none 0 0, .pointer (some ⟨W.heap.size, 0, none⟩), .func (.func 95) #[] #[.pointer (some ⟨Bs, 0, none⟩)], x.val, undef, undef, undef, undef, undef], defers := [] } (W.alloc (.cells x.cells.toArray 60))
      ((KeepsOthers.alloc _ _).from _) ((Below.refl _ W).alloc (Nat.le_trans hw.size hB.size) _) ⟨v, d1.alloc _, own_kept e1 (World.grownBy_alloc W _ none) (fun r e => by cases e), hB.alloc hB.size _⟩ ⟨W.heap.size, d1.lt, by simpa using World.alloc_heap_new W (.cells x.cells.toArray 60), rfl⟩)
    clear hK e1 d1 hB
    obtain ⟨id, A', n1, c', vs⟩ := x
    unfold Sbj.val Sbj.cells at *
    dsimp only at *
    gi_wp2
    exact HK.out
  case body =>
    rintro l pre x a' W hl ⟨r, hr⟩ ⟨v, d1, e1, hB⟩ ⟨Bx, hBx, dX, rfl⟩ hlt
    obtain ⟨id, A', n1, c', vs⟩ := x
    unfold Sbj.val Sbj.cells at *
    dsimp only at *
    obtain ⟨x0, x1⟩ := cellsat2 dX
    have cL := Boxed.cell d1
    have hBl : w.heap.size < W.heap.size := d1.lt
    have hXl : Bx < W.heap.size := (Array.getElem?_eq_some_iff.1 dX).1
    have HE := hid e1
    have HD := hid d1
    have HB := hid hB
    have hBz := hB.size
    have hwz := hw.size
    clear e1 d1 hB dX hr hI hc c0 b0 g1 hI0
    gi_wp2_with (gi_at_builtin; refine wpListIn_append_own _ rfl _ _ 22 rfl (w.heap.size + 1) 60 i0 (.agg #[.int .i64 0, .slice none 0 0]) 2 32 Try.underlying22 hi0 hz0 hs0 hy0 rfl (by decide) v pre.length (flatE pre) rfl (HE.out.alloc _) ⟨W.heap.size, 0, none⟩ 1 1 [.int .i64 id, .slice A' n1 c'] rfl rfl (cells_new W _ _ _ rfl) (by intro u hu; simp at hu; rcases hu with rfl | rfl <;> rfl) (by have : maxLen = 9223372036854775807 := rfl; omega) (by omega) (by simp; omega) ?_; intro v' w3 hown' hg3 hnil3; obtain ⟨A9, c9, rfl⟩ := own_slice hown'; have b3 := (HD.out.alloc (.cells #[.int .i64 id, .slice A' n1 c'] 60)).kept hg3 (own_not HE.out (by omega)); have cR := Boxed.cell b3; have fR := Boxed.frozen b3; have H3 := hid (And.intro hown' (And.intro hg3 b3)); clear hown' hg3 hnil3 b3)
    obtain ⟨hown', hg3, b3⟩ := H3.out
    have gW : Below w.heap.size w w3 := (HB.out.alloc hBz _).grown hg3 (by simp; omega) (fun k e => Nat.le_of_lt (by
      have := (HE.out.lt k e).1
      omega))
    have hE : flatE (pre ++ [⟨id, A', n1, c', vs⟩]) = flatE pre ++ [.int .i64 id, .slice A' n1 c'] := flatE_snoc _ _
    refine ⟨?_, ?_, .slice A9 (pre.length + 1) c9, Boxed.set _ b3, ?_, gW.setCell (p := ⟨w.heap.size, 0, none⟩) (Nat.le_refl _) _⟩
    · refine (((KeepsOthers.alloc _ _).trans (KeepsOthers.of_grownBy hg3 (fun j o e ho => ?_))).trans (KeepsOthers.setCell _ _ _)).from _
      exact own_cells (HE.out.alloc _) e ho
    · refine Below.setCell (p := ⟨w.heap.size, 0, none⟩) ?_ hwz _
      exact ((Below.refl w0.heap.size W).alloc (by omega) _).grown hg3 (by simp; omega) (fun k e => by
        have := (HE.out.lt k e).1
        omega)
    · rw [hE, List.length_append]
      refine hown'.kept (grownBy_setCell' w3 w.heap.size _) (.inr (Ne.symm (own_not hown' (by omega))))
  case done =>
    rintro D zs W hD rfl ⟨v, d1, e1, hB⟩ hK
    have HB := hid hB
    have D3 := hid d1
    have cR := Boxed.cell d1
    have fR := Boxed.frozen d1
    have HE := hid e1
    clear d1 e1 hB hI hc c0 b0 g1 hI0
    gi_wp2
    refine ⟨by simp, .inl ⟨_, _, rfl, run_takeDeferred hK, ?_⟩⟩
    exact ⟨_, results_tmp rfl _ _ _, v, rfl, own_base (own_kept HE.out (grownBy_putObj' _ D (.deferred none)) (fun r e => by cases e; exact ⟨_, hK, rfl⟩)) (by omega), HB.out.trans (belowK_b (w := w) (Nat.le_refl _) W D _ _ (by omega) hK rfl rfl)⟩
  case stop =>
    rintro D c pre W hD hpre h hK
    exact h.elim
end Go.Proofs.Ytimhkkijoelmhaa
