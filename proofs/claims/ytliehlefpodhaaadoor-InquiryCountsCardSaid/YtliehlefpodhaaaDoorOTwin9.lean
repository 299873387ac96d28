/- Twin of the reference of layer 9: a gate in new memory. For gates that are not great. -/
import Derived.Test.YtliehlefpodhaaaDoorORegGr
import Derived.Test.YtliehlefpodhaaaDoorOGate
import Derived.Test.YtliehlefpodhaaaDoorOAppend
namespace Go.Proofs.YtliehlefpodhaaaDoor
open Go.RowKit

theorem info_lic : (Tryd.prog.info? 65).map (fun i => (i.zero, i.size, i.bytes)) = some (some (.agg #[.int .i64 0, .int .u8 0, .int .i64 0, .int .i64 0]), 4, 32) := by kernel_rfl
theorem info_sig : (Tryd.prog.info? 67).map (fun i => (i.zero, i.size, i.bytes)) = some (some (.agg #[.int .i64 0, .int .i64 0, .int .i64 0, .int .i64 0, .int .u8 0, .int .i64 0]), 6, 48) := by kernel_rfl
theorem info_inq : (Tryd.prog.info? 27).map (fun i => (i.zero, i.size, i.bytes)) = some (some (.agg #[.int .i64 0, .int .i64 0, .int .i64 0, .int .i64 0, .int .u8 0, .bool false]), 6, 40) := by kernel_rfl
theorem Lic.one (x : Lic) : ∀ v ∈ x.cells, v.oneCell' = true := by
  intro v hv
  simp [Lic.cells] at hv
  rcases hv with rfl | rfl | rfl | rfl <;> rfl
theorem Sig.one (x : Sig) : ∀ v ∈ x.cells, v.oneCell' = true := by
  intro v hv
  simp [Sig.cells] at hv
  rcases hv with rfl | rfl | rfl | rfl | rfl | rfl <;> rfl
theorem Inq.one (x : Inq) : ∀ v ∈ x.cells, v.oneCell' = true := by
  intro v hv
  simp [Inq.cells] at hv
  rcases hv with rfl | rfl | rfl | rfl | rfl | rfl <;> rfl
theorem flat_one {α : Type} {f : α → List Value} (h : ∀ x, ∀ v ∈ f x, v.oneCell' = true) (l : List α) : ∀ v ∈ l.flatMap f, v.oneCell' = true := by
  intro v hv
  obtain ⟨x, _, hv⟩ := List.mem_flatMap.1 hv
  exact h x v hv
theorem own_addr {w : World} {base : Nat} {e : TypeId} {size n c : Nat} {A : Option Addr} {xs : List Value} (h : w.ownsRow base e size (.slice A n c) n xs) : ∀ b o, A = some ⟨b, o, none⟩ → base ≤ b ∧ b < w.heap.size := by
  intro b o e
  rcases h.2 with ⟨hv, _⟩ | ⟨g, cap, cur, hv, hb, hg, _⟩
  · injection hv with h1; subst e; cases h1
  · injection hv with h1
    rw [e] at h1
    cases h1
    exact ⟨hb, (Array.getElem?_eq_some_iff.1 hg).1⟩

theorem VBlk.lit9 (w : World) (t : TypeId) (cs : Array Value) : VBlk (w.alloc (.cells cs t)) w.heap.size t cs.size (fun j => cs.getD j undef) :=
  VBlk.new w t cs _ _ rfl (fun j hj => by simp [hj])
/-- What lies in the two blocks of a gate behind both appends. -/
theorem twin9_facts {w w1 w2 : World} {v0 v1 u1 z0 z1 : Value} {T e1 e2 : TypeId}
    (h1 : Below (w.heap.size + 1 + 1) (((w.alloc (.cells #[v0, v1] T)).alloc (.cells #[z0, z1] T)).alloc (.cells #[] e1)) w1)
    (h2 : Below w1.heap.size ((w1.setCell ⟨w.heap.size, 0, none⟩ u1).alloc (.cells #[] e2)) w2) :
    w2.cell? ⟨w.heap.size, 0, none⟩ = some u1 ∧ w2.cell? ⟨w.heap.size, 1, none⟩ = some v1 ∧ (∀ j, w2.frozen? ⟨w.heap.size, j, none⟩ = false) ∧
    w2.cell? ⟨w.heap.size + 1, 0, none⟩ = some z0 ∧ w2.cell? ⟨w.heap.size + 1, 1, none⟩ = some z1 ∧ (∀ j, w2.frozen? ⟨w.heap.size + 1, j, none⟩ = false) ∧ w2.heap[w.heap.size + 1]? = some (.cells #[z0, z1] T (0, 0)) := by
  have a : VBlk w1 w.heap.size T 2 _ := (((VBlk.lit9 w T #[v0, v1]).alloc _).alloc _).keep (h1.block _ (by omega))
  have hz := a.lt
  have b : VBlk w2 w.heap.size T 2 _ := ((a.set_ 0 u1).alloc _).keep (h2.block _ hz)
  have hz1 : w.heap.size + 1 < w1.heap.size := by have := h1.size; simp at this; omega
  have r : w2.heap[w.heap.size + 1]? = some (.cells #[z0, z1] T (0, 0)) := by
    rw [h2.block _ hz1, Below.heap_alloc _ _ _ (by simpa [World.setCell] using hz1), Below.heap_setCell _ _ _ _ (by show w.heap.size + 1 ≠ w.heap.size; omega), h1.block _ (by omega), Below.heap_alloc _ _ _ (by simp)]
    exact heap_alloc2_new w _ _
  exact ⟨b.cell (by omega), b.cell (by omega), fun j => b.frozen j, (cell_of_row _ _ 0 _ _ _ r).trans rfl, (cell_of_row _ _ 1 _ _ _ r).trans rfl, fun j => frozen_of_row _ _ j _ _ r, r⟩
theorem twin9_gr1 {w w1 : World} {X Z U : Obj} (h1 : Below (w.heap.size + 1 + 1) (((w.alloc X).alloc Z).alloc U) w1) : Gr w w1 :=
  Below.trans (show Below w.heap.size w _ from (((Gr.refl w).alloc _).alloc _).alloc _) (h1.mono (by omega))
theorem twin9_gr2 {w w1 w2 : World} {X Z U U' : Obj} {o : Nat} {u1 : Value} (h1 : Below (w.heap.size + 1 + 1) (((w.alloc X).alloc Z).alloc U) w1)
    (h2 : Below w1.heap.size ((w1.setCell ⟨w.heap.size, o, none⟩ u1).alloc U') w2) : Gr w w2 :=
  Below.trans (show Below w.heap.size w _ from ((twin9_gr1 h1).setCell (Nat.le_refl _) _).alloc _) (h2.mono (twin9_gr1 h1).size)

set_option maxRecDepth 100000 in
set_option maxHeartbeats 1000000 in
theorem twin9_any (g : Gat) (ls : List Lic) (ss : List Sig) (w : World) (hg : GatIn w g ls ss) (hn : g.ln ≤ 1000) (hm : g.sn ≤ 1000) :
    Calls Tryd.prog 13 #[g.val] w fun e w' => ∃ la lc sa sc, e = .returned (Gat.val ⟨la, g.ln, lc, sa, g.sn, sc⟩) ∧ (GatIn w' ⟨la, g.ln, lc, sa, g.sn, sc⟩ ls ss ∧ (∀ b o, sa = some ⟨b, o, none⟩ → b < w'.heap.size) ∧ Gr w w') := by
  have HG := hid hg
  have hN := hid hn
  have hM := hid hm
  clear hg hn hm
  obtain ⟨i0, hi0, hz0, hs0, hy0⟩ := info_parts info_lic
  obtain ⟨i1, hi1, hz1, hs1, hy1⟩ := info_parts info_sig
  have HI0 := hid hi0
  have HZ0 := hid hz0
  have HS0 := hid hs0
  have HY0 := hid hy0
  have HI1 := hid hi1
  have HZ1 := hid hz1
  have HS1 := hid hs1
  have HY1 := hid hy1
  clear hi0 hz0 hs0 hy0 hi1 hz1 hs1 hy1
  obtain ⟨la, n, lc, sa, m, sc⟩ := g
  unfold Gat.val
  dsimp only
  go_enter Tryd.func13, Tryd.ntmps13
  go_wp2_with (first
    | ((with_reducible show wpList _ _ _ (⟨some 6, _, _, _, _, _⟩ :: _) _ _); go_loud (refine wpList_append_rd _ rfl (.tmp 3) (.tmp 5) 22 rfl (w.heap.size + 1 + 1) 65 i0 _ 4 32 Tryd.underlying22 HI0.out HZ0.out HS0.out HY0.out rfl (by decide) (.slice (some ⟨w.heap.size + 1 + 1, 0, none⟩) 0 0) 0 [] rfl ?_ la n lc (ls.flatMap Lic.cells) rfl ?_ ?_ ?_ ?_ ?_ ?_; rotate_right; intro A1 c1 w1 hown1 hb1; simp only [Nat.zero_add, List.nil_append] at hown1; have HO1 := hid hown1; clear hown1; obtain ⟨hc1, hf1, hz1⟩ := Below.rules hb1; simp at hz1; have hz1a : w.heap.size < w1.heap.size := (by omega); have hz1b : w.heap.size + 1 < w1.heap.size := (by omega)))
    | ((with_reducible show wpList _ _ _ (⟨some 11, _, _, _, _, _⟩ :: _) _ _); go_loud (refine wpList_append_rd _ rfl (.tmp 8) (.tmp 10) 23 rfl w1.heap.size 67 i1 _ 6 48 Tryd.underlying23 HI1.out HZ1.out HS1.out HY1.out rfl (by decide) (.slice (some ⟨w1.heap.size, 0, none⟩) 0 0) 0 [] rfl ?_ sa m sc (ss.flatMap Sig.cells) rfl ?_ ?_ ?_ ?_ ?_ ?_; rotate_right; intro A2 c2 w2 hown2 hb2; simp only [Nat.zero_add, List.nil_append] at hown2; have HO2 := hid hown2; clear hown2; have hz2 : w1.heap.size ≤ w2.heap.size := (by have := hb2.size; simp [World.setCell] at this; omega); have hz2a : w.heap.size < w2.heap.size := (by omega); have hz2b : w.heap.size + 1 < w2.heap.size := (by omega); obtain ⟨e0, e1, e2, e3, e4, e5, e6⟩ := twin9_facts hb1 hb2; have HE6 := hid e6; clear e6 hc1 hf1)))
  · obtain ⟨w3, hw3⟩ : ∃ w3, w3 = w2.setCell ⟨w.heap.size, 1, none⟩ (.slice A2 m c2) := ⟨_, rfl⟩
    have hrow : w3.heap[w.heap.size + 1]? = _ := hw3 ▸ (Below.heap_setCell _ _ _ _ (by show w.heap.size + 1 ≠ w.heap.size; omega)).trans HE6.out
    have hfar : ∀ k, k ≠ w.heap.size → w3.heap[k]? = w2.heap[k]? := fun k hk => hw3 ▸ Below.heap_setCell _ _ _ _ hk
    have hsz : w3.heap.size = w2.heap.size := by rw [hw3]; simp [World.setCell]
    have hgr : Gr w w3 := hw3 ▸ (twin9_gr2 hb1 hb2).setCell (Nat.le_refl _) _
    rw [← hw3]
    clear hw3 e0 e1 e2 e3 e4 e5
    have hrow4 : (w3.setCell ⟨w.heap.size + 1, 0, none⟩ (.slice A1 n c1)).heap[w.heap.size + 1]? = some (.cells #[.slice A1 n c1, .slice none 0 0] 25 (0, 0)) := (heap_setCell_same w3 (w.heap.size + 1) 0 _ 25 (.slice A1 n c1) hrow).trans (by simp)
    have hrow5 : ((w3.setCell ⟨w.heap.size + 1, 0, none⟩ (.slice A1 n c1)).setCell ⟨w.heap.size + 1, 1, none⟩ (.slice A2 m c2)).heap[w.heap.size + 1]? = some (.cells #[.slice A1 n c1, .slice A2 m c2] 25 (0, 0)) := (heap_setCell_same _ (w.heap.size + 1) 1 _ 25 (.slice A2 m c2) hrow4).trans (by simp)
    have hfar5 : ∀ k, k ≠ w.heap.size + 1 → ((w3.setCell ⟨w.heap.size + 1, 0, none⟩ (.slice A1 n c1)).setCell ⟨w.heap.size + 1, 1, none⟩ (.slice A2 m c2)).heap[k]? = w3.heap[k]? := fun k hk => (Below.heap_setCell _ _ _ _ hk).trans (Below.heap_setCell _ _ _ _ hk)
    have hsz5 : ((w3.setCell ⟨w.heap.size + 1, 0, none⟩ (.slice A1 n c1)).setCell ⟨w.heap.size + 1, 1, none⟩ (.slice A2 m c2)).heap.size = w2.heap.size := by rw [← hsz]; simp [World.setCell]
    have hgr5 : Gr w ((w3.setCell ⟨w.heap.size + 1, 0, none⟩ (.slice A1 n c1)).setCell ⟨w.heap.size + 1, 1, none⟩ (.slice A2 m c2)) := (hgr.setCell (by show w.heap.size ≤ w.heap.size + 1; omega) _).setCell (by show w.heap.size ≤ w.heap.size + 1; omega) _
    generalize (w3.setCell ⟨w.heap.size + 1, 0, none⟩ (.slice A1 n c1)).setCell ⟨w.heap.size + 1, 1, none⟩ (.slice A2 m c2) = w5 at hrow5 hfar5 hsz5 hgr5 ⊢
    refine bodyPost_ret (v := .agg #[.slice A1 n c1, .slice A2 m c2]) ?_ ?_ ?_
    · exact results_cell_row (p := 2) (ty := 25) Tryd.results13 _ _ (w.heap.size + 1) 25 _ (0, 0) _ rfl hrow5 Tryd.underlying25 rfl (by kernel_rfl)
    · rfl
    have hk1 : ∀ k, w.heap.size + 1 + 1 ≤ k → k < w1.heap.size → w5.heap[k]? = w1.heap[k]? := fun k h1 h2 => by
      rw [hfar5 k (by omega), hfar k (by omega)]
      exact (hb2.block k h2).trans ((Below.heap_alloc _ _ _ (by simpa [World.setCell] using h2)).trans (Below.heap_setCell _ _ _ _ (by show k ≠ w.heap.size; omega)))
    have hk2 : ∀ k, w1.heap.size ≤ k → k < w2.heap.size → w5.heap[k]? = w2.heap[k]? := fun k h1 h2 => by
      rw [hfar5 k (by omega), hfar k (by omega)]
    refine ⟨A1, c1, A2, c2, rfl, ⟨⟨?_, HG.out.lics.big, HG.out.lics.u8⟩, ⟨?_, HG.out.sigs.big, HG.out.sigs.u8⟩⟩, fun b o e => ?_, hgr5⟩
    · exact Rd.of_own_keep (w' := w5) HO1.out hk1 (by omega)
    · exact Rd.of_own_keep (w' := w5) HO2.out hk2 (by omega)
    · have := (own_addr HO2.out b o e).2; omega
  all_goals first
    | (with_reducible exact own_new _ _ _ _ (by simp [World.setCell]))
    | (with_reducible exact own_new _ _ _ _ (by simp))
    | (simp only [maxLen]; have h1 := hN.out; have h2 := hM.out; (try dsimp only at h1 h2); omega)
    | (have h1 := hN.out; have h2 := hM.out; (try dsimp only at h1 h2); omega)
    | (with_reducible refine (HG.out.lics.rd).gr ?_
       (repeat (first | with_reducible exact Gr.refl _ | with_reducible refine Gr.alloc ?_ _ | with_reducible refine Gr.setCell ?_ (by simp) _ | with_reducible refine Gr.setCell ?_ (by simp; omega) _ | with_reducible refine Gr.drew ?_ | with_reducible refine Gr.drewN ?_ _)))
    | (with_reducible refine (HG.out.sigs.rd).gr (Gr.alloc (Gr.setCell (twin9_gr1 hb1) (Nat.le_refl _) _) _))
    | (intro u x _ hu; exact Lic.one x u hu)
    | (intro u x _ hu; exact Sig.one x u hu)
    | (simp [World.setCell]; done)
    | skip
  all_goals go_goals
end Go.Proofs.YtliehlefpodhaaaDoor
