/- TwinRecord, the copy's own rows said: who writes them writes memory that the call made. -/
import Derived.Test.YtlkjimfkapcenaaQTwin
namespace Go.Proofs.Ytlkjimfkapcenaa
open Go.RowKit

theorem own_keep {w w' : World} {base base' : Nat} {e : TypeId} {size n : Nat} {v : Value} {xs : List Value} (h : w.ownsRow base e size v n xs) (hb : base' ≤ base) (hk : ∀ k, base ≤ k → k < w.heap.size → w'.heap[k]? = w.heap[k]?) :
    w'.ownsRow base' e size v n xs :=
  ⟨h.1, h.2.imp id (fun ⟨g, cap, cur, h1, h2, h3, h4⟩ => ⟨g, cap, cur, h1, Nat.le_trans hb h2, (hk g h2 (Array.getElem?_eq_some_iff.1 h3).1).trans h3, h4⟩)⟩
theorem own_lt {w : World} {base : Nat} {e : TypeId} {size n c : Nat} {A : Option Addr} {xs : List Value} (h : w.ownsRow base e size (.slice A n c) n xs) : ∀ a, A = some a → a.block < w.heap.size := by
  intro a ha
  rcases h.2 with ⟨e0, _⟩ | ⟨g, cap, cur, h1, h2, h3, h4⟩
  · injection e0 with e1
    rw [ha] at e1; cases e1
  · injection h1 with e1
    rw [ha] at e1
    injection e1 with e2
    subst e2
    exact (Array.getElem?_eq_some_iff.1 h3).1

set_option maxRecDepth 100000 in
set_option maxHeartbeats 1000000 in
theorem twin_own (r : Rcd) (A : Option Addr) (n c : Nat) (B : Option Addr) (m d : Nat) (w : World) (hr : r.In w A n B m) (hn : n ≤ 1000) (hm : m ≤ 1000) :
    Calls Try.prog 12 #[r.val A n c B m d] w fun e w' => ∃ A' c' B' d' mid, e = .returned (r.val A' n c' B' m d') ∧ w'.ownsRow (w.heap.size + 1 + 1) 9 1 (.slice A' n c') n (r.names.map Value.string) ∧ w'.ownsRow mid 75 3 (.slice B' m d') m (r.stays.flatMap Sty.cells) ∧ (∀ a, A' = some a → a.block < mid) ∧ w.heap.size ≤ mid ∧ mid ≤ w'.heap.size ∧ Gr w w' := by
  have HR := hid hr
  have hN := hid hn
  have hM := hid hm
  clear hr hn hm
  obtain ⟨i0, hi0, hz0, hs0, hy0⟩ := info_parts info_string
  obtain ⟨i1, hi1, hz1, hs1, hy1⟩ := info_parts info_stay
  have HI0 := hid hi0
  have HZ0 := hid hz0
  have HS0 := hid hs0
  have HY0 := hid hy0
  have HI1 := hid hi1
  have HZ1 := hid hz1
  have HS1 := hid hs1
  have HY1 := hid hy1
  clear hi0 hz0 hs0 hy0 hi1 hz1 hs1 hy1
  obtain ⟨id, names, suf, lo, hi, num, tw, stays⟩ := r
  unfold Rcd.val
  dsimp only
  go_enter Try.func12, Try.ntmps12
  go_wp2_with (first
    | ((with_reducible show wpList _ _ _ (⟨some 6, _, _, _, _, _⟩ :: _) _ _); go_loud (refine wpList_append_rd _ rfl (.tmp 3) (.tmp 5) 24 rfl (w.heap.size + 1 + 1) 9 i0 _ 1 16 Try.underlying24 HI0.out HZ0.out HS0.out HY0.out rfl (by decide) (.slice (some ⟨w.heap.size + 1 + 1, 0, none⟩) 0 0) 0 [] rfl ?_ A n c (names.map Value.string) rfl ?_ ?_ ?_ ?_ ?_ ?_; rotate_right; intro A1 c1 w1 hown1 hb1; simp only [Nat.zero_add, List.nil_append] at hown1; have HO1 := hid hown1; clear hown1; obtain ⟨hc1, hf1, hz1⟩ := Below.rules hb1; simp at hz1; have hz1a : w.heap.size < w1.heap.size := (by omega); have hz1b : w.heap.size + 1 < w1.heap.size := (by omega)))
    | ((with_reducible show wpList _ _ _ (⟨some 11, _, _, _, _, _⟩ :: _) _ _); go_loud (refine wpList_append_rd _ rfl (.tmp 8) (.tmp 10) 27 rfl w1.heap.size 75 i1 _ 3 24 Try.underlying27 HI1.out HZ1.out HS1.out HY1.out rfl (by decide) (.slice (some ⟨w1.heap.size, 0, none⟩) 0 0) 0 [] rfl ?_ B m d (stays.flatMap Sty.cells) rfl ?_ ?_ ?_ ?_ ?_ ?_; rotate_right; intro A2 c2 w2 hown2 hb2; simp only [Nat.zero_add, List.nil_append] at hown2; have HO2 := hid hown2; clear hown2; obtain ⟨hc2, hf2, hz2⟩ := Below.rules hb2; simp [World.setCell] at hz2; have hz2a : w.heap.size < w2.heap.size := (by omega); have hz2b : w.heap.size + 1 < w2.heap.size := (by omega); have E := twin_facts hb1 hb2; obtain ⟨e0, e1, e2, e3, e4, e5, e6, e7, g0, k0, k1, k2, k3, k4, k5, k6, k7, l0⟩ := E; clear hc1 hf1 hc2 hf2)))
  · obtain ⟨w3, hw3⟩ : ∃ w3, w3 = w2.setCell ⟨w.heap.size, 7, none⟩ (.slice A2 m c2) := ⟨_, rfl⟩
    have hrow : w3.heap[w.heap.size + 1]? = _ := hw3 ▸ (Below.heap_setCell _ _ _ _ (by show w.heap.size + 1 ≠ w.heap.size; omega)).trans (twin_row hb1 hb2)
    have hfar : ∀ k, k ≠ w.heap.size → w3.heap[k]? = w2.heap[k]? := fun k hk => hw3 ▸ Below.heap_setCell _ _ _ _ hk
    have hsz : w3.heap.size = w2.heap.size := by rw [hw3]; simp [World.setCell]
    have hgr : Gr w w3 := hw3 ▸ (twin_gr2 hb1 hb2).setCell (Nat.le_refl _) _
    rw [← hw3]
    clear hw3 e0 e1 e2 e3 e4 e5 e6 e7 g0 k0 k1 k2 k3 k4 k5 k6 k7 l0
    change bodyPost _ _ _ _ _ (set8 w3 (w.heap.size + 1) (.int .i64 id) (.slice A1 n c1) (.int .u8 suf) (.int .i64 lo) (.int .i64 hi) (.string num) (.bool tw) (.slice A2 m c2))
    refine bodyPost_ret (v := .agg #[.int .i64 id, .slice A1 n c1, .int .u8 suf, .int .i64 lo, .int .i64 hi, .string num, .bool tw, .slice A2 m c2]) ?_ ?_ ?_
    · exact results_cell_row (p := 2) (ty := 29) Try.results12 _ _ (w.heap.size + 1) 29 _ (0, 0) _ rfl (set8_row hrow) Try.underlying29 rfl (by kernel_rfl)
    · rfl
    refine ⟨A1, c1, A2, c2, w1.heap.size, rfl, ?_, ?_, own_lt HO1.out, by omega, by rw [set8_size]; omega, set8_gr hgr (by omega) _ _ _ _ _ _ _ _⟩
    · refine own_keep HO1.out (Nat.le_refl _) (fun k h1 h2 => ?_)
      rw [set8_far _ _ _ _ _ _ _ _ _ _ (by omega), hfar k (by omega)]
      exact (hb2.block k h2).trans ((Below.heap_alloc _ _ _ (by simpa [World.setCell] using h2)).trans (Below.heap_setCell _ _ _ _ (by show k ≠ w.heap.size; omega)))
    · refine own_keep HO2.out (Nat.le_refl _) (fun k h1 h2 => ?_)
      rw [set8_far _ _ _ _ _ _ _ _ _ _ (by omega), hfar k (by omega)]
  all_goals first
    | (with_reducible exact own_new _ _ _ _ (by simp [World.setCell]))
    | (with_reducible exact own_new _ _ _ _ (by simp))
    | (simp only [maxLen]; have h1 := hN.out; have h2 := hM.out; omega)
    | (have h1 := hN.out; have h2 := hM.out; omega)
    | (with_reducible refine (HR.out.names).gr ?_
       (repeat (first | with_reducible exact Gr.refl _ | with_reducible refine Gr.alloc ?_ _ | with_reducible refine Gr.setCell ?_ (by simp) _ | with_reducible refine Gr.setCell ?_ (by simp; omega) _ | with_reducible refine Gr.drew ?_ | with_reducible refine Gr.drewN ?_ _)))
    | (with_reducible refine (HR.out.stays).gr (Gr.alloc (Gr.setCell (twin_gr1 hb1) (Nat.le_refl _) _) _))
    | (with_reducible intro u hu
       simp only [List.mem_map, List.mem_flatMap, Sty.cells, List.mem_cons, List.not_mem_nil, or_false] at hu
       first
         | (obtain ⟨s, _, rfl⟩ := hu; rfl)
         | (obtain ⟨s, _, h⟩ := hu; rcases h with rfl | rfl | rfl <;> rfl))
    | (simp [World.setCell]; done)
    | skip
  all_goals go_goals
end Go.Proofs.Ytlkjimfkapcenaa
