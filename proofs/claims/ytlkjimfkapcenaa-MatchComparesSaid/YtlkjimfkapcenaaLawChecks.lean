/- MatchChecks of the match statements: the walk: whatever the input, it answers true. -/
import Derived.Test.YtlkjimfkapcenaaEditsTop
import Derived.Test.YtlkjimfkapcenaaGreat
import Derived.Test.YtlkjimfkapcenaaTwin
import Derived.Test.YtlkjimfkapcenaaSame
import Derived.Test.YtlkjimfkapcenaaChecks
import Derived.BigQuiet
import Derived.Deep.RegionHeld3
namespace Go.Proofs.Ytlkjimfkapcenaa
open Go.RowKit

theorem cell_keep {W W' : World} (hg : Gr W W') {b o : Nat} {v : Value} (h : W.cell? ⟨b, o, none⟩ = some v) : W'.cell? ⟨b, o, none⟩ = some v := (hg.cell (block_lt_of_cell h)).trans h
/-- What three boxes hold stays. -/
theorem s_keep {W W' : World} {g1 g2 g3 : Nat} {p0 p1 p2 p3 q0 q1 q2 q3 q4 q5 q6 q7 s0 s1 s2 s3 s4 s5 s6 s7 : Value} (h : W.cell? ⟨g1, 0, none⟩ = some (p0) ∧ W.cell? ⟨g1, 1, none⟩ = some (p1) ∧ W.cell? ⟨g1, 2, none⟩ = some (p2) ∧ W.cell? ⟨g1, 3, none⟩ = some (p3) ∧ W.cell? ⟨g2, 0, none⟩ = some (q0) ∧ W.cell? ⟨g2, 1, none⟩ = some (q1) ∧ W.cell? ⟨g2, 2, none⟩ = some (q2) ∧ W.cell? ⟨g2, 3, none⟩ = some (q3) ∧ W.cell? ⟨g2, 4, none⟩ = some (q4) ∧ W.cell? ⟨g2, 5, none⟩ = some (q5) ∧ W.cell? ⟨g2, 6, none⟩ = some (q6) ∧ W.cell? ⟨g2, 7, none⟩ = some (q7) ∧ W.cell? ⟨g3, 0, none⟩ = some (s0) ∧ W.cell? ⟨g3, 1, none⟩ = some (s1) ∧ W.cell? ⟨g3, 2, none⟩ = some (s2) ∧ W.cell? ⟨g3, 3, none⟩ = some (s3) ∧ W.cell? ⟨g3, 4, none⟩ = some (s4) ∧ W.cell? ⟨g3, 5, none⟩ = some (s5) ∧ W.cell? ⟨g3, 6, none⟩ = some (s6) ∧ W.cell? ⟨g3, 7, none⟩ = some (s7)) (hg : Gr W W') :
    W'.cell? ⟨g1, 0, none⟩ = some (p0) ∧ W'.cell? ⟨g1, 1, none⟩ = some (p1) ∧ W'.cell? ⟨g1, 2, none⟩ = some (p2) ∧ W'.cell? ⟨g1, 3, none⟩ = some (p3) ∧ W'.cell? ⟨g2, 0, none⟩ = some (q0) ∧ W'.cell? ⟨g2, 1, none⟩ = some (q1) ∧ W'.cell? ⟨g2, 2, none⟩ = some (q2) ∧ W'.cell? ⟨g2, 3, none⟩ = some (q3) ∧ W'.cell? ⟨g2, 4, none⟩ = some (q4) ∧ W'.cell? ⟨g2, 5, none⟩ = some (q5) ∧ W'.cell? ⟨g2, 6, none⟩ = some (q6) ∧ W'.cell? ⟨g2, 7, none⟩ = some (q7) ∧ W'.cell? ⟨g3, 0, none⟩ = some (s0) ∧ W'.cell? ⟨g3, 1, none⟩ = some (s1) ∧ W'.cell? ⟨g3, 2, none⟩ = some (s2) ∧ W'.cell? ⟨g3, 3, none⟩ = some (s3) ∧ W'.cell? ⟨g3, 4, none⟩ = some (s4) ∧ W'.cell? ⟨g3, 5, none⟩ = some (s5) ∧ W'.cell? ⟨g3, 6, none⟩ = some (s6) ∧ W'.cell? ⟨g3, 7, none⟩ = some (s7) := by
  obtain ⟨h0, h1, h2, h3, h4, h5, h6, h7, h8, h9, h10, h11, h12, h13, h14, h15, h16, h17, h18, h19⟩ := h
  exact ⟨cell_keep hg h0, cell_keep hg h1, cell_keep hg h2, cell_keep hg h3, cell_keep hg h4, cell_keep hg h5, cell_keep hg h6, cell_keep hg h7, cell_keep hg h8, cell_keep hg h9, cell_keep hg h10, cell_keep hg h11, cell_keep hg h12, cell_keep hg h13, cell_keep hg h14, cell_keep hg h15, cell_keep hg h16, cell_keep hg h17, cell_keep hg h18, cell_keep hg h19⟩
theorem cells4 {W : World} {g T : Nat} {p0 p1 p2 p3 : Value} (h : VBlk W g T 4 (fun j => #[p0, p1, p2, p3].getD j undef)) : W.cell? ⟨g, 0, none⟩ = some (p0) ∧ W.cell? ⟨g, 1, none⟩ = some (p1) ∧ W.cell? ⟨g, 2, none⟩ = some (p2) ∧ W.cell? ⟨g, 3, none⟩ = some (p3) :=
  ⟨h.cell (j := 0) (by omega), h.cell (j := 1) (by omega), h.cell (j := 2) (by omega), h.cell (j := 3) (by omega)⟩
theorem cells8 {W : World} {g T : Nat} {q0 q1 q2 q3 q4 q5 q6 q7 : Value} (h : VBlk W g T 8 (fun j => #[q0, q1, q2, q3, q4, q5, q6, q7].getD j undef)) : W.cell? ⟨g, 0, none⟩ = some (q0) ∧ W.cell? ⟨g, 1, none⟩ = some (q1) ∧ W.cell? ⟨g, 2, none⟩ = some (q2) ∧ W.cell? ⟨g, 3, none⟩ = some (q3) ∧ W.cell? ⟨g, 4, none⟩ = some (q4) ∧ W.cell? ⟨g, 5, none⟩ = some (q5) ∧ W.cell? ⟨g, 6, none⟩ = some (q6) ∧ W.cell? ⟨g, 7, none⟩ = some (q7) :=
  ⟨h.cell (j := 0) (by omega), h.cell (j := 1) (by omega), h.cell (j := 2) (by omega), h.cell (j := 3) (by omega), h.cell (j := 4) (by omega), h.cell (j := 5) (by omega), h.cell (j := 6) (by omega), h.cell (j := 7) (by omega)⟩

set_option maxRecDepth 100000 in
set_option maxHeartbeats 2000000 in
theorem matchChecks_any (r : Rul) (a : Rcd) (A : Option Addr) (n c : Nat) (B : Option Addr) (m d : Nat) (x y : ByteArray) (w : World) (ha : a.In w A n B m) (hx : x.size ≤ maxLen) (hy : y.size ≤ maxLen) :
    Calls Try.prog 3 #[r.val, a.val A n c B m d, .string x, .string y] w fun e w' => e = .returned (.bool true) ∧ Gr w w' := by
  have HG := hid (fun W (h : Gr w W) => greatOne_any a A n c B m d W (ha.gr h))
  have hx' : (x.size : Int) ≤ 9223372036854775807 := by unfold maxLen at hx; omega
  have hy' : (y.size : Int) ≤ 9223372036854775807 := by unfold maxLen at hy; omega
  have HT : Hid (a.great = false → ∀ W, Gr w W → Calls Try.prog 12 #[a.val A n c B m d] W fun e w' => ∃ A' c' B' d', e = .returned (a.val A' n c' B' m d') ∧ a.In w' A' n B' m ∧ Gr W w') := by
    intro hg W h
    unfold Rcd.great at hg
    simp only [Bool.or_eq_false_iff, decide_eq_false_iff_not] at hg
    have h1 := ha.nlen
    have h2 := ha.mlen
    exact twin_any a A n c B m d W (ha.gr h) (by omega) (by omega)
  have HE := hid (fun W => editsTop_any x y W hx hy)
  have HF := hid (fun W => refEditsTop_any x y W hx hy)
  have HK := hid (fun A' c' B' d' W (h : a.In W A' n B' m) => check_any r a A' n c' B' m d' W h)
  have HL := hid (fun W (h : Gr w W) => refCheck_any r a A n c B m d W (ha.gr h))
  have HS := hid (fun A' c' B' d' W (h : a.In W A' n B' m) (h' : Gr w W) => sameRecord_any a A' n c' B' m d' A c B d W h (ha.gr h'))
  generalize edN x y = en at HE HF
  generalize edE x y = ee at HE HF
  generalize checkN r a = ck at HK HL
  clear hx hy
  obtain ⟨l, dg, dy, tg⟩ := r
  cases hgr : a.great with
  | true =>
    rw [hgr] at HG
    have HGR := hid hgr
    clear hgr
    obtain ⟨id, names, suf, lo, hi, num, tw, stays⟩ := a
    have HA := hid ha
    clear ha
    unfold Rcd.val Rul.val at *
    dsimp only at HG ⊢
    go_enter Try.func3, Try.ntmps3
    go_wp2_with (first
      | (go_at_call 11; (with_reducible refine (HG.out _ ?_).mono ?_); rotate_right; rintro e w1 ⟨rfl, hbw1⟩; obtain ⟨hcw1, hfw1, hzw1⟩ := hbw1.rules; (try simp at hzw1); have hzw1_0 : w.heap.size < w1.heap.size := (by omega); have hyw1_0 : w.heap.size ≤ w1.heap.size := (by omega)))
    all_goals first
      | (go_ret
         refine ⟨rfl, ?_⟩
         (repeat (first | with_reducible exact Gr.refl _ | with_reducible refine Gr.trans ?_ hbw1 | with_reducible refine Gr.alloc ?_ _ | with_reducible refine Gr.setCell ?_ (by simp) _ | with_reducible refine Gr.setCell ?_ (by simp; omega) _ | with_reducible refine Gr.drew ?_ | with_reducible refine Gr.drewN ?_ _)))
      | ((repeat (first | with_reducible exact Gr.refl _ | with_reducible refine Gr.alloc ?_ _ | with_reducible refine Gr.setCell ?_ (by simp) _ | with_reducible refine Gr.setCell ?_ (by simp; omega) _ | with_reducible refine Gr.drew ?_ | with_reducible refine Gr.drewN ?_ _)); done)
  | false =>
    rw [hgr] at HG
    have HTT := hid (HT.out hgr)
    clear hgr HT
    obtain ⟨id, names, suf, lo, hi, num, tw, stays⟩ := a
    have HA := hid ha
    clear ha
    unfold Rcd.val Rul.val at *
    dsimp only at HG HTT HK HL HS ⊢
    by_cases g1 : x.size ≤ 40
    case neg =>
      have g1' : (40 : Int) < x.size := by omega
      clear g1
      go_enter Try.func3, Try.ntmps3
      go_wp2_with (first
        | (go_at_call 11; (with_reducible refine (HG.out _ ?_).mono ?_); rotate_right; rintro e w1 ⟨rfl, hbw1⟩; obtain ⟨hcw1, hfw1, hzw1⟩ := hbw1.rules; (try simp at hzw1); have hzw1_0 : w.heap.size < w1.heap.size := (by omega); have hyw1_0 : w.heap.size ≤ w1.heap.size := (by omega)))
      all_goals first
        | (go_ret
           refine ⟨rfl, ?_⟩
           (repeat (first | with_reducible exact Gr.refl _ | with_reducible refine Gr.trans ?_ hbw1 | with_reducible refine Gr.alloc ?_ _ | with_reducible refine Gr.setCell ?_ (by simp) _ | with_reducible refine Gr.setCell ?_ (by simp; omega) _ | with_reducible refine Gr.drew ?_ | with_reducible refine Gr.drewN ?_ _)))
        | ((repeat (first | with_reducible exact Gr.refl _ | with_reducible refine Gr.alloc ?_ _ | with_reducible refine Gr.setCell ?_ (by simp) _ | with_reducible refine Gr.setCell ?_ (by simp; omega) _ | with_reducible refine Gr.drew ?_ | with_reducible refine Gr.drewN ?_ _)); done)
    by_cases g2 : y.size ≤ 40
    case neg =>
      have g1' : (x.size : Int) ≤ 40 := by omega
      have g2' : (40 : Int) < y.size := by omega
      clear g1 g2
      go_enter Try.func3, Try.ntmps3
      go_wp2_with (first
        | (go_at_call 11; (with_reducible refine (HG.out _ ?_).mono ?_); rotate_right; rintro e w1 ⟨rfl, hbw1⟩; obtain ⟨hcw1, hfw1, hzw1⟩ := hbw1.rules; (try simp at hzw1); have hzw1_0 : w.heap.size < w1.heap.size := (by omega); have hyw1_0 : w.heap.size ≤ w1.heap.size := (by omega)))
      all_goals first
        | (go_ret
           refine ⟨rfl, ?_⟩
           (repeat (first | with_reducible exact Gr.refl _ | with_reducible refine Gr.trans ?_ hbw1 | with_reducible refine Gr.alloc ?_ _ | with_reducible refine Gr.setCell ?_ (by simp) _ | with_reducible refine Gr.setCell ?_ (by simp; omega) _ | with_reducible refine Gr.drew ?_ | with_reducible refine Gr.drewN ?_ _)))
        | ((repeat (first | with_reducible exact Gr.refl _ | with_reducible refine Gr.alloc ?_ _ | with_reducible refine Gr.setCell ?_ (by simp) _ | with_reducible refine Gr.setCell ?_ (by simp; omega) _ | with_reducible refine Gr.drew ?_ | with_reducible refine Gr.drewN ?_ _)); done)
    have g1' : (x.size : Int) ≤ 40 := by omega
    have g2' : (y.size : Int) ≤ 40 := by omega
    clear g1 g2
    go_enter Try.func3, Try.ntmps3
    go_wp2_with (first
      | (go_at_call 11; (with_reducible refine (HG.out _ ?_).mono ?_); rotate_right; rintro e w1 ⟨rfl, hbw1⟩; obtain ⟨hcw1, hfw1, hzw1⟩ := hbw1.rules; (try simp at hzw1); have hzw1_0 : w.heap.size < w1.heap.size := (by omega); have hyw1_0 : w.heap.size ≤ w1.heap.size := (by omega); have hzw1_1 : w.heap.size + 1 < w1.heap.size := (by omega); have hyw1_1 : w.heap.size + 1 ≤ w1.heap.size := (by omega))
      | (go_at_call 12; (with_reducible refine (HTT.out _ ?_).mono ?_); rotate_right; rintro e w2 ⟨A2, c2, B2, d2, rfl, ho2, hbw2⟩; have HO2 := hid ho2; clear ho2)
      | (go_at_call 13; (with_reducible refine (HE.out _).mono ?_); rotate_right; rintro e w3 ⟨rfl, hbw3⟩; obtain ⟨hcw3, hfw3, hzw3⟩ := hbw3.rules; (try simp at hzw3))
      | (go_at_call 14; (with_reducible refine (HF.out _).mono ?_); rotate_right; rintro e w4 ⟨rfl, hbw4⟩; obtain ⟨hcw4, hfw4, hzw4⟩ := hbw4.rules; (try simp at hzw4)))
    · have G2 : Gr w2 w4 := ((Gr.refl w2).alloc (.cells #[.int .i64 id, .slice A2 n c2, .int .u8 suf, .int .i64 lo, .int .i64 hi, .string num, .bool tw, .slice B2 m d2] 29)).trans (hbw3.trans hbw4)
      have V1 : VBlk w4 w.heap.size 23 4 (fun j => #[.int .i64 l, .int .i64 dg, .int .i64 dy, .int .i64 tg].getD j undef) := (((VBlk.lit w 23 #[.int .i64 l, .int .i64 dg, .int .i64 dy, .int .i64 tg]).alloc _).gr hbw1).gr (hbw2.trans G2)
      have V2 : VBlk w4 (w.heap.size + 1) 29 8 (fun j => #[.int .i64 id, .slice A n c, .int .u8 suf, .int .i64 lo, .int .i64 hi, .string num, .bool tw, .slice B m d].getD j undef) := by
        have h := VBlk.lit (w.alloc (.cells #[.int .i64 l, .int .i64 dg, .int .i64 dy, .int .i64 tg] 23)) 29 #[.int .i64 id, .slice A n c, .int .u8 suf, .int .i64 lo, .int .i64 hi, .string num, .bool tw, .slice B m d]
        rw [show (w.alloc (.cells #[.int .i64 l, .int .i64 dg, .int .i64 dy, .int .i64 tg] 23)).heap.size = w.heap.size + 1 by simp] at h
        exact (h.gr hbw1).gr (hbw2.trans G2)
      have V3 : VBlk w4 w2.heap.size 29 8 (fun j => #[.int .i64 id, .slice A2 n c2, .int .u8 suf, .int .i64 lo, .int .i64 hi, .string num, .bool tw, .slice B2 m d2].getD j undef) := ((VBlk.lit w2 29 #[.int .i64 id, .slice A2 n c2, .int .u8 suf, .int .i64 lo, .int .i64 hi, .string num, .bool tw, .slice B2 m d2]).gr hbw3).gr hbw4
      have GW : Hid (Gr w w4) := (((Gr.refl w).alloc _).alloc _).trans (hbw1.trans (hbw2.trans G2))
      have HO4 := hid (HO2.out.gr G2)
      obtain ⟨h0, h1, h2, h3⟩ := cells4 V1
      obtain ⟨h4, h5, h6, h7, h8, h9, h10, h11⟩ := cells8 V2
      obtain ⟨h12, h13, h14, h15, h16, h17, h18, h19⟩ := cells8 V3
      clear V1 V2 V3 G2 hbw1 hbw2 hbw3 hbw4 hcw1 hfw1 hzw1 hcw3 hfw3 hzw3 hcw4 hfw4 hzw4
      go_region_held3 (fun W => W.cell? ⟨w.heap.size, 0, none⟩ = some (.int .i64 l) ∧ W.cell? ⟨w.heap.size, 1, none⟩ = some (.int .i64 dg) ∧ W.cell? ⟨w.heap.size, 2, none⟩ = some (.int .i64 dy) ∧ W.cell? ⟨w.heap.size, 3, none⟩ = some (.int .i64 tg) ∧ W.cell? ⟨w.heap.size + 1, 0, none⟩ = some (.int .i64 id) ∧ W.cell? ⟨w.heap.size + 1, 1, none⟩ = some (.slice A n c) ∧ W.cell? ⟨w.heap.size + 1, 2, none⟩ = some (.int .u8 suf) ∧ W.cell? ⟨w.heap.size + 1, 3, none⟩ = some (.int .i64 lo) ∧ W.cell? ⟨w.heap.size + 1, 4, none⟩ = some (.int .i64 hi) ∧ W.cell? ⟨w.heap.size + 1, 5, none⟩ = some (.string num) ∧ W.cell? ⟨w.heap.size + 1, 6, none⟩ = some (.bool tw) ∧ W.cell? ⟨w.heap.size + 1, 7, none⟩ = some (.slice B m d) ∧ W.cell? ⟨w2.heap.size, 0, none⟩ = some (.int .i64 id) ∧ W.cell? ⟨w2.heap.size, 1, none⟩ = some (.slice A2 n c2) ∧ W.cell? ⟨w2.heap.size, 2, none⟩ = some (.int .u8 suf) ∧ W.cell? ⟨w2.heap.size, 3, none⟩ = some (.int .i64 lo) ∧ W.cell? ⟨w2.heap.size, 4, none⟩ = some (.int .i64 hi) ∧ W.cell? ⟨w2.heap.size, 5, none⟩ = some (.string num) ∧ W.cell? ⟨w2.heap.size, 6, none⟩ = some (.bool tw) ∧ W.cell? ⟨w2.heap.size, 7, none⟩ = some (.slice B2 m d2))
        (first
          | exact ⟨h0, h1, h2, h3, h4, h5, h6, h7, h8, h9, h10, h11, h12, h13, h14, h15, h16, h17, h18, h19⟩
          | exact s_keep (by assumption) hk3
          | exact s_keep (by assumption) hk2
          | exact s_keep (by assumption) hk1)
        (first
          | (go_at_call 15; refine (HK.out A2 c2 B2 d2 _ (HO4.out.gr (by (repeat (first | with_reducible exact Gr.refl _ | with_reducible refine Gr.trans ?_ hk2 | with_reducible refine Gr.trans ?_ hk1 | with_reducible refine Gr.alloc ?_ _ | with_reducible refine Gr.setCell ?_ (by simp) _ | with_reducible refine Gr.setCell ?_ (by simp; omega) _ | with_reducible refine Gr.drew ?_ | with_reducible refine Gr.drewN ?_ _))))).mono ?_; rintro e w5 ⟨rfl, hk1⟩)
          | (go_at_call 16; refine (HL.out _ (GW.out.trans (by (repeat (first | with_reducible exact Gr.refl _ | with_reducible refine Gr.trans ?_ hk2 | with_reducible refine Gr.trans ?_ hk1 | with_reducible refine Gr.alloc ?_ _ | with_reducible refine Gr.setCell ?_ (by simp) _ | with_reducible refine Gr.setCell ?_ (by simp; omega) _ | with_reducible refine Gr.drew ?_ | with_reducible refine Gr.drewN ?_ _))))).mono ?_; rintro e w6 ⟨rfl, hk2⟩)
          | (go_at_call 17; refine (HS.out A2 c2 B2 d2 _ (HO4.out.gr (by (repeat (first | with_reducible exact Gr.refl _ | with_reducible refine Gr.trans ?_ hk2 | with_reducible refine Gr.trans ?_ hk1 | with_reducible refine Gr.alloc ?_ _ | with_reducible refine Gr.setCell ?_ (by simp) _ | with_reducible refine Gr.setCell ?_ (by simp; omega) _ | with_reducible refine Gr.drew ?_ | with_reducible refine Gr.drewN ?_ _)))) (GW.out.trans (by (repeat (first | with_reducible exact Gr.refl _ | with_reducible refine Gr.trans ?_ hk2 | with_reducible refine Gr.trans ?_ hk1 | with_reducible refine Gr.alloc ?_ _ | with_reducible refine Gr.setCell ?_ (by simp) _ | with_reducible refine Gr.setCell ?_ (by simp; omega) _ | with_reducible refine Gr.drew ?_ | with_reducible refine Gr.drewN ?_ _))))).mono ?_; rintro e w7 ⟨rfl, hk3⟩))
      go_wp2
      go_ret
      exact ⟨rfl, GW.out.trans (by (repeat (first | with_reducible exact Gr.refl _ | with_reducible refine Gr.trans ?_ hk3 | with_reducible refine Gr.trans ?_ hk2 | with_reducible refine Gr.trans ?_ hk1 | with_reducible refine Gr.alloc ?_ _ | with_reducible refine Gr.setCell ?_ (by simp) _ | with_reducible refine Gr.setCell ?_ (by simp; omega) _ | with_reducible refine Gr.drew ?_ | with_reducible refine Gr.drewN ?_ _)))⟩
    all_goals (repeat (first | with_reducible exact Gr.refl _ | with_reducible refine Gr.trans ?_ hbw1 | with_reducible refine Gr.alloc ?_ _ | with_reducible refine Gr.setCell ?_ (by simp) _ | with_reducible refine Gr.setCell ?_ (by simp; omega) _ | with_reducible refine Gr.drew ?_ | with_reducible refine Gr.drewN ?_ _))
end Go.Proofs.Ytlkjimfkapcenaa
