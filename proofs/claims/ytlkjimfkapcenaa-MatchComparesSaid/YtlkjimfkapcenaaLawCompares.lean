/- The law MatchCompares, walked. For all rules and records. -/
import Derived.Test.YtlkjimfkapcenaaCompareTop
import Derived.Test.YtlkjimfkapcenaaGreat
import Derived.Test.YtlkjimfkapcenaaSame
import Derived.Test.YtlkjimfkapcenaaLawChecks
import Derived.Test.YtlkjimfkapcenaaTwinNew
import Derived.Deep.RegionHeld3
import Derived.Deep.DeepCutAuto
import Derived.Deep.CutRange
namespace Go.Proofs.Ytlkjimfkapcenaa
open Go.RowKit

theorem set8u_row {W : World} {g : Nat} {t : TypeId} {z0 z1 z2 z3 z4 z5 z6 z7 y0 y1 y2 y3 y4 y5 y6 y7 : Value} (h : W.heap[g]? = some (.cells #[z0, z1, z2, z3, z4, z5, z6, z7] t (0, 0))) : ((((((((W.setCell ⟨g, 0, none⟩ y0).setCell ⟨g, 1, none⟩ y1).setCell ⟨g, 2, none⟩ y2).setCell ⟨g, 3, none⟩ y3).setCell ⟨g, 4, none⟩ y4).setCell ⟨g, 5, none⟩ y5).setCell ⟨g, 6, none⟩ y6).setCell ⟨g, 7, none⟩ y7).heap[g]? = some (.cells #[y0, y1, y2, y3, y4, y5, y6, y7] t (0, 0)) := set8_row h
theorem set8u_far {W : World} {g : Nat} {y0 y1 y2 y3 y4 y5 y6 y7 : Value} {k : Nat} {o : Obj} (hk : k ≠ g) (h : W.heap[k]? = some o) : ((((((((W.setCell ⟨g, 0, none⟩ y0).setCell ⟨g, 1, none⟩ y1).setCell ⟨g, 2, none⟩ y2).setCell ⟨g, 3, none⟩ y3).setCell ⟨g, 4, none⟩ y4).setCell ⟨g, 5, none⟩ y5).setCell ⟨g, 6, none⟩ y6).setCell ⟨g, 7, none⟩ y7).heap[k]? = some o := (set8_far W g y0 y1 y2 y3 y4 y5 y6 y7 hk).trans h
theorem set8u_gr {w W : World} {g : Nat} {y0 y1 y2 y3 y4 y5 y6 y7 : Value} (h : Gr w W) (hg : w.heap.size ≤ g) : Gr w ((((((((W.setCell ⟨g, 0, none⟩ y0).setCell ⟨g, 1, none⟩ y1).setCell ⟨g, 2, none⟩ y2).setCell ⟨g, 3, none⟩ y3).setCell ⟨g, 4, none⟩ y4).setCell ⟨g, 5, none⟩ y5).setCell ⟨g, 6, none⟩ y6).setCell ⟨g, 7, none⟩ y7) := set8_gr h hg y0 y1 y2 y3 y4 y5 y6 y7
theorem row_up {W : World} {k : Nat} {o : Obj} (o' : Obj) (h : W.heap[k]? = some o) : (W.alloc o').heap[k]? = some o := (Below.heap_alloc W o' k (Array.getElem?_eq_some_iff.1 h).1).trans h
theorem row_new1 (W : World) (o o' : Obj) : ((W.alloc o).alloc o').heap[W.heap.size + 1]? = some o' := (rows2 W o o').2
theorem far_set8u {W : World} {g k : Nat} {y0 y1 y2 y3 y4 y5 y6 y7 : Value} {Y : Option Obj} (hk : k ≠ g) (h : W.heap[k]? = Y) : ((((((((W.setCell ⟨g, 0, none⟩ y0).setCell ⟨g, 1, none⟩ y1).setCell ⟨g, 2, none⟩ y2).setCell ⟨g, 3, none⟩ y3).setCell ⟨g, 4, none⟩ y4).setCell ⟨g, 5, none⟩ y5).setCell ⟨g, 6, none⟩ y6).setCell ⟨g, 7, none⟩ y7).heap[k]? = Y := (set8_far W g y0 y1 y2 y3 y4 y5 y6 y7 hk).trans h
theorem le_set8u {W : World} {g L : Nat} {y0 y1 y2 y3 y4 y5 y6 y7 : Value} (h : L ≤ W.heap.size) : L ≤ ((((((((W.setCell ⟨g, 0, none⟩ y0).setCell ⟨g, 1, none⟩ y1).setCell ⟨g, 2, none⟩ y2).setCell ⟨g, 3, none⟩ y3).setCell ⟨g, 4, none⟩ y4).setCell ⟨g, 5, none⟩ y5).setCell ⟨g, 6, none⟩ y6).setCell ⟨g, 7, none⟩ y7).heap.size := Nat.le_trans h (Nat.le_of_eq (set8_size W g y0 y1 y2 y3 y4 y5 y6 y7).symm)
theorem le_up {W : World} {L : Nat} {o : Obj} (h : L ≤ W.heap.size) : L ≤ (W.alloc o).heap.size := by simp; omega
theorem far_up {W : World} {k : Nat} {o : Obj} {Y : Option Obj} (hk : k < W.heap.size) (h : W.heap[k]? = Y) : (W.alloc o).heap[k]? = Y := (Below.heap_alloc W o k hk).trans h
theorem far_gr {W W' : World} {k : Nat} {Y : Option Obj} (g : Gr W W') (hk : k < W.heap.size) (h : W.heap[k]? = Y) : W'.heap[k]? = Y := (g.heap hk).trans h
theorem far_drew {W : World} {k : Nat} {Y : Option Obj} (h : W.heap[k]? = Y) : W.drew.heap[k]? = Y := h
theorem row_new_at {W : World} {i : Nat} {o : Obj} (h : i = W.heap.size) : (W.alloc o).heap[i]? = some o := h ▸ heap_alloc_new W o

set_option maxRecDepth 100000 in
set_option maxHeartbeats 40000000 in
theorem matchCompares_any (r : Rul) (a b : Rcd) (A : Option Addr) (n c : Nat) (B : Option Addr) (m d : Nat) (A' : Option Addr) (n' c' : Nat) (B' : Option Addr) (m' d' : Nat) (w : World)
    (ha : a.In w A n B m) (hb : b.In w A' n' B' m') (ca : n ≤ c ∧ c ≤ 9223372036854775807) (cb : n' ≤ c' ∧ c' ≤ 9223372036854775807) (sa : 0 ≤ a.suffix) (sb : 0 ≤ b.suffix) :
    Calls Try.prog 4 #[r.val, a.val A n c B m d, b.val A' n' c' B' m' d'] w fun e w' => e = .returned (.bool true) ∧ Gr w w' := by
  obtain ⟨HA, hHA⟩ : ∃ HA : Option Addr → Option Addr → World → Prop, ∀ X Y V, HA X Y V ↔ a.In V X n Y m := ⟨fun X Y V => a.In V X n Y m, fun _ _ _ => Iff.rfl⟩
  obtain ⟨HB, hHB⟩ : ∃ HB : Option Addr → Option Addr → World → Prop, ∀ X Y V, HB X Y V ↔ b.In V X n' Y m' := ⟨fun X Y V => b.In V X n' Y m', fun _ _ _ => Iff.rfl⟩
  have HGA := hid (fun W (g : Gr w W) => greatOne_any a A n c B m d W (ha.gr g))
  have HGB := hid (fun W (g : Gr w W) => greatOne_any b A' n' c' B' m' d' W (hb.gr g))
  have HT1 : Hid (a.great = false → ∀ W, Gr w W → Calls Try.prog 12 #[a.val A n c B m d] W fun e w' => ∃ A2 c2 B2 d2, e = .returned (a.val A2 n c2 B2 m d2) ∧ (n ≤ c2 ∧ c2 ≤ 9223372036854775807) ∧ (∀ V, w'.heap.size ≤ V.heap.size → (∀ k, W.heap.size ≤ k → k < w'.heap.size → V.heap[k]? = w'.heap[k]?) → HA A2 B2 V) ∧ Gr W w') := by
    intro hg W h
    unfold Rcd.great at hg
    simp only [Bool.or_eq_false_iff, decide_eq_false_iff_not] at hg
    have h1 := ha.nlen
    have h2 := ha.mlen
    simp only [hHA]
    exact twin_new a A n c B m d W (ha.gr h) (by omega) (by omega)
  have HT2 : Hid (b.great = false → ∀ W, Gr w W → Calls Try.prog 12 #[b.val A' n' c' B' m' d'] W fun e w' => ∃ A2 c2 B2 d2, e = .returned (b.val A2 n' c2 B2 m' d2) ∧ (n' ≤ c2 ∧ c2 ≤ 9223372036854775807) ∧ (∀ V, w'.heap.size ≤ V.heap.size → (∀ k, W.heap.size ≤ k → k < w'.heap.size → V.heap[k]? = w'.heap[k]?) → HB A2 B2 V) ∧ Gr W w') := by
    intro hg W h
    unfold Rcd.great at hg
    simp only [Bool.or_eq_false_iff, decide_eq_false_iff_not] at hg
    have h1 := hb.nlen
    have h2 := hb.mlen
    simp only [hHB]
    exact twin_new b A' n' c' B' m' d' W (hb.gr h) (by omega) (by omega)
  have HC1 := hid (fun A2 c2 B2 d2 A3 c3 B3 d3 W (h1 : HA A2 B2 W) (h2 : HB A3 B3 W) (k1 : n ≤ c2 ∧ c2 ≤ 9223372036854775807) (k2 : n' ≤ c3 ∧ c3 ≤ 9223372036854775807) => compareTop_any r a b A2 n c2 B2 m d2 A3 n' c3 B3 m' d3 W ((hHA _ _ _).1 h1) ((hHB _ _ _).1 h2) k1 k2 sa sb)
  have HC2 := hid (fun W (g : Gr w W) => refCompare_any r a b A n c B m d A' n' c' B' m' d' W (ha.gr g) (hb.gr g) ca cb sa sb)
  have HC3 : Hid (∀ A2 c2 B2 d2 A3 c3 B3 d3 W, HA A2 B2 W → HB A3 B3 W → (n ≤ c2 ∧ c2 ≤ 9223372036854775807) → (n' ≤ c3 ∧ c3 ≤ 9223372036854775807) → Calls Try.prog 18 #[r.val, b.val A3 n' c3 B3 m' d3, a.val A2 n c2 B2 m d2] W fun e w' => e = .returned (.tuple #[(cmpV r a b).val, .int .i64 (cmpE r a b)]) ∧ Gr W w') := by
    intro A2 c2 B2 d2 A3 c3 B3 d3 W h1 h2 k1 k2
    rw [cmpV_symm, cmpE_symm]
    exact compareTop_any r b a A3 n' c3 B3 m' d3 A2 n c2 B2 m d2 W ((hHB _ _ _).1 h2) ((hHA _ _ _).1 h1) k2 k1 sb sa
  have HS1 := hid (fun A2 c2 B2 d2 W (h : HA A2 B2 W) (h' : Gr w W) => sameRecord_any a A2 n c2 B2 m d2 A c B d W ((hHA _ _ _).1 h) (ha.gr h'))
  have HS2 := hid (fun A2 c2 B2 d2 W (h : HB A2 B2 W) (h' : Gr w W) => sameRecord_any b A2 n' c2 B2 m' d2 A' c' B' d' W ((hHB _ _ _).1 h) (hb.gr h'))
  generalize cmpV r a b = cv at HC1 HC2 HC3
  generalize cmpE r a b = ce at HC1 HC2 HC3
  have HIA := hid (fun W W' A2 B2 (h : HA A2 B2 W) (g : Gr W W') => (hHA _ _ _).2 (((hHA _ _ _).1 h).gr g))
  have HIB := hid (fun W W' A2 B2 (h : HB A2 B2 W) (g : Gr W W') => (hHB _ _ _).2 (((hHB _ _ _).1 h).gr g))
  clear ha hb ca cb sa sb hHA hHB
  generalize hga : a.great = ga at HGA HT1
  generalize hgb : b.great = gb at HGB HT2
  clear hga hgb
  obtain ⟨l, dg, dy, t⟩ := r
  obtain ⟨nm, nu, bi, pl, vd⟩ := cv
  obtain ⟨id, names, suf, l1, h1, p, tw, xs⟩ := a
  obtain ⟨id', names', suf', l2, h2, q, tw', ys⟩ := b
  unfold Rcd.val at *
  unfold Rul.val at *
  unfold Cmp.val at *
  dsimp only at *
  cases ga
  · replace HT1 := hid (HT1.out rfl)
    cases gb
    · replace HT2 := hid (HT2.out rfl)
      go_enter Try.func4, Try.ntmps4
      go_upto_region 3 with (first
        | (go_at_call 11; (with_reducible refine (HGA.out _ ?_).mono ?_); rotate_right; rintro e w1 ⟨rfl, hbw1⟩; obtain ⟨hcw1, hfw1, hzw1⟩ := hbw1.rules; (try simp at hzw1); have hzw1_0 : w.heap.size < w1.heap.size := (by omega); have hyw1_0 : w.heap.size ≤ w1.heap.size := (by omega); have hzw1_1 : w.heap.size + 1 < w1.heap.size := (by omega); have hyw1_1 : w.heap.size + 1 ≤ w1.heap.size := (by omega); have hzw1_2 : w.heap.size + 2 < w1.heap.size := (by omega); have hyw1_2 : w.heap.size + 2 ≤ w1.heap.size := (by omega))
        | (go_at_call 11; (with_reducible refine (HGB.out _ ?_).mono ?_); rotate_right; rintro e w2 ⟨rfl, hbw2⟩; obtain ⟨hcw2, hfw2, hzw2⟩ := hbw2.rules; (try simp at hzw2); have hzw2_0 : w.heap.size < w2.heap.size := (by omega); have hyw2_0 : w.heap.size ≤ w2.heap.size := (by omega); have hzw2_1 : w.heap.size + 1 < w2.heap.size := (by omega); have hyw2_1 : w.heap.size + 1 ≤ w2.heap.size := (by omega); have hzw2_2 : w.heap.size + 2 < w2.heap.size := (by omega); have hyw2_2 : w.heap.size + 2 ≤ w2.heap.size := (by omega)))
      · have k2 : Gr (((w.alloc (.cells #[.int .i64 l, .int .i64 dg, .int .i64 dy, .int .i64 t] 23)).alloc (.cells #[.int .i64 id, .slice A n c, .int .u8 suf, .int .i64 l1, .int .i64 h1, .string p, .bool tw, .slice B m d] 29)).alloc (.cells #[.int .i64 id', .slice A' n' c', .int .u8 suf', .int .i64 l2, .int .i64 h2, .string q, .bool tw', .slice B' m' d'] 29)) w2 := hbw1.trans hbw2
        obtain ⟨E1, E2, E3⟩ := rows3 w (.cells #[.int .i64 l, .int .i64 dg, .int .i64 dy, .int .i64 t] 23) (.cells #[.int .i64 id, .slice A n c, .int .u8 suf, .int .i64 l1, .int .i64 h1, .string p, .bool tw, .slice B m d] 29) (.cells #[.int .i64 id', .slice A' n' c', .int .u8 suf', .int .i64 l2, .int .i64 h2, .string q, .bool tw', .slice B' m' d'] 29)
        have HGW := hid (((((Gr.refl w).alloc _).alloc _).alloc _).trans k2)
        have HE1 := hid (row_gr E1 k2)
        have HE2 := hid (row_gr E2 k2)
        have HE3 := hid (show w2.heap[w.heap.size + 1 + 1]? = _ from row_gr E3 k2)
        have S0 := And.intro (cellsat8 HE2.out) (cellsat8 HE3.out)
        have hzA : w.heap.size + 2 < w2.heap.size := hzw2_2
        clear E1 E2 E3 k2 hbw1 hbw2 hcw1 hfw1 hzw1 hcw2 hfw2 hzw2
        go_cut [7, 8] (fun s7 s8 wx => ∃ (g7 g8 : Nat) (A2 : Option Addr) (c2 : Nat) (B2 : Option Addr) (d2 : Nat) (A3 : Option Addr) (c3 : Nat) (B3 : Option Addr) (d3 : Nat), s7 = .pointer (some ⟨g7, 0, none⟩) ∧ s8 = .pointer (some ⟨g8, 0, none⟩) ∧ Gr w2 wx ∧ wx.heap[g7]? = some (.cells #[.int .i64 id, .slice A2 n c2, .int .u8 suf, .int .i64 l1, .int .i64 h1, .string p, .bool tw, .slice B2 m d2] 29 (0, 0)) ∧ wx.heap[g8]? = some (.cells #[.int .i64 id', .slice A3 n' c3, .int .u8 suf', .int .i64 l2, .int .i64 h2, .string q, .bool tw', .slice B3 m' d3] 29 (0, 0)) ∧ ((n ≤ c2 ∧ c2 ≤ 9223372036854775807) ∧ (n' ≤ c3 ∧ c3 ≤ 9223372036854775807)) ∧ HA A2 B2 wx ∧ HB A3 B3 wx)
        case first =>
          have KS : ∀ W, Gr w2 W → (W.cell? ⟨w.heap.size + 1, 0, none⟩ = some (.int .i64 id) ∧ W.cell? ⟨w.heap.size + 1, 1, none⟩ = some (.slice A n c) ∧ W.cell? ⟨w.heap.size + 1, 2, none⟩ = some (.int .u8 suf) ∧ W.cell? ⟨w.heap.size + 1, 3, none⟩ = some (.int .i64 l1) ∧ W.cell? ⟨w.heap.size + 1, 4, none⟩ = some (.int .i64 h1) ∧ W.cell? ⟨w.heap.size + 1, 5, none⟩ = some (.string p) ∧ W.cell? ⟨w.heap.size + 1, 6, none⟩ = some (.bool tw) ∧ W.cell? ⟨w.heap.size + 1, 7, none⟩ = some (.slice B m d)) ∧ (W.cell? ⟨w.heap.size + 1 + 1, 0, none⟩ = some (.int .i64 id') ∧ W.cell? ⟨w.heap.size + 1 + 1, 1, none⟩ = some (.slice A' n' c') ∧ W.cell? ⟨w.heap.size + 1 + 1, 2, none⟩ = some (.int .u8 suf') ∧ W.cell? ⟨w.heap.size + 1 + 1, 3, none⟩ = some (.int .i64 l2) ∧ W.cell? ⟨w.heap.size + 1 + 1, 4, none⟩ = some (.int .i64 h2) ∧ W.cell? ⟨w.heap.size + 1 + 1, 5, none⟩ = some (.string q) ∧ W.cell? ⟨w.heap.size + 1 + 1, 6, none⟩ = some (.bool tw') ∧ W.cell? ⟨w.heap.size + 1 + 1, 7, none⟩ = some (.slice B' m' d')) := fun W g => ⟨keepc8 S0.1 g, keepc8 S0.2 g⟩
          go_region_held3 (fun W => (W.cell? ⟨w.heap.size + 1, 0, none⟩ = some (.int .i64 id) ∧ W.cell? ⟨w.heap.size + 1, 1, none⟩ = some (.slice A n c) ∧ W.cell? ⟨w.heap.size + 1, 2, none⟩ = some (.int .u8 suf) ∧ W.cell? ⟨w.heap.size + 1, 3, none⟩ = some (.int .i64 l1) ∧ W.cell? ⟨w.heap.size + 1, 4, none⟩ = some (.int .i64 h1) ∧ W.cell? ⟨w.heap.size + 1, 5, none⟩ = some (.string p) ∧ W.cell? ⟨w.heap.size + 1, 6, none⟩ = some (.bool tw) ∧ W.cell? ⟨w.heap.size + 1, 7, none⟩ = some (.slice B m d)) ∧ (W.cell? ⟨w.heap.size + 1 + 1, 0, none⟩ = some (.int .i64 id') ∧ W.cell? ⟨w.heap.size + 1 + 1, 1, none⟩ = some (.slice A' n' c') ∧ W.cell? ⟨w.heap.size + 1 + 1, 2, none⟩ = some (.int .u8 suf') ∧ W.cell? ⟨w.heap.size + 1 + 1, 3, none⟩ = some (.int .i64 l2) ∧ W.cell? ⟨w.heap.size + 1 + 1, 4, none⟩ = some (.int .i64 h2) ∧ W.cell? ⟨w.heap.size + 1 + 1, 5, none⟩ = some (.string q) ∧ W.cell? ⟨w.heap.size + 1 + 1, 6, none⟩ = some (.bool tw') ∧ W.cell? ⟨w.heap.size + 1 + 1, 7, none⟩ = some (.slice B' m' d')))
            (((with_reducible refine KS _ ?_); (repeat' (first | with_reducible exact q2 | with_reducible exact q1 | with_reducible exact Gr.refl _ | with_reducible refine Gr.alloc ?_ _ | with_reducible refine Gr.drew ?_ | with_reducible refine set8u_gr ?_ ?_ | omega)) ))
            (first
              | (go_at_call 12; (fail_if_success have := q1); (with_reducible refine (HT1.out _ (HGW.out.trans (by (repeat' (first | with_reducible exact q2 | with_reducible exact q1 | with_reducible exact Gr.refl _ | with_reducible refine Gr.alloc ?_ _ | with_reducible refine Gr.drew ?_ | with_reducible refine set8u_gr ?_ ?_ | omega)) ))).mono ?_); rintro e u1 ⟨A2, c2, B2, d2, rfl, cc1, hI1, hk1⟩; have HI1 := hid hI1; clear hI1; have q1 : Gr w2 u1 := Gr.trans (by (repeat' (first | with_reducible exact q2 | with_reducible exact q1 | with_reducible exact Gr.refl _ | with_reducible refine Gr.alloc ?_ _ | with_reducible refine Gr.drew ?_ | with_reducible refine set8u_gr ?_ ?_ | omega)) ) hk1; obtain ⟨hc1, hf1, hz1⟩ := hk1.rules; (try simp at hz1); (try have yu1_0 : w2.heap.size < u1.heap.size := by omega); (try have yu1_1 : w2.heap.size + 1 < u1.heap.size := by omega))
              | (go_at_call 12; have := q1; clear this; (with_reducible refine (HT2.out _ (HGW.out.trans (by (repeat' (first | with_reducible exact q2 | with_reducible exact q1 | with_reducible exact Gr.refl _ | with_reducible refine Gr.alloc ?_ _ | with_reducible refine Gr.drew ?_ | with_reducible refine set8u_gr ?_ ?_ | omega)) ))).mono ?_); rintro e u2 ⟨A3, c3, B3, d3, rfl, cc2, hI2, hk2⟩; have HI2 := hid hI2; clear hI2; have q2 : Gr w2 u2 := Gr.trans (by (repeat' (first | with_reducible exact q2 | with_reducible exact q1 | with_reducible exact Gr.refl _ | with_reducible refine Gr.alloc ?_ _ | with_reducible refine Gr.drew ?_ | with_reducible refine set8u_gr ?_ ?_ | omega)) ) hk2; obtain ⟨hc2, hf2, hz2⟩ := hk2.rules; (try simp at hz2); (try have yu2_0 : w2.heap.size < u2.heap.size := by omega); (try have yu2_1 : w2.heap.size + 1 < u2.heap.size := by omega); (try have yu2_2 : u1.heap.size < u2.heap.size := by omega); (try have yu2_3 : u1.heap.size + 1 < u2.heap.size := by omega)))
          all_goals go_wp2_with fail
          all_goals go_meet
          all_goals refine ⟨_, _, A2, c2, B2, d2, A3, c3, B3, d3, rfl, rfl, ?_, ?_, ?_, ⟨cc1, cc2⟩, HI1.out _ ?_ ?_, HI2.out _ ?_ ?_⟩
          all_goals first
            | with_reducible show Gr _ _
              (repeat' (first | with_reducible exact q2 | with_reducible exact q1 | with_reducible exact Gr.refl _ | with_reducible refine Gr.alloc ?_ _ | with_reducible refine Gr.drew ?_ | with_reducible refine set8u_gr ?_ ?_ | omega))
            | with_reducible show _ ≤ _
              (repeat' (first | omega | with_reducible refine le_set8u ?_ | with_reducible refine le_up ?_))
            | (with_reducible show ∀ k, _
               intro k j1 j2
               (try simp at j1)
               (repeat' (first | omega | with_reducible rfl | with_reducible refine far_set8u ?_ ?_ | with_reducible refine far_up ?_ ?_ | with_reducible refine far_drew ?_ | with_reducible refine far_gr hk2 ?_ ?_ | (first | omega | (simp; done) | (simp; omega))))
               done)
            | ((repeat' (first | omega | with_reducible exact heap_alloc_new _ _ | with_reducible exact row_new1 _ _ _ | with_reducible apply set8u_row | ((with_reducible refine row_new_at ?_); (first | omega | (simp; done) | (simp; omega))) | with_reducible apply set8u_far | with_reducible apply row_up | with_reducible refine row_gr ?_ hk2 | with_reducible refine row_gr ?_ hk1 | with_reducible refine far_drew ?_))
               done)
            | skip
        case rest => as_aux_lemma =>
          obtain ⟨g7, g8, A2, c2, B2, d2, A3, c3, B3, d3, rfl, rfl, GW, F7, F8, cc, hA, hB⟩ := hcut
          obtain ⟨W6, rfl⟩ : ∃ W6 : World, W6 = wc := ⟨_, rfl⟩
          have HG6 := hid (HGW.out.trans GW)
          have HXA := hid hA
          have HXB := hid hB
          have HK1 := hid cc.1
          have HK2 := hid cc.2
          have z7 : g7 < W6.heap.size := (Array.getElem?_eq_some_iff.1 F7).1
          have z8 : g8 < W6.heap.size := (Array.getElem?_eq_some_iff.1 F8).1
          have z2 : w.heap.size + 2 < W6.heap.size := Nat.lt_of_lt_of_le hzA GW.size
          have z1 : w.heap.size + 1 < W6.heap.size := by omega
          have z0 : w.heap.size < W6.heap.size := by omega
          obtain ⟨r0, r1, r2, r3⟩ := cellsat4 (row_gr HE1.out GW)
          obtain ⟨a0, a1, a2, a3, a4, a5, a6, a7⟩ := cellsat8 (row_gr HE2.out GW)
          obtain ⟨b0, b1, b2, b3, b4, b5, b6, b7⟩ := cellsat8 (row_gr HE3.out GW)
          obtain ⟨e0, e1, e2, e3, e4, e5, e6, e7⟩ := cellsat8 F7
          obtain ⟨f0, f1, f2, f3, f4, f5, f6, f7⟩ := cellsat8 F8
          clear GW F7 F8 cc hA hB S0
          go_wp2_with (first
            | ((go_at_call 18; (with_reducible refine (HC1.out A2 c2 B2 d2 A3 c3 B3 d3 _ (HIA.out _ _ _ _ HXA.out ?_) (HIB.out _ _ _ _ HXB.out ?_) HK1.out HK2.out).mono ?_); rotate_right; rintro e w3 ⟨rfl, hbw3⟩; obtain ⟨hcw3, hfw3, hzw3⟩ := hbw3.rules; (try simp at hzw3); have hzw3_0 : w.heap.size < w3.heap.size := (by omega); have hyw3_0 : w.heap.size ≤ w3.heap.size := (by omega); have hzw3_1 : w.heap.size + 1 < w3.heap.size := (by omega); have hyw3_1 : w.heap.size + 1 ≤ w3.heap.size := (by omega); have hzw3_2 : w.heap.size + 2 < w3.heap.size := (by omega); have hyw3_2 : w.heap.size + 2 ≤ w3.heap.size := (by omega)); have z73 : g7 < w3.heap.size := (by omega); have z83 : g8 < w3.heap.size := (by omega))
            | ((go_at_call 19; (with_reducible refine (HC2.out _ (HG6.out.trans ?_)).mono ?_); rotate_right; rintro e w4 ⟨rfl, hbw4⟩; obtain ⟨hcw4, hfw4, hzw4⟩ := hbw4.rules; (try simp at hzw4); have hzw4_0 : w.heap.size < w4.heap.size := (by omega); have hyw4_0 : w.heap.size ≤ w4.heap.size := (by omega); have hzw4_1 : w.heap.size + 1 < w4.heap.size := (by omega); have hyw4_1 : w.heap.size + 1 ≤ w4.heap.size := (by omega); have hzw4_2 : w.heap.size + 2 < w4.heap.size := (by omega); have hyw4_2 : w.heap.size + 2 ≤ w4.heap.size := (by omega)); have z74 : g7 < w4.heap.size := (by omega); have z84 : g8 < w4.heap.size := (by omega); have z34 : w3.heap.size < w4.heap.size := (by omega))
            | ((go_at_call 18; (with_reducible refine (HC3.out A2 c2 B2 d2 A3 c3 B3 d3 _ (HIA.out _ _ _ _ HXA.out ?_) (HIB.out _ _ _ _ HXB.out ?_) HK1.out HK2.out).mono ?_); rotate_right; rintro e w5 ⟨rfl, hbw5⟩; obtain ⟨hcw5, hfw5, hzw5⟩ := hbw5.rules; (try simp at hzw5); have hzw5_0 : w.heap.size < w5.heap.size := (by omega); have hyw5_0 : w.heap.size ≤ w5.heap.size := (by omega); have hzw5_1 : w.heap.size + 1 < w5.heap.size := (by omega); have hyw5_1 : w.heap.size + 1 ≤ w5.heap.size := (by omega); have hzw5_2 : w.heap.size + 2 < w5.heap.size := (by omega); have hyw5_2 : w.heap.size + 2 ≤ w5.heap.size := (by omega)); have z75 : g7 < w5.heap.size := (by omega); have z85 : g8 < w5.heap.size := (by omega); have z35 : w3.heap.size < w5.heap.size := (by omega); have z45 : w4.heap.size < w5.heap.size := (by omega))
            | ((go_at_call 17; (with_reducible refine (HS1.out A2 c2 B2 d2 _ (HIA.out _ _ _ _ HXA.out ?_) (HG6.out.trans ?_)).mono ?_); rotate_right; rintro e w7 ⟨rfl, hbw7⟩; obtain ⟨hcw7, hfw7, hzw7⟩ := hbw7.rules; (try simp at hzw7); have hzw7_0 : w.heap.size < w7.heap.size := (by omega); have hyw7_0 : w.heap.size ≤ w7.heap.size := (by omega); have hzw7_1 : w.heap.size + 1 < w7.heap.size := (by omega); have hyw7_1 : w.heap.size + 1 ≤ w7.heap.size := (by omega); have hzw7_2 : w.heap.size + 2 < w7.heap.size := (by omega); have hyw7_2 : w.heap.size + 2 ≤ w7.heap.size := (by omega)); have z77 : g7 < w7.heap.size := (by omega); have z87 : g8 < w7.heap.size := (by omega))
            | (go_at_call 17; (with_reducible refine (HS2.out A3 c3 B3 d3 _ (HIB.out _ _ _ _ HXB.out ?_) (HG6.out.trans ?_)).mono ?_); rotate_right; rintro e w8 ⟨rfl, hbw8⟩; obtain ⟨hcw8, hfw8, hzw8⟩ := hbw8.rules; (try simp at hzw8)))
          all_goals first
            | (go_ret
               refine ⟨rfl, ?_⟩
               refine HG6.out.trans ?_
               (repeat (first | with_reducible exact Gr.refl _ | with_reducible refine Gr.trans ?_ hbw8 | with_reducible refine Gr.trans ?_ hbw7 | with_reducible refine Gr.trans ?_ hbw5 | with_reducible refine Gr.trans ?_ hbw4 | with_reducible refine Gr.trans ?_ hbw3 | with_reducible refine Gr.alloc ?_ _ | with_reducible refine Gr.setCell ?_ (by simp) _ | with_reducible refine Gr.setCell ?_ (by simp; omega) _ | with_reducible refine Gr.drew ?_ | with_reducible refine Gr.drewN ?_ _)))
            | ((repeat (first | with_reducible exact Gr.refl _ | with_reducible refine Gr.trans ?_ hbw7 | with_reducible refine Gr.trans ?_ hbw5 | with_reducible refine Gr.trans ?_ hbw4 | with_reducible refine Gr.trans ?_ hbw3 | with_reducible refine Gr.alloc ?_ _ | with_reducible refine Gr.setCell ?_ (by simp) _ | with_reducible refine Gr.setCell ?_ (by simp; omega) _ | with_reducible refine Gr.drew ?_ | with_reducible refine Gr.drewN ?_ _)); done)
            | ((repeat (first | with_reducible exact Gr.refl _ | with_reducible refine Gr.trans ?_ hbw5 | with_reducible refine Gr.trans ?_ hbw4 | with_reducible refine Gr.trans ?_ hbw3 | with_reducible refine Gr.alloc ?_ _ | with_reducible refine Gr.setCell ?_ (by simp) _ | with_reducible refine Gr.setCell ?_ (by simp; omega) _ | with_reducible refine Gr.drew ?_ | with_reducible refine Gr.drewN ?_ _)); done)
            | ((repeat (first | with_reducible exact Gr.refl _ | with_reducible refine Gr.trans ?_ hbw4 | with_reducible refine Gr.trans ?_ hbw3 | with_reducible refine Gr.alloc ?_ _ | with_reducible refine Gr.setCell ?_ (by simp) _ | with_reducible refine Gr.setCell ?_ (by simp; omega) _ | with_reducible refine Gr.drew ?_ | with_reducible refine Gr.drewN ?_ _)); done)
            | ((repeat (first | with_reducible exact Gr.refl _ | with_reducible refine Gr.trans ?_ hbw3 | with_reducible refine Gr.alloc ?_ _ | with_reducible refine Gr.setCell ?_ (by simp) _ | with_reducible refine Gr.setCell ?_ (by simp; omega) _ | with_reducible refine Gr.drew ?_ | with_reducible refine Gr.drewN ?_ _)); done)
            | ((repeat (first | with_reducible exact Gr.refl _ | with_reducible refine Gr.alloc ?_ _ | with_reducible refine Gr.setCell ?_ (by simp) _ | with_reducible refine Gr.setCell ?_ (by simp; omega) _ | with_reducible refine Gr.drew ?_ | with_reducible refine Gr.drewN ?_ _)); done)
      all_goals (repeat (first | with_reducible exact Gr.refl _ | with_reducible refine Gr.trans ?_ hbw1 | with_reducible refine Gr.alloc ?_ _ | with_reducible refine Gr.setCell ?_ (by simp) _ | with_reducible refine Gr.setCell ?_ (by simp; omega) _ | with_reducible refine Gr.drew ?_ | with_reducible refine Gr.drewN ?_ _))
    · go_enter Try.func4, Try.ntmps4
      go_wp2_with (first
        | (go_at_call 11; (with_reducible refine (HGA.out _ ?_).mono ?_); rotate_right; rintro e w1 ⟨rfl, hbw1⟩; obtain ⟨hcw1, hfw1, hzw1⟩ := hbw1.rules; (try simp at hzw1); have hzw1_0 : w.heap.size < w1.heap.size := (by omega); have hyw1_0 : w.heap.size ≤ w1.heap.size := (by omega); have hzw1_1 : w.heap.size + 1 < w1.heap.size := (by omega); have hyw1_1 : w.heap.size + 1 ≤ w1.heap.size := (by omega); have hzw1_2 : w.heap.size + 2 < w1.heap.size := (by omega); have hyw1_2 : w.heap.size + 2 ≤ w1.heap.size := (by omega))
        | (go_at_call 11; (with_reducible refine (HGB.out _ ?_).mono ?_); rotate_right; rintro e w2 ⟨rfl, hbw2⟩; obtain ⟨hcw2, hfw2, hzw2⟩ := hbw2.rules; (try simp at hzw2); have hzw2_0 : w.heap.size < w2.heap.size := (by omega); have hyw2_0 : w.heap.size ≤ w2.heap.size := (by omega); have hzw2_1 : w.heap.size + 1 < w2.heap.size := (by omega); have hyw2_1 : w.heap.size + 1 ≤ w2.heap.size := (by omega); have hzw2_2 : w.heap.size + 2 < w2.heap.size := (by omega); have hyw2_2 : w.heap.size + 2 ≤ w2.heap.size := (by omega)))
      all_goals first
        | (go_ret
           refine ⟨rfl, ?_⟩
           (repeat (first | with_reducible exact Gr.refl _ | with_reducible refine Gr.trans ?_ hbw2 | with_reducible refine Gr.trans ?_ hbw1 | with_reducible refine Gr.alloc ?_ _ | with_reducible refine Gr.setCell ?_ (by simp) _ | with_reducible refine Gr.setCell ?_ (by simp; omega) _ | with_reducible refine Gr.drew ?_ | with_reducible refine Gr.drewN ?_ _)))
        | ((repeat (first | with_reducible exact Gr.refl _ | with_reducible refine Gr.trans ?_ hbw1 | with_reducible refine Gr.alloc ?_ _ | with_reducible refine Gr.setCell ?_ (by simp) _ | with_reducible refine Gr.setCell ?_ (by simp; omega) _ | with_reducible refine Gr.drew ?_ | with_reducible refine Gr.drewN ?_ _)); done)
  · go_enter Try.func4, Try.ntmps4
    go_wp2_with (first
      | (go_at_call 11; (with_reducible refine (HGA.out _ ?_).mono ?_); rotate_right; rintro e w1 ⟨rfl, hbw1⟩; obtain ⟨hcw1, hfw1, hzw1⟩ := hbw1.rules; (try simp at hzw1); have hzw1_0 : w.heap.size < w1.heap.size := (by omega); have hyw1_0 : w.heap.size ≤ w1.heap.size := (by omega); have hzw1_1 : w.heap.size + 1 < w1.heap.size := (by omega); have hyw1_1 : w.heap.size + 1 ≤ w1.heap.size := (by omega); have hzw1_2 : w.heap.size + 2 < w1.heap.size := (by omega); have hyw1_2 : w.heap.size + 2 ≤ w1.heap.size := (by omega)))
    all_goals first
      | (go_ret
         refine ⟨rfl, ?_⟩
         (repeat (first | with_reducible exact Gr.refl _ | with_reducible refine Gr.trans ?_ hbw1 | with_reducible refine Gr.alloc ?_ _ | with_reducible refine Gr.setCell ?_ (by simp) _ | with_reducible refine Gr.setCell ?_ (by simp; omega) _ | with_reducible refine Gr.drew ?_ | with_reducible refine Gr.drewN ?_ _)))
      | ((repeat (first | with_reducible exact Gr.refl _ | with_reducible refine Gr.alloc ?_ _ | with_reducible refine Gr.setCell ?_ (by simp) _ | with_reducible refine Gr.setCell ?_ (by simp; omega) _ | with_reducible refine Gr.drew ?_ | with_reducible refine Gr.drewN ?_ _)); done)
end Go.Proofs.Ytlkjimfkapcenaa
