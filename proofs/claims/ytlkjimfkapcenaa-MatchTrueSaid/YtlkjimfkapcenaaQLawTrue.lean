/- The law MatchTrue, walked: records of one person with half of what rules allow wrong in each are not excluded. For all rules, records and numbers. -/
import Derived.Test.YtlkjimfkapcenaaQAlive
import Derived.Test.YtlkjimfkapcenaaQCompareTop
import Derived.Test.YtlkjimfkapcenaaQTold
import Derived.Test.YtlkjimfkapcenaaQSetEight
import Derived.WalkLawsBesides
import Derived.Deep.RegionHeld3
import Derived.Deep.DeepCutAuto
import Derived.Deep.CutRange
namespace Go.Proofs.Ytlkjimfkapcenaa
open Go.RowKit

set_option maxRecDepth 100000 in
set_option maxHeartbeats 16000000 in
theorem matchTrue_any (r : Rul) (a : Rcd) (A : Option Addr) (n c : Nat) (B : Option Addr) (m d : Nat) (bs : List Int) (C : Option Addr) (k e : Nat) (w : World)
    (ha : a.In w A n B m) (sa : 0 ≤ a.suffix) (hbs : Rd w 1 C k (bs.map (Value.int .u32))) (hk : k ≤ 9223372036854775807) (hwf : ∀ x ∈ bs, 0 ≤ x ∧ x ≤ 4294967295) :
    Calls Try.prog 5 #[r.val, a.val A n c B m d, .slice C k e] w fun en w' => en = .returned (.bool true) ∧ Gr w w' := by
  have HAL := hid (fun W => alive_any W)
  have HRU := hid (fun W => refRules_any r W)
  have HRA := hid (fun W (g : Gr w W) => refRecord_any a A n c B m d W (ha.gr g))
  cases hro : r.ok with
  | false =>
    rw [hro] at HRU
    clear HRA hro hbs hk
    obtain ⟨l, dg, dy, t⟩ := r
    obtain ⟨id, names, suf, l1, h1, p, tw, xs⟩ := a
    unfold Rcd.val Rul.val at *
    dsimp only at *
    go_enter Try.func5, Try.ntmps5
    go_wp2_with (first
      | (go_at_call 20; (with_reducible refine (HAL.out _).mono ?_); rotate_right; rintro e w1 ⟨rfl, hbw1⟩; obtain ⟨hcw1, hfw1, hzw1⟩ := hbw1.rules; (try simp at hzw1); have hzw1_0 : w.heap.size < w1.heap.size := (by omega); have hyw1_0 : w.heap.size ≤ w1.heap.size := (by omega); have hzw1_1 : w.heap.size + 1 < w1.heap.size := (by omega); have hyw1_1 : w.heap.size + 1 ≤ w1.heap.size := (by omega))
      | (go_at_call 21; (with_reducible refine (HRU.out _).mono ?_); rotate_right; rintro e w2 ⟨rfl, hbw2⟩; obtain ⟨hcw2, hfw2, hzw2⟩ := hbw2.rules; (try simp at hzw2); have hzw2_0 : w.heap.size < w2.heap.size := (by omega); have hyw2_0 : w.heap.size ≤ w2.heap.size := (by omega); have hzw2_1 : w.heap.size + 1 < w2.heap.size := (by omega); have hyw2_1 : w.heap.size + 1 ≤ w2.heap.size := (by omega)))
    go_ret
    exact ⟨rfl, by (repeat (first | with_reducible exact Gr.refl _ | with_reducible refine Gr.trans ?_ hbw2 | with_reducible refine Gr.trans ?_ hbw1 | with_reducible refine Gr.alloc ?_ _ | with_reducible refine Gr.setCell ?_ (by simp) _ | with_reducible refine Gr.setCell ?_ (by simp; omega) _ | with_reducible refine Gr.drew ?_ | with_reducible refine Gr.drewN ?_ _))⟩
  | true =>
    rw [hro] at HRU
    cases hao : a.ok with
    | false =>
      rw [hao] at HRA
      clear hro hao hbs hk
      obtain ⟨l, dg, dy, t⟩ := r
      obtain ⟨id, names, suf, l1, h1, p, tw, xs⟩ := a
      unfold Rcd.val Rul.val at *
      dsimp only at *
      go_enter Try.func5, Try.ntmps5
      go_wp2_with (first
        | (go_at_call 20; (with_reducible refine (HAL.out _).mono ?_); rotate_right; rintro e w1 ⟨rfl, hbw1⟩; obtain ⟨hcw1, hfw1, hzw1⟩ := hbw1.rules; (try simp at hzw1); have hzw1_0 : w.heap.size < w1.heap.size := (by omega); have hyw1_0 : w.heap.size ≤ w1.heap.size := (by omega); have hzw1_1 : w.heap.size + 1 < w1.heap.size := (by omega); have hyw1_1 : w.heap.size + 1 ≤ w1.heap.size := (by omega))
        | (go_at_call 21; (with_reducible refine (HRU.out _).mono ?_); rotate_right; rintro e w2 ⟨rfl, hbw2⟩; obtain ⟨hcw2, hfw2, hzw2⟩ := hbw2.rules; (try simp at hzw2); have hzw2_0 : w.heap.size < w2.heap.size := (by omega); have hyw2_0 : w.heap.size ≤ w2.heap.size := (by omega); have hzw2_1 : w.heap.size + 1 < w2.heap.size := (by omega); have hyw2_1 : w.heap.size + 1 ≤ w2.heap.size := (by omega))
        | (go_at_call 22; (with_reducible refine (HRA.out _ ?_).mono ?_); rotate_right; rintro e w3 ⟨rfl, hbw3⟩; obtain ⟨hcw3, hfw3, hzw3⟩ := hbw3.rules; (try simp at hzw3); have hzw3_0 : w.heap.size < w3.heap.size := (by omega); have hyw3_0 : w.heap.size ≤ w3.heap.size := (by omega); have hzw3_1 : w.heap.size + 1 < w3.heap.size := (by omega); have hyw3_1 : w.heap.size + 1 ≤ w3.heap.size := (by omega)))
      · go_ret
        exact ⟨rfl, by (repeat (first | with_reducible exact Gr.refl _ | with_reducible refine Gr.trans ?_ hbw3 | with_reducible refine Gr.trans ?_ hbw2 | with_reducible refine Gr.trans ?_ hbw1 | with_reducible refine Gr.alloc ?_ _ | with_reducible refine Gr.setCell ?_ (by simp) _ | with_reducible refine Gr.setCell ?_ (by simp; omega) _ | with_reducible refine Gr.drew ?_ | with_reducible refine Gr.drewN ?_ _))⟩
      · (repeat (first | with_reducible exact Gr.refl _ | with_reducible refine Gr.trans ?_ hbw2 | with_reducible refine Gr.trans ?_ hbw1 | with_reducible refine Gr.alloc ?_ _ | with_reducible refine Gr.setCell ?_ (by simp) _ | with_reducible refine Gr.setCell ?_ (by simp; omega) _ | with_reducible refine Gr.drew ?_ | with_reducible refine Gr.drewN ?_ _))
    | true =>
      rw [hao] at HRA
      cases htw : a.twin with
      | true =>
        clear hro hao hbs hk
        obtain ⟨l, dg, dy, t⟩ := r
        obtain ⟨id, names, suf, l1, h1, p, tw, xs⟩ := a
        dsimp only at htw
        subst htw
        unfold Rcd.val Rul.val at *
        dsimp only at *
        go_enter Try.func5, Try.ntmps5
        go_wp2_with (first
          | (go_at_call 20; (with_reducible refine (HAL.out _).mono ?_); rotate_right; rintro e w1 ⟨rfl, hbw1⟩; obtain ⟨hcw1, hfw1, hzw1⟩ := hbw1.rules; (try simp at hzw1); have hzw1_0 : w.heap.size < w1.heap.size := (by omega); have hyw1_0 : w.heap.size ≤ w1.heap.size := (by omega); have hzw1_1 : w.heap.size + 1 < w1.heap.size := (by omega); have hyw1_1 : w.heap.size + 1 ≤ w1.heap.size := (by omega))
          | (go_at_call 21; (with_reducible refine (HRU.out _).mono ?_); rotate_right; rintro e w2 ⟨rfl, hbw2⟩; obtain ⟨hcw2, hfw2, hzw2⟩ := hbw2.rules; (try simp at hzw2); have hzw2_0 : w.heap.size < w2.heap.size := (by omega); have hyw2_0 : w.heap.size ≤ w2.heap.size := (by omega); have hzw2_1 : w.heap.size + 1 < w2.heap.size := (by omega); have hyw2_1 : w.heap.size + 1 ≤ w2.heap.size := (by omega))
          | (go_at_call 22; (with_reducible refine (HRA.out _ ?_).mono ?_); rotate_right; rintro e w3 ⟨rfl, hbw3⟩; obtain ⟨hcw3, hfw3, hzw3⟩ := hbw3.rules; (try simp at hzw3); have hzw3_0 : w.heap.size < w3.heap.size := (by omega); have hyw3_0 : w.heap.size ≤ w3.heap.size := (by omega); have hzw3_1 : w.heap.size + 1 < w3.heap.size := (by omega); have hyw3_1 : w.heap.size + 1 ≤ w3.heap.size := (by omega)))
        · go_ret
          exact ⟨rfl, by (repeat (first | with_reducible exact Gr.refl _ | with_reducible refine Gr.trans ?_ hbw3 | with_reducible refine Gr.trans ?_ hbw2 | with_reducible refine Gr.trans ?_ hbw1 | with_reducible refine Gr.alloc ?_ _ | with_reducible refine Gr.setCell ?_ (by simp) _ | with_reducible refine Gr.setCell ?_ (by simp; omega) _ | with_reducible refine Gr.drew ?_ | with_reducible refine Gr.drewN ?_ _))⟩
        · (repeat (first | with_reducible exact Gr.refl _ | with_reducible refine Gr.trans ?_ hbw2 | with_reducible refine Gr.trans ?_ hbw1 | with_reducible refine Gr.alloc ?_ _ | with_reducible refine Gr.setCell ?_ (by simp) _ | with_reducible refine Gr.setCell ?_ (by simp; omega) _ | with_reducible refine Gr.drew ?_ | with_reducible refine Gr.drewN ?_ _))
      | false =>
        obtain ⟨HI, hHI⟩ : ∃ HI : Rcd → Option Addr → Option Addr → World → Prop, ∀ x X Y V, HI x X Y V ↔ x.In V X n Y m := ⟨fun x X Y V => x.In V X n Y m, fun _ _ _ _ => Iff.rfl⟩
        have HTZ : ∀ z : Int, 0 ≤ z ∧ z ≤ 100 → ∀ W, Gr w W → Calls Try.prog 23 #[r.val, a.val A n c B m d, .slice C k e, .int .i64 z] W fun ex w' => ∃ (x : Rcd) (A2 : Option Addr) (c2 : Nat) (B2 : Option Addr) (d2 : Nat), ex = .returned (x.val A2 n c2 B2 m d2) ∧ Hid (Told r a x) ∧ (n ≤ c2 ∧ c2 ≤ 9223372036854775807) ∧ (∀ V : World, (∀ k, W.heap.size ≤ k → k < w'.heap.size → V.heap[k]? = w'.heap[k]?) → HI x A2 B2 V) ∧ Gr W w' := fun z hz W g => by
          refine (told_any r a A n c B m d bs C k e z W (ha.gr g) hro hao (hbs.gr g) hk hwf hz).mono ?_
          rintro ex w' ⟨x, A2, c2, B2, d2, j1, j2, j3, j4, j5, j6⟩
          exact ⟨x, A2, c2, B2, d2, j1, j2, j4, fun V hV => (hHI _ _ _ _).2 (j3 V hV), j6⟩
        have HCM : Hid (∀ (x y : Rcd) A2 c2 B2 d2 A3 c3 B3 d3 W, Told r a x → Told r a y → HI x A2 B2 W → HI y A3 B3 W → (n ≤ c2 ∧ c2 ≤ 9223372036854775807) → (n ≤ c3 ∧ c3 ≤ 9223372036854775807) → Calls Try.prog 18 #[r.val, x.val A2 n c2 B2 m d2, y.val A3 n c3 B3 m d3] W fun e w' => ∃ nm nu bi pl vd : Int, e = .returned (.tuple #[.agg #[.int .u8 nm, .int .u8 nu, .int .u8 bi, .int .u8 pl, .int .u8 vd], .int .i64 0]) ∧ (vd ≠ 0 ∧ 2 ≤ nm ∧ nu ≠ 0 ∧ bi ≠ 0) ∧ Gr W w') := by
          intro x y A2 c2 B2 d2 A3 c3 B3 d3 W t1 t2 i1 i2 k1 k2
          have s1 : 0 ≤ x.suffix := by rcases t1.suffix with h | h <;> omega
          have s2 : 0 ≤ y.suffix := by rcases t2.suffix with h | h <;> omega
          have h := compareTop_any r x y A2 n c2 B2 m d2 A3 n c3 B3 m d3 W ((hHI _ _ _ _).1 i1) ((hHI _ _ _ _).1 i2) k1 k2 s1 s2
          have hv : cmpV r x y = cmpN r x y := by unfold cmpV; rw [hro, t1.ok hao, t2.ok hao]; rfl
          have he : cmpE r x y = 0 := by unfold cmpE; rw [hro, t1.ok hao, t2.ok hao]; rfl
          rw [hv, he] at h
          refine h.mono ?_
          rintro e w' ⟨j1, j2⟩
          exact ⟨_, _, _, _, _, j1, Told.both hro hao htw t1 t2, j2⟩
        have HIG := hid (fun W W' x A2 B2 (h : HI x A2 B2 W) (g : Gr W W') => (hHI _ _ _ _).2 (((hHI _ _ _ _).1 h).gr g))
        have HT1 := hid (HTZ 0 (by omega))
        have HT2 := hid (HTZ 7 (by omega))
        clear ha hbs hk hwf hHI hro hao HTZ sa
        obtain ⟨l, dg, dy, t⟩ := r
        obtain ⟨id, names, suf, l1, h1, p, tw, xs⟩ := a
        dsimp only at htw
        subst htw
        unfold Rcd.val Rul.val at *
        dsimp only at *
        go_enter Try.func5, Try.ntmps5
        go_upto_region 6 with (first
          | (go_at_call 20; (with_reducible refine (HAL.out _).mono ?_); rotate_right; rintro e w1 ⟨rfl, hbw1⟩; obtain ⟨hcw1, hfw1, hzw1⟩ := hbw1.rules; (try simp at hzw1); have hzw1_0 : w.heap.size < w1.heap.size := (by omega); have hyw1_0 : w.heap.size ≤ w1.heap.size := (by omega); have hzw1_1 : w.heap.size + 1 < w1.heap.size := (by omega); have hyw1_1 : w.heap.size + 1 ≤ w1.heap.size := (by omega))
          | (go_at_call 21; (with_reducible refine (HRU.out _).mono ?_); rotate_right; rintro e w2 ⟨rfl, hbw2⟩; obtain ⟨hcw2, hfw2, hzw2⟩ := hbw2.rules; (try simp at hzw2); have hzw2_0 : w.heap.size < w2.heap.size := (by omega); have hyw2_0 : w.heap.size ≤ w2.heap.size := (by omega); have hzw2_1 : w.heap.size + 1 < w2.heap.size := (by omega); have hyw2_1 : w.heap.size + 1 ≤ w2.heap.size := (by omega))
          | (go_at_call 22; (with_reducible refine (HRA.out _ ?_).mono ?_); rotate_right; rintro e w3 ⟨rfl, hbw3⟩; obtain ⟨hcw3, hfw3, hzw3⟩ := hbw3.rules; (try simp at hzw3); have hzw3_0 : w.heap.size < w3.heap.size := (by omega); have hyw3_0 : w.heap.size ≤ w3.heap.size := (by omega); have hzw3_1 : w.heap.size + 1 < w3.heap.size := (by omega); have hyw3_1 : w.heap.size + 1 ≤ w3.heap.size := (by omega)))
        · have k2 : Gr ((w.alloc (.cells #[.int .i64 l, .int .i64 dg, .int .i64 dy, .int .i64 t] 23)).alloc (.cells #[.int .i64 id, .slice A n c, .int .u8 suf, .int .i64 l1, .int .i64 h1, .string p, .bool false, .slice B m d] 29)) w3 := by (repeat (first | with_reducible exact Gr.refl _ | with_reducible refine Gr.trans ?_ hbw3 | with_reducible refine Gr.trans ?_ hbw2 | with_reducible refine Gr.trans ?_ hbw1 | with_reducible refine Gr.alloc ?_ _ | with_reducible refine Gr.setCell ?_ (by simp) _ | with_reducible refine Gr.setCell ?_ (by simp; omega) _ | with_reducible refine Gr.drew ?_ | with_reducible refine Gr.drewN ?_ _))
          obtain ⟨E1, E2⟩ := rows2 w (.cells #[.int .i64 l, .int .i64 dg, .int .i64 dy, .int .i64 t] 23) (.cells #[.int .i64 id, .slice A n c, .int .u8 suf, .int .i64 l1, .int .i64 h1, .string p, .bool false, .slice B m d] 29)
          have HGW := hid ((((Gr.refl w).alloc _).alloc _).trans k2)
          have HE1 := hid (row_gr E1 k2)
          have HE2 := hid (row_gr E2 k2)
          clear E1 E2 k2 hbw1 hbw2 hbw3 hcw1 hfw1 hzw1 hcw2 hfw2 hzw2 hcw3 hfw3 hzw3 hzw1_0 hzw1_1 hyw1_0 hyw1_1 hzw2_0 hzw2_1 hyw2_0 hyw2_1 hzw3_0 hzw3_1 hyw3_0 hyw3_1
          have S0 := And.intro (cellsat4 HE1.out) (cellsat8 HE2.out)
          have hzA : w.heap.size + 1 < w3.heap.size := (Array.getElem?_eq_some_iff.1 HE2.out).1
          go_cut [8, 9] (fun s8 s9 wx => ∃ (g8 g9 : Nat) (x y : Rcd) (A2 : Option Addr) (c2 : Nat) (B2 : Option Addr) (d2 : Nat) (A3 : Option Addr) (c3 : Nat) (B3 : Option Addr) (d3 : Nat), s8 = .pointer (some ⟨g8, 0, none⟩) ∧ s9 = .pointer (some ⟨g9, 0, none⟩) ∧ Gr w3 wx ∧ wx.heap[g8]? = some (.cells #[.int .i64 x.id, .slice A2 n c2, .int .u8 x.suffix, .int .i64 x.lo, .int .i64 x.hi, .string x.number, .bool x.twin, .slice B2 m d2] 29 (0, 0)) ∧ wx.heap[g9]? = some (.cells #[.int .i64 y.id, .slice A3 n c3, .int .u8 y.suffix, .int .i64 y.lo, .int .i64 y.hi, .string y.number, .bool y.twin, .slice B3 m d3] 29 (0, 0)) ∧ ((n ≤ c2 ∧ c2 ≤ 9223372036854775807) ∧ (n ≤ c3 ∧ c3 ≤ 9223372036854775807)) ∧ (Hid (Told ⟨l, dg, dy, t⟩ ⟨id, names, suf, l1, h1, p, false, xs⟩ x) ∧ Hid (Told ⟨l, dg, dy, t⟩ ⟨id, names, suf, l1, h1, p, false, xs⟩ y)) ∧ HI x A2 B2 wx ∧ HI y A3 B3 wx)
          case first =>
            have KS : ∀ W, Gr w3 W → ((W.cell? ⟨w.heap.size, 0, none⟩ = some (.int .i64 l) ∧ W.cell? ⟨w.heap.size, 1, none⟩ = some (.int .i64 dg) ∧ W.cell? ⟨w.heap.size, 2, none⟩ = some (.int .i64 dy) ∧ W.cell? ⟨w.heap.size, 3, none⟩ = some (.int .i64 t)) ∧ (W.cell? ⟨w.heap.size + 1, 0, none⟩ = some (.int .i64 id) ∧ W.cell? ⟨w.heap.size + 1, 1, none⟩ = some (.slice A n c) ∧ W.cell? ⟨w.heap.size + 1, 2, none⟩ = some (.int .u8 suf) ∧ W.cell? ⟨w.heap.size + 1, 3, none⟩ = some (.int .i64 l1) ∧ W.cell? ⟨w.heap.size + 1, 4, none⟩ = some (.int .i64 h1) ∧ W.cell? ⟨w.heap.size + 1, 5, none⟩ = some (.string p) ∧ W.cell? ⟨w.heap.size + 1, 6, none⟩ = some (.bool false) ∧ W.cell? ⟨w.heap.size + 1, 7, none⟩ = some (.slice B m d))) := fun W g => ⟨⟨row_cell S0.1.1 g, row_cell S0.1.2.1 g, row_cell S0.1.2.2.1 g, row_cell S0.1.2.2.2 g⟩, keepc8 S0.2 g⟩
            go_region_held3 (fun W => (W.cell? ⟨w.heap.size, 0, none⟩ = some (.int .i64 l) ∧ W.cell? ⟨w.heap.size, 1, none⟩ = some (.int .i64 dg) ∧ W.cell? ⟨w.heap.size, 2, none⟩ = some (.int .i64 dy) ∧ W.cell? ⟨w.heap.size, 3, none⟩ = some (.int .i64 t)) ∧ (W.cell? ⟨w.heap.size + 1, 0, none⟩ = some (.int .i64 id) ∧ W.cell? ⟨w.heap.size + 1, 1, none⟩ = some (.slice A n c) ∧ W.cell? ⟨w.heap.size + 1, 2, none⟩ = some (.int .u8 suf) ∧ W.cell? ⟨w.heap.size + 1, 3, none⟩ = some (.int .i64 l1) ∧ W.cell? ⟨w.heap.size + 1, 4, none⟩ = some (.int .i64 h1) ∧ W.cell? ⟨w.heap.size + 1, 5, none⟩ = some (.string p) ∧ W.cell? ⟨w.heap.size + 1, 6, none⟩ = some (.bool false) ∧ W.cell? ⟨w.heap.size + 1, 7, none⟩ = some (.slice B m d)))
              (((with_reducible refine KS _ ?_); (repeat' (first | with_reducible exact q2 | with_reducible exact q1 | with_reducible exact Gr.refl _ | with_reducible refine Gr.alloc ?_ _ | with_reducible refine Gr.drew ?_ | with_reducible refine e8_set8u_gr ?_ ?_ | omega))))
              (first
                | (go_at_call 23; (fail_if_success have := q1); (with_reducible refine (HT1.out _ (HGW.out.trans (by (repeat' (first | with_reducible exact q2 | with_reducible exact q1 | with_reducible exact Gr.refl _ | with_reducible refine Gr.alloc ?_ _ | with_reducible refine Gr.drew ?_ | with_reducible refine e8_set8u_gr ?_ ?_ | omega))))).mono ?_); rintro ex u1 ⟨x, A2, c2, B2, d2, rfl, hT1, cc1, hI1, hk1⟩; have HI1 := hid hI1; clear hI1; have q1 : Gr w3 u1 := Gr.trans (by (repeat' (first | with_reducible exact q2 | with_reducible exact q1 | with_reducible exact Gr.refl _ | with_reducible refine Gr.alloc ?_ _ | with_reducible refine Gr.drew ?_ | with_reducible refine e8_set8u_gr ?_ ?_ | omega))) hk1; obtain ⟨hc1, hf1, hz1⟩ := hk1.rules; (try simp at hz1); (try have yu1_0 : w3.heap.size < u1.heap.size := by omega); (try have yu1_1 : w3.heap.size + 1 < u1.heap.size := by omega))
                | (go_at_call 23; have := q1; clear this; (with_reducible refine (HT2.out _ (HGW.out.trans (by (repeat' (first | with_reducible exact q2 | with_reducible exact q1 | with_reducible exact Gr.refl _ | with_reducible refine Gr.alloc ?_ _ | with_reducible refine Gr.drew ?_ | with_reducible refine e8_set8u_gr ?_ ?_ | omega))))).mono ?_); rintro ex u2 ⟨y, A3, c3, B3, d3, rfl, hT2, cc2, hI2, hk2⟩; have HI2 := hid hI2; clear hI2; have q2 : Gr w3 u2 := Gr.trans (by (repeat' (first | with_reducible exact q2 | with_reducible exact q1 | with_reducible exact Gr.refl _ | with_reducible refine Gr.alloc ?_ _ | with_reducible refine Gr.drew ?_ | with_reducible refine e8_set8u_gr ?_ ?_ | omega))) hk2; obtain ⟨hc2, hf2, hz2⟩ := hk2.rules; (try simp at hz2); (try have yu2_0 : w3.heap.size < u2.heap.size := by omega); (try have yu2_1 : w3.heap.size + 1 < u2.heap.size := by omega); (try have yu2_2 : u1.heap.size < u2.heap.size := by omega); (try have yu2_3 : u1.heap.size + 1 < u2.heap.size := by omega)))
            all_goals go_wp2_with fail
            all_goals go_meet
            all_goals refine ⟨_, _, x, y, A2, c2, B2, d2, A3, c3, B3, d3, rfl, rfl, ?_, ?_, ?_, ⟨cc1, cc2⟩, ⟨hT1, hT2⟩, HI1.out _ ?_, HI2.out _ ?_⟩
            all_goals first
              | with_reducible show Gr _ _
                (repeat' (first | with_reducible exact q2 | with_reducible exact q1 | with_reducible exact Gr.refl _ | with_reducible refine Gr.alloc ?_ _ | with_reducible refine Gr.drew ?_ | with_reducible refine e8_set8u_gr ?_ ?_ | omega))
              | (with_reducible show ∀ k, _
                 intro k j1 j2
                 (try simp at j1)
                 (repeat' (first | omega | with_reducible rfl | with_reducible refine e8_far_set8u ?_ ?_ | with_reducible refine e8_far_up ?_ ?_ | with_reducible refine e8_far_drew ?_ | with_reducible refine e8_far_gr hk2 ?_ ?_ | (first | omega | (simp; done) | (simp; omega))))
                 done)
              | ((repeat' (first | omega | with_reducible exact heap_alloc_new _ _ | with_reducible exact e8_row_new1 _ _ _ | with_reducible apply e8_set8u_row | ((with_reducible refine e8_row_new_at ?_); (first | omega | (simp; done) | (simp; omega))) | with_reducible apply e8_set8u_far | with_reducible apply e8_row_up | with_reducible refine row_gr ?_ hk2 | with_reducible refine row_gr ?_ hk1 | with_reducible refine e8_far_drew ?_))
                 done)
              | skip
          case rest => as_aux_lemma =>
            obtain ⟨g8, g9, x, y, A2, c2, B2, d2, A3, c3, B3, d3, rfl, rfl, GW, F8, F9, cc, TT, hA, hB⟩ := hcut
            obtain ⟨W6, rfl⟩ : ∃ W6 : World, W6 = wc := ⟨_, rfl⟩
            have HG6 := hid (HGW.out.trans GW)
            have HC : Hid (∀ W, Gr W6 W → Calls Try.prog 18 #[.agg #[.int .i64 l, .int .i64 dg, .int .i64 dy, .int .i64 t], .agg #[.int .i64 x.id, .slice A2 n c2, .int .u8 x.suffix, .int .i64 x.lo, .int .i64 x.hi, .string x.number, .bool x.twin, .slice B2 m d2], .agg #[.int .i64 y.id, .slice A3 n c3, .int .u8 y.suffix, .int .i64 y.lo, .int .i64 y.hi, .string y.number, .bool y.twin, .slice B3 m d3]] W fun e w' => ∃ nm nu bi pl vd : Int, e = .returned (.tuple #[.agg #[.int .u8 nm, .int .u8 nu, .int .u8 bi, .int .u8 pl, .int .u8 vd], .int .i64 0]) ∧ (vd ≠ 0 ∧ 2 ≤ nm ∧ nu ≠ 0 ∧ bi ≠ 0) ∧ Gr W w') := fun W g =>
              HCM.out x y A2 c2 B2 d2 A3 c3 B3 d3 W TT.1.out TT.2.out (HIG.out _ _ _ _ _ hA g) (HIG.out _ _ _ _ _ hB g) cc.1 cc.2
            obtain ⟨r0, r1, r2, r3⟩ := cellsat4 (row_gr HE1.out GW)
            obtain ⟨o0, o1, o2, o3, o4, o5, o6, o7⟩ := cellsat8 F8
            obtain ⟨p0, p1, p2, p3, p4, p5, p6, p7⟩ := cellsat8 F9
            have lg8 : g8 < W6.heap.size := (Array.getElem?_eq_some_iff.1 F8).1
            have lg9 : g9 < W6.heap.size := (Array.getElem?_eq_some_iff.1 F9).1
            have lg0 : w.heap.size < W6.heap.size := by have := GW.size; omega
            clear HCM HIG HT1 HT2 hA hB F8 F9 GW TT cc S0 HE1 HE2 HGW HAL HRU HRA
            go_upto_region 8 with (first
              | (go_at_call 18; (with_reducible refine (HC.out _ (Gr.refl _)).mono ?_); rintro e1 w7 ⟨nm, nu, bi, pl, vd, rfl, hv, hbw7⟩; have HV := hid hv; clear hv; obtain ⟨hcw7, hfw7, hzw7⟩ := hbw7.rules; (try simp at hzw7)))
            obtain ⟨v1, v2, v3, v4⟩ := HV.out
            have hv1 : (vd != 0) = true := by simpa using v1
            have hv3 : (nu != 0) = true := by simpa using v3
            have hv4 : (bi != 0) = true := by simpa using v4
            go_wp2
            go_ret
            exact ⟨rfl, HG6.out.trans (by (repeat (first | with_reducible exact Gr.refl _ | with_reducible refine Gr.trans ?_ hbw7 | with_reducible refine Gr.alloc ?_ _ | with_reducible refine Gr.setCell ?_ (by simp) _ | with_reducible refine Gr.setCell ?_ (by simp; omega) _ | with_reducible refine Gr.drew ?_ | with_reducible refine Gr.drewN ?_ _)))⟩
        · (repeat (first | with_reducible exact Gr.refl _ | with_reducible refine Gr.trans ?_ hbw2 | with_reducible refine Gr.trans ?_ hbw1 | with_reducible refine Gr.alloc ?_ _ | with_reducible refine Gr.setCell ?_ (by simp) _ | with_reducible refine Gr.setCell ?_ (by simp; omega) _ | with_reducible refine Gr.drew ?_ | with_reducible refine Gr.drewN ?_ _))
end Go.Proofs.Ytlkjimfkapcenaa
