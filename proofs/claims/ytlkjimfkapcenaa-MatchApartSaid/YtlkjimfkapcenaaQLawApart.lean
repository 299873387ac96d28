/- The law MatchApart, walked: twins and juniors are told from each other, and places alone make nobody sure. For all rules and records. -/
import Derived.Test.YtlkjimfkapcenaaQAlive
import Derived.Test.YtlkjimfkapcenaaQCompareTop
import Derived.Test.YtlkjimfkapcenaaQTwin
import Derived.WalkLawsBesides
namespace Go.Proofs.Ytlkjimfkapcenaa
open Go.RowKit

theorem lone_in {a : Rcd} {w : World} {A : Option Addr} {n : Nat} {B : Option Addr} {m : Nat} (h : a.In w A n B m) : a.lone.In w A n none 0 :=
  ⟨h.names, Rd.nil_, h.nbig, by omega, h.words, h.number⟩
theorem empty_iff (s : ByteArray) : s = ByteArray.empty ↔ s.size = 0 := ByteArray.size_eq_zero_iff.symm

set_option maxRecDepth 100000 in
set_option maxHeartbeats 8000000 in
theorem matchApart_any (r : Rul) (a b : Rcd) (A : Option Addr) (n c : Nat) (B : Option Addr) (m d : Nat) (A' : Option Addr) (n' c' : Nat) (B' : Option Addr) (m' d' : Nat) (w : World)
    (ha : a.In w A n B m) (hb : b.In w A' n' B' m') (ca : n ≤ c ∧ c ≤ 9223372036854775807) (cb : n' ≤ c' ∧ c' ≤ 9223372036854775807) (sa : 0 ≤ a.suffix) (sb : 0 ≤ b.suffix) :
    Calls Try.prog 6 #[r.val, a.val A n c B m d, b.val A' n' c' B' m' d'] w fun e w' => e = .returned (.bool true) ∧ Gr w w' := by
  have HAL := hid (fun W => alive_any W)
  have HRU := hid (fun W => refRules_any r W)
  have HRA := hid (fun W (g : Gr w W) => refRecord_any a A n c B m d W (ha.gr g))
  have HRB := hid (fun W (g : Gr w W) => refRecord_any b A' n' c' B' m' d' W (hb.gr g))
  cases hro : r.ok with
  | false =>
    rw [hro] at HRU
    clear HRA HRB hro
    obtain ⟨l, dg, dy, t⟩ := r
    obtain ⟨id, names, suf, l1, h1, p, tw, xs⟩ := a
    obtain ⟨id', names', suf', l2, h2, q, tw', ys⟩ := b
    unfold Rcd.val Rul.val at *
    dsimp only at *
    go_enter Try.func6, Try.ntmps6
    go_wp2_with (first
      | (go_at_call 20; (with_reducible refine (HAL.out _).mono ?_); rotate_right; rintro e w1 ⟨rfl, hbw1⟩; obtain ⟨hcw1, hfw1, hzw1⟩ := hbw1.rules; (try simp at hzw1); have hzw1_0 : w.heap.size < w1.heap.size := (by omega); have hyw1_0 : w.heap.size ≤ w1.heap.size := (by omega); have hzw1_1 : w.heap.size + 1 < w1.heap.size := (by omega); have hyw1_1 : w.heap.size + 1 ≤ w1.heap.size := (by omega); have hzw1_2 : w.heap.size + 2 < w1.heap.size := (by omega); have hyw1_2 : w.heap.size + 2 ≤ w1.heap.size := (by omega))
      | (go_at_call 21; (with_reducible refine (HRU.out _).mono ?_); rotate_right; rintro e w2 ⟨rfl, hbw2⟩; obtain ⟨hcw2, hfw2, hzw2⟩ := hbw2.rules; (try simp at hzw2); have hzw2_0 : w.heap.size < w2.heap.size := (by omega); have hyw2_0 : w.heap.size ≤ w2.heap.size := (by omega); have hzw2_1 : w.heap.size + 1 < w2.heap.size := (by omega); have hyw2_1 : w.heap.size + 1 ≤ w2.heap.size := (by omega); have hzw2_2 : w.heap.size + 2 < w2.heap.size := (by omega); have hyw2_2 : w.heap.size + 2 ≤ w2.heap.size := (by omega)))
    go_ret
    exact ⟨rfl, by (repeat (first | with_reducible exact Gr.refl _ | with_reducible refine Gr.trans ?_ hbw2 | with_reducible refine Gr.trans ?_ hbw1 | with_reducible refine Gr.alloc ?_ _ | with_reducible refine Gr.setCell ?_ (by simp) _ | with_reducible refine Gr.setCell ?_ (by simp; omega) _ | with_reducible refine Gr.drew ?_ | with_reducible refine Gr.drewN ?_ _))⟩
  | true =>
    rw [hro] at HRU
    cases hao : a.ok with
    | false =>
      rw [hao] at HRA
      clear HRB hro hao
      obtain ⟨l, dg, dy, t⟩ := r
      obtain ⟨id, names, suf, l1, h1, p, tw, xs⟩ := a
      obtain ⟨id', names', suf', l2, h2, q, tw', ys⟩ := b
      unfold Rcd.val Rul.val at *
      dsimp only at *
      go_enter Try.func6, Try.ntmps6
      go_wp2_with (first
        | (go_at_call 20; (with_reducible refine (HAL.out _).mono ?_); rotate_right; rintro e w1 ⟨rfl, hbw1⟩; obtain ⟨hcw1, hfw1, hzw1⟩ := hbw1.rules; (try simp at hzw1); have hzw1_0 : w.heap.size < w1.heap.size := (by omega); have hyw1_0 : w.heap.size ≤ w1.heap.size := (by omega); have hzw1_1 : w.heap.size + 1 < w1.heap.size := (by omega); have hyw1_1 : w.heap.size + 1 ≤ w1.heap.size := (by omega); have hzw1_2 : w.heap.size + 2 < w1.heap.size := (by omega); have hyw1_2 : w.heap.size + 2 ≤ w1.heap.size := (by omega))
        | (go_at_call 21; (with_reducible refine (HRU.out _).mono ?_); rotate_right; rintro e w2 ⟨rfl, hbw2⟩; obtain ⟨hcw2, hfw2, hzw2⟩ := hbw2.rules; (try simp at hzw2); have hzw2_0 : w.heap.size < w2.heap.size := (by omega); have hyw2_0 : w.heap.size ≤ w2.heap.size := (by omega); have hzw2_1 : w.heap.size + 1 < w2.heap.size := (by omega); have hyw2_1 : w.heap.size + 1 ≤ w2.heap.size := (by omega); have hzw2_2 : w.heap.size + 2 < w2.heap.size := (by omega); have hyw2_2 : w.heap.size + 2 ≤ w2.heap.size := (by omega))
        | (go_at_call 22; (with_reducible refine (HRA.out _ ?_).mono ?_); rotate_right; rintro e w3 ⟨rfl, hbw3⟩; obtain ⟨hcw3, hfw3, hzw3⟩ := hbw3.rules; (try simp at hzw3); have hzw3_0 : w.heap.size < w3.heap.size := (by omega); have hyw3_0 : w.heap.size ≤ w3.heap.size := (by omega); have hzw3_1 : w.heap.size + 1 < w3.heap.size := (by omega); have hyw3_1 : w.heap.size + 1 ≤ w3.heap.size := (by omega); have hzw3_2 : w.heap.size + 2 < w3.heap.size := (by omega); have hyw3_2 : w.heap.size + 2 ≤ w3.heap.size := (by omega)))
      · go_ret
        exact ⟨rfl, by (repeat (first | with_reducible exact Gr.refl _ | with_reducible refine Gr.trans ?_ hbw3 | with_reducible refine Gr.trans ?_ hbw2 | with_reducible refine Gr.trans ?_ hbw1 | with_reducible refine Gr.alloc ?_ _ | with_reducible refine Gr.setCell ?_ (by simp) _ | with_reducible refine Gr.setCell ?_ (by simp; omega) _ | with_reducible refine Gr.drew ?_ | with_reducible refine Gr.drewN ?_ _))⟩
      · (repeat (first | with_reducible exact Gr.refl _ | with_reducible refine Gr.trans ?_ hbw2 | with_reducible refine Gr.trans ?_ hbw1 | with_reducible refine Gr.alloc ?_ _ | with_reducible refine Gr.setCell ?_ (by simp) _ | with_reducible refine Gr.setCell ?_ (by simp; omega) _ | with_reducible refine Gr.drew ?_ | with_reducible refine Gr.drewN ?_ _))
    | true =>
      rw [hao] at HRA
      cases hbo : b.ok with
      | false =>
        rw [hbo] at HRB
        clear hro hao hbo
        obtain ⟨l, dg, dy, t⟩ := r
        obtain ⟨id, names, suf, l1, h1, p, tw, xs⟩ := a
        obtain ⟨id', names', suf', l2, h2, q, tw', ys⟩ := b
        unfold Rcd.val Rul.val at *
        dsimp only at *
        go_enter Try.func6, Try.ntmps6
        go_wp2_with (first
          | (go_at_call 20; (with_reducible refine (HAL.out _).mono ?_); rotate_right; rintro e w1 ⟨rfl, hbw1⟩; obtain ⟨hcw1, hfw1, hzw1⟩ := hbw1.rules; (try simp at hzw1); have hzw1_0 : w.heap.size < w1.heap.size := (by omega); have hyw1_0 : w.heap.size ≤ w1.heap.size := (by omega); have hzw1_1 : w.heap.size + 1 < w1.heap.size := (by omega); have hyw1_1 : w.heap.size + 1 ≤ w1.heap.size := (by omega); have hzw1_2 : w.heap.size + 2 < w1.heap.size := (by omega); have hyw1_2 : w.heap.size + 2 ≤ w1.heap.size := (by omega))
          | (go_at_call 21; (with_reducible refine (HRU.out _).mono ?_); rotate_right; rintro e w2 ⟨rfl, hbw2⟩; obtain ⟨hcw2, hfw2, hzw2⟩ := hbw2.rules; (try simp at hzw2); have hzw2_0 : w.heap.size < w2.heap.size := (by omega); have hyw2_0 : w.heap.size ≤ w2.heap.size := (by omega); have hzw2_1 : w.heap.size + 1 < w2.heap.size := (by omega); have hyw2_1 : w.heap.size + 1 ≤ w2.heap.size := (by omega); have hzw2_2 : w.heap.size + 2 < w2.heap.size := (by omega); have hyw2_2 : w.heap.size + 2 ≤ w2.heap.size := (by omega))
          | ((go_at_call 22; (with_reducible refine (HRA.out _ ?_).mono ?_); rotate_right; rintro e w3 ⟨rfl, hbw3⟩; obtain ⟨hcw3, hfw3, hzw3⟩ := hbw3.rules; (try simp at hzw3); have hzw3_0 : w.heap.size < w3.heap.size := (by omega); have hyw3_0 : w.heap.size ≤ w3.heap.size := (by omega); have hzw3_1 : w.heap.size + 1 < w3.heap.size := (by omega); have hyw3_1 : w.heap.size + 1 ≤ w3.heap.size := (by omega); have hzw3_2 : w.heap.size + 2 < w3.heap.size := (by omega); have hyw3_2 : w.heap.size + 2 ≤ w3.heap.size := (by omega)); clear HRA)
          | ((go_at_call 22; (with_reducible refine (HRB.out _ ?_).mono ?_); rotate_right; rintro e w4 ⟨rfl, hbw4⟩; obtain ⟨hcw4, hfw4, hzw4⟩ := hbw4.rules; (try simp at hzw4); have hzw4_0 : w.heap.size < w4.heap.size := (by omega); have hyw4_0 : w.heap.size ≤ w4.heap.size := (by omega); have hzw4_1 : w.heap.size + 1 < w4.heap.size := (by omega); have hyw4_1 : w.heap.size + 1 ≤ w4.heap.size := (by omega); have hzw4_2 : w.heap.size + 2 < w4.heap.size := (by omega); have hyw4_2 : w.heap.size + 2 ≤ w4.heap.size := (by omega)); clear HRB))
        · go_ret
          exact ⟨rfl, by (repeat (first | with_reducible exact Gr.refl _ | with_reducible refine Gr.trans ?_ hbw4 | with_reducible refine Gr.trans ?_ hbw3 | with_reducible refine Gr.trans ?_ hbw2 | with_reducible refine Gr.trans ?_ hbw1 | with_reducible refine Gr.alloc ?_ _ | with_reducible refine Gr.setCell ?_ (by simp) _ | with_reducible refine Gr.setCell ?_ (by simp; omega) _ | with_reducible refine Gr.drew ?_ | with_reducible refine Gr.drewN ?_ _))⟩
        · (repeat (first | with_reducible exact Gr.refl _ | with_reducible refine Gr.trans ?_ hbw3 | with_reducible refine Gr.trans ?_ hbw2 | with_reducible refine Gr.trans ?_ hbw1 | with_reducible refine Gr.alloc ?_ _ | with_reducible refine Gr.setCell ?_ (by simp) _ | with_reducible refine Gr.setCell ?_ (by simp; omega) _ | with_reducible refine Gr.drew ?_ | with_reducible refine Gr.drewN ?_ _))
        · (repeat (first | with_reducible exact Gr.refl _ | with_reducible refine Gr.trans ?_ hbw2 | with_reducible refine Gr.trans ?_ hbw1 | with_reducible refine Gr.alloc ?_ _ | with_reducible refine Gr.setCell ?_ (by simp) _ | with_reducible refine Gr.setCell ?_ (by simp; omega) _ | with_reducible refine Gr.drew ?_ | with_reducible refine Gr.drewN ?_ _))
      | true =>
        rw [hbo] at HRB
        have hcv : cmpV r a b = cmpN r a b := by unfold cmpV; rw [hro, hao, hbo]; rfl
        have hce : cmpE r a b = 0 := by unfold cmpE; rw [hro, hao, hbo]; rfl
        have hlo := Rcd.lone_ok hao
        have hlv : cmpV r a.lone b = cmpN r a.lone b := by unfold cmpV; rw [hro, hlo, hbo]; rfl
        have hle : cmpE r a.lone b = 0 := by unfold cmpE; rw [hro, hlo, hbo]; rfl
        have HC : Hid (∀ W, Gr w W → Calls Try.prog 18 #[r.val, a.val A n c B m d, b.val A' n' c' B' m' d'] W fun e w' => e = .returned (.tuple #[(cmpN r a b).val, .int .i64 0]) ∧ Gr W w') := fun W g => by
          have h := compareTop_any r a b A n c B m d A' n' c' B' m' d' W (ha.gr g) (hb.gr g) ca cb sa sb
          rw [hcv, hce] at h
          exact h
        have HC2 : Hid (∀ A9 c9 W, Gr w W → a.lone.In W A9 n none 0 → (n ≤ c9 ∧ c9 ≤ 9223372036854775807) → Calls Try.prog 18 #[r.val, a.val A9 n c9 none 0 0, b.val A' n' c' B' m' d'] W fun e w' => e = .returned (.tuple #[(cmpN r a.lone b).val, .int .i64 0]) ∧ Gr W w') := fun A9 c9 W g hi hc => by
          have h := compareTop_any r a.lone b A9 n c9 none 0 0 A' n' c' B' m' d' W hi (hb.gr g) hc cb sa sb
          rw [hlv, hle] at h
          exact h
        have HT : Hid (∀ W, Gr w W → Calls Try.prog 12 #[a.val A n c B m d] W fun e w' => ∃ A9 c9 B9 d9, e = .returned (a.val A9 n c9 B9 m d9) ∧ (a.lone.In w' A9 n none 0 ∧ n ≤ c9 ∧ c9 ≤ 9223372036854775807) ∧ Gr W w') := fun W g => by
          have h6 : n ≤ 5 ∧ m ≤ 6 := by
            have h1 := ha.nlen
            have h2 := ha.mlen
            unfold Rcd.ok inB at hao
            simp only [Bool.and_eq_true, decide_eq_true_eq] at hao
            omega
          refine (twin_cap a A n c B m d W (ha.gr g) (by omega) (by omega)).mono ?_
          rintro e w' ⟨A9, c9, B9, d9, k1, k2, k3⟩
          exact ⟨A9, c9, B9, d9, k1, ⟨lone_in k2.1, k2.2⟩, k3⟩
        have hrg := cmpN_range r a b
        have hap := fun h => cmpN_apart hro hao hbo h
        have hsu := fun h => cmpN_sure (r := r) hao hbo h
        have hln := cmpN_lone r a b
        have hrl := cmpN_range r a.lone b
        obtain ⟨⟨x1, x2, x3⟩, x4, x5⟩ := ok_parts hao
        obtain ⟨⟨y1, y2, y3⟩, y4, y5⟩ := ok_parts hbo
        obtain ⟨_, _, ⟨z1, z2⟩, _⟩ := rul_parts hro
        generalize cmpN r a b = cv at HC hrg hap hsu hln
        generalize cmpN r a.lone b = cl at HC2 hln hrl
        have HIN := hid ha
        clear hcv hce hlo hlv hle hro hao hbo ha hb ca cb
        obtain ⟨l, dg, dy, t⟩ := r
        obtain ⟨id, names, suf, l1, h1, p, tw, xs⟩ := a
        obtain ⟨id', names', suf', l2, h2, q, tw', ys⟩ := b
        obtain ⟨nm, nu, bi, pl, vd⟩ := cv
        obtain ⟨nm2, nu2, bi2, pl2, vd2⟩ := cl
        unfold Rcd.val Rul.val Cmp.val at *
        dsimp only at *
        obtain ⟨ln1, hv2, ln2, ln3, ln4⟩ := hln
        obtain rfl := ln1
        obtain rfl := ln2.symm
        obtain rfl := ln3.symm
        obtain rfl := ln4.symm
        obtain ⟨g1, g2, g3, g4, g5⟩ := hrg
        obtain ⟨_, _, _, _, gl5⟩ := hrl
        have HAP := hid hap
        have HSU := hid hsu
        clear hap hsu
        go_enter Try.func6, Try.ntmps6
        go_upto_region 9 with (first
          | (go_at_call 20; (with_reducible refine (HAL.out _).mono ?_); rotate_right; rintro e w1 ⟨rfl, hbw1⟩; obtain ⟨hcw1, hfw1, hzw1⟩ := hbw1.rules; (try simp at hzw1); have hzw1_0 : w.heap.size < w1.heap.size := (by omega); have hyw1_0 : w.heap.size ≤ w1.heap.size := (by omega); have hzw1_1 : w.heap.size + 1 < w1.heap.size := (by omega); have hyw1_1 : w.heap.size + 1 ≤ w1.heap.size := (by omega); have hzw1_2 : w.heap.size + 2 < w1.heap.size := (by omega); have hyw1_2 : w.heap.size + 2 ≤ w1.heap.size := (by omega))
          | (go_at_call 21; (with_reducible refine (HRU.out _).mono ?_); rotate_right; rintro e w2 ⟨rfl, hbw2⟩; obtain ⟨hcw2, hfw2, hzw2⟩ := hbw2.rules; (try simp at hzw2); have hzw2_0 : w.heap.size < w2.heap.size := (by omega); have hyw2_0 : w.heap.size ≤ w2.heap.size := (by omega); have hzw2_1 : w.heap.size + 1 < w2.heap.size := (by omega); have hyw2_1 : w.heap.size + 1 ≤ w2.heap.size := (by omega); have hzw2_2 : w.heap.size + 2 < w2.heap.size := (by omega); have hyw2_2 : w.heap.size + 2 ≤ w2.heap.size := (by omega))
          | ((go_at_call 22; (with_reducible refine (HRA.out _ ?_).mono ?_); rotate_right; rintro e w3 ⟨rfl, hbw3⟩; obtain ⟨hcw3, hfw3, hzw3⟩ := hbw3.rules; (try simp at hzw3); have hzw3_0 : w.heap.size < w3.heap.size := (by omega); have hyw3_0 : w.heap.size ≤ w3.heap.size := (by omega); have hzw3_1 : w.heap.size + 1 < w3.heap.size := (by omega); have hyw3_1 : w.heap.size + 1 ≤ w3.heap.size := (by omega); have hzw3_2 : w.heap.size + 2 < w3.heap.size := (by omega); have hyw3_2 : w.heap.size + 2 ≤ w3.heap.size := (by omega)); clear HRA)
          | ((go_at_call 22; (with_reducible refine (HRB.out _ ?_).mono ?_); rotate_right; rintro e w4 ⟨rfl, hbw4⟩; obtain ⟨hcw4, hfw4, hzw4⟩ := hbw4.rules; (try simp at hzw4); have hzw4_0 : w.heap.size < w4.heap.size := (by omega); have hyw4_0 : w.heap.size ≤ w4.heap.size := (by omega); have hzw4_1 : w.heap.size + 1 < w4.heap.size := (by omega); have hyw4_1 : w.heap.size + 1 ≤ w4.heap.size := (by omega); have hzw4_2 : w.heap.size + 2 < w4.heap.size := (by omega); have hyw4_2 : w.heap.size + 2 ≤ w4.heap.size := (by omega)); clear HRB)
          | (go_at_call 18; (with_reducible refine (HC.out _ ?_).mono ?_); rotate_right; rintro e w5 ⟨rfl, hbw5⟩; obtain ⟨hcw5, hfw5, hzw5⟩ := hbw5.rules; (try simp at hzw5); have hzw5_0 : w.heap.size < w5.heap.size := (by omega); have hyw5_0 : w.heap.size ≤ w5.heap.size := (by omega); have hzw5_1 : w.heap.size + 1 < w5.heap.size := (by omega); have hyw5_1 : w.heap.size + 1 ≤ w5.heap.size := (by omega); have hzw5_2 : w.heap.size + 2 < w5.heap.size := (by omega); have hyw5_2 : w.heap.size + 2 ≤ w5.heap.size := (by omega)))
        · have G3 : Gr w (((w.alloc (.cells #[.int .i64 l, .int .i64 dg, .int .i64 dy, .int .i64 t] 23)).alloc (.cells #[.int .i64 id, .slice A n c, .int .u8 suf, .int .i64 l1, .int .i64 h1, .string p, .bool tw, .slice B m d] 29)).alloc (.cells #[.int .i64 id', .slice A' n' c', .int .u8 suf', .int .i64 l2, .int .i64 h2, .string q, .bool tw', .slice B' m' d'] 29)) := (((Gr.refl w).alloc _).alloc _).alloc _
          obtain ⟨E1, E2, E3⟩ := rows3 w (.cells #[.int .i64 l, .int .i64 dg, .int .i64 dy, .int .i64 t] 23) (.cells #[.int .i64 id, .slice A n c, .int .u8 suf, .int .i64 l1, .int .i64 h1, .string p, .bool tw, .slice B m d] 29) (.cells #[.int .i64 id', .slice A' n' c', .int .u8 suf', .int .i64 l2, .int .i64 h2, .string q, .bool tw', .slice B' m' d'] 29)
          have K5 : Gr (((w.alloc (.cells #[.int .i64 l, .int .i64 dg, .int .i64 dy, .int .i64 t] 23)).alloc (.cells #[.int .i64 id, .slice A n c, .int .u8 suf, .int .i64 l1, .int .i64 h1, .string p, .bool tw, .slice B m d] 29)).alloc (.cells #[.int .i64 id', .slice A' n' c', .int .u8 suf', .int .i64 l2, .int .i64 h2, .string q, .bool tw', .slice B' m' d'] 29)) (w5.alloc (.cells #[.int .u8 nm, .int .u8 nu, .int .u8 bi, .int .u8 pl, .int .u8 vd] 42)) := by (repeat (first | with_reducible exact Gr.refl _ | with_reducible refine Gr.trans ?_ hbw5 | with_reducible refine Gr.trans ?_ hbw4 | with_reducible refine Gr.trans ?_ hbw3 | with_reducible refine Gr.trans ?_ hbw2 | with_reducible refine Gr.trans ?_ hbw1 | with_reducible refine Gr.alloc ?_ _ | with_reducible refine Gr.setCell ?_ (by simp) _ | with_reducible refine Gr.setCell ?_ (by simp; omega) _ | with_reducible refine Gr.drew ?_ | with_reducible refine Gr.drewN ?_ _))
          have F1 := row_gr E1 K5
          have F2 := row_gr E2 K5
          have F3 : (w5.alloc (.cells #[.int .u8 nm, .int .u8 nu, .int .u8 bi, .int .u8 pl, .int .u8 vd] 42)).heap[w.heap.size + 1 + 1]? = _ := row_gr E3 K5
          have F4 : (w5.alloc (.cells #[.int .u8 nm, .int .u8 nu, .int .u8 bi, .int .u8 pl, .int .u8 vd] 42)).heap[w5.heap.size]? = some (.cells #[.int .u8 nm, .int .u8 nu, .int .u8 bi, .int .u8 pl, .int .u8 vd] 42 (0, 0)) := heap_alloc_new w5 _
          have HG := hid (G3.trans K5)
          obtain ⟨gm, hgm⟩ : ∃ gm, gm = w5.heap.size := ⟨_, rfl⟩
          rw [← hgm] at F4 ⊢
          generalize w5.alloc (.cells #[.int .u8 nm, .int .u8 nu, .int .u8 bi, .int .u8 pl, .int .u8 vd] 42) = W at F1 F2 F3 F4 HG ⊢
          clear hgm K5 E1 E2 E3 G3 hbw1 hcw1 hfw1 hzw1 hbw2 hcw2 hfw2 hzw2 hbw3 hcw3 hfw3 hzw3 hbw4 hcw4 hfw4 hzw4 hbw5 hcw5 hfw5 hzw5 hzw1_0 hzw1_1 hzw1_2 hyw1_0 hyw1_1 hyw1_2 hzw2_0 hzw2_1 hzw2_2 hyw2_0 hyw2_1 hyw2_2 hzw3_0 hzw3_1 hzw3_2 hyw3_0 hyw3_1 hyw3_2 hzw4_0 hzw4_1 hzw4_2 hyw4_0 hyw4_1 hyw4_2 hzw5_0 hzw5_1 hzw5_2 hyw5_0 hyw5_1 hyw5_2
          have HF1 := hid F1
          have HF2 := hid F2
          have HF3 := hid F3
          have HF4 := hid F4
          have lz2 : w.heap.size + 1 + 1 < W.heap.size := (Array.getElem?_eq_some_iff.1 F3).1
          have lzm : gm < W.heap.size := (Array.getElem?_eq_some_iff.1 F4).1
          obtain ⟨r0, r1, r2, r3⟩ := cellsat4 F1
          obtain ⟨a0, a1, a2, a3, a4, a5, a6, a7⟩ := cellsat8 F2
          obtain ⟨b0, b1, b2, b3, b4, b5, b6, b7⟩ := cellsat8 F3
          obtain ⟨m0, m1, m2, m3, m4⟩ := cellsat5 F4
          clear F1 F2 F3 F4
          -- the first test: births too far away
          obtain ⟨fa, hfa⟩ : ∃ fa : Bool, fa = (decide (h1 < l2 - dy) || decide (h2 < l1 - dy)) := ⟨_, rfl⟩
          obtain ⟨su, hsu⟩ : ∃ su : Bool, su = decide (suf ≠ 0 ∧ suf' ≠ 0 ∧ suf ≠ suf') := ⟨_, rfl⟩
          obtain ⟨tz, htz⟩ : ∃ tz : Bool, tz = ((tw || tw') && (decide (p.size = 0) || decide (p ≠ q)) && decide (nm ≠ 3)) := ⟨_, rfl⟩
          have HFA := hid hfa
          have HSUF := hid hsu
          have HTZ := hid htz
          clear hfa hsu htz
          go_cut [10] (fun s10 wx => s10 = .bool fa ∧ wx = W)
          case first => as_aux_lemma =>
            by_cases f1 : h1 < l2 - dy
            · go_wp2
              go_meet
              exact ⟨by rw [HFA.out]; simp [f1], rfl⟩
            · by_cases f2 : h2 < l1 - dy
              · go_wp2
                go_meet
                exact ⟨by rw [HFA.out]; simp [f2], rfl⟩
              · go_wp2
                go_meet
                exact ⟨by rw [HFA.out]; simp [f1, f2], rfl⟩
          case rest =>
            obtain ⟨rfl, hwc⟩ := hcut; obtain rfl := hwc.symm
            go_upto_region 10 with fail
            go_cut [11] (fun s11 wx => s11 = .bool su ∧ wx = W)
            case first => as_aux_lemma =>
              have hs : suf = 0 ∨ suf = 1 ∨ suf = 2 := by omega
              have hs' : suf' = 0 ∨ suf' = 1 ∨ suf' = 2 := by omega
              clear HFA HTZ HSU HAP
              rcases hs with rfl | rfl | rfl <;> rcases hs' with rfl | rfl | rfl <;> (obtain rfl := HSUF.out; clear HSUF; go_wp2; go_meet; exact ⟨rfl, rfl⟩)
            case rest =>
              obtain ⟨rfl, hwc⟩ := hcut; obtain rfl := hwc.symm
              go_upto_region 11 with fail
              go_cut [12] (fun s12 wx => s12 = .bool tz ∧ wx = W)
              case first => as_aux_lemma =>
                clear HFA HSUF HSU HAP
                by_cases ht : tw = false ∧ tw' = false
                · obtain ⟨rfl, rfl⟩ := ht
                  go_wp2
                  go_meet
                  exact ⟨by rw [HTZ.out]; simp, rfl⟩
                · have ht2 : (tw || tw') = true := by
                    cases tw
                    · cases tw'
                      · exact absurd ⟨rfl, rfl⟩ ht
                      · rfl
                    · rfl
                  clear ht
                  by_cases hp0 : p.size = 0
                  · obtain rfl := (empty_iff p).2 hp0
                    clear hp0
                    by_cases hn3 : nm = 3
                    · subst hn3
                      cases tw
                      · obtain rfl : tw' = true := by simpa using ht2
                        go_wp2
                        go_meet
                        exact ⟨by rw [HTZ.out]; simp, rfl⟩
                      · go_wp2
                        go_meet
                        exact ⟨by rw [HTZ.out]; simp, rfl⟩
                    · cases tw
                      · obtain rfl : tw' = true := by simpa using ht2
                        go_wp2
                        go_meet
                        exact ⟨by rw [HTZ.out]; simp [hn3], rfl⟩
                      · go_wp2
                        go_meet
                        exact ⟨by rw [HTZ.out]; simp [hn3], rfl⟩
                  · have t1 := toList_ne hp0
                    have t2 : ¬ p = ByteArray.empty := fun h => hp0 ((empty_iff p).1 h)
                    by_cases hpq : p = q
                    · subst hpq
                      cases tw
                      · obtain rfl : tw' = true := by simpa using ht2
                        go_wp2
                        go_meet
                        exact ⟨by rw [HTZ.out]; simp [hp0], rfl⟩
                      · go_wp2
                        go_meet
                        exact ⟨by rw [HTZ.out]; simp [hp0], rfl⟩
                    · have t3 := toList_ne' hpq
                      have t4 := toList_beq hpq
                      by_cases hn3 : nm = 3
                      · subst hn3
                        cases tw
                        · obtain rfl : tw' = true := by simpa using ht2
                          go_wp2
                          go_meet
                          exact ⟨by rw [HTZ.out]; simp, rfl⟩
                        · go_wp2
                          go_meet
                          exact ⟨by rw [HTZ.out]; simp, rfl⟩
                      · cases tw
                        · obtain rfl : tw' = true := by simpa using ht2
                          go_wp2
                          go_meet
                          exact ⟨by rw [HTZ.out]; simp [hpq, hn3], rfl⟩
                        · go_wp2
                          go_meet
                          exact ⟨by rw [HTZ.out]; simp [hpq, hn3], rfl⟩
              case rest =>
                obtain ⟨rfl, hwc⟩ := hcut; obtain rfl := hwc.symm
                have HAQ : Hid (vd ≠ 0 → fa = false ∧ su = false ∧ tz = false) := by
                  intro hv
                  rw [HFA.out, HSUF.out, HTZ.out]
                  refine ⟨?_, ?_, ?_⟩
                  · rw [Bool.eq_false_iff]
                    intro h
                    simp only [Bool.or_eq_true, decide_eq_true_eq] at h
                    exact hv (HAP.out (.inl h))
                  · rw [decide_eq_false_iff_not]
                    exact fun h => hv (HAP.out (.inr (.inl h)))
                  · rw [Bool.eq_false_iff]
                    intro h
                    rw [Bool.and_eq_true, Bool.and_eq_true, Bool.or_eq_true (decide _), decide_eq_true_eq, decide_eq_true_eq, decide_eq_true_eq] at h
                    exact hv (HAP.out (.inr (.inr ⟨h.1.1, h.1.2, h.2⟩)))
                clear HAP HFA HSUF HTZ
                go_upto_region 12 with fail
                go_cut [126] (fun s126 wx => s126 = .bool false ∧ wx = W)
                case first => as_aux_lemma =>
                  by_cases hv : vd = 0
                  · subst hv
                    clear HAQ
                    cases fa <;> cases su <;> cases tz <;> (go_wp2; go_meet; exact ⟨rfl, rfl⟩)
                  · obtain ⟨rfl, rfl, rfl⟩ := HAQ.out hv
                    clear HAQ
                    go_wp2
                    go_meet
                    exact ⟨rfl, rfl⟩
                case rest =>
                  obtain ⟨rfl, hwc⟩ := hcut; obtain rfl := hwc.symm
                  clear HAQ
                  go_upto_region 14 with fail
                  go_cut [170] (fun s170 wx => s170 = .bool false ∧ wx = W)
                  case first => as_aux_lemma =>
                    by_cases hv : vd = 2
                    · subst hv
                      rcases HSU.out rfl with ⟨k1, k2⟩ | ⟨k1, k2, k3, k4, k5, k6⟩
                      · subst k2
                        have t1 := toList_ne k1
                        have t2 : ¬ p = ByteArray.empty := fun h => k1 ((empty_iff p).1 h)
                        clear HSU
                        go_wp2
                        go_meet
                        exact ⟨rfl, rfl⟩
                      · subst k1
                        subst k2
                        subst k3
                        subst k4
                        subst k5
                        subst k6
                        clear HSU
                        by_cases hp0 : p.size = 0
                        · obtain rfl := (empty_iff p).2 hp0
                          go_wp2
                          go_meet
                          exact ⟨rfl, rfl⟩
                        · have t1 := toList_ne hp0
                          have t2 : ¬ p = ByteArray.empty := fun h => hp0 ((empty_iff p).1 h)
                          by_cases hpq : p = q
                          · subst hpq
                            go_wp2
                            go_meet
                            exact ⟨rfl, rfl⟩
                          · have t3 := toList_ne' hpq
                            have t4 := toList_beq hpq
                            go_wp2
                            go_meet
                            exact ⟨rfl, rfl⟩
                    · clear HSU
                      go_wp2
                      go_meet
                      exact ⟨rfl, rfl⟩
                  case rest =>
                    obtain ⟨rfl, hwc⟩ := hcut; obtain rfl := hwc.symm
                    clear HSU
                    have lz1 : w.heap.size + 1 < W.heap.size := by omega
                    have lz0 : w.heap.size < W.heap.size := by omega
                    go_wp2_with (first
                      | (go_at_call 12; (with_reducible refine (HT.out _ HG.out).mono ?_); rintro e w6 ⟨A9, c9, B9, d9, rfl, hk, hbw6⟩; have HK := hid hk; clear hk; obtain ⟨hcw6, hfw6, hzw6⟩ := hbw6.rules; have lz26 : w.heap.size + 1 + 1 < w6.heap.size := (by omega); have lz16 : w.heap.size + 1 < w6.heap.size := (by omega); have lz06 : w.heap.size < w6.heap.size := (by omega); have lzm6 : gm < w6.heap.size := (by omega))
                      | ((go_at_call 18; (with_reducible refine (HC2.out A9 c9 _ (HG.out.trans ?_) (HK.out.1.gr ?_) HK.out.2).mono ?_); rotate_right; rintro e w7 ⟨rfl, hbw7⟩; obtain ⟨hcw7, hfw7, hzw7⟩ := hbw7.rules; (try simp at hzw7)); have lm6 : w6.heap.size < w7.heap.size := (by omega); have lm7 : gm < w7.heap.size := (by omega); have lz27 : w.heap.size + 1 + 1 < w7.heap.size := (by omega); have lz17 : w.heap.size + 1 < w7.heap.size := (by omega); have lz07 : w.heap.size < w7.heap.size := (by omega)))
                    · go_ret
                      exact ⟨rfl, HG.out.trans (by (repeat (first | with_reducible exact Gr.refl _ | with_reducible refine Gr.trans ?_ hbw7 | with_reducible refine Gr.trans ?_ hbw6 | with_reducible refine Gr.alloc ?_ _ | with_reducible refine Gr.setCell ?_ (by simp) _ | with_reducible refine Gr.setCell ?_ (by simp; omega) _ | with_reducible refine Gr.drew ?_ | with_reducible refine Gr.drewN ?_ _)))⟩
                    all_goals ((repeat (first | with_reducible exact Gr.refl _ | with_reducible refine Gr.trans ?_ hbw6 | with_reducible refine Gr.alloc ?_ _ | with_reducible refine Gr.setCell ?_ (by simp) _ | with_reducible refine Gr.setCell ?_ (by simp; omega) _ | with_reducible refine Gr.drew ?_ | with_reducible refine Gr.drewN ?_ _)))
        · (repeat (first | with_reducible exact Gr.refl _ | with_reducible refine Gr.trans ?_ hbw4 | with_reducible refine Gr.trans ?_ hbw3 | with_reducible refine Gr.trans ?_ hbw2 | with_reducible refine Gr.trans ?_ hbw1 | with_reducible refine Gr.alloc ?_ _ | with_reducible refine Gr.setCell ?_ (by simp) _ | with_reducible refine Gr.setCell ?_ (by simp; omega) _ | with_reducible refine Gr.drew ?_ | with_reducible refine Gr.drewN ?_ _))
        · (repeat (first | with_reducible exact Gr.refl _ | with_reducible refine Gr.trans ?_ hbw3 | with_reducible refine Gr.trans ?_ hbw2 | with_reducible refine Gr.trans ?_ hbw1 | with_reducible refine Gr.alloc ?_ _ | with_reducible refine Gr.setCell ?_ (by simp) _ | with_reducible refine Gr.setCell ?_ (by simp; omega) _ | with_reducible refine Gr.drew ?_ | with_reducible refine Gr.drewN ?_ _))
        · (repeat (first | with_reducible exact Gr.refl _ | with_reducible refine Gr.trans ?_ hbw2 | with_reducible refine Gr.trans ?_ hbw1 | with_reducible refine Gr.alloc ?_ _ | with_reducible refine Gr.setCell ?_ (by simp) _ | with_reducible refine Gr.setCell ?_ (by simp; omega) _ | with_reducible refine Gr.drew ?_ | with_reducible refine Gr.drewN ?_ _))
end Go.Proofs.Ytlkjimfkapcenaa
