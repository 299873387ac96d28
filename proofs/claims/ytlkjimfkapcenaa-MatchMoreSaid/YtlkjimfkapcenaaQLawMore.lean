/- The law MatchMore, walked: rules that allow more exclude nobody more, and a record agrees with itself. For all rules, records and numbers. -/
import Derived.Test.YtlkjimfkapcenaaQAlive
import Derived.Test.YtlkjimfkapcenaaQCompareTop
import Derived.Test.YtlkjimfkapcenaaQAt
import Derived.WalkLawsBesides
import Derived.StillTailTactics
import Derived.Deep.DeepCutAuto
import Derived.Deep.CutRange
namespace Go.Proofs.Ytlkjimfkapcenaa
open Go.RowKit

/-- Rules with more allowed, by three numbers. -/
def Rul.wide (r : Rul) (x y z : Int) : Rul := ⟨r.letters + x % (5 - r.letters + 1), r.digits + y % (5 - r.digits + 1), r.days + z % (1000 - r.days + 1), r.together⟩
theorem more_part (L M x : Int) (h : 0 ≤ L ∧ L ≤ M) : 0 ≤ x % (M - L + 1) ∧ x % (M - L + 1) ≤ M - L := by
  have h1 := Int.emod_nonneg x (show M - L + 1 ≠ 0 by omega)
  have h2 := Int.emod_lt_of_pos x (show 0 < M - L + 1 by omega)
  omega
theorem Rul.wide_ok {r : Rul} (h : r.ok = true) (x y z : Int) : (r.wide x y z).ok = true := by
  obtain ⟨h1, h2, h3, h4⟩ := rul_parts h
  have k1 := more_part r.letters 5 x h1
  have k2 := more_part r.digits 5 y h2
  have k3 := more_part r.days 1000 z h3
  unfold Rul.ok Rul.wide inB
  simp only [Bool.and_eq_true, decide_eq_true_eq]
  omega

set_option maxRecDepth 100000 in
set_option maxHeartbeats 8000000 in
theorem matchMore_any (r : Rul) (a b : Rcd) (A : Option Addr) (n c : Nat) (B : Option Addr) (m d : Nat) (A' : Option Addr) (n' c' : Nat) (B' : Option Addr) (m' d' : Nat) (bs : List Int) (C : Option Addr) (k e : Nat) (w : World)
    (ha : a.In w A n B m) (hb : b.In w A' n' B' m') (ca : n ≤ c ∧ c ≤ 9223372036854775807) (cb : n' ≤ c' ∧ c' ≤ 9223372036854775807) (sa : 0 ≤ a.suffix) (sb : 0 ≤ b.suffix)
    (hbs : Rd w 1 C k (bs.map (Value.int .u32))) (hk : k ≤ 9223372036854775807) (hwf : ∀ x ∈ bs, 0 ≤ x ∧ x ≤ 4294967295) :
    Calls Try.prog 8 #[r.val, a.val A n c B m d, b.val A' n' c' B' m' d', .slice C k e] w fun en w' => en = .returned (.bool true) ∧ Gr w w' := by
  have HAL := hid (fun W => alive_any W)
  have HRU := hid (fun W => refRules_any r W)
  have HRA := hid (fun W (g : Gr w W) => refRecord_any a A n c B m d W (ha.gr g))
  have HRB := hid (fun W (g : Gr w W) => refRecord_any b A' n' c' B' m' d' W (hb.gr g))
  have HAT := hid (fun W (g : Gr w W) (i : Int) hi => at_any bs C k e i W (hbs.gr g) hk hi)
  cases hro : r.ok with
  | false =>
    rw [hro] at HRU
    clear HRA HRB hro hbs hk
    obtain ⟨l, dg, dy, t⟩ := r
    obtain ⟨id, names, suf, l1, h1, p, tw, xs⟩ := a
    obtain ⟨id', names', suf', l2, h2, q, tw', ys⟩ := b
    unfold Rcd.val Rul.val at *
    dsimp only at *
    go_enter Try.func8, Try.ntmps8
    go_wp2_with (first
      | (go_at_call 20; (with_reducible refine (HAL.out _).mono ?_); rotate_right; rintro e w1 ⟨rfl, hbw1⟩; obtain ⟨hcw1, hfw1, hzw1⟩ := hbw1.rules; (try simp at hzw1); have hzw1_0 : w.heap.size < w1.heap.size := (by omega); have hyw1_0 : w.heap.size ≤ w1.heap.size := (by omega); have hzw1_1 : w.heap.size + 1 < w1.heap.size := (by omega); have hyw1_1 : w.heap.size + 1 ≤ w1.heap.size := (by omega); have hzw1_2 : w.heap.size + 2 < w1.heap.size := (by omega); have hyw1_2 : w.heap.size + 2 ≤ w1.heap.size := (by omega))
      | (go_at_call 21; (with_reducible refine (HRU.out _).mono ?_); rotate_right; rintro e w2 ⟨rfl, hbw2⟩; obtain ⟨hcw2, hfw2, hzw2⟩ := hbw2.rules; (try simp at hzw2); have hzw2_0 : w.heap.size < w2.heap.size := (by omega); have hyw2_0 : w.heap.size ≤ w2.heap.size := (by omega); have hzw2_1 : w.heap.size + 1 < w2.heap.size := (by omega); have hyw2_1 : w.heap.size + 1 ≤ w2.heap.size := (by omega); have hzw2_2 : w.heap.size + 2 < w2.heap.size := (by omega); have hyw2_2 : w.heap.size + 2 ≤ w2.heap.size := (by omega)))
    go_ret
    exact ⟨rfl, by (repeat (first | with_reducible exact Gr.refl _ | with_reducible refine Gr.trans ?_ hbw2 | with_reducible refine Gr.trans ?_ hbw1 | with_reducible refine Gr.alloc ?_ _ | with_reducible refine Gr.setCell ?_ (by simp) _ | with_reducible refine Gr.setCell ?_ (by simp; omega) _ | with_reducible refine Gr.drew ?_ | with_reducible refine Gr.drewN ?_ _))⟩
  | true =>
    rw [hro] at HRU
    cases hao : a.ok with
    | false =>
      rw [hao] at HRA
      clear HRB hro hao hbs hk
      obtain ⟨l, dg, dy, t⟩ := r
      obtain ⟨id, names, suf, l1, h1, p, tw, xs⟩ := a
      obtain ⟨id', names', suf', l2, h2, q, tw', ys⟩ := b
      unfold Rcd.val Rul.val at *
      dsimp only at *
      go_enter Try.func8, Try.ntmps8
      go_wp2_with (first
        | (go_at_call 20; (with_reducible refine (HAL.out _).mono ?_); rotate_right; rintro e w1 ⟨rfl, hbw1⟩; obtain ⟨hcw1, hfw1, hzw1⟩ := hbw1.rules; (try simp at hzw1); have hzw1_0 : w.heap.size < w1.heap.size := (by omega); have hyw1_0 : w.heap.size ≤ w1.heap.size := (by omega); have hzw1_1 : w.heap.size + 1 < w1.heap.size := (by omega); have hyw1_1 : w.heap.size + 1 ≤ w1.heap.size := (by omega); have hzw1_2 : w.heap.size + 2 < w1.heap.size := (by omega); have hyw1_2 : w.heap.size + 2 ≤ w1.heap.size := (by omega))
        | (go_at_call 21; (with_reducible refine (HRU.out _).mono ?_); rotate_right; rintro e w2 ⟨rfl, hbw2⟩; obtain ⟨hcw2, hfw2, hzw2⟩ := hbw2.rules; (try simp at hzw2); have hzw2_0 : w.heap.size < w2.heap.size := (by omega); have hyw2_0 : w.heap.size ≤ w2.heap.size := (by omega); have hzw2_1 : w.heap.size + 1 < w2.heap.size := (by omega); have hyw2_1 : w.heap.size + 1 ≤ w2.heap.size := (by omega); have hzw2_2 : w.heap.size + 2 < w2.heap.size := (by omega); have hyw2_2 : w.heap.size + 2 ≤ w2.heap.size := (by omega))
        | (go_at_call 22; (with_reducible refine (HRA.out _ ?_).mono ?_); rotate_right; rintro e w3 ⟨rfl, hbw3⟩; obtain ⟨hcw3, hfw3, hzw3⟩ := hbw3.rules; (try simp at hzw3); have hzw3_0 : w.heap.size < w3.heap.size := (by omega); have hyw3_0 : w.heap.size ≤ w3.heap.size := (by omega); have hzw3_1 : w.heap.size + 1 < w3.heap.size := (by omega); have hyw3_1 : w.heap.size + 1 ≤ w3.heap.size := (by omega); have hzw3_2 : w.heap.size + 2 < w3.heap.size := (by omega); have hyw3_2 : w.heap.size + 2 ≤ w3.heap.size := (by omega)))
      · go_ret
        exact ⟨rfl, by (repeat (first | with_reducible exact Gr.refl _ | with_reducible refine Gr.trans ?_ hbw3 | with_reducible refine Gr.trans ?_ hbw2 | with_reducible refine Gr.trans ?_ hbw1 | with_reducible refine Gr.alloc ?_ _ | with_reducible refine Gr.setCell ?_ (by simp) _ | with_reducible refine Gr.setCell ?_ (by simp; omega) _ | with_reducible refine Gr.drew ?_ | with_reducible refine Gr.drewN ?_ _))⟩
      · (repeat (first | with_reducible exact Gr.refl _ | with_reducible refine Gr.trans ?_ hbw2 | with_reducible refine Gr.trans ?_ hbw1 | with_reducible refine Gr.alloc ?_ _ | with_reducible refine Gr.setCell ?_ (by simp) _ | with_reducible refine Gr.setCell ?_ (by simp; omega) _ | with_reducible refine Gr.drew ?_ | with_reducible refine Gr.drewN ?_ _))
    | true =>
      rw [hao] at HRA
      cases hbo : b.ok with
      | false =>
        rw [hbo] at HRB
        clear hro hao hbo hbs hk
        obtain ⟨l, dg, dy, t⟩ := r
        obtain ⟨id, names, suf, l1, h1, p, tw, xs⟩ := a
        obtain ⟨id', names', suf', l2, h2, q, tw', ys⟩ := b
        unfold Rcd.val Rul.val at *
        dsimp only at *
        go_enter Try.func8, Try.ntmps8
        go_wp2_with (first
          | (go_at_call 20; (with_reducible refine (HAL.out _).mono ?_); rotate_right; rintro e w1 ⟨rfl, hbw1⟩; obtain ⟨hcw1, hfw1, hzw1⟩ := hbw1.rules; (try simp at hzw1); have hzw1_0 : w.heap.size < w1.heap.size := (by omega); have hyw1_0 : w.heap.size ≤ w1.heap.size := (by omega); have hzw1_1 : w.heap.size + 1 < w1.heap.size := (by omega); have hyw1_1 : w.heap.size + 1 ≤ w1.heap.size := (by omega); have hzw1_2 : w.heap.size + 2 < w1.heap.size := (by omega); have hyw1_2 : w.heap.size + 2 ≤ w1.heap.size := (by omega))
          | (go_at_call 21; (with_reducible refine (HRU.out _).mono ?_); rotate_right; rintro e w2 ⟨rfl, hbw2⟩; obtain ⟨hcw2, hfw2, hzw2⟩ := hbw2.rules; (try simp at hzw2); have hzw2_0 : w.heap.size < w2.heap.size := (by omega); have hyw2_0 : w.heap.size ≤ w2.heap.size := (by omega); have hzw2_1 : w.heap.size + 1 < w2.heap.size := (by omega); have hyw2_1 : w.heap.size + 1 ≤ w2.heap.size := (by omega); have hzw2_2 : w.heap.size + 2 < w2.heap.size := (by omega); have hyw2_2 : w.heap.size + 2 ≤ w2.heap.size := (by omega))
          | ((go_at_call 22; (with_reducible refine (HRA.out _ ?_).mono ?_); rotate_right; rintro e w3 ⟨rfl, hbw3⟩; obtain ⟨hcw3, hfw3, hzw3⟩ := hbw3.rules; (try simp at hzw3); have hzw3_0 : w.heap.size < w3.heap.size := (by omega); have hyw3_0 : w.heap.size ≤ w3.heap.size := (by omega); have hzw3_1 : w.heap.size + 1 < w3.heap.size := (by omega); have hyw3_1 : w.heap.size + 1 ≤ w3.heap.size := (by omega); have hzw3_2 : w.heap.size + 2 < w3.heap.size := (by omega); have hyw3_2 : w.heap.size + 2 ≤ w3.heap.size := (by omega)); clear HRA)
          | ((go_at_call 22; (with_reducible refine (HRB.out _ ?_).mono ?_); rotate_right; rintro e w4 ⟨rfl, hbw4⟩; obtain ⟨hcw4, hfw4, hzw4⟩ := hbw4.rules; (try simp at hzw4); have hzw4_0 : w.heap.size < w4.heap.size := (by omega); have hyw4_0 : w.heap.size ≤ w4.heap.size := (by omega); have hzw4_1 : w.heap.size + 1 < w4.heap.size := (by omega); have hyw4_1 : w.heap.size + 1 ≤ w4.heap.size := (by omega); have hzw4_2 : w.heap.size + 2 < w4.heap.size := (by omega); have hyw4_2 : w.heap.size + 2 ≤ w4.heap.size := (by omega)); clear HRB))
        · go_ret
          exact ⟨rfl, by (repeat (first | with_reducible exact Gr.refl _ | with_reducible refine Gr.trans ?_ hbw4 | with_reducible refine Gr.trans ?_ hbw3 | with_reducible refine Gr.trans ?_ hbw2 | with_reducible refine Gr.trans ?_ hbw1 | with_reducible refine Gr.alloc ?_ _ | with_reducible refine Gr.setCell ?_ (by simp) _ | with_reducible refine Gr.setCell ?_ (by simp; omega) _ | with_reducible refine Gr.drew ?_ | with_reducible refine Gr.drewN ?_ _))⟩
        · (repeat (first | with_reducible exact Gr.refl _ | with_reducible refine Gr.trans ?_ hbw3 | with_reducible refine Gr.trans ?_ hbw2 | with_reducible refine Gr.trans ?_ hbw1 | with_reducible refine Gr.alloc ?_ _ | with_reducible refine Gr.setCell ?_ (by simp) _ | with_reducible refine Gr.setCell ?_ (by simp; omega) _ | with_reducible refine Gr.drew ?_ | with_reducible refine Gr.drewN ?_ _))
        · (repeat (first | with_reducible exact Gr.refl _ | with_reducible refine Gr.trans ?_ hbw2 | with_reducible refine Gr.trans ?_ hbw1 | with_reducible refine Gr.alloc ?_ _ | with_reducible refine Gr.setCell ?_ (by simp) _ | with_reducible refine Gr.setCell ?_ (by simp; omega) _ | with_reducible refine Gr.drew ?_ | with_reducible refine Gr.drewN ?_ _))
      | true =>
        rw [hbo] at HRB
        obtain ⟨x0, hx0⟩ : ∃ x, x = atV bs 0 := ⟨_, rfl⟩
        obtain ⟨x1, hx1⟩ : ∃ x, x = atV bs 1 := ⟨_, rfl⟩
        obtain ⟨x2, hx2⟩ : ∃ x, x = atV bs 2 := ⟨_, rfl⟩
        have hwo := Rul.wide_ok hro x0 x1 x2
        have CV : ∀ (s : Rul) (x y : Rcd), s.ok = true → x.ok = true → y.ok = true → cmpV s x y = cmpN s x y ∧ cmpE s x y = 0 := fun s x y h1 h2 h3 => ⟨by unfold cmpV; rw [h1, h2, h3]; rfl, by unfold cmpE; rw [h1, h2, h3]; rfl⟩
        have HC : Hid (∀ W, Gr w W → Calls Try.prog 18 #[r.val, a.val A n c B m d, b.val A' n' c' B' m' d'] W fun e w' => e = .returned (.tuple #[(cmpN r a b).val, .int .i64 0]) ∧ Gr W w') := fun W g => by
          have h := compareTop_any r a b A n c B m d A' n' c' B' m' d' W (ha.gr g) (hb.gr g) ca cb sa sb
          rw [(CV r a b hro hao hbo).1, (CV r a b hro hao hbo).2] at h
          exact h
        have HCW : Hid (∀ W, Gr w W → Calls Try.prog 18 #[(r.wide x0 x1 x2).val, a.val A n c B m d, b.val A' n' c' B' m' d'] W fun e w' => e = .returned (.tuple #[(cmpN (r.wide x0 x1 x2) a b).val, .int .i64 0]) ∧ Gr W w') := fun W g => by
          have h := compareTop_any (r.wide x0 x1 x2) a b A n c B m d A' n' c' B' m' d' W (ha.gr g) (hb.gr g) ca cb sa sb
          rw [(CV _ a b hwo hao hbo).1, (CV _ a b hwo hao hbo).2] at h
          exact h
        have HCS : Hid (∀ W, Gr w W → Calls Try.prog 18 #[r.val, a.val A n c B m d, a.val A n c B m d] W fun e w' => e = .returned (.tuple #[(cmpN r a a).val, .int .i64 0]) ∧ Gr W w') := fun W g => by
          have h := compareTop_any r a a A n c B m d A n c B m d W (ha.gr g) (ha.gr g) ca ca sa sa
          rw [(CV r a a hro hao hao).1, (CV r a a hro hao hao).2] at h
          exact h
        have hrg := cmpN_range r a b
        have hrw := cmpN_range (r.wide x0 x1 x2) a b
        have hrs := cmpN_range r a a
        obtain ⟨q1, q2, q3, q4⟩ := rul_parts hro
        have p1 := more_part r.letters 5 x0 q1
        have p2 := more_part r.digits 5 x1 q2
        have p3 := more_part r.days 1000 x2 q3
        have hmo := cmpN_mono (r := r) (r' := r.wide x0 x1 x2) (by show r.letters ≤ r.letters + _; omega) (by show r.digits ≤ r.digits + _; omega) (by show r.days ≤ r.days + _; omega) rfl a b
        have hse := cmpN_self hro hao
        obtain ⟨_, x4, _⟩ := ok_parts hao
        generalize cmpN r a b = cv at HC hrg hmo
        generalize cmpN (r.wide x0 x1 x2) a b = cw at HCW hrw hmo
        generalize cmpN r a a = cs at HCS hrs hse
        have hx0r := atV_range hwf 0
        have hx1r := atV_range hwf 1
        have hx2r := atV_range hwf 2
        rw [← hx0] at hx0r
        rw [← hx1] at hx1r
        rw [← hx2] at hx2r
        have HX0 := hid hx0
        have HX1 := hid hx1
        have HX2 := hid hx2
        clear hx0 hx1 hx2 hwo CV hro hao hbo ha hb ca cb hbs hk hwf
        obtain ⟨l, dg, dy, t⟩ := r
        obtain ⟨id, names, suf, l1, h1, p, tw, xs⟩ := a
        obtain ⟨id', names', suf', l2, h2, q, tw', ys⟩ := b
        obtain ⟨nm, nu, bi, pl, vd⟩ := cv
        obtain ⟨nm2, nu2, bi2, pl2, vd2⟩ := cw
        obtain ⟨nm3, nu3, bi3, pl3, vd3⟩ := cs
        unfold Rul.wide at *
        unfold Rcd.val Rul.val Cmp.val at *
        dsimp only at *
        obtain ⟨m1, m2, m3, m4, m5⟩ := hmo
        obtain rfl := m4.symm
        obtain ⟨s1, s2, s3⟩ := hse
        obtain rfl := s1
        obtain ⟨g1, g2, g3, g4, g5⟩ := hrg
        obtain ⟨e1, e2, e3, _, e5⟩ := hrw
        obtain ⟨_, f2, f3, f4, f5⟩ := hrs
        have HS2 := hid s2
        clear s2
        go_enter Try.func8, Try.ntmps8
        go_upto_region 7 with (first
          | (go_at_call 20; (with_reducible refine (HAL.out _).mono ?_); rotate_right; rintro e w1 ⟨rfl, hbw1⟩; obtain ⟨hcw1, hfw1, hzw1⟩ := hbw1.rules; (try simp at hzw1); have hzw1_0 : w.heap.size < w1.heap.size := (by omega); have hyw1_0 : w.heap.size ≤ w1.heap.size := (by omega); have hzw1_1 : w.heap.size + 1 < w1.heap.size := (by omega); have hyw1_1 : w.heap.size + 1 ≤ w1.heap.size := (by omega); have hzw1_2 : w.heap.size + 2 < w1.heap.size := (by omega); have hyw1_2 : w.heap.size + 2 ≤ w1.heap.size := (by omega))
          | (go_at_call 21; (with_reducible refine (HRU.out _).mono ?_); rotate_right; rintro e w2 ⟨rfl, hbw2⟩; obtain ⟨hcw2, hfw2, hzw2⟩ := hbw2.rules; (try simp at hzw2); have hzw2_0 : w.heap.size < w2.heap.size := (by omega); have hyw2_0 : w.heap.size ≤ w2.heap.size := (by omega); have hzw2_1 : w.heap.size + 1 < w2.heap.size := (by omega); have hyw2_1 : w.heap.size + 1 ≤ w2.heap.size := (by omega); have hzw2_2 : w.heap.size + 2 < w2.heap.size := (by omega); have hyw2_2 : w.heap.size + 2 ≤ w2.heap.size := (by omega))
          | ((go_at_call 22; (with_reducible refine (HRA.out _ ?_).mono ?_); rotate_right; rintro e w3 ⟨rfl, hbw3⟩; obtain ⟨hcw3, hfw3, hzw3⟩ := hbw3.rules; (try simp at hzw3); have hzw3_0 : w.heap.size < w3.heap.size := (by omega); have hyw3_0 : w.heap.size ≤ w3.heap.size := (by omega); have hzw3_1 : w.heap.size + 1 < w3.heap.size := (by omega); have hyw3_1 : w.heap.size + 1 ≤ w3.heap.size := (by omega); have hzw3_2 : w.heap.size + 2 < w3.heap.size := (by omega); have hyw3_2 : w.heap.size + 2 ≤ w3.heap.size := (by omega)); clear HRA)
          | ((go_at_call 22; (with_reducible refine (HRB.out _ ?_).mono ?_); rotate_right; rintro e w4 ⟨rfl, hbw4⟩; obtain ⟨hcw4, hfw4, hzw4⟩ := hbw4.rules; (try simp at hzw4); have hzw4_0 : w.heap.size < w4.heap.size := (by omega); have hyw4_0 : w.heap.size ≤ w4.heap.size := (by omega); have hzw4_1 : w.heap.size + 1 < w4.heap.size := (by omega); have hyw4_1 : w.heap.size + 1 ≤ w4.heap.size := (by omega); have hzw4_2 : w.heap.size + 2 < w4.heap.size := (by omega); have hyw4_2 : w.heap.size + 2 ≤ w4.heap.size := (by omega)); clear HRB))
        · have G3 : Gr w (((w.alloc (.cells #[.int .i64 l, .int .i64 dg, .int .i64 dy, .int .i64 t] 23)).alloc (.cells #[.int .i64 id, .slice A n c, .int .u8 suf, .int .i64 l1, .int .i64 h1, .string p, .bool tw, .slice B m d] 29)).alloc (.cells #[.int .i64 id', .slice A' n' c', .int .u8 suf', .int .i64 l2, .int .i64 h2, .string q, .bool tw', .slice B' m' d'] 29)) := (((Gr.refl w).alloc _).alloc _).alloc _
          obtain ⟨E1, E2, E3⟩ := rows3 w (.cells #[.int .i64 l, .int .i64 dg, .int .i64 dy, .int .i64 t] 23) (.cells #[.int .i64 id, .slice A n c, .int .u8 suf, .int .i64 l1, .int .i64 h1, .string p, .bool tw, .slice B m d] 29) (.cells #[.int .i64 id', .slice A' n' c', .int .u8 suf', .int .i64 l2, .int .i64 h2, .string q, .bool tw', .slice B' m' d'] 29)
          have K4 : Gr (((w.alloc (.cells #[.int .i64 l, .int .i64 dg, .int .i64 dy, .int .i64 t] 23)).alloc (.cells #[.int .i64 id, .slice A n c, .int .u8 suf, .int .i64 l1, .int .i64 h1, .string p, .bool tw, .slice B m d] 29)).alloc (.cells #[.int .i64 id', .slice A' n' c', .int .u8 suf', .int .i64 l2, .int .i64 h2, .string q, .bool tw', .slice B' m' d'] 29)) w4 := by (repeat (first | with_reducible exact Gr.refl _ | with_reducible refine Gr.trans ?_ hbw4 | with_reducible refine Gr.trans ?_ hbw3 | with_reducible refine Gr.trans ?_ hbw2 | with_reducible refine Gr.trans ?_ hbw1 | with_reducible refine Gr.alloc ?_ _ | with_reducible refine Gr.setCell ?_ (by simp) _ | with_reducible refine Gr.setCell ?_ (by simp; omega) _ | with_reducible refine Gr.drew ?_ | with_reducible refine Gr.drewN ?_ _))
          have HF1 := hid (row_gr E1 K4)
          have HF2 := hid (row_gr E2 K4)
          have HF3 := hid (show w4.heap[w.heap.size + 1 + 1]? = _ from row_gr E3 K4)
          have HG := hid (G3.trans K4)
          have hzb : w.heap.size + 1 + 1 < w4.heap.size := (Array.getElem?_eq_some_iff.1 HF3.out).1
          have hw5 : (w4.alloc (.cells #[.int .i64 l, .int .i64 dg, .int .i64 dy, .int .i64 t] 23)).heap[w4.heap.size]? = some (.cells #[.int .i64 l, .int .i64 dg, .int .i64 dy, .int .i64 t] 23 (0, 0)) := heap_alloc_new w4 _
          have hg5 : Gr w4 (w4.alloc (.cells #[.int .i64 l, .int .i64 dg, .int .i64 dy, .int .i64 t] 23)) := (Gr.refl _).alloc _
          generalize w4.alloc (.cells #[.int .i64 l, .int .i64 dg, .int .i64 dy, .int .i64 t] 23) = W5 at hw5 hg5 ⊢
          clear K4 E1 E2 E3 G3 hbw1 hcw1 hfw1 hzw1 hbw2 hcw2 hfw2 hzw2 hbw3 hcw3 hfw3 hzw3 hbw4 hcw4 hfw4 hzw4 hzw1_0 hzw1_1 hzw1_2 hyw1_0 hyw1_1 hyw1_2 hzw2_0 hzw2_1 hzw2_2 hyw2_0 hyw2_1 hyw2_2 hzw3_0 hzw3_1 hzw3_2 hyw3_0 hyw3_1 hyw3_2 hzw4_0 hzw4_1 hzw4_2 hyw4_0 hyw4_1 hyw4_2
          go_cut [45] (fun s45 wx => Gr w4 wx ∧ wx.heap[w4.heap.size]? = some (.cells #[.int .i64 (l + x0 % (5 - l + 1)), .int .i64 dg, .int .i64 dy, .int .i64 t] 23 (0, 0)))
          case first => as_aux_lemma =>
            obtain ⟨y, hy⟩ : ∃ y, y = x0 % (5 - l + 1) := ⟨_, rfl⟩
            have hyb : 0 ≤ y ∧ y ≤ 5 - l := by rw [hy]; exact p1
            have hy1 : Int.tmod x0 (5 - l + 1) = y := by rw [Int.tmod_eq_emod_of_nonneg (by omega), hy]
            have hy2 : x0 % (5 - l + 1) = y := hy.symm
            have hw1 : IntKind.i64.wrap (5 - l) = 5 - l := IntWalk.i64_in _ (by omega)
            have hw2 : IntKind.i64.wrap (5 - l + 1) = 5 - l + 1 := IntWalk.i64_in _ (by omega)
            have hw3 : IntKind.i64.wrap (Int.tmod x0 (5 - l + 1)) = y := by rw [hy1]; exact IntWalk.i64_in _ (by omega)
            have hw4 : IntKind.i64.wrap (l + y) = l + y := IntWalk.i64_in _ (by omega)
            have hw5' : IntKind.i64.wrap x0 = x0 := IntWalk.i64_in _ (by omega)
            have hnz : ¬ (5 - l + 1) = 0 := by omega
            have HA : Hid (Calls Try.prog 24 #[.slice C k e, .int .i64 0] W5.drew fun e w' => e = .returned (.int .u32 x0) ∧ w' = W5.drew) := by
              have h := HAT.out W5.drew (HG.out.trans hg5.drew) 0 (by omega)
              have e9 : (0 : Int).toNat = 0 := rfl
              rw [e9, ← HX0.out] at h
              exact h
            have HY := hid hy
            obtain ⟨c0, c1, c2, c3⟩ := cellsat4 hw5
            obtain ⟨d0, d1, d2, d3⟩ := cellsat4 (row_gr HF1.out hg5)
            clear hy
            refine wp_region_still_tail 12 (by kernel_rfl) (by kernel_rfl) ?_
            simp only [List.take_succ_cons, List.take_zero, List.drop_succ_cons, List.drop_zero]
            repeat (first | still_step | still_call HA.out)
            refine wpStill_nil ?_
            change wpList _ _ _ _ _ W5.drew
            have hr6 : W5.drew.heap[w4.heap.size]? = some (.cells #[.int .i64 l, .int .i64 dg, .int .i64 dy, .int .i64 t] 23 (0, 0)) := hw5
            have hg6 : Gr w4 W5.drew := hg5.drew
            generalize W5.drew = W6 at hr6 hg6 ⊢
            have l6 : w4.heap.size < W6.heap.size := (Array.getElem?_eq_some_iff.1 hr6).1
            have u0 := row_cell_at hr6 0 rfl
            have fr := frozen_of_row W6 w4.heap.size 0 _ _ hr6
            go_wp2
            go_meet
            refine ⟨hg6.setCell (Nat.le_refl _) _, ?_⟩
            rw [HY.out.symm]
            exact (heap_setCell_same W6 w4.heap.size 0 _ _ _ hr6).trans (by simp)
          case rest =>
            obtain ⟨hg5, hw5⟩ := hcut
            obtain ⟨W5x, rfl⟩ : ∃ W5x : World, W5x = wc := ⟨_, rfl⟩
            go_upto_region 8 with fail
            go_cut [57] (fun s57 wx => Gr w4 wx ∧ wx.heap[w4.heap.size]? = some (.cells #[.int .i64 (l + x0 % (5 - l + 1)), .int .i64 (dg + x1 % (5 - dg + 1)), .int .i64 dy, .int .i64 t] 23 (0, 0)))
            case first => as_aux_lemma =>
              obtain ⟨y, hy⟩ : ∃ y, y = x1 % (5 - dg + 1) := ⟨_, rfl⟩
              have hyb : 0 ≤ y ∧ y ≤ 5 - dg := by rw [hy]; exact p2
              have hy1 : Int.tmod x1 (5 - dg + 1) = y := by rw [Int.tmod_eq_emod_of_nonneg (by omega), hy]
              have hy2 : x1 % (5 - dg + 1) = y := hy.symm
              have hw1 : IntKind.i64.wrap (5 - dg) = 5 - dg := IntWalk.i64_in _ (by omega)
              have hw2 : IntKind.i64.wrap (5 - dg + 1) = 5 - dg + 1 := IntWalk.i64_in _ (by omega)
              have hw3 : IntKind.i64.wrap (Int.tmod x1 (5 - dg + 1)) = y := by rw [hy1]; exact IntWalk.i64_in _ (by omega)
              have hw4 : IntKind.i64.wrap (dg + y) = dg + y := IntWalk.i64_in _ (by omega)
              have hw5' : IntKind.i64.wrap x1 = x1 := IntWalk.i64_in _ (by omega)
              have hnz : ¬ (5 - dg + 1) = 0 := by omega
              have HA : Hid (Calls Try.prog 24 #[.slice C k e, .int .i64 1] W5x.drew fun e w' => e = .returned (.int .u32 x1) ∧ w' = W5x.drew) := by
                have h := HAT.out W5x.drew (HG.out.trans hg5.drew) 1 (by omega)
                have e9 : (1 : Int).toNat = 1 := rfl
                rw [e9, ← HX1.out] at h
                exact h
              have HY := hid hy
              obtain ⟨c0, c1, c2, c3⟩ := cellsat4 hw5
              obtain ⟨d0, d1, d2, d3⟩ := cellsat4 (row_gr HF1.out hg5)
              clear hy
              refine wp_region_still_tail 12 (by kernel_rfl) (by kernel_rfl) ?_
              simp only [List.take_succ_cons, List.take_zero, List.drop_succ_cons, List.drop_zero]
              repeat (first | still_step | still_call HA.out)
              refine wpStill_nil ?_
              change wpList _ _ _ _ _ W5x.drew
              have hr6 : W5x.drew.heap[w4.heap.size]? = some (.cells #[.int .i64 (l + x0 % (5 - l + 1)), .int .i64 dg, .int .i64 dy, .int .i64 t] 23 (0, 0)) := hw5
              have hg6 : Gr w4 W5x.drew := hg5.drew
              generalize W5x.drew = W6 at hr6 hg6 ⊢
              have l6 : w4.heap.size < W6.heap.size := (Array.getElem?_eq_some_iff.1 hr6).1
              have u1 := row_cell_at hr6 1 rfl
              have fr := frozen_of_row W6 w4.heap.size 1 _ _ hr6
              go_wp2
              go_meet
              refine ⟨hg6.setCell (Nat.le_refl _) _, ?_⟩
              rw [HY.out.symm]
              exact (heap_setCell_same W6 w4.heap.size 1 _ _ _ hr6).trans (by simp)
            case rest =>
              obtain ⟨hg5, hw5⟩ := hcut
              obtain ⟨W5xx, rfl⟩ : ∃ W5xx : World, W5xx = wc := ⟨_, rfl⟩
              go_upto_region 9 with fail
              go_cut [69] (fun s69 wx => Gr w4 wx ∧ wx.heap[w4.heap.size]? = some (.cells #[.int .i64 (l + x0 % (5 - l + 1)), .int .i64 (dg + x1 % (5 - dg + 1)), .int .i64 (dy + x2 % (1000 - dy + 1)), .int .i64 t] 23 (0, 0)))
              case first => as_aux_lemma =>
                obtain ⟨y, hy⟩ : ∃ y, y = x2 % (1000 - dy + 1) := ⟨_, rfl⟩
                have hyb : 0 ≤ y ∧ y ≤ 1000 - dy := by rw [hy]; exact p3
                have hy1 : Int.tmod x2 (1000 - dy + 1) = y := by rw [Int.tmod_eq_emod_of_nonneg (by omega), hy]
                have hy2 : x2 % (1000 - dy + 1) = y := hy.symm
                have hw1 : IntKind.i64.wrap (1000 - dy) = 1000 - dy := IntWalk.i64_in _ (by omega)
                have hw2 : IntKind.i64.wrap (1000 - dy + 1) = 1000 - dy + 1 := IntWalk.i64_in _ (by omega)
                have hw3 : IntKind.i64.wrap (Int.tmod x2 (1000 - dy + 1)) = y := by rw [hy1]; exact IntWalk.i64_in _ (by omega)
                have hw4 : IntKind.i64.wrap (dy + y) = dy + y := IntWalk.i64_in _ (by omega)
                have hw5' : IntKind.i64.wrap x2 = x2 := IntWalk.i64_in _ (by omega)
                have hnz : ¬ (1000 - dy + 1) = 0 := by omega
                have HA : Hid (Calls Try.prog 24 #[.slice C k e, .int .i64 2] W5xx.drew fun e w' => e = .returned (.int .u32 x2) ∧ w' = W5xx.drew) := by
                  have h := HAT.out W5xx.drew (HG.out.trans hg5.drew) 2 (by omega)
                  have e9 : (2 : Int).toNat = 2 := rfl
                  rw [e9, ← HX2.out] at h
                  exact h
                have HY := hid hy
                obtain ⟨c0, c1, c2, c3⟩ := cellsat4 hw5
                obtain ⟨d0, d1, d2, d3⟩ := cellsat4 (row_gr HF1.out hg5)
                clear hy
                refine wp_region_still_tail 12 (by kernel_rfl) (by kernel_rfl) ?_
                simp only [List.take_succ_cons, List.take_zero, List.drop_succ_cons, List.drop_zero]
                repeat (first | still_step | still_call HA.out)
                refine wpStill_nil ?_
                change wpList _ _ _ _ _ W5xx.drew
                have hr6 : W5xx.drew.heap[w4.heap.size]? = some (.cells #[.int .i64 (l + x0 % (5 - l + 1)), .int .i64 (dg + x1 % (5 - dg + 1)), .int .i64 dy, .int .i64 t] 23 (0, 0)) := hw5
                have hg6 : Gr w4 W5xx.drew := hg5.drew
                generalize W5xx.drew = W6 at hr6 hg6 ⊢
                have l6 : w4.heap.size < W6.heap.size := (Array.getElem?_eq_some_iff.1 hr6).1
                have u2 := row_cell_at hr6 2 rfl
                have fr := frozen_of_row W6 w4.heap.size 2 _ _ hr6
                go_wp2
                go_meet
                refine ⟨hg6.setCell (Nat.le_refl _) _, ?_⟩
                rw [HY.out.symm]
                exact (heap_setCell_same W6 w4.heap.size 2 _ _ _ hr6).trans (by simp)
              case rest =>
                obtain ⟨hg5, hw5⟩ := hcut
                obtain ⟨W5xxx, rfl⟩ : ∃ W5xxx : World, W5xxx = wc := ⟨_, rfl⟩
                have HG5 := hid (HG.out.trans hg5)
                obtain ⟨r0, r1, r2, r3⟩ := cellsat4 (row_gr HF1.out hg5)
                obtain ⟨a0, a1, a2, a3, a4, a5, a6, a7⟩ := cellsat8 (row_gr HF2.out hg5)
                obtain ⟨b0, b1, b2, b3, b4, b5, b6, b7⟩ := cellsat8 (row_gr HF3.out hg5)
                obtain ⟨w0, w1', w2', w3'⟩ := cellsat4 hw5
                have lz : w4.heap.size < W5xxx.heap.size := (Array.getElem?_eq_some_iff.1 hw5).1
                have lz2 : w.heap.size + 1 + 1 < W5xxx.heap.size := by omega
                have lz1 : w.heap.size + 1 < W5xxx.heap.size := by omega
                have lz0 : w.heap.size < W5xxx.heap.size := by omega
                clear hw5 hg5 HX0 HX1 HX2 HAT p1 p2 p3 q1 q2 q3 q4 hx0r hx1r hx2r HAL HRU
                have hv3 : (vd3 != 0) = true := by simpa using s3
                by_cases hp0 : p.size = 0
                · have hu3 : (nu3 == 3) = false := by
                    have h : ¬ nu3 = 3 := fun h => (HS2.out.1 h) hp0
                    simpa using h
                  obtain rfl : p = ByteArray.empty := ByteArray.size_eq_zero_iff.1 hp0
                  clear hp0 HS2
                  by_cases hv : vd = 0
                  · subst hv
                    go_wp2_with (first
                      | ((go_at_call 18; (with_reducible refine (HC.out _ HG5.out).mono ?_); rotate_right; rintro e w7 ⟨rfl, hbw7⟩; obtain ⟨hcw7, hfw7, hzw7⟩ := hbw7.rules; (try simp at hzw7)); clear HC; have y1 : w4.heap.size < w7.heap.size := (by omega); have y2 : w.heap.size + 1 + 1 < w7.heap.size := (by omega); have zaw7 : w.heap.size < w7.heap.size := (by omega); have zbw7 : w.heap.size + 1 < w7.heap.size := (by omega))
                      | ((go_at_call 18; (with_reducible refine (HCW.out _ (HG5.out.trans ?_)).mono ?_); rotate_right; rintro e w8 ⟨rfl, hbw8⟩; obtain ⟨hcw8, hfw8, hzw8⟩ := hbw8.rules; (try simp at hzw8)); clear HCW; have y3 : w4.heap.size < w8.heap.size := (by omega); have y4 : w.heap.size + 1 + 1 < w8.heap.size := (by omega); have zaw8 : w.heap.size < w8.heap.size := (by omega); have zbw8 : w.heap.size + 1 < w8.heap.size := (by omega); have y5 : w7.heap.size < w8.heap.size := (by omega))
                      | ((go_at_call 18; (with_reducible refine (HCS.out _ (HG5.out.trans ?_)).mono ?_); rotate_right; rintro e w9 ⟨rfl, hbw9⟩; obtain ⟨hcw9, hfw9, hzw9⟩ := hbw9.rules; (try simp at hzw9)); clear HCS; have y6 : w4.heap.size < w9.heap.size := (by omega); have y7 : w.heap.size + 1 + 1 < w9.heap.size := (by omega); have zaw9 : w.heap.size < w9.heap.size := (by omega); have zbw9 : w.heap.size + 1 < w9.heap.size := (by omega); have y8 : w7.heap.size < w9.heap.size := (by omega); have y9 : w8.heap.size < w9.heap.size := (by omega)))
                    · go_ret
                      refine ⟨rfl, HG5.out.trans ?_⟩
                      (repeat (first | with_reducible exact Gr.refl _ | with_reducible refine Gr.trans ?_ hbw9 | with_reducible refine Gr.trans ?_ hbw8 | with_reducible refine Gr.trans ?_ hbw7 | with_reducible refine Gr.alloc ?_ _ | with_reducible refine Gr.setCell ?_ (by simp) _ | with_reducible refine Gr.setCell ?_ (by simp; omega) _ | with_reducible refine Gr.drew ?_ | with_reducible refine Gr.drewN ?_ _))
                    · (repeat (first | with_reducible exact Gr.refl _ | with_reducible refine Gr.trans ?_ hbw8 | with_reducible refine Gr.trans ?_ hbw7 | with_reducible refine Gr.alloc ?_ _ | with_reducible refine Gr.setCell ?_ (by simp) _ | with_reducible refine Gr.setCell ?_ (by simp; omega) _ | with_reducible refine Gr.drew ?_ | with_reducible refine Gr.drewN ?_ _))
                    · (repeat (first | with_reducible exact Gr.refl _ | with_reducible refine Gr.trans ?_ hbw7 | with_reducible refine Gr.alloc ?_ _ | with_reducible refine Gr.setCell ?_ (by simp) _ | with_reducible refine Gr.setCell ?_ (by simp; omega) _ | with_reducible refine Gr.drew ?_ | with_reducible refine Gr.drewN ?_ _))
                  · have hv7 : (vd != 0) = true := by simpa using hv
                    have hv9 : (vd2 == 0) = false := by
                      have h : ¬ vd2 = 0 := by omega
                      simpa using h
                    go_wp2_with (first
                      | ((go_at_call 18; (with_reducible refine (HC.out _ HG5.out).mono ?_); rotate_right; rintro e w7 ⟨rfl, hbw7⟩; obtain ⟨hcw7, hfw7, hzw7⟩ := hbw7.rules; (try simp at hzw7)); clear HC; have y1 : w4.heap.size < w7.heap.size := (by omega); have y2 : w.heap.size + 1 + 1 < w7.heap.size := (by omega); have zaw7 : w.heap.size < w7.heap.size := (by omega); have zbw7 : w.heap.size + 1 < w7.heap.size := (by omega))
                      | ((go_at_call 18; (with_reducible refine (HCW.out _ (HG5.out.trans ?_)).mono ?_); rotate_right; rintro e w8 ⟨rfl, hbw8⟩; obtain ⟨hcw8, hfw8, hzw8⟩ := hbw8.rules; (try simp at hzw8)); clear HCW; have y3 : w4.heap.size < w8.heap.size := (by omega); have y4 : w.heap.size + 1 + 1 < w8.heap.size := (by omega); have zaw8 : w.heap.size < w8.heap.size := (by omega); have zbw8 : w.heap.size + 1 < w8.heap.size := (by omega); have y5 : w7.heap.size < w8.heap.size := (by omega))
                      | ((go_at_call 18; (with_reducible refine (HCS.out _ (HG5.out.trans ?_)).mono ?_); rotate_right; rintro e w9 ⟨rfl, hbw9⟩; obtain ⟨hcw9, hfw9, hzw9⟩ := hbw9.rules; (try simp at hzw9)); clear HCS; have y6 : w4.heap.size < w9.heap.size := (by omega); have y7 : w.heap.size + 1 + 1 < w9.heap.size := (by omega); have zaw9 : w.heap.size < w9.heap.size := (by omega); have zbw9 : w.heap.size + 1 < w9.heap.size := (by omega); have y8 : w7.heap.size < w9.heap.size := (by omega); have y9 : w8.heap.size < w9.heap.size := (by omega)))
                    · go_ret
                      refine ⟨rfl, HG5.out.trans ?_⟩
                      (repeat (first | with_reducible exact Gr.refl _ | with_reducible refine Gr.trans ?_ hbw9 | with_reducible refine Gr.trans ?_ hbw8 | with_reducible refine Gr.trans ?_ hbw7 | with_reducible refine Gr.alloc ?_ _ | with_reducible refine Gr.setCell ?_ (by simp) _ | with_reducible refine Gr.setCell ?_ (by simp; omega) _ | with_reducible refine Gr.drew ?_ | with_reducible refine Gr.drewN ?_ _))
                    · (repeat (first | with_reducible exact Gr.refl _ | with_reducible refine Gr.trans ?_ hbw8 | with_reducible refine Gr.trans ?_ hbw7 | with_reducible refine Gr.alloc ?_ _ | with_reducible refine Gr.setCell ?_ (by simp) _ | with_reducible refine Gr.setCell ?_ (by simp; omega) _ | with_reducible refine Gr.drew ?_ | with_reducible refine Gr.drewN ?_ _))
                    · (repeat (first | with_reducible exact Gr.refl _ | with_reducible refine Gr.trans ?_ hbw7 | with_reducible refine Gr.alloc ?_ _ | with_reducible refine Gr.setCell ?_ (by simp) _ | with_reducible refine Gr.setCell ?_ (by simp; omega) _ | with_reducible refine Gr.drew ?_ | with_reducible refine Gr.drewN ?_ _))
                · obtain rfl : nu3 = 3 := HS2.out.2 hp0
                  have t1 := toList_ne hp0
                  have t2 : ¬ p = ByteArray.empty := fun h => hp0 (ByteArray.size_eq_zero_iff.2 h)
                  clear hp0 HS2
                  by_cases hv : vd = 0
                  · subst hv
                    go_wp2_with (first
                      | ((go_at_call 18; (with_reducible refine (HC.out _ HG5.out).mono ?_); rotate_right; rintro e w7 ⟨rfl, hbw7⟩; obtain ⟨hcw7, hfw7, hzw7⟩ := hbw7.rules; (try simp at hzw7)); clear HC; have y1 : w4.heap.size < w7.heap.size := (by omega); have y2 : w.heap.size + 1 + 1 < w7.heap.size := (by omega); have zaw7 : w.heap.size < w7.heap.size := (by omega); have zbw7 : w.heap.size + 1 < w7.heap.size := (by omega))
                      | ((go_at_call 18; (with_reducible refine (HCW.out _ (HG5.out.trans ?_)).mono ?_); rotate_right; rintro e w8 ⟨rfl, hbw8⟩; obtain ⟨hcw8, hfw8, hzw8⟩ := hbw8.rules; (try simp at hzw8)); clear HCW; have y3 : w4.heap.size < w8.heap.size := (by omega); have y4 : w.heap.size + 1 + 1 < w8.heap.size := (by omega); have zaw8 : w.heap.size < w8.heap.size := (by omega); have zbw8 : w.heap.size + 1 < w8.heap.size := (by omega); have y5 : w7.heap.size < w8.heap.size := (by omega))
                      | ((go_at_call 18; (with_reducible refine (HCS.out _ (HG5.out.trans ?_)).mono ?_); rotate_right; rintro e w9 ⟨rfl, hbw9⟩; obtain ⟨hcw9, hfw9, hzw9⟩ := hbw9.rules; (try simp at hzw9)); clear HCS; have y6 : w4.heap.size < w9.heap.size := (by omega); have y7 : w.heap.size + 1 + 1 < w9.heap.size := (by omega); have zaw9 : w.heap.size < w9.heap.size := (by omega); have zbw9 : w.heap.size + 1 < w9.heap.size := (by omega); have y8 : w7.heap.size < w9.heap.size := (by omega); have y9 : w8.heap.size < w9.heap.size := (by omega)))
                    · go_ret
                      have t4 : (!p.toList.isEmpty) = true := by simp [t1]
                      refine ⟨congrArg (fun b => Ending.returned (Value.bool b)) t4, HG5.out.trans ?_⟩
                      (repeat (first | with_reducible exact Gr.refl _ | with_reducible refine Gr.trans ?_ hbw9 | with_reducible refine Gr.trans ?_ hbw8 | with_reducible refine Gr.trans ?_ hbw7 | with_reducible refine Gr.alloc ?_ _ | with_reducible refine Gr.setCell ?_ (by simp) _ | with_reducible refine Gr.setCell ?_ (by simp; omega) _ | with_reducible refine Gr.drew ?_ | with_reducible refine Gr.drewN ?_ _))
                    · (repeat (first | with_reducible exact Gr.refl _ | with_reducible refine Gr.trans ?_ hbw8 | with_reducible refine Gr.trans ?_ hbw7 | with_reducible refine Gr.alloc ?_ _ | with_reducible refine Gr.setCell ?_ (by simp) _ | with_reducible refine Gr.setCell ?_ (by simp; omega) _ | with_reducible refine Gr.drew ?_ | with_reducible refine Gr.drewN ?_ _))
                    · (repeat (first | with_reducible exact Gr.refl _ | with_reducible refine Gr.trans ?_ hbw7 | with_reducible refine Gr.alloc ?_ _ | with_reducible refine Gr.setCell ?_ (by simp) _ | with_reducible refine Gr.setCell ?_ (by simp; omega) _ | with_reducible refine Gr.drew ?_ | with_reducible refine Gr.drewN ?_ _))
                  · have hv7 : (vd != 0) = true := by simpa using hv
                    have hv9 : (vd2 == 0) = false := by
                      have h : ¬ vd2 = 0 := by omega
                      simpa using h
                    go_wp2_with (first
                      | ((go_at_call 18; (with_reducible refine (HC.out _ HG5.out).mono ?_); rotate_right; rintro e w7 ⟨rfl, hbw7⟩; obtain ⟨hcw7, hfw7, hzw7⟩ := hbw7.rules; (try simp at hzw7)); clear HC; have y1 : w4.heap.size < w7.heap.size := (by omega); have y2 : w.heap.size + 1 + 1 < w7.heap.size := (by omega); have zaw7 : w.heap.size < w7.heap.size := (by omega); have zbw7 : w.heap.size + 1 < w7.heap.size := (by omega))
                      | ((go_at_call 18; (with_reducible refine (HCW.out _ (HG5.out.trans ?_)).mono ?_); rotate_right; rintro e w8 ⟨rfl, hbw8⟩; obtain ⟨hcw8, hfw8, hzw8⟩ := hbw8.rules; (try simp at hzw8)); clear HCW; have y3 : w4.heap.size < w8.heap.size := (by omega); have y4 : w.heap.size + 1 + 1 < w8.heap.size := (by omega); have zaw8 : w.heap.size < w8.heap.size := (by omega); have zbw8 : w.heap.size + 1 < w8.heap.size := (by omega); have y5 : w7.heap.size < w8.heap.size := (by omega))
                      | ((go_at_call 18; (with_reducible refine (HCS.out _ (HG5.out.trans ?_)).mono ?_); rotate_right; rintro e w9 ⟨rfl, hbw9⟩; obtain ⟨hcw9, hfw9, hzw9⟩ := hbw9.rules; (try simp at hzw9)); clear HCS; have y6 : w4.heap.size < w9.heap.size := (by omega); have y7 : w.heap.size + 1 + 1 < w9.heap.size := (by omega); have zaw9 : w.heap.size < w9.heap.size := (by omega); have zbw9 : w.heap.size + 1 < w9.heap.size := (by omega); have y8 : w7.heap.size < w9.heap.size := (by omega); have y9 : w8.heap.size < w9.heap.size := (by omega)))
                    · go_ret
                      have t4 : (!p.toList.isEmpty) = true := by simp [t1]
                      refine ⟨congrArg (fun b => Ending.returned (Value.bool b)) t4, HG5.out.trans ?_⟩
                      (repeat (first | with_reducible exact Gr.refl _ | with_reducible refine Gr.trans ?_ hbw9 | with_reducible refine Gr.trans ?_ hbw8 | with_reducible refine Gr.trans ?_ hbw7 | with_reducible refine Gr.alloc ?_ _ | with_reducible refine Gr.setCell ?_ (by simp) _ | with_reducible refine Gr.setCell ?_ (by simp; omega) _ | with_reducible refine Gr.drew ?_ | with_reducible refine Gr.drewN ?_ _))
                    · (repeat (first | with_reducible exact Gr.refl _ | with_reducible refine Gr.trans ?_ hbw8 | with_reducible refine Gr.trans ?_ hbw7 | with_reducible refine Gr.alloc ?_ _ | with_reducible refine Gr.setCell ?_ (by simp) _ | with_reducible refine Gr.setCell ?_ (by simp; omega) _ | with_reducible refine Gr.drew ?_ | with_reducible refine Gr.drewN ?_ _))
                    · (repeat (first | with_reducible exact Gr.refl _ | with_reducible refine Gr.trans ?_ hbw7 | with_reducible refine Gr.alloc ?_ _ | with_reducible refine Gr.setCell ?_ (by simp) _ | with_reducible refine Gr.setCell ?_ (by simp; omega) _ | with_reducible refine Gr.drew ?_ | with_reducible refine Gr.drewN ?_ _))
        · (repeat (first | with_reducible exact Gr.refl _ | with_reducible refine Gr.trans ?_ hbw3 | with_reducible refine Gr.trans ?_ hbw2 | with_reducible refine Gr.trans ?_ hbw1 | with_reducible refine Gr.alloc ?_ _ | with_reducible refine Gr.setCell ?_ (by simp) _ | with_reducible refine Gr.setCell ?_ (by simp; omega) _ | with_reducible refine Gr.drew ?_ | with_reducible refine Gr.drewN ?_ _))
        · (repeat (first | with_reducible exact Gr.refl _ | with_reducible refine Gr.trans ?_ hbw2 | with_reducible refine Gr.trans ?_ hbw1 | with_reducible refine Gr.alloc ?_ _ | with_reducible refine Gr.setCell ?_ (by simp) _ | with_reducible refine Gr.setCell ?_ (by simp; omega) _ | with_reducible refine Gr.drew ?_ | with_reducible refine Gr.drewN ?_ _))
end Go.Proofs.Ytlkjimfkapcenaa
