/- divisor and low of the package sum. For numbers that are not great. times, less, turned and none of the package sum's fractions. For numbers that are not great. The reference's fractions: gcd, abs, over, minus, times, divide. The reference's fractions: times, minus, divide. How the package sum works an audit, in plain functions: it is what the reference does; how great the numbers on the way are. No program in sight. What earlier rows say taken away, row by row: the numbers on the way. No program in sight. One lower number for all factors of an open book. No program in sight. -/
import Derived.BigQuiet
import Derived.Deep.LoopGhost
import Derived.Deep.QuietTactic
import Derived.Laws.Rows
import Derived.WalkLawsBesides
import Derived.WalkSmall
import Derived.Test.YtimhkkijoelmhaaQEltS
import Derived.Test.YtimhkkijoelmhaaQRegGr
import Derived.Test.YtimhkkijoelmhaaQFrom10
namespace Go.Proofs.Ytimhkkijoelmhaa
open Go.RowKit

set_option maxRecDepth 100000 in
set_option maxHeartbeats 4000000 in
theorem divisor_any (A : Option Addr) (n c : Nat) (xs : List Int) (w : World) (h : Rd w 1 A n (xs.map (Value.int .i64))) (hn : n ≤ 9223372036854775807) (hx : ∀ x ∈ xs, x.natAbs ≤ 9223372036854775807) :
    Calls Try.prog 86 #[.slice A n c] w fun e w' => e = .returned (.int .i64 (gcdL xs)) ∧ Gr w w' := by
  have hl : xs.length = n := by have := h.len; simpa using this
  have HR := hid h
  have HX := hid hx
  have HG := hid (fun k => gcdL_le (xs.take k) (fun x hh => hx x (List.mem_of_mem_take hh)))
  have hnz : (n : Int) ≤ 9223372036854775807 := by omega
  clear h hx hn
  go_enter Try.func86, Try.ntmps86
  go_wp2_with fail
  go_loopg [3, 5, 8] n (fun gg s3 s5 s8 wr => ∃ k : Nat, k ≤ n ∧ n - k ≤ gg ∧ s3 = .int .i64 (gcdL (xs.take k)) ∧ s8 = .int .i64 k ∧ Gr w wr)
  case atStart => exact ⟨0, Nat.zero_le _, by omega, rfl, rfl, Gr.refl w⟩
  case round =>
    obtain ⟨k, hk, hgk, rfl, rfl, BW⟩ := hrel
    by_cases hkl : k < n
    · obtain ⟨hk', b, off, rfl, hbl, c0⟩ := (HR.out.gr BW).int_at hkl
      have HS : Hid (gcdL (xs.take (k + 1)) = Nat.gcd (gcdL (xs.take k)) (xs[k]!).natAbs) := by
        show _ = _
        rw [List.take_succ_eq_append_getElem hk', gcdL_snoc, ← getElem!_pos xs k hk']
      have hb := HX.out _ (mem_get hk')
      have hgb := HG.out k
      generalize xs[k]! = x at c0 HS hb
      generalize gcdL (xs.take k) = g at HS hgb
      have hkn : (k : Int) < (n : Int) := by omega
      have hk0 : (0 : Int) ≤ (k : Int) := by omega
      have hw1 : IntKind.i64.wrap (-x) = -x := by rw [IntKind.wrap_i64]; omega
      have hmx : max x (-x) = (x.natAbs : Int) := by omega
      clear hk'
      obtain ⟨wp, rfl⟩ : ∃ wp : World, wp = wr := ⟨_, rfl⟩
      go_wp2_with fail
      all_goals
        go_loopg [3, 5] x.natAbs (fun gg s3 s5 wq => ∃ a b : Nat, s3 = .int .i64 a ∧ s5 = .int .i64 b ∧ b ≤ gg ∧ Nat.gcd a b = Nat.gcd g x.natAbs ∧ a ≤ 9223372036854775807 ∧ b ≤ 9223372036854775807 ∧ Gr w wq)
        case atStart => exact ⟨g, x.natAbs, rfl, congrArg (Value.int .i64) (by omega), Nat.le_refl _, rfl, hgb, hb, BW⟩
        case round =>
          obtain ⟨p, q, rfl, rfl, hqg, hpq, hp, hq, BW2⟩ := hrel
          by_cases hq0 : q = 0
          · subst hq0
            rw [Nat.gcd_zero_right] at hpq
            go_wp2
            go_roundg (n - (k + 1))
            case measure => omega
            case rel => exact ⟨k + 1, by omega, by omega, by rw [HS.out, hpq], by go_num, BW2⟩
          · have hq0' : ¬ (q : Int) = 0 := by omega
            have hml := Nat.mod_lt p (show q > 0 by omega)
            have hgs : Nat.gcd q (p % q) = Nat.gcd p q := gcd_step p q
            obtain ⟨m, hm0⟩ : ∃ m, p % q = m := ⟨_, rfl⟩
            have hm : Int.tmod (p : Int) (q : Int) = (m : Int) := by rw [Int.tmod_eq_emod_of_nonneg (by omega), ← hm0]; rfl
            rw [hm0] at hml hgs
            have hw2 : IntKind.i64.wrap (m : Int) = (m : Int) := by rw [IntKind.wrap_i64]; omega
            have HGS := hid hgs
            clear hm0 hgs
            have HPQ := hid hpq
            go_wp2_with fail
            go_quiet (fail)
            go_wp2
            go_roundg m
            case measure => omega
            case rel => exact ⟨q, m, rfl, by first | rfl | (rw [hm, hw2]) | (rw [hm]), Nat.le_refl _, by rw [HGS.out]; exact HPQ.out, hq, by omega, BW2.drewN _⟩
    · have hkn : ¬ (k : Int) < (n : Int) := by omega
      have htk : xs.take k = xs := by rw [show k = xs.length by omega, List.take_length]
      rw [htk]
      go_wp2
      go_ret
      exact ⟨rfl, BW⟩
theorem divisor_two (x y : Int) (g : Nat) (hg : Nat.gcd x.natAbs y.natAbs = g) (b c : Nat) (w : World) (hb : b < w.heap.size) (h : w.cell? ⟨b, 0, none⟩ = some (.int .i64 x)) (h1 : w.cell? ⟨b, 1, none⟩ = some (.int .i64 y)) (hx : x.natAbs ≤ 9223372036854775807) (hy : y.natAbs ≤ 9223372036854775807) :
    Calls Try.prog 86 #[.slice (some ⟨b, 0, none⟩) 2 c] w fun e w' => e = .returned (.int .i64 g) ∧ Gr w w' := by
  subst hg
  have := divisor_any (some ⟨b, 0, none⟩) 2 c [x, y] w (Rd.two hb h h1) (by omega) (by intro z hz; simp at hz; rcases hz with rfl | rfl <;> assumption)
  rwa [gcdL_two] at this
theorem set2_row {W : World} {g : Nat} {t : TypeId} {z0 z1 y0 y1 : Value} (h : W.heap[g]? = some (.cells #[z0, z1] t (0, 0))) :
    ((W.setCell ⟨g, 0, none⟩ y0).setCell ⟨g, 1, none⟩ y1).heap[g]? = some (.cells #[y0, y1] t (0, 0)) :=
  heap_setCell_same _ g 1 _ t _ (heap_setCell_same _ g 0 _ t _ h)
theorem set2_gr {w W : World} {g : Nat} (h : Gr w W) (hg : w.heap.size ≤ g) (y0 y1 : Value) : Gr w ((W.setCell ⟨g, 0, none⟩ y0).setCell ⟨g, 1, none⟩ y1) :=
  (h.setCell (p := ⟨g, 0, none⟩) hg _).setCell (p := ⟨g, 1, none⟩) hg _
theorem heap_drewN' (W : World) (q : Nat) : (W.drewN q).heap = W.heap := rfl
theorem heap_drew1' (W : World) : W.drew.heap = W.heap := rfl
/-- A result of fractions' type that lies in a block of the call's own. -/
theorem ret_fr {fn : Func} {p : Tmp} (h : fn.results = #[.cell p 107]) (tmps : Array Value) (w : World) (g : Nat) (a b : Value) (hp : tmps.getD p undef = .pointer (some ⟨g, 0, none⟩)) (hg : w.heap[g]? = some (.cells #[a, b] 107 (0, 0))) :
    (results fn tmps).run Try.prog w = .ok (.agg #[a, b]) w :=
  results_cell_row h tmps w g _ _ (0, 0) _ hp hg Try.underlying107 rfl (by kernel_rfl)

set_option maxRecDepth 100000 in
set_option maxHeartbeats 4000000 in
theorem low_any (up down : Int) (w : World) (hd : down ≠ 0) (h1 : up.natAbs ≤ 4611686018427387904) (h2 : down.natAbs ≤ 4611686018427387904) :
    Calls Try.prog 90 #[.int .i64 up, .int .i64 down] w fun e w' => e = .returned (frV (Rat.divInt up down)) ∧ Gr w w' := by
  have e1 := low_num (a := up) hd
  have e2 := low_den (a := up) hd
  have hgp : 0 < Nat.gcd up.natAbs down.natAbs := Nat.gcd_pos_of_pos_right _ (by omega)
  have hgl : Nat.gcd up.natAbs down.natAbs ≤ down.natAbs := Nat.gcd_le_right _ (by omega)
  have b1 : (Rat.divInt up down).num.natAbs ≤ up.natAbs := by
    rw [← e1, Int.natAbs_tdiv]; exact Nat.div_le_self _ _
  have b2 : (Rat.divInt up down).den ≤ down.natAbs := by
    have := congrArg Int.natAbs e2
    rw [Int.natAbs_tdiv, Int.natAbs_natCast] at this
    rw [← this]; exact Nat.div_le_self _ _
  have HD := hid (fun b c W hb h h' => divisor_two up down _ rfl b c W hb h h' (by omega) (by omega))
  unfold frV
  generalize (Rat.divInt up down).num = P at *
  generalize (Rat.divInt up down).den = D at *
  generalize Nat.gcd up.natAbs down.natAbs = g at *
  have hwP : IntKind.i64.wrap P = P := by rw [IntKind.wrap_i64]; omega
  have hwD : IntKind.i64.wrap (D : Int) = (D : Int) := by rw [IntKind.wrap_i64]; omega
  have hwg : IntKind.i64.wrap (-(g : Int)) = -(g : Int) := by rw [IntKind.wrap_i64]; omega
  have hg0 : ¬ (g : Int) = 0 := by omega
  have hg1 : ¬ -(g : Int) = 0 := by omega
  by_cases hn : down < 0
  · rw [if_pos hn] at e1 e2
    go_enter Try.func90, Try.ntmps90
    go_wp2_with (first | (go_at_call 86; (with_reducible refine (HD.out _ _ _ ?_ ?_ ?_).mono ?_); rotate_right; rintro e w1 ⟨rfl, hbw1⟩; obtain ⟨hcw1, hfw1, hzw1⟩ := hbw1.rules; (try simp at hzw1); have hzw1_0 : w.heap.size < w1.heap.size := (by omega); have hyw1_0 : w.heap.size ≤ w1.heap.size := (by omega)))
    all_goals try (simp; done)
    go_region
    go_wp2
    have hr := row_gr (row_gr (heap_alloc_new w (.cells #[.int .i64 0, .int .i64 0] 107)) ((Gr.refl _).alloc (.cells #[.int .i64 up, .int .i64 down] 3))) hbw1
    exact bodyPost_ret (ret_fr (p := 4) Try.results90 _ _ w.heap.size _ _ rfl (set2_row (W := w1) (y0 := .int .i64 P) (y1 := .int .i64 D) hr)) rfl ⟨rfl, (set2_gr (by (repeat (first | with_reducible exact Gr.refl _ | with_reducible refine Gr.trans ?_ hbw1 | with_reducible refine Gr.alloc ?_ _ | with_reducible refine Gr.setCell ?_ (by simp) _ | with_reducible refine Gr.setCell ?_ (by simp; omega) _ | with_reducible refine Gr.drew ?_ | with_reducible refine Gr.drewN ?_ _))) (Nat.le_refl _) _ _).drew⟩
  · rw [if_neg hn] at e1 e2
    go_enter Try.func90, Try.ntmps90
    go_wp2_with (first | (go_at_call 86; (with_reducible refine (HD.out _ _ _ ?_ ?_ ?_).mono ?_); rotate_right; rintro e w1 ⟨rfl, hbw1⟩; obtain ⟨hcw1, hfw1, hzw1⟩ := hbw1.rules; (try simp at hzw1); have hzw1_0 : w.heap.size < w1.heap.size := (by omega); have hyw1_0 : w.heap.size ≤ w1.heap.size := (by omega)))
    all_goals try (simp; done)
    go_region
    go_wp2
    have hr := row_gr (row_gr (heap_alloc_new w (.cells #[.int .i64 0, .int .i64 0] 107)) ((Gr.refl _).alloc (.cells #[.int .i64 up, .int .i64 down] 3))) hbw1
    exact bodyPost_ret (ret_fr (p := 4) Try.results90 _ _ w.heap.size _ _ rfl (set2_row (W := w1) (y0 := .int .i64 P) (y1 := .int .i64 D) hr)) rfl ⟨rfl, (set2_gr (by (repeat (first | with_reducible exact Gr.refl _ | with_reducible refine Gr.trans ?_ hbw1 | with_reducible refine Gr.alloc ?_ _ | with_reducible refine Gr.setCell ?_ (by simp) _ | with_reducible refine Gr.setCell ?_ (by simp; omega) _ | with_reducible refine Gr.drew ?_ | with_reducible refine Gr.drewN ?_ _))) (Nat.le_refl _) _ _).drew⟩
end Go.Proofs.Ytimhkkijoelmhaa
namespace Go.Proofs.Ytimhkkijoelmhaa
open Go.RowKit

theorem Sm.mul {B C : Nat} {f o : Rat} (hf : Sm B f) (ho : Sm C o) : Sm (B * C) (f * o) ∧ (f.num * o.num).natAbs ≤ B * C ∧ ((f.den : Int) * o.den).natAbs ≤ B * C ∧ (f.num * o.den).natAbs ≤ B * C ∧ (o.num * f.den).natAbs ≤ B * C := by
  have a1 : (f.num * o.num).natAbs ≤ B * C := by rw [Int.natAbs_mul]; exact Nat.mul_le_mul hf.1 ho.1
  have a2 : ((f.den : Int) * o.den).natAbs ≤ B * C := by rw [Int.natAbs_mul]; exact Nat.mul_le_mul hf.2 ho.2
  have a3 : (f.num * o.den).natAbs ≤ B * C := by rw [Int.natAbs_mul]; exact Nat.mul_le_mul hf.1 ho.2
  have a4 : (o.num * f.den).natAbs ≤ B * C := by rw [Int.natAbs_mul, Nat.mul_comm]; exact Nat.mul_le_mul hf.2 ho.1
  refine ⟨?_, a1, a2, a3, a4⟩
  have hd : (f.den : Int) * o.den ≠ 0 := by
    have := Int.mul_pos (Int.natCast_pos.2 (den_pos f)) (Int.natCast_pos.2 (den_pos o))
    omega
  rw [← fr_times]
  constructor
  · rw [← low_num hd, Int.natAbs_tdiv]
    exact Nat.le_trans (Nat.div_le_self _ _) a1
  · have := congrArg Int.natAbs (low_den (a := f.num * o.num) hd)
    rw [Int.natAbs_tdiv, Int.natAbs_natCast] at this
    rw [← this]
    exact Nat.le_trans (Nat.div_le_self _ _) a2
theorem Sm.sub {B C : Nat} {f o : Rat} (hf : Sm B f) (ho : Sm C o) : Sm (2 * (B * C)) (f - o) := by
  obtain ⟨_, _, a2, a3, a4⟩ := hf.mul ho
  have hd : (f.den : Int) * o.den ≠ 0 := by
    have := Int.mul_pos (Int.natCast_pos.2 (den_pos f)) (Int.natCast_pos.2 (den_pos o))
    omega
  rw [← fr_less]
  constructor
  · rw [← low_num hd, Int.natAbs_tdiv]
    exact Nat.le_trans (Nat.div_le_self _ _) (by omega)
  · have := congrArg Int.natAbs (low_den (a := f.num * o.den - o.num * f.den) hd)
    rw [Int.natAbs_tdiv, Int.natAbs_natCast] at this
    rw [← this]
    exact Nat.le_trans (Nat.div_le_self _ _) (by omega)
set_option maxRecDepth 100000 in
set_option maxHeartbeats 4000000 in
theorem times_any (f o : Rat) (B C : Nat) (w : World) (hf : Sm B f) (ho : Sm C o) (h : B * C ≤ 4611686018427387904) :
    Calls Try.prog 103 #[frV f, frV o] w fun e w' => e = .returned (frV (f * o)) ∧ Gr w w' := by
  obtain ⟨_, a1, a2, _, _⟩ := hf.mul ho
  have hd : (f.den : Int) * o.den ≠ 0 := by
    have := Int.mul_pos (Int.natCast_pos.2 (den_pos f)) (Int.natCast_pos.2 (den_pos o))
    omega
  have HL := hid (fun W => low_any (f.num * o.num) ((f.den : Int) * o.den) W hd (by omega) (by omega))
  rw [fr_times] at HL
  generalize f * o = r at *
  unfold frV at *
  generalize f.num = a at *
  generalize f.den = b at *
  generalize o.num = c at *
  generalize o.den = d at *
  obtain ⟨p, hp⟩ : ∃ p, a * c = p := ⟨_, rfl⟩
  obtain ⟨q, hq⟩ : ∃ q, (b : Int) * d = q := ⟨_, rfl⟩
  rw [hp, hq] at HL
  rw [hp] at a1
  rw [hq] at a2
  have hw1 : IntKind.i64.wrap p = p := by rw [IntKind.wrap_i64]; omega
  have hw2 : IntKind.i64.wrap q = q := by rw [IntKind.wrap_i64]; omega
  generalize r.num = rn at *
  generalize (r.den : Int) = rd at *
  clear hf ho
  go_enter Try.func103, Try.ntmps103
  go_wp2_with (first | (go_at_call 90; (with_reducible refine (HL.out _).mono ?_); rotate_right; rintro e w1 ⟨rfl, hbw1⟩; obtain ⟨hcw1, hfw1, hzw1⟩ := hbw1.rules; (try simp at hzw1); have hzw1_0 : w.heap.size < w1.heap.size := (by omega); have hyw1_0 : w.heap.size ≤ w1.heap.size := (by omega)))
  have hr := row_gr ((rows3 w (.cells #[.int .i64 a, .int .i64 b] 107) (.cells #[.int .i64 c, .int .i64 d] 107) (.cells #[.int .i64 0, .int .i64 0] 107)).2.2) hbw1
  exact bodyPost_ret (ret_fr (p := 4) Try.results103 _ _ (w.heap.size + 2) _ _ rfl (set2_row (W := w1) (y0 := .int .i64 rn) (y1 := .int .i64 rd) hr)) rfl ⟨rfl, (set2_gr (by (repeat (first | with_reducible exact Gr.refl _ | with_reducible refine Gr.trans ?_ hbw1 | with_reducible refine Gr.alloc ?_ _ | with_reducible refine Gr.setCell ?_ (by simp) _ | with_reducible refine Gr.setCell ?_ (by simp; omega) _ | with_reducible refine Gr.drew ?_ | with_reducible refine Gr.drewN ?_ _))) (by omega) _ _)⟩
set_option maxRecDepth 100000 in
set_option maxHeartbeats 4000000 in
theorem less_any (f o : Rat) (B C : Nat) (w : World) (hf : Sm B f) (ho : Sm C o) (h : B * C ≤ 2305843009213693952) :
    Calls Try.prog 65 #[frV f, frV o] w fun e w' => e = .returned (frV (f - o)) ∧ Gr w w' := by
  obtain ⟨_, _, a2, a3, a4⟩ := hf.mul ho
  have hd : (f.den : Int) * o.den ≠ 0 := by
    have := Int.mul_pos (Int.natCast_pos.2 (den_pos f)) (Int.natCast_pos.2 (den_pos o))
    omega
  have HL := hid (fun W => low_any (f.num * o.den - o.num * f.den) ((f.den : Int) * o.den) W hd (by omega) (by omega))
  rw [fr_less] at HL
  generalize f - o = r at *
  unfold frV at *
  generalize f.num = a at *
  generalize f.den = b at *
  generalize o.num = c at *
  generalize o.den = d at *
  obtain ⟨p, hp⟩ : ∃ p, a * (d : Int) = p := ⟨_, rfl⟩
  obtain ⟨p', hp'⟩ : ∃ p, c * (b : Int) = p := ⟨_, rfl⟩
  obtain ⟨q, hq⟩ : ∃ q, (b : Int) * d = q := ⟨_, rfl⟩
  rw [hp, hp', hq] at HL
  rw [hp] at a3
  rw [hp'] at a4
  rw [hq] at a2
  have hw1 : IntKind.i64.wrap p = p := by rw [IntKind.wrap_i64]; omega
  have hw1' : IntKind.i64.wrap p' = p' := by rw [IntKind.wrap_i64]; omega
  have hw2 : IntKind.i64.wrap q = q := by rw [IntKind.wrap_i64]; omega
  have hw3 : IntKind.i64.wrap (p - p') = p - p' := by rw [IntKind.wrap_i64]; omega
  generalize r.num = rn at *
  generalize (r.den : Int) = rd at *
  clear hf ho
  go_enter Try.func65, Try.ntmps65
  go_wp2_with (first | (go_at_call 90; (with_reducible refine (HL.out _).mono ?_); rotate_right; rintro e w1 ⟨rfl, hbw1⟩; obtain ⟨hcw1, hfw1, hzw1⟩ := hbw1.rules; (try simp at hzw1); have hzw1_0 : w.heap.size < w1.heap.size := (by omega); have hyw1_0 : w.heap.size ≤ w1.heap.size := (by omega)))
  have hr := row_gr ((rows3 w (.cells #[.int .i64 a, .int .i64 b] 107) (.cells #[.int .i64 c, .int .i64 d] 107) (.cells #[.int .i64 0, .int .i64 0] 107)).2.2) hbw1
  exact bodyPost_ret (ret_fr (p := 4) Try.results65 _ _ (w.heap.size + 2) _ _ rfl (set2_row (W := w1) (y0 := .int .i64 rn) (y1 := .int .i64 rd) hr)) rfl ⟨rfl, (set2_gr (by (repeat (first | with_reducible exact Gr.refl _ | with_reducible refine Gr.trans ?_ hbw1 | with_reducible refine Gr.alloc ?_ _ | with_reducible refine Gr.setCell ?_ (by simp) _ | with_reducible refine Gr.setCell ?_ (by simp; omega) _ | with_reducible refine Gr.drew ?_ | with_reducible refine Gr.drewN ?_ _))) (by omega) _ _)⟩
set_option maxRecDepth 100000 in
set_option maxHeartbeats 4000000 in
theorem turned_any (f : Rat) (B : Nat) (w : World) (hf : Sm B f) (h0 : f ≠ 0) (h : B ≤ 4611686018427387904) :
    Calls Try.prog 83 #[frV f] w fun e w' => e = .returned (frV f⁻¹) ∧ Gr w w' := by
  have HL := hid (fun W => low_any (f.den : Int) f.num W (fun e => h0 (Rat.num_eq_zero.1 e)) (by have := hf.2; omega) (by have := hf.1; omega))
  rw [fr_turned] at HL
  generalize f⁻¹ = r at *
  unfold frV at *
  generalize f.num = a at *
  generalize f.den = b at *
  generalize r.num = rn at *
  generalize (r.den : Int) = rd at *
  clear hf h0
  go_enter Try.func83, Try.ntmps83
  go_wp2_with (first | (go_at_call 90; (with_reducible refine (HL.out _).mono ?_); rotate_right; rintro e w1 ⟨rfl, hbw1⟩; obtain ⟨hcw1, hfw1, hzw1⟩ := hbw1.rules; (try simp at hzw1); have hzw1_0 : w.heap.size < w1.heap.size := (by omega); have hyw1_0 : w.heap.size ≤ w1.heap.size := (by omega)))
  have hr := row_gr ((rows2 w (.cells #[.int .i64 a, .int .i64 b] 107) (.cells #[.int .i64 0, .int .i64 0] 107)).2) hbw1
  exact bodyPost_ret (ret_fr (p := 2) Try.results83 _ _ (w.heap.size + 1) _ _ rfl (set2_row (W := w1) (y0 := .int .i64 rn) (y1 := .int .i64 rd) hr)) rfl ⟨rfl, (set2_gr (by (repeat (first | with_reducible exact Gr.refl _ | with_reducible refine Gr.trans ?_ hbw1 | with_reducible refine Gr.alloc ?_ _ | with_reducible refine Gr.setCell ?_ (by simp) _ | with_reducible refine Gr.setCell ?_ (by simp; omega) _ | with_reducible refine Gr.drew ?_ | with_reducible refine Gr.drewN ?_ _))) (by omega) _ _)⟩
set_option maxRecDepth 100000 in
set_option maxHeartbeats 4000000 in
theorem none_any (f : Rat) (w : World) :
    Calls Try.prog 64 #[frV f] w fun e w' => e = .returned (.bool (decide (f = 0))) ∧ Gr w w' := by
  by_cases h0 : f = 0
  · subst h0
    have e1 : (0 : Rat).num = 0 := rfl
    have e2 : (0 : Rat).den = 1 := rfl
    unfold frV
    rw [e1, e2]
    simp only [decide_true]
    go_enter Try.func64, Try.ntmps64
    go_wp2
    go_ret
    exact ⟨rfl, by (repeat (first | with_reducible exact Gr.refl _ | with_reducible refine Gr.alloc ?_ _ | with_reducible refine Gr.setCell ?_ (by simp) _ | with_reducible refine Gr.setCell ?_ (by simp; omega) _ | with_reducible refine Gr.drew ?_ | with_reducible refine Gr.drewN ?_ _))⟩
  · have hn : ¬ f.num = 0 := fun e => h0 (Rat.num_eq_zero.1 e)
    rw [decide_eq_false h0]
    unfold frV
    generalize f.num = a at *
    generalize (f.den : Int) = b at *
    clear h0
    go_enter Try.func64, Try.ntmps64
    go_wp2
    go_ret
    exact ⟨rfl, by (repeat (first | with_reducible exact Gr.refl _ | with_reducible refine Gr.alloc ?_ _ | with_reducible refine Gr.setCell ?_ (by simp) _ | with_reducible refine Gr.setCell ?_ (by simp; omega) _ | with_reducible refine Gr.drew ?_ | with_reducible refine Gr.drewN ?_ _))⟩
end Go.Proofs.Ytimhkkijoelmhaa
namespace Go.Proofs.Ytimhkkijoelmhaa
open Go.RowKit

/-- A result of the reference's fractions' type that lies in a block of the call's own. -/
theorem ret_rf {fn : Func} {p : Tmp} (h : fn.results = #[.cell p 110]) (tmps : Array Value) (w : World) (g : Nat) (a b : Value) (hp : tmps.getD p undef = .pointer (some ⟨g, 0, none⟩)) (hg : w.heap[g]? = some (.cells #[a, b] 110 (0, 0))) :
    (results fn tmps).run Try.prog w = .ok (.agg #[a, b]) w :=
  results_cell_row h tmps w g _ _ (0, 0) _ hp hg Try.underlying110 rfl (by kernel_rfl)

set_option maxRecDepth 100000 in
set_option maxHeartbeats 4000000 in
theorem refgcd_any (a b : Nat) (w : World) (ha : a ≤ 9223372036854775807) (hb : b ≤ 9223372036854775807) :
    Calls Try.prog 87 #[.int .i64 a, .int .i64 b] w fun e w' => e = .returned (.int .i64 (Nat.gcd a b)) ∧ Gr w w' := by
  go_enter Try.func87, Try.ntmps87
  go_wp2_with fail
  go_loopg [0, 1] b (fun gg s0 s1 wq => ∃ p q : Nat, s0 = .int .i64 p ∧ s1 = .int .i64 q ∧ q ≤ gg ∧ Nat.gcd p q = Nat.gcd a b ∧ p ≤ 9223372036854775807 ∧ q ≤ 9223372036854775807 ∧ Gr w wq)
  case atStart => exact ⟨a, b, rfl, rfl, Nat.le_refl _, rfl, ha, hb, Gr.refl w⟩
  case round =>
    obtain ⟨p, q, rfl, rfl, hqg, hpq, hp, hq, BW2⟩ := hrel
    by_cases hq0 : q = 0
    · subst hq0
      rw [Nat.gcd_zero_right] at hpq
      have HP := hid hpq
      go_wp2
      go_ret
      exact ⟨by rw [HP.out]; rfl, BW2⟩
    · have hq0' : ¬ (q : Int) = 0 := by omega
      have hml := Nat.mod_lt p (show q > 0 by omega)
      have hgs : Nat.gcd q (p % q) = Nat.gcd p q := gcd_step p q
      obtain ⟨m, hm0⟩ : ∃ m, p % q = m := ⟨_, rfl⟩
      have hm : Int.tmod (p : Int) (q : Int) = (m : Int) := by rw [Int.tmod_eq_emod_of_nonneg (by omega), ← hm0]; rfl
      rw [hm0] at hml hgs
      have hw2 : IntKind.i64.wrap (m : Int) = (m : Int) := by rw [IntKind.wrap_i64]; omega
      have HGS := hid hgs
      clear hm0 hgs
      have HPQ := hid hpq
      go_wp2_with fail
      go_quiet (fail)
      go_wp2
      go_roundg m
      case measure => omega
      case rel => exact ⟨q, m, rfl, by first | rfl | (rw [hm, hw2]) | (rw [hm]), Nat.le_refl _, by rw [HGS.out]; exact HPQ.out, hq, by omega, BW2.drewN _⟩
set_option maxRecDepth 100000 in
set_option maxHeartbeats 4000000 in
theorem refabs_any (x : Int) (w : World) (hx : x.natAbs ≤ 9223372036854775807) :
    Calls Try.prog 88 #[.int .i64 x] w fun e w' => e = .returned (.int .i64 x.natAbs) ∧ Gr w w' := by
  have hw1 : IntKind.i64.wrap (-x) = -x := by rw [IntKind.wrap_i64]; omega
  have hmx : max x (-x) = (x.natAbs : Int) := by omega
  go_enter Try.func88, Try.ntmps88
  go_wp2_with fail
  all_goals
    go_ret
    exact ⟨by first | rfl | (simp; omega) | (simp; split <;> omega), Gr.refl w⟩
set_option maxRecDepth 100000 in
set_option maxHeartbeats 4000000 in
theorem over_any (up down : Int) (w : World) (hd : down ≠ 0) (h1 : up.natAbs ≤ 4611686018427387904) (h2 : down.natAbs ≤ 4611686018427387904) :
    Calls Try.prog 91 #[.int .i64 up, .int .i64 down] w fun e w' => e = .returned (frV (Rat.divInt up down)) ∧ Gr w w' := by
  have e1 := low_num (a := up) hd
  have e2 := low_den (a := up) hd
  have hgp : 0 < Nat.gcd up.natAbs down.natAbs := Nat.gcd_pos_of_pos_right _ (by omega)
  have hgl : Nat.gcd up.natAbs down.natAbs ≤ down.natAbs := Nat.gcd_le_right _ (by omega)
  have b1 : (Rat.divInt up down).num.natAbs ≤ up.natAbs := by
    rw [← e1, Int.natAbs_tdiv]; exact Nat.div_le_self _ _
  have b2 : (Rat.divInt up down).den ≤ down.natAbs := by
    have := congrArg Int.natAbs e2
    rw [Int.natAbs_tdiv, Int.natAbs_natCast] at this
    rw [← this]; exact Nat.div_le_self _ _
  have HG := hid (fun W => refgcd_any up.natAbs down.natAbs W (by omega) (by omega))
  unfold frV
  generalize (Rat.divInt up down).num = P at *
  generalize (Rat.divInt up down).den = D at *
  generalize Nat.gcd up.natAbs down.natAbs = g at *
  have hwP : IntKind.i64.wrap P = P := by rw [IntKind.wrap_i64]; omega
  have hwD : IntKind.i64.wrap (D : Int) = (D : Int) := by rw [IntKind.wrap_i64]; omega
  have hg0 : ¬ (g : Int) = 0 := by omega
  by_cases hn : down < 0
  · rw [if_pos hn] at e1 e2
    have hw1 : IntKind.i64.wrap (-up) = -up := by rw [IntKind.wrap_i64]; omega
    have hw2 : IntKind.i64.wrap (-down) = -down := by rw [IntKind.wrap_i64]; omega
    rw [Int.tdiv_neg, ← Int.neg_tdiv] at e1 e2
    have HA := hid (fun W => refabs_any (-up) W (by omega))
    rw [Int.natAbs_neg] at HA
    rw [show (down.natAbs : Int) = -down by omega] at HG
    generalize (up.natAbs : Int) = au at *
    go_enter Try.func91, Try.ntmps91
    go_wp2_with (first | (go_at_call 88; (with_reducible refine (HA.out _).mono ?_); rotate_right; rintro e w1 ⟨rfl, hbw1⟩; obtain ⟨hcw1, hfw1, hzw1⟩ := hbw1.rules; (try simp at hzw1); have hzw1_0 : w.heap.size < w1.heap.size := (by omega); have hyw1_0 : w.heap.size ≤ w1.heap.size := (by omega)) | (go_at_call 87; (with_reducible refine (HG.out _).mono ?_); rotate_right; rintro e w2 ⟨rfl, hbw2⟩; obtain ⟨hcw2, hfw2, hzw2⟩ := hbw2.rules; (try simp at hzw2)))
    go_region
    go_wp2
    have hr := row_gr (row_gr (heap_alloc_new w (.cells #[.int .i64 0, .int .i64 0] 110)) hbw1) hbw2
    exact bodyPost_ret (ret_rf (p := 4) Try.results91 _ _ w.heap.size _ _ rfl (set2_row (W := w2) (y0 := .int .i64 P) (y1 := .int .i64 D) hr)) rfl ⟨rfl, (set2_gr (((Gr.refl w).alloc _).trans (hbw1.trans hbw2)) (Nat.le_refl _) _ _).drew⟩
  · rw [if_neg hn] at e1 e2
    have HA := hid (fun W => refabs_any up W (by omega))
    rw [show (down.natAbs : Int) = down by omega] at HG
    generalize (up.natAbs : Int) = au at *
    go_enter Try.func91, Try.ntmps91
    go_wp2_with (first | (go_at_call 88; (with_reducible refine (HA.out _).mono ?_); rotate_right; rintro e w1 ⟨rfl, hbw1⟩; obtain ⟨hcw1, hfw1, hzw1⟩ := hbw1.rules; (try simp at hzw1); have hzw1_0 : w.heap.size < w1.heap.size := (by omega); have hyw1_0 : w.heap.size ≤ w1.heap.size := (by omega)) | (go_at_call 87; (with_reducible refine (HG.out _).mono ?_); rotate_right; rintro e w2 ⟨rfl, hbw2⟩; obtain ⟨hcw2, hfw2, hzw2⟩ := hbw2.rules; (try simp at hzw2)))
    go_region
    go_wp2
    have hr := row_gr (row_gr (heap_alloc_new w (.cells #[.int .i64 0, .int .i64 0] 110)) hbw1) hbw2
    exact bodyPost_ret (ret_rf (p := 4) Try.results91 _ _ w.heap.size _ _ rfl (set2_row (W := w2) (y0 := .int .i64 P) (y1 := .int .i64 D) hr)) rfl ⟨rfl, (set2_gr (((Gr.refl w).alloc _).trans (hbw1.trans hbw2)) (Nat.le_refl _) _ _).drew⟩
end Go.Proofs.Ytimhkkijoelmhaa
namespace Go.Proofs.Ytimhkkijoelmhaa
open Go.RowKit

theorem fr_divide (f o : Rat) : Rat.divInt (f.num * o.den) ((f.den : Int) * o.num) = f / o := by
  have e1 : f = Rat.divInt f.num f.den := (Rat.num_divInt_den f).symm
  rw [Rat.div_def, Rat.inv_def]
  conv => rhs; rw [e1]
  rw [Rat.divInt_mul_divInt]
set_option maxRecDepth 100000 in
set_option maxHeartbeats 4000000 in
theorem reftimes_any (f o : Rat) (B C : Nat) (w : World) (hf : Sm B f) (ho : Sm C o) (h : B * C ≤ 4611686018427387904) :
    Calls Try.prog 104 #[frV f, frV o] w fun e w' => e = .returned (frV (f * o)) ∧ Gr w w' := by
  obtain ⟨_, a1, a2, _, _⟩ := hf.mul ho
  have hd : (f.den : Int) * o.den ≠ 0 := by
    have := Int.mul_pos (Int.natCast_pos.2 (den_pos f)) (Int.natCast_pos.2 (den_pos o))
    omega
  have HL := hid (fun W => over_any (f.num * o.num) ((f.den : Int) * o.den) W hd (by omega) (by omega))
  rw [fr_times] at HL
  generalize f * o = r at *
  unfold frV at *
  generalize f.num = a at *
  generalize f.den = b at *
  generalize o.num = c at *
  generalize o.den = d at *
  obtain ⟨p, hp⟩ : ∃ p, a * c = p := ⟨_, rfl⟩
  obtain ⟨q, hq⟩ : ∃ q, (b : Int) * d = q := ⟨_, rfl⟩
  rw [hp, hq] at HL
  rw [hp] at a1
  rw [hq] at a2
  have hw1 : IntKind.i64.wrap p = p := by rw [IntKind.wrap_i64]; omega
  have hw2 : IntKind.i64.wrap q = q := by rw [IntKind.wrap_i64]; omega
  generalize r.num = rn at *
  generalize (r.den : Int) = rd at *
  clear hf ho
  go_enter Try.func104, Try.ntmps104
  go_wp2_with (first | (go_at_call 91; (with_reducible refine (HL.out _).mono ?_); rotate_right; rintro e w1 ⟨rfl, hbw1⟩; obtain ⟨hcw1, hfw1, hzw1⟩ := hbw1.rules; (try simp at hzw1); have hzw1_0 : w.heap.size < w1.heap.size := (by omega); have hyw1_0 : w.heap.size ≤ w1.heap.size := (by omega)))
  have hr := row_gr ((rows3 w (.cells #[.int .i64 a, .int .i64 b] 110) (.cells #[.int .i64 c, .int .i64 d] 110) (.cells #[.int .i64 0, .int .i64 0] 110)).2.2) hbw1
  exact bodyPost_ret (ret_rf (p := 4) Try.results104 _ _ (w.heap.size + 2) _ _ rfl (set2_row (W := w1) (y0 := .int .i64 rn) (y1 := .int .i64 rd) hr)) rfl ⟨rfl, (set2_gr (by (repeat (first | with_reducible exact Gr.refl _ | with_reducible refine Gr.trans ?_ hbw1 | with_reducible refine Gr.alloc ?_ _ | with_reducible refine Gr.setCell ?_ (by simp) _ | with_reducible refine Gr.setCell ?_ (by simp; omega) _ | with_reducible refine Gr.drew ?_ | with_reducible refine Gr.drewN ?_ _))) (by omega) _ _)⟩
set_option maxRecDepth 100000 in
set_option maxHeartbeats 4000000 in
theorem minus_any (f o : Rat) (B C : Nat) (w : World) (hf : Sm B f) (ho : Sm C o) (h : B * C ≤ 2305843009213693952) :
    Calls Try.prog 66 #[frV f, frV o] w fun e w' => e = .returned (frV (f - o)) ∧ Gr w w' := by
  obtain ⟨_, _, a2, a3, a4⟩ := hf.mul ho
  have hd : (f.den : Int) * o.den ≠ 0 := by
    have := Int.mul_pos (Int.natCast_pos.2 (den_pos f)) (Int.natCast_pos.2 (den_pos o))
    omega
  have HL := hid (fun W => over_any (f.num * o.den - o.num * f.den) ((f.den : Int) * o.den) W hd (by omega) (by omega))
  rw [fr_less] at HL
  generalize f - o = r at *
  unfold frV at *
  generalize f.num = a at *
  generalize f.den = b at *
  generalize o.num = c at *
  generalize o.den = d at *
  obtain ⟨p, hp⟩ : ∃ p, a * (d : Int) = p := ⟨_, rfl⟩
  obtain ⟨p', hp'⟩ : ∃ p, c * (b : Int) = p := ⟨_, rfl⟩
  obtain ⟨q, hq⟩ : ∃ q, (b : Int) * d = q := ⟨_, rfl⟩
  rw [hp, hp', hq] at HL
  rw [hp] at a3
  rw [hp'] at a4
  rw [hq] at a2
  have hw1 : IntKind.i64.wrap p = p := by rw [IntKind.wrap_i64]; omega
  have hw1' : IntKind.i64.wrap p' = p' := by rw [IntKind.wrap_i64]; omega
  have hw2 : IntKind.i64.wrap q = q := by rw [IntKind.wrap_i64]; omega
  have hw3 : IntKind.i64.wrap (p - p') = p - p' := by rw [IntKind.wrap_i64]; omega
  generalize r.num = rn at *
  generalize (r.den : Int) = rd at *
  clear hf ho
  go_enter Try.func66, Try.ntmps66
  go_wp2_with (first | (go_at_call 91; (with_reducible refine (HL.out _).mono ?_); rotate_right; rintro e w1 ⟨rfl, hbw1⟩; obtain ⟨hcw1, hfw1, hzw1⟩ := hbw1.rules; (try simp at hzw1); have hzw1_0 : w.heap.size < w1.heap.size := (by omega); have hyw1_0 : w.heap.size ≤ w1.heap.size := (by omega)))
  have hr := row_gr ((rows3 w (.cells #[.int .i64 a, .int .i64 b] 110) (.cells #[.int .i64 c, .int .i64 d] 110) (.cells #[.int .i64 0, .int .i64 0] 110)).2.2) hbw1
  exact bodyPost_ret (ret_rf (p := 4) Try.results66 _ _ (w.heap.size + 2) _ _ rfl (set2_row (W := w1) (y0 := .int .i64 rn) (y1 := .int .i64 rd) hr)) rfl ⟨rfl, (set2_gr (by (repeat (first | with_reducible exact Gr.refl _ | with_reducible refine Gr.trans ?_ hbw1 | with_reducible refine Gr.alloc ?_ _ | with_reducible refine Gr.setCell ?_ (by simp) _ | with_reducible refine Gr.setCell ?_ (by simp; omega) _ | with_reducible refine Gr.drew ?_ | with_reducible refine Gr.drewN ?_ _))) (by omega) _ _)⟩
set_option maxRecDepth 100000 in
set_option maxHeartbeats 4000000 in
theorem divide_any (f o : Rat) (B C : Nat) (w : World) (hf : Sm B f) (ho : Sm C o) (h0 : o ≠ 0) (h : B * C ≤ 4611686018427387904) :
    Calls Try.prog 85 #[frV f, frV o] w fun e w' => e = .returned (frV (f / o)) ∧ Gr w w' := by
  have a1 : (f.num * o.den).natAbs ≤ B * C := (hf.mul ho).2.2.2.1
  have a2 : ((f.den : Int) * o.num).natAbs ≤ B * C := by
    rw [Int.natAbs_mul, Int.natAbs_natCast]
    exact Nat.mul_le_mul hf.2 ho.1
  have hd : (f.den : Int) * o.num ≠ 0 := Int.mul_ne_zero (by have := den_pos f; omega) (fun h => h0 (Rat.num_eq_zero.1 h))
  have HL := hid (fun W => over_any (f.num * o.den) ((f.den : Int) * o.num) W hd (by omega) (by omega))
  rw [fr_divide] at HL
  generalize f / o = r at *
  unfold frV at *
  generalize f.num = a at *
  generalize f.den = b at *
  generalize o.num = c at *
  generalize o.den = d at *
  obtain ⟨p, hp⟩ : ∃ p, a * (d : Int) = p := ⟨_, rfl⟩
  obtain ⟨q, hq⟩ : ∃ q, (b : Int) * c = q := ⟨_, rfl⟩
  rw [hp, hq] at HL
  rw [hp] at a1
  rw [hq] at a2
  have hw1 : IntKind.i64.wrap p = p := by rw [IntKind.wrap_i64]; omega
  have hw2 : IntKind.i64.wrap q = q := by rw [IntKind.wrap_i64]; omega
  generalize r.num = rn at *
  generalize (r.den : Int) = rd at *
  clear hf ho h0
  go_enter Try.func85, Try.ntmps85
  go_wp2_with (first | (go_at_call 91; (with_reducible refine (HL.out _).mono ?_); rotate_right; rintro e w1 ⟨rfl, hbw1⟩; obtain ⟨hcw1, hfw1, hzw1⟩ := hbw1.rules; (try simp at hzw1); have hzw1_0 : w.heap.size < w1.heap.size := (by omega); have hyw1_0 : w.heap.size ≤ w1.heap.size := (by omega)))
  have hr := row_gr ((rows3 w (.cells #[.int .i64 a, .int .i64 b] 110) (.cells #[.int .i64 c, .int .i64 d] 110) (.cells #[.int .i64 0, .int .i64 0] 110)).2.2) hbw1
  exact bodyPost_ret (ret_rf (p := 4) Try.results85 _ _ (w.heap.size + 2) _ _ rfl (set2_row (W := w1) (y0 := .int .i64 rn) (y1 := .int .i64 rd) hr)) rfl ⟨rfl, (set2_gr (by (repeat (first | with_reducible exact Gr.refl _ | with_reducible refine Gr.trans ?_ hbw1 | with_reducible refine Gr.alloc ?_ _ | with_reducible refine Gr.setCell ?_ (by simp) _ | with_reducible refine Gr.setCell ?_ (by simp; omega) _ | with_reducible refine Gr.drew ?_ | with_reducible refine Gr.drewN ?_ _))) (by omega) _ _)⟩
end Go.Proofs.Ytimhkkijoelmhaa
namespace Go.Proofs.Ytimhkkijoelmhaa

/-- The row that a subject leads. -/
def lookR (rows : List Rw) (i : Nat) : Option (List Rat) := (rows.find? (fun r => r.1 == i)).map (·.2)
theorem lookR_some {rows : List Rw} {i : Nat} {v : List Rat} (h : lookR rows i = some v) : (i, v) ∈ rows := by
  unfold lookR at h
  cases hf : rows.find? (fun r => r.1 == i) with
  | none => rw [hf] at h; cases h
  | some r =>
    rw [hf] at h
    have h1 := List.mem_of_find?_eq_some hf
    have h2 := List.find?_some hf
    have e1 : r.1 = i := by simpa using h2
    have e2 : r.2 = v := by simpa using h
    rw [← e1, ← e2]; exact h1
theorem lookR_of {rows : List Rw} (nd : (rows.map (·.1)).Nodup) {r : Rw} (h : r ∈ rows) : lookR rows r.1 = some r.2 := by
  unfold lookR
  cases hf : rows.find? (fun x => x.1 == r.1) with
  | none =>
    rw [List.find?_eq_none] at hf
    exact absurd (hf r h) (by simp)
  | some s =>
    have h1 := List.mem_of_find?_eq_some hf
    have h2 := List.find?_some hf
    have : s = r := fst_inj nd h1 h (by simpa using h2)
    rw [this]; rfl
theorem lookR_none {rows : List Rw} {i : Nat} (h : lookR rows i = none) : ∀ r ∈ rows, r.1 ≠ i := by
  intro r hr e
  unfold lookR at h
  rw [Option.map_eq_none_iff, List.find?_eq_none] at h
  exact h r hr (by simpa using e)
/-- What the program takes away, subject by subject. -/
def awayP (rows : List Rw) (x : List Rat) : Nat → List Rat
  | 0 => x
  | k + 1 => match lookR rows k with
    | none => awayP rows x k
    | some v => if cv (awayP rows x k) k = 0 then awayP rows x k else subR (awayP rows x k) v (cv (awayP rows x k) k)
/-- The rows of the first subjects. -/
def leadL (rows : List Rw) : Nat → List Rw
  | 0 => []
  | k + 1 => match lookR rows k with
    | none => leadL rows k
    | some v => leadL rows k ++ [(k, v)]
theorem leadL_mem {rows : List Rw} (nd : (rows.map (·.1)).Nodup) (k : Nat) (r : Rw) : r ∈ leadL rows k ↔ r ∈ rows ∧ r.1 < k := by
  induction k with
  | zero => simp [leadL]
  | succ k ih =>
    unfold leadL
    cases h : lookR rows k with
    | none =>
      dsimp only
      rw [ih]
      constructor
      · rintro ⟨a, b⟩; exact ⟨a, by omega⟩
      · rintro ⟨a, b⟩
        have := lookR_none h r a
        exact ⟨a, by omega⟩
    | some v =>
      dsimp only
      rw [List.mem_append, ih, List.mem_singleton]
      constructor
      · rintro (⟨a, b⟩ | rfl)
        · exact ⟨a, by omega⟩
        · exact ⟨lookR_some h, by simp⟩
      · rintro ⟨a, b⟩
        by_cases e : r.1 = k
        · right
          have := lookR_of nd a
          rw [e, h] at this
          injection this with this
          rw [← e, this]
        · exact .inl ⟨a, by omega⟩
theorem leadL_nd {rows : List Rw} (nd : (rows.map (·.1)).Nodup) (k : Nat) : ((leadL rows k).map (·.1)).Nodup := by
  induction k with
  | zero => simp [leadL]
  | succ k ih =>
    unfold leadL
    cases h : lookR rows k with
    | none => exact ih
    | some v =>
      dsimp only
      rw [List.map_append, List.nodup_append]
      refine ⟨ih, by simp, fun a ha b hb => ?_⟩
      obtain ⟨r, hr, rfl⟩ := List.mem_map.1 ha
      have := ((leadL_mem nd k r).1 hr).2
      simp at hb
      omega
theorem awayR_snoc (L : List Rw) (r : Rw) (x : List Rat) : awayR (L ++ [r]) x = subR (awayR L x) r.2 (cv (awayR L x) r.1) := by
  unfold awayR
  rw [List.foldl_append]
  rfl
section
variable {N n : Nat} {qs : List (Nat → Rat)} {rows : List Rw}
theorem awayP_eq (h : Bk N n qs rows) {x : List Rat} (hx : x.length = N) (h01 : ∀ j, cv x j = 0 ∨ cv x j = 1) (k : Nat) : awayP rows x k = awayR (leadL rows k) x := by
  induction k with
  | zero => rfl
  | succ k ih =>
    have hl := (h.away hx h01 (leadL rows k) (fun r hr => ((leadL_mem h.nd k r).1 hr).1) (leadL_nd h.nd k)).1
    unfold awayP leadL
    cases hf : lookR rows k with
    | none => exact ih
    | some v =>
      dsimp only
      rw [awayR_snoc, ih]
      have hv := h.len _ (lookR_some hf)
      split
      · rename_i h0
        rw [h0, subR_zero _ _ (by rw [hl]; exact hv)]
      · rfl
theorem awayP_all (h : Bk N n qs rows) {x : List Rat} (hx : x.length = N) (h01 : ∀ j, cv x j = 0 ∨ cv x j = 1) : awayP rows x n = awayR rows x := by
  rw [awayP_eq h hx h01]
  refine h.any_order hx h01 (fun r => ?_) (leadL_nd h.nd n)
  rw [leadL_mem h.nd]
  exact ⟨fun a => a.1, fun a => ⟨a, h.lead r a⟩⟩
theorem leadL_len (nd : (rows.map (·.1)).Nodup) (k : Nat) : (leadL rows k).length ≤ rows.length := by
  have h1 : ∀ (L rows : List Rw), (L.map (·.1)).Nodup → (∀ r ∈ L, r ∈ rows) → L.length ≤ rows.length := by
    intro L
    induction L with
    | nil => intro rows _ _; exact Nat.zero_le _
    | cons a L ih =>
      intro rows hn hs
      rw [List.map_cons, List.nodup_cons] at hn
      have ha := hs a List.mem_cons_self
      have := ih (rows.erase a) hn.2 (fun r hr => by
        refine (List.mem_erase_of_ne ?_).2 (hs r (List.mem_cons_of_mem _ hr))
        rintro rfl
        exact hn.1 (List.mem_map.2 ⟨_, hr, rfl⟩))
      rw [List.length_erase_of_mem ha] at this
      have hp := List.length_pos_of_mem ha
      simp only [List.length_cons]
      omega
  exact h1 _ _ (leadL_nd nd k) (fun r hr => ((leadL_mem nd k r).1 hr).1)
theorem awayP_len (h : Bk N n qs rows) {x : List Rat} (hx : x.length = N) (h01 : ∀ j, cv x j = 0 ∨ cv x j = 1) (k : Nat) : (awayP rows x k).length = N := by
  rw [awayP_eq h hx h01]
  exact (h.away hx h01 _ (fun r hr => ((leadL_mem h.nd k r).1 hr).1) (leadL_nd h.nd k)).1
/-- The numbers of a row. -/
theorem Bk.sm (h : Bk N n qs rows) (hl : rows.length ≤ 8) {r : Rw} (hr : r ∈ rows) : ∀ z ∈ r.2, Sm 40320 z := by
  intro z hz
  obtain ⟨j, hj, rfl⟩ := List.getElem_of_mem hz
  have hf : fac rows.length ≤ 40320 := fac_le hl
  rw [← cv_lt hj]
  exact sm_of h.det (h.detZ.mono hf) ((h.entry hr j).mono hf)
/-- The numbers on the way. -/
theorem Bk.sm_away (h : Bk N n qs rows) (hl : rows.length ≤ 7) {x : List Rat} (hx : x.length = N) (h01 : ∀ j, cv x j = 0 ∨ cv x j = 1) (k : Nat) : ∀ z ∈ awayP rows x k, Sm 40320 z := by
  intro z hz
  rw [awayP_eq h hx h01] at hz
  obtain ⟨j, hj, rfl⟩ := List.getElem_of_mem hz
  rw [← cv_lt hj]
  have hf : fac rows.length ≤ 5040 := fac_le hl
  obtain ⟨_, _, _, i4⟩ := h.away hx h01 (leadL rows k) (fun r hr => ((leadL_mem h.nd k r).1 hr).1) (leadL_nd h.nd k)
  have hll := leadL_len h.nd k
  refine sm_of h.det (h.detZ.mono (by omega)) ((i4 j).mono ?_)
  have : (1 + (leadL rows k).length) * fac rows.length ≤ 8 * 5040 := Nat.mul_le_mul (by omega) hf
  omega
theorem sm_bit {x : Rat} (h : x = 0 ∨ x = 1) : Sm 40320 x := by
  rcases h with rfl | rfl
  · exact ⟨by decide, by decide⟩
  · exact ⟨by decide, by decide⟩
theorem Sm.inv {B : Nat} {x : Rat} (h : Sm B x) (h0 : x ≠ 0) : Sm B x⁻¹ := by
  have hd : x.num ≠ 0 := fun e => h0 (Rat.num_eq_zero.1 e)
  rw [← fr_turned]
  constructor
  · rw [← low_num hd, Int.natAbs_tdiv]
    exact Nat.le_trans (Nat.div_le_self _ _) (by simpa using h.2)
  · have := congrArg Int.natAbs (low_den (a := (x.den : Int)) hd)
    simp only [Int.natAbs_tdiv, Int.natAbs_natCast] at this
    rw [← this]
    exact Nat.le_trans (Nat.div_le_self _ _) h.1
end
/-- The first that is not 0, as the program finds it. -/
theorem firstR_fidx (n : Nat) (x : List Rat) (hx : n ≤ x.length) : fidx (fun f => !decide (f = 0)) (x.take n) = match firstR n x with | some i => (i : Int) | none => -1 := by
  have hlen : (x.take n).length = n := by rw [List.length_take]; omega
  have hg : ∀ j, j < n → (x.take n)[j]! = cv x j := fun j hj => by
    rw [getElem!_pos _ j (by omega), List.getElem_take, cv_lt (by omega)]
  unfold firstR
  cases hf : (List.range n).find? (fun i => decide (cv x i ≠ 0)) with
  | none =>
    rw [List.find?_eq_none] at hf
    refine fidx_miss (fun j hj => ?_)
    have := hf j (List.mem_range.2 (by omega))
    rw [hg j (by omega)]
    simpa using this
  | some i =>
    obtain ⟨h1, us, vs, h2, h3⟩ := List.find?_eq_some_iff_append.1 hf
    have hi : i < n := List.mem_range.1 (List.mem_of_find?_eq_some hf)
    have hasl : us.length = i := by
      have : (List.range n)[us.length]? = some i := by rw [h2]; simp
      rw [List.getElem?_range] at this
      · simpa using this
      · rcases Nat.lt_or_ge us.length n with h | h
        · exact h
        · rw [List.getElem?_eq_none (by simpa using h)] at this; cases this
    refine fidx_hit (k := i) (by omega) (by rw [hg i hi]; simpa using h1) (fun j hj => ?_)
    rw [hg j (by omega)]
    have hm : j ∈ us := by
      have : (List.range n)[j]? = some j := by rw [List.getElem?_range (by omega)]
      rw [h2, List.getElem?_append_left (by omega)] at this
      exact List.mem_of_getElem? this
    have := h3 j hm
    simpa using this
theorem firstR_some {n : Nat} {x : List Rat} {i : Nat} (h : firstR n x = some i) : i < n ∧ cv x i ≠ 0 := by
  unfold firstR at h
  have h1 := List.mem_of_find?_eq_some h
  have h2 := List.find?_some h
  exact ⟨List.mem_range.1 h1, by simpa using h2⟩
/-- The solved rows of some questions. -/
theorem solveR_bk (n m : Nat) (asks : Nat → Nat → Bool) (k : Nat) : ∃ qs, Bk (n + m) n qs (solveR n m asks k) ∧ (solveR n m asks k).length ≤ k := by
  induction k with
  | zero => exact ⟨[], Bk.nil _ _, Nat.le_refl _⟩
  | succ k ih =>
    obtain ⟨qs, hb, hl⟩ := ih
    unfold solveR stepR
    cases hf : firstR n (awayR (solveR n m asks k) (newR n m (asks k) k)) with
    | none => exact ⟨qs, hb, by dsimp only; omega⟩
    | some f =>
      obtain ⟨h1, h2⟩ := firstR_some hf
      refine ⟨_, hb.put (newR_len _ _ _ _) (newR_bit _ _ _ _) h1 h2, ?_⟩
      simp [putR]
      omega
/-- x less itself and so much of it. -/
theorem sub_self_div (x : List Rat) (f : Rat) : subR x x (1 - f⁻¹) = divR x f := by
  refine cv_ext (by rw [subR_len _ _ _ rfl]; simp [divR]) (fun j _ => ?_)
  rw [cv_sub _ _ _ rfl, cv_div]
  grind
end Go.Proofs.Ytimhkkijoelmhaa
namespace Go.Proofs.Ytimhkkijoelmhaa
open Go.RowKit

section
variable {N n : Nat} {qs : List (Nat → Rat)} {rows : List Rw}
theorem nodup_take (h : (rows.map (·.1)).Nodup) (i : Nat) : ((rows.take i).map (·.1)).Nodup := by
  rw [List.map_take]
  exact h.sublist (List.take_sublist _ _)
theorem Bk.sm_take (h : Bk N n qs rows) (hl : rows.length ≤ 7) {x : List Rat} (hx : x.length = N) (h01 : ∀ j, cv x j = 0 ∨ cv x j = 1) (i : Nat) : ∀ z ∈ awayR (rows.take i) x, Sm 40320 z := by
  intro z hz
  obtain ⟨j, hj, rfl⟩ := List.getElem_of_mem hz
  rw [← cv_lt hj]
  have hf : fac rows.length ≤ 5040 := fac_le hl
  obtain ⟨_, _, _, i4⟩ := h.away hx h01 (rows.take i) (fun r hr => List.mem_of_mem_take hr) (nodup_take h.nd i)
  refine sm_of h.det (h.detZ.mono (by omega)) ((i4 j).mono ?_)
  have hll : (rows.take i).length ≤ rows.length := by rw [List.length_take]; omega
  have : (1 + (rows.take i).length) * fac rows.length ≤ 8 * 5040 := Nat.mul_le_mul (by omega) hf
  omega
theorem Bk.len_take (h : Bk N n qs rows) {x : List Rat} (hx : x.length = N) (h01 : ∀ j, cv x j = 0 ∨ cv x j = 1) (i : Nat) : (awayR (rows.take i) x).length = N :=
  (h.away hx h01 (rows.take i) (fun _ hr => List.mem_of_mem_take hr) (nodup_take h.nd i)).1
theorem away_succ {i : Nat} (hi : i < rows.length) (x : List Rat) : awayR (rows.take (i + 1)) x = subR (awayR (rows.take i) x) rows[i].2 (cv (awayR (rows.take i) x) rows[i].1) := by
  rw [List.take_succ_eq_append_getElem hi, awayR_snoc]
end
/-- The first factor that is not 0, found from the right. -/
def fromTop (x : List Rat) (n : Nat) : Nat → Option Nat
  | 0 => none
  | d + 1 => if cv x (n - (d + 1)) = 0 then fromTop x n d else some (n - (d + 1))
theorem fromTop_eq (x : List Rat) (n d : Nat) (hd : d ≤ n) : fromTop x n d = (List.range' (n - d) d).find? (fun i => decide (cv x i ≠ 0)) := by
  induction d with
  | zero => rfl
  | succ d ih =>
    rw [fromTop, List.range'_succ, List.find?_cons, show n - (d + 1) + 1 = n - d by omega, ← ih (by omega)]
    by_cases h : cv x (n - (d + 1)) = 0
    · simp [h]
    · simp [h]
theorem fromTop_all (x : List Rat) (n : Nat) : fromTop x n n = firstR n x := by
  rw [fromTop_eq x n n (Nat.le_refl _), Nat.sub_self, ← List.range_eq_range']
  rfl
def atI (o : Option Nat) : Int := match o with | some i => (i : Int) | none => -1
end Go.Proofs.Ytimhkkijoelmhaa
namespace Go.Proofs.Ytimhkkijoelmhaa
open Go.RowKit

theorem den_of {d : Int} (hd : d ≠ 0) {x : Rat} {z : Int} (e : (d : Rat) * x = (z : Rat)) : x.den ∣ d.natAbs := by
  have hd' : (d : Rat) ≠ 0 := by
    intro h
    exact hd (Rat.intCast_inj.1 (by rw [h]; rfl))
  have hx : x = Rat.divInt z d := by
    rw [Rat.divInt_eq_div, ← e]
    grind
  subst hx
  rw [Rat.den_divInt, if_neg hd]
  exact Nat.div_dvd_of_dvd (by rw [Int.gcd]; exact Nat.gcd_dvd_left _ _)
section
variable {N n : Nat} {qs : List (Nat → Rat)} {rows : List Rw}
theorem Bk.com (h : Bk N n qs rows) (hl : rows.length ≤ 8) : ∃ D : Nat, 0 < D ∧ D ≤ 40320 ∧ ∀ r ∈ rows, ∀ z ∈ r.2, z.den ∣ D := by
  have hf : fac rows.length ≤ 40320 := fac_le hl
  obtain ⟨u, e, hu⟩ := h.detZ
  have hdet := h.det
  have hu0 : u ≠ 0 := by
    rintro rfl
    exact hdet (by rw [e]; rfl)
  refine ⟨u.natAbs, by omega, by omega, ?_⟩
  intro r hr z hz
  obtain ⟨j, hj, rfl⟩ := List.getElem_of_mem hz
  obtain ⟨y, e2, _⟩ := h.entry hr j
  rw [← cv_lt hj]
  rw [e] at e2
  exact den_of hu0 e2
end
/-- What the rows of an audit bring with them. -/
theorem solve_com (n m : Nat) (asks : Nat → Nat → Bool) (hm : m ≤ 8) : ∃ D : Nat, 0 < D ∧ D ≤ 40320 ∧ ∀ r ∈ solveR n m asks m, ∀ z ∈ r.2, z.den ∣ D ∧ Sm 40320 z := by
  obtain ⟨qs, h, hl⟩ := solveR_bk n m asks m
  obtain ⟨D, h1, h2, h3⟩ := h.com (by omega)
  exact ⟨D, h1, h2, fun r hr z hz => ⟨h3 r hr z hz, h.sm (by omega) hr z hz⟩⟩
theorem solve_nil (n : Nat) (asks : Nat → Nat → Bool) : solveR n 0 asks 0 = [] := rfl
end Go.Proofs.Ytimhkkijoelmhaa
