/- The law MatchEdits, walked: edits are a distance. For all words and a letter. -/
import Derived.Laws.IdiomStrings
import Derived.WalkLawsBesides
import Derived.Test.YtlkjimfkapcenaaQAlive
namespace Go.Proofs.Ytlkjimfkapcenaa
open Go.RowKit

theorem ed_ok {a b : ByteArray} (ha : a.size ≤ 20) (hb : b.size ≤ 20) : edN a b = (levW a b : Int) ∧ edE a b = 0 := by
  have ho : edOk a b = true := by
    unfold edOk inB
    simp only [Bool.and_eq_true, decide_eq_true_eq]
    omega
  unfold edN edE
  rw [if_pos ho, if_pos ho]
  exact ⟨rfl, rfl⟩

set_option maxRecDepth 100000 in
set_option maxHeartbeats 8000000 in
theorem matchEdits_any (a b c : ByteArray) (l : UInt8) (w : World) (ha : a.size ≤ maxLen) (hb : b.size ≤ maxLen) (hc : c.size ≤ maxLen) :
    Calls Try.prog 7 #[.string a, .string b, .string c, .int .u8 l.toNat] w fun e w' => e = .returned (.bool true) ∧ Gr w w' := by
  have HAL := hid (fun W => alive_any W)
  unfold maxLen at ha hb hc
  by_cases h1 : 20 ≤ a.size
  · have k1 : (20 : Int) ≤ (a.size : Int) := by omega
    go_enter Try.func7, Try.ntmps7
    go_wp2_with ((go_at_call 20; (with_reducible refine (HAL.out _).mono ?_); rotate_right; rintro e w1 ⟨rfl, hbw1⟩; obtain ⟨hcw1, hfw1, hzw1⟩ := hbw1.rules; (try simp at hzw1)))
    go_ret
    exact ⟨rfl, by (repeat (first | with_reducible exact Gr.refl _ | with_reducible refine Gr.trans ?_ hbw1 | with_reducible refine Gr.alloc ?_ _ | with_reducible refine Gr.setCell ?_ (by simp) _ | with_reducible refine Gr.setCell ?_ (by simp; omega) _ | with_reducible refine Gr.drew ?_ | with_reducible refine Gr.drewN ?_ _))⟩
  · have k1 : (a.size : Int) < 20 := by omega
    by_cases h2 : 20 < b.size
    · have k2 : (20 : Int) < (b.size : Int) := by omega
      go_enter Try.func7, Try.ntmps7
      go_wp2_with ((go_at_call 20; (with_reducible refine (HAL.out _).mono ?_); rotate_right; rintro e w1 ⟨rfl, hbw1⟩; obtain ⟨hcw1, hfw1, hzw1⟩ := hbw1.rules; (try simp at hzw1)))
      go_ret
      exact ⟨rfl, by (repeat (first | with_reducible exact Gr.refl _ | with_reducible refine Gr.trans ?_ hbw1 | with_reducible refine Gr.alloc ?_ _ | with_reducible refine Gr.setCell ?_ (by simp) _ | with_reducible refine Gr.setCell ?_ (by simp; omega) _ | with_reducible refine Gr.drew ?_ | with_reducible refine Gr.drewN ?_ _))⟩
    · have k2 : (b.size : Int) ≤ 20 := by omega
      by_cases h3 : 20 < c.size
      · have k3 : (20 : Int) < (c.size : Int) := by omega
        go_enter Try.func7, Try.ntmps7
        go_wp2_with ((go_at_call 20; (with_reducible refine (HAL.out _).mono ?_); rotate_right; rintro e w1 ⟨rfl, hbw1⟩; obtain ⟨hcw1, hfw1, hzw1⟩ := hbw1.rules; (try simp at hzw1)))
        go_ret
        exact ⟨rfl, by (repeat (first | with_reducible exact Gr.refl _ | with_reducible refine Gr.trans ?_ hbw1 | with_reducible refine Gr.alloc ?_ _ | with_reducible refine Gr.setCell ?_ (by simp) _ | with_reducible refine Gr.setCell ?_ (by simp; omega) _ | with_reducible refine Gr.drew ?_ | with_reducible refine Gr.drewN ?_ _))⟩
      · have k3 : (c.size : Int) ≤ 20 := by omega
        have HE : Hid (∀ x y : ByteArray, x.size ≤ 20 → y.size ≤ 20 → ∀ W, Calls Try.prog 13 #[.string x, .string y] W fun e w' => e = .returned (.tuple #[.int .i64 (levW x y), .int .i64 0]) ∧ Gr W w') := fun x y hx hy W => by
          have h := editsTop_any x y W (by unfold maxLen; omega) (by unfold maxLen; omega)
          rw [(ed_ok hx hy).1, (ed_ok hx hy).2] at h
          exact h
        obtain ⟨d, hd⟩ : ∃ d, d = a ++ ⟨#[l]⟩ := ⟨_, rfl⟩
        have hds : d.size ≤ 20 := by rw [hd, size_push]; omega
        have H1 := hid (HE.out a b (by omega) (by omega))
        have H2 := hid (HE.out b a (by omega) (by omega))
        have H3 := hid (HE.out b c (by omega) (by omega))
        have H4 := hid (HE.out a c (by omega) (by omega))
        have H5 := hid (HE.out d b hds (by omega))
        have e1 := levW_symm b a
        have e2 := levW_tri a b c
        have e3 := levW_push a b l
        have e4 := lev_lower a b a.size b.size
        have e5 := lev_upper a b a.size b.size
        have e6 := levW_zero a b
        rw [← hd] at e3
        change (a.size ≤ levW a b + b.size ∧ b.size ≤ levW a b + a.size) at e4
        change levW a b ≤ _ at e5
        have e7 : levW a b ≤ 20 := by omega
        have e8 : levW b c ≤ 40 := by have := lev_upper b c b.size c.size; change levW b c ≤ _ at this; omega
        rw [e1] at H2
        generalize levW a b = x at *
        generalize levW b c = z at *
        generalize levW a c = v at *
        generalize levW d b = m at *
        have hcv : ∀ W : World, (convert 53 9 (.slice (some ⟨W.heap.size, 0, none⟩) 1 1)).run Try.prog (W.alloc (.cells #[.int .u8 (l.toNat : Int)] 5)) = .ok (.string ⟨#[l]⟩) (W.alloc (.cells #[.int .u8 (l.toNat : Int)] 5)) := fun W =>
          run_convert_bytes_back _ 53 9 5 ⟨W.heap.size, 0, none⟩ 1 [l] Try.underlying53 Try.underlying5 Try.underlying9 (fun j hj => by
            obtain rfl : j = 0 := by simpa using hj
            have e : (⟨W.heap.size, 0, none⟩ : Addr).add 0 = ⟨W.heap.size, 0, none⟩ := Addr.add_lit _ _ _
            rw [e]
            simp)
        have hd' : a ++ ⟨#[l]⟩ = d := hd.symm
        obtain ⟨e31, e32⟩ := e3
        obtain ⟨e41, e42⟩ := e4
        have q1 : (v : Int) ≤ (x : Int) + (z : Int) := by omega
        have q2 : (m : Int) ≤ (x : Int) + 1 := by omega
        have q3 : (x : Int) - 1 ≤ (m : Int) := by omega
        have q4 : (a.size : Int) - (b.size : Int) ≤ (x : Int) := by omega
        have q5 : (b.size : Int) - (a.size : Int) ≤ (x : Int) := by omega
        have q6 : (x : Int) ≤ 20 := by omega
        have q7 : (z : Int) ≤ 40 := by omega
        have q8 : (0 : Int) ≤ (x : Int) := by omega
        have HX := hid e6
        clear hd hds HE e1 e2 e31 e32 e41 e42 e6 e7 e8
        by_cases hab : a = b
        · have hx0 : x = 0 := HX.out.2 hab
          subst hab
          subst hx0
          clear HX
          go_enter Try.func7, Try.ntmps7
          go_wp2_with (first
            | (go_at_call 20; (with_reducible refine (HAL.out _).mono ?_); rotate_right; rintro e w1 ⟨rfl, hbw1⟩; obtain ⟨hcw1, hfw1, hzw1⟩ := hbw1.rules; (try simp at hzw1))
            | ((go_at_call 13; (with_reducible refine (H1.out _).mono ?_); rotate_right; rintro e w2 ⟨rfl, hbw2⟩; obtain ⟨hcw2, hfw2, hzw2⟩ := hbw2.rules; (try simp at hzw2)); clear H1)
            | ((go_at_call 13; (with_reducible refine (H2.out _).mono ?_); rotate_right; rintro e w3 ⟨rfl, hbw3⟩; obtain ⟨hcw3, hfw3, hzw3⟩ := hbw3.rules; (try simp at hzw3)); clear H2)
            | ((go_at_call 13; (with_reducible refine (H3.out _).mono ?_); rotate_right; rintro e w4 ⟨rfl, hbw4⟩; obtain ⟨hcw4, hfw4, hzw4⟩ := hbw4.rules; (try simp at hzw4)); clear H3)
            | ((go_at_call 13; (with_reducible refine (H4.out _).mono ?_); rotate_right; rintro e w5 ⟨rfl, hbw5⟩; obtain ⟨hcw5, hfw5, hzw5⟩ := hbw5.rules; (try simp at hzw5)); clear H4)
            | ((go_at_call 13; (with_reducible refine (H5.out _).mono ?_); rotate_right; rintro e w6 ⟨rfl, hbw6⟩; obtain ⟨hcw6, hfw6, hzw6⟩ := hbw6.rules; (try simp at hzw6)); clear H5))
          go_ret
          exact ⟨rfl, by (repeat (first | with_reducible exact Gr.refl _ | with_reducible refine Gr.trans ?_ hbw6 | with_reducible refine Gr.trans ?_ hbw5 | with_reducible refine Gr.trans ?_ hbw4 | with_reducible refine Gr.trans ?_ hbw3 | with_reducible refine Gr.trans ?_ hbw2 | with_reducible refine Gr.trans ?_ hbw1 | with_reducible refine Gr.alloc ?_ _ | with_reducible refine Gr.setCell ?_ (by simp) _ | with_reducible refine Gr.setCell ?_ (by simp; omega) _ | with_reducible refine Gr.drew ?_ | with_reducible refine Gr.drewN ?_ _))⟩
        · have hx0 : ¬ x = 0 := fun h => hab (HX.out.1 h)
          have hx1 : ((x : Int) == 0) = false := by simpa using hx0
          have t1 := toList_ne' hab
          have t2 := toList_beq hab
          clear HX
          have hq9 : decide ((x : Int) ≤ max (a.size : Int) (b.size : Int)) = true := by rw [decide_eq_true_eq]; omega
          go_enter Try.func7, Try.ntmps7
          go_wp2_with (first
            | (go_at_call 20; (with_reducible refine (HAL.out _).mono ?_); rotate_right; rintro e w1 ⟨rfl, hbw1⟩; obtain ⟨hcw1, hfw1, hzw1⟩ := hbw1.rules; (try simp at hzw1))
            | ((go_at_call 13; (with_reducible refine (H1.out _).mono ?_); rotate_right; rintro e w2 ⟨rfl, hbw2⟩; obtain ⟨hcw2, hfw2, hzw2⟩ := hbw2.rules; (try simp at hzw2)); clear H1)
            | ((go_at_call 13; (with_reducible refine (H2.out _).mono ?_); rotate_right; rintro e w3 ⟨rfl, hbw3⟩; obtain ⟨hcw3, hfw3, hzw3⟩ := hbw3.rules; (try simp at hzw3)); clear H2)
            | ((go_at_call 13; (with_reducible refine (H3.out _).mono ?_); rotate_right; rintro e w4 ⟨rfl, hbw4⟩; obtain ⟨hcw4, hfw4, hzw4⟩ := hbw4.rules; (try simp at hzw4)); clear H3)
            | ((go_at_call 13; (with_reducible refine (H4.out _).mono ?_); rotate_right; rintro e w5 ⟨rfl, hbw5⟩; obtain ⟨hcw5, hfw5, hzw5⟩ := hbw5.rules; (try simp at hzw5)); clear H4)
            | ((go_at_call 13; (with_reducible refine (H5.out _).mono ?_); rotate_right; rintro e w6 ⟨rfl, hbw6⟩; obtain ⟨hcw6, hfw6, hzw6⟩ := hbw6.rules; (try simp at hzw6)); clear H5))
          go_ret
          exact ⟨rfl, by (repeat (first | with_reducible exact Gr.refl _ | with_reducible refine Gr.trans ?_ hbw6 | with_reducible refine Gr.trans ?_ hbw5 | with_reducible refine Gr.trans ?_ hbw4 | with_reducible refine Gr.trans ?_ hbw3 | with_reducible refine Gr.trans ?_ hbw2 | with_reducible refine Gr.trans ?_ hbw1 | with_reducible refine Gr.alloc ?_ _ | with_reducible refine Gr.setCell ?_ (by simp) _ | with_reducible refine Gr.setCell ?_ (by simp; omega) _ | with_reducible refine Gr.drew ?_ | with_reducible refine Gr.drewN ?_ _))⟩
end Go.Proofs.Ytlkjimfkapcenaa
