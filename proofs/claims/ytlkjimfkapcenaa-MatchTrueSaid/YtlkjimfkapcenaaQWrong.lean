/- wrong of the laws of match: the contract. For a word, a count of letters and numbers. -/
import Derived.Test.YtlkjimfkapcenaaQAt
import Derived.Test.YtlkjimfkapcenaaQWrongSpec
import Derived.Test.YtlkjimfkapcenaaQWithin
import Derived.Laws.Runes
import Derived.BigQuiet
import Derived.Deep.QuietTactic
namespace Go.Proofs.Ytlkjimfkapcenaa
open Go.RowKit

theorem letter_encode {x : Int} (h : 65 ≤ x ∧ x ≤ 90) : Letter (Utf8.encode x) := by
  obtain ⟨n, rfl⟩ : ∃ n : Nat, x = (n : Int) := ⟨x.toNat, by omega⟩
  have hv : Utf8.valid (n : Int) = true := by unfold Utf8.valid; simp; omega
  have e : Utf8.encode (n : Int) = ⟨#[UInt8.ofNat n]⟩ := by
    unfold Utf8.encode
    have h1 : n < 128 := by omega
    simp [hv, h1]
  rw [e]
  have b0 : (byt ⟨#[UInt8.ofNat n]⟩ 0).toNat = n := by
    show (UInt8.ofNat n).toNat = n
    simp; omega
  exact ⟨rfl, by rw [b0]; omega, by rw [b0]; omega⟩
theorem add_run (a b : ByteArray) (h : a.size + b.size ≤ 9223372036854775807) (w : World) : (Op.stringOp .add a b).run Try.prog w = .ok (.string (a ++ b)) w := run_string_add_sum w a b h
theorem lev_more {word u v : ByteArray} {k : Nat} (h1 : levW word u ≤ k) (h2 : levW u v ≤ 1) : levW word v ≤ k + 1 := by
  have := levW_tri word u v
  omega

set_option maxRecDepth 100000 in
set_option maxHeartbeats 4000000 in
theorem wrong_any (word : ByteArray) (L : Nat) (xs : List Int) (A : Option Addr) (n c : Nat) (i : Int) (w : World) (hr : Rd w 1 A n (xs.map (Value.int .u32))) (hn : n ≤ 9223372036854775807) (hx : ∀ x ∈ xs, 0 ≤ x ∧ x ≤ 4294967295) (hi : 0 ≤ i ∧ i ≤ 1000) (hL : L ≤ 100) (hw : wordB word = true) :
    Calls Try.prog 43 #[.string word, .int .i64 L, .slice A n c, .int .i64 i] w fun e w' => ∃ u, e = .returned (.string u) ∧ (wordB u = true ∧ levW word u ≤ L) ∧ Gr w w' := by
  have HAT : Hid (∀ (z : Int) W, 0 ≤ z → z ≤ 1000000 → Gr w W → Calls Try.prog 24 #[.slice A n c, .int .i64 z] W fun e w' => e = .returned (.int .u32 (atV xs z.toNat)) ∧ w' = W) := fun z W h0 h1 g => at_any xs A n c z W (hr.gr g) hn ⟨h0, h1⟩
  have HX := hid hx
  have HW := hid hw
  have HS : Hid (wordB word = true ∧ levW word word ≤ 0) := ⟨hw, by rw [levW_self]; exact Nat.le_refl _⟩
  clear hr hx hw
  go_enter Try.func43, Try.ntmps43
  go_wp2
  go_loopg [0, 14] L (fun gg s0 s14 wr => ∃ (k : Nat) (u : ByteArray), k ≤ L ∧ L - k ≤ gg ∧ s0 = .string u ∧ s14 = .int .i64 k ∧ Gr w wr ∧ Hid (wordB u = true ∧ levW word u ≤ k))
  case atStart => exact ⟨0, word, by omega, by omega, rfl, rfl, Gr.refl w, HS⟩
  case round =>
    clear HS
    obtain ⟨k, u, hk, hg, rfl, rfl, BW, HU⟩ := hrel
    by_cases hlt : k < L
    · have i1 : (k : Int) < L := by omega
      have hx1 := atV_range HX.out (i + 2 * (k : Int)).toNat
      have hx2 := atV_range HX.out (i + 2 * (k : Int) + 1).toNat
      have H1 : Hid (∀ W, Gr w W → Calls Try.prog 24 #[.slice A n c, .int .i64 (i + 2 * (k : Int))] W fun e w' => e = .returned (.int .u32 (atV xs (i + 2 * (k : Int)).toNat)) ∧ w' = W) := fun W g => HAT.out _ W (by omega) (by omega) g
      have H2 : Hid (∀ W, Gr w W → Calls Try.prog 24 #[.slice A n c, .int .i64 (i + 2 * (k : Int) + 1)] W fun e w' => e = .returned (.int .u32 (atV xs (i + 2 * (k : Int) + 1).toNat)) ∧ w' = W) := fun W g => HAT.out _ W (by omega) (by omega) g
      generalize atV xs (i + 2 * (k : Int)).toNat = x1 at hx1 H1
      generalize atV xs (i + 2 * (k : Int) + 1).toNat = x2 at hx2 H2
      obtain ⟨X1, rfl⟩ : ∃ X : Nat, x1 = (X : Int) := ⟨x1.toNat, by omega⟩
      obtain ⟨X2, rfl⟩ : ∃ X : Nat, x2 = (X : Int) := ⟨x2.toNat, by omega⟩
      have hsz := ((wordB_iff u).1 HU.out.1).1
      have hq1 : Int.tdiv (X1 : Int) 4 = ((X1 / 4 : Nat) : Int) := by rw [Int.tdiv_eq_ediv_of_nonneg (by omega)]; omega
      have hq2 : (X1 : Int) / 4 = ((X1 / 4 : Nat) : Int) := by omega
      have hq3 : IntKind.i64.wrap (Int.tdiv (X1 : Int) 4) = ((X1 / 4 : Nat) : Int) := by rw [hq1]; exact IntWalk.i64_in _ (by omega)
      have hm1 : Int.tmod (X1 : Int) 4 = ((X1 % 4 : Nat) : Int) := by rw [Int.tmod_eq_emod_of_nonneg (by omega)]; omega
      have hm2 : (X1 : Int) % 4 = ((X1 % 4 : Nat) : Int) := by omega
      have hm3 : IntKind.i64.wrap (Int.tmod (X1 : Int) 4) = ((X1 % 4 : Nat) : Int) := by rw [hm1]; exact IntWalk.i64_in _ (by omega)
      have hd1 : Int.tmod (X2 : Int) 26 = ((X2 % 26 : Nat) : Int) := by rw [Int.tmod_eq_emod_of_nonneg (by omega)]; omega
      have hd2 : (X2 : Int) % 26 = ((X2 % 26 : Nat) : Int) := by omega
      have hd3 : IntKind.u32.wrap (Int.tmod (X2 : Int) 26) = ((X2 % 26 : Nat) : Int) := by rw [hd1]; exact IntWalk.u32_in _ (by omega)
      have hQ : X1 / 4 ≤ 1073741823 := by omega
      have hM : X1 % 4 = 0 ∨ X1 % 4 = 1 ∨ X1 % 4 = 2 ∨ X1 % 4 = 3 := by omega
      have hD : X2 % 26 ≤ 25 := by omega
      generalize X1 / 4 = Q at hq1 hq2 hq3 hQ
      generalize X1 % 4 = M at hm1 hm2 hm3 hM
      generalize X2 % 26 = D at hd1 hd2 hd3 hD
      have hr1 : Int.tmod (Q : Int) ((u.size : Int) + 1) = ((Q % (u.size + 1) : Nat) : Int) := by rw [Int.tmod_eq_emod_of_nonneg (by omega)]; simp
      have hr2 : (Q : Int) % ((u.size : Int) + 1) = ((Q % (u.size + 1) : Nat) : Int) := by simp
      have hP : Q % (u.size + 1) ≤ u.size := Nat.lt_succ_iff.1 (Nat.mod_lt _ (by omega))
      have hr3 : IntKind.i64.wrap (Int.tmod (Q : Int) ((u.size : Int) + 1)) = ((Q % (u.size + 1) : Nat) : Int) := by rw [hr1]; generalize Q % (u.size + 1) = z at hP ⊢; exact IntWalk.i64_in _ (by omega)
      generalize Q % (u.size + 1) = p at hr1 hr2 hr3 hP
      have n1 : ¬ ((u.size : Int) + 1 = 0) := by omega
      have n2 : (p : Int) ≤ u.size := by omega
      have n3 : (0 : Int) ≤ p := by omega
      have HC : Hid (Letter (Utf8.encode (65 + (D : Int)))) := letter_encode (by omega)
      have e1 := size_extract u 0 p hP
      have e2 := size_extract u p u.size (Nat.le_refl _)
      have e3 := HC.out.1
      rcases hM with rfl | rfl | rfl | rfl
      · by_cases h20 : u.size < 20
        · have n4 : (u.size : Int) < 20 := by omega
          have a1 := add_run (u.extract 0 p) (Utf8.encode (65 + (D : Int))) (by omega)
          have a2 := add_run (u.extract 0 p ++ Utf8.encode (65 + (D : Int))) (u.extract p u.size) (by rw [ByteArray.size_append]; omega)
          clear e1 e2 e3
          go_wp2_with (first | (go_at_call 24; (with_reducible refine (H1.out _ BW).mono ?_); rotate_right; rintro e w' ⟨rfl, rfl⟩) | (go_at_call 24; (with_reducible refine (H2.out _ BW).mono ?_); rotate_right; rintro e w' ⟨rfl, rfl⟩))
          go_quiet (fail)
          go_wp2
          go_roundg (L - (k + 1))
          case measure => omega
          case rel => exact ⟨k + 1, _, by omega, by omega, rfl, by go_num, BW.drewN _, ⟨(word_put HU.out.1 HC.out hP h20).1, lev_more HU.out.2 (word_put HU.out.1 HC.out hP h20).2⟩⟩
        · have n4 : ¬ (u.size : Int) < 20 := by omega
          clear e1 e2 e3
          go_wp2_with (first | (go_at_call 24; (with_reducible refine (H1.out _ BW).mono ?_); rotate_right; rintro e w' ⟨rfl, rfl⟩) | (go_at_call 24; (with_reducible refine (H2.out _ BW).mono ?_); rotate_right; rintro e w' ⟨rfl, rfl⟩))
          go_roundg (L - (k + 1))
          case measure => omega
          case rel => exact ⟨k + 1, _, by omega, by omega, rfl, by go_num, BW, ⟨HU.out.1, Nat.le_succ_of_le HU.out.2⟩⟩
      · by_cases h1 : 1 < u.size
        · have n4 : (1 : Int) < (u.size : Int) := by omega
          by_cases hp : p < u.size
          · have n5 : (p : Int) < (u.size : Int) := by omega
            have e4 := size_extract u (p + 1) u.size (Nat.le_refl _)
            have a1 := add_run (u.extract 0 p) (u.extract (p + 1) u.size) (by omega)
            clear e4
            clear e1 e2 e3
            go_wp2_with (first | (go_at_call 24; (with_reducible refine (H1.out _ BW).mono ?_); rotate_right; rintro e w' ⟨rfl, rfl⟩) | (go_at_call 24; (with_reducible refine (H2.out _ BW).mono ?_); rotate_right; rintro e w' ⟨rfl, rfl⟩))
            go_quiet (fail)
            go_wp2
            go_roundg (L - (k + 1))
            case measure => omega
            case rel => exact ⟨k + 1, _, by omega, by omega, rfl, by go_num, BW.drewN _, ⟨(word_take HU.out.1 hp h1).1, lev_more HU.out.2 (word_take HU.out.1 hp h1).2⟩⟩
          · have n5 : ¬ (p : Int) < (u.size : Int) := by omega
            clear e1 e2 e3
            go_wp2_with (first | (go_at_call 24; (with_reducible refine (H1.out _ BW).mono ?_); rotate_right; rintro e w' ⟨rfl, rfl⟩) | (go_at_call 24; (with_reducible refine (H2.out _ BW).mono ?_); rotate_right; rintro e w' ⟨rfl, rfl⟩))
            go_roundg (L - (k + 1))
            case measure => omega
            case rel => exact ⟨k + 1, _, by omega, by omega, rfl, by go_num, BW, ⟨HU.out.1, Nat.le_succ_of_le HU.out.2⟩⟩
        · have n4 : ¬ (1 : Int) < (u.size : Int) := by omega
          clear e1 e2 e3
          go_wp2_with (first | (go_at_call 24; (with_reducible refine (H1.out _ BW).mono ?_); rotate_right; rintro e w' ⟨rfl, rfl⟩) | (go_at_call 24; (with_reducible refine (H2.out _ BW).mono ?_); rotate_right; rintro e w' ⟨rfl, rfl⟩))
          go_roundg (L - (k + 1))
          case measure => omega
          case rel => exact ⟨k + 1, _, by omega, by omega, rfl, by go_num, BW, ⟨HU.out.1, Nat.le_succ_of_le HU.out.2⟩⟩
      · by_cases hp : p < u.size
        · have n5 : (p : Int) < (u.size : Int) := by omega
          have e4 := size_extract u (p + 1) u.size (Nat.le_refl _)
          have a1 := add_run (u.extract 0 p) (Utf8.encode (65 + (D : Int))) (by omega)
          have a2 := add_run (u.extract 0 p ++ Utf8.encode (65 + (D : Int))) (u.extract (p + 1) u.size) (by rw [ByteArray.size_append]; omega)
          clear e4
          clear e1 e2 e3
          go_wp2_with (first | (go_at_call 24; (with_reducible refine (H1.out _ BW).mono ?_); rotate_right; rintro e w' ⟨rfl, rfl⟩) | (go_at_call 24; (with_reducible refine (H2.out _ BW).mono ?_); rotate_right; rintro e w' ⟨rfl, rfl⟩))
          go_quiet (fail)
          go_wp2
          go_roundg (L - (k + 1))
          case measure => omega
          case rel => exact ⟨k + 1, _, by omega, by omega, rfl, by go_num, BW.drewN _, ⟨(word_change HU.out.1 HC.out hp).1, lev_more HU.out.2 (word_change HU.out.1 HC.out hp).2⟩⟩
        · have n5 : ¬ (p : Int) < (u.size : Int) := by omega
          clear e1 e2 e3
          go_wp2_with (first | (go_at_call 24; (with_reducible refine (H1.out _ BW).mono ?_); rotate_right; rintro e w' ⟨rfl, rfl⟩) | (go_at_call 24; (with_reducible refine (H2.out _ BW).mono ?_); rotate_right; rintro e w' ⟨rfl, rfl⟩))
          go_roundg (L - (k + 1))
          case measure => omega
          case rel => exact ⟨k + 1, _, by omega, by omega, rfl, by go_num, BW, ⟨HU.out.1, Nat.le_succ_of_le HU.out.2⟩⟩
      · skip
        clear e1 e2 e3
        go_wp2_with (first | (go_at_call 24; (with_reducible refine (H1.out _ BW).mono ?_); rotate_right; rintro e w' ⟨rfl, rfl⟩) | (go_at_call 24; (with_reducible refine (H2.out _ BW).mono ?_); rotate_right; rintro e w' ⟨rfl, rfl⟩))
        go_roundg (L - (k + 1))
        case measure => omega
        case rel => exact ⟨k + 1, _, by omega, by omega, rfl, by go_num, BW, ⟨HU.out.1, Nat.le_succ_of_le HU.out.2⟩⟩
    · obtain rfl : k = L := by omega
      go_wp2
      go_ret
      exact ⟨u, rfl, HU.out, BW⟩
end Go.Proofs.Ytlkjimfkapcenaa
