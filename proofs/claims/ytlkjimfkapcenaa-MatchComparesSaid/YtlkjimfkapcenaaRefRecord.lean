/- Record of the reference: whether a record is valid. For every record. -/
import Derived.Test.YtlkjimfkapcenaaRecorded
namespace Go.Proofs.Ytlkjimfkapcenaa
open Go.RowKit

theorem all_false_of {α : Type} [Inhabited α] {p : α → Bool} {l : List α} {k : Nat} (hk : k < l.length) (h : p l[k]! = false) : l.all p = false := by
  rw [List.all_eq_false]
  exact ⟨l[k]!, mem_get hk, by rw [h]; simp⟩
theorem all_true_of {α : Type} [Inhabited α] {p : α → Bool} {l : List α} (h : ∀ j, j < l.length → p l[j]! = true) : l.all p = true := by
  rw [List.all_eq_true]
  intro x hx
  obtain ⟨j, hj, rfl⟩ := List.getElem_of_mem hx
  have := h j hj
  rwa [getElem!_pos l j hj] at this

theorem Sty.ok_ref (p f t : Int) : Sty.ok ⟨p, f, t⟩ = (inB 0 99999 p && inB 0 100000 f && inB f 100000 t) := by
  unfold Sty.ok inB; rw [Bool.eq_iff_iff]; simp; omega

set_option maxHeartbeats 4000000 in
theorem refRecord_any (r : Rcd) (A : Option Addr) (n c : Nat) (B : Option Addr) (m d : Nat) (w : World) (hr : r.In w A n B m) :
    Calls Try.prog 22 #[r.val A n c B m d] w fun e w' => e = .returned (.bool r.ok) ∧ Gr w w' := by
  have hn := hr.nlen
  have hm := hr.mlen
  have hnb := hr.nbig
  have hmb := hr.mbig
  obtain ⟨id, names, suf, lo, hi, num, tw, stays⟩ := r
  unfold Rcd.val Rcd.ok
  dsimp only at hn hm ⊢
  rw [hn, hm]
  have HN := hid hn
  have HM := hid hm
  have HR := hid hr
  have HS0 := hid (toList_nil num)
  clear hr
  have hnb' : (n : Int) ≤ 9223372036854775807 := by omega
  have hmb' : (m : Int) ≤ 9223372036854775807 := by omega
  clear hn hm hnb hmb
  obtain ⟨b1, h1⟩ : ∃ b, inB 0 999999 id = b := ⟨_, rfl⟩
  obtain ⟨b2, h2⟩ : ∃ b, inB 1 5 n = b := ⟨_, rfl⟩
  obtain ⟨b4, h4⟩ : ∃ b, (inB 0 100000 lo && inB 0 100000 hi && decide (lo ≤ hi)) = b := ⟨_, rfl⟩
  rw [show ((inB 0 100000 lo && inB 0 100000 hi) && decide (lo ≤ hi)) = b4 from h4, h1, h2]
  have H1 := hid h1
  have H2 := hid h2
  have H4 := hid h4
  clear h1 h2 h4
  cases b1 with
  | false =>
    go_enter Try.func22, Try.ntmps22
    go_wp2_with (first
      | (go_at_call 40; (with_reducible refine (refWithin_any id 0 999999 _ H1.out _).mono ?_); rotate_right; rintro e w' ⟨rfl, rfl⟩)
      | (go_at_call 40; (with_reducible refine (refWithin_any n 1 5 _ H2.out _).mono ?_); rotate_right; rintro e w' ⟨rfl, rfl⟩)
      | (go_at_call 41; (with_reducible refine (refSpanned_any lo hi 0 100000 _ H4.out _).mono ?_); rotate_right; rintro e w1 ⟨rfl, hbw1⟩; obtain ⟨hcw1, hfw1, hzw1⟩ := hbw1.rules; (try simp at hzw1); have hzw1_0 : w.heap.size < w1.heap.size := (by omega); have hyw1_0 : w.heap.size ≤ w1.heap.size := (by omega)))
    go_ret
    refine ⟨by simp, ?_⟩
    (repeat (first | with_reducible exact Gr.refl _ | with_reducible refine Gr.trans ?_ hbw1 | with_reducible refine Gr.alloc ?_ _ | with_reducible refine Gr.setCell ?_ (by simp) _ | with_reducible refine Gr.setCell ?_ (by simp; omega) _ | with_reducible refine Gr.drew ?_ | with_reducible refine Gr.drewN ?_ _))
  | true =>
    cases b2 with
    | false =>
      go_enter Try.func22, Try.ntmps22
      go_wp2_with (first
        | (go_at_call 40; (with_reducible refine (refWithin_any id 0 999999 _ H1.out _).mono ?_); rotate_right; rintro e w' ⟨rfl, rfl⟩)
        | (go_at_call 40; (with_reducible refine (refWithin_any n 1 5 _ H2.out _).mono ?_); rotate_right; rintro e w' ⟨rfl, rfl⟩)
        | (go_at_call 41; (with_reducible refine (refSpanned_any lo hi 0 100000 _ H4.out _).mono ?_); rotate_right; rintro e w1 ⟨rfl, hbw1⟩; obtain ⟨hcw1, hfw1, hzw1⟩ := hbw1.rules; (try simp at hzw1); have hzw1_0 : w.heap.size < w1.heap.size := (by omega); have hyw1_0 : w.heap.size ≤ w1.heap.size := (by omega)))
      go_ret
      refine ⟨by simp, ?_⟩
      (repeat (first | with_reducible exact Gr.refl _ | with_reducible refine Gr.trans ?_ hbw1 | with_reducible refine Gr.alloc ?_ _ | with_reducible refine Gr.setCell ?_ (by simp) _ | with_reducible refine Gr.setCell ?_ (by simp; omega) _ | with_reducible refine Gr.drew ?_ | with_reducible refine Gr.drewN ?_ _))
    | true =>
      by_cases g1 : suf ≤ 2
      case neg =>
        rw [show decide (suf ≤ 2) = false by simpa using g1]
        have g1n : 2 < suf := by omega
        clear g1
        go_enter Try.func22, Try.ntmps22
        go_wp2_with (first
          | (go_at_call 40; (with_reducible refine (refWithin_any id 0 999999 _ H1.out _).mono ?_); rotate_right; rintro e w' ⟨rfl, rfl⟩)
          | (go_at_call 40; (with_reducible refine (refWithin_any n 1 5 _ H2.out _).mono ?_); rotate_right; rintro e w' ⟨rfl, rfl⟩)
          | (go_at_call 41; (with_reducible refine (refSpanned_any lo hi 0 100000 _ H4.out _).mono ?_); rotate_right; rintro e w1 ⟨rfl, hbw1⟩; obtain ⟨hcw1, hfw1, hzw1⟩ := hbw1.rules; (try simp at hzw1); have hzw1_0 : w.heap.size < w1.heap.size := (by omega); have hyw1_0 : w.heap.size ≤ w1.heap.size := (by omega)))
        go_ret
        refine ⟨by simp, ?_⟩
        (repeat (first | with_reducible exact Gr.refl _ | with_reducible refine Gr.trans ?_ hbw1 | with_reducible refine Gr.alloc ?_ _ | with_reducible refine Gr.setCell ?_ (by simp) _ | with_reducible refine Gr.setCell ?_ (by simp; omega) _ | with_reducible refine Gr.drew ?_ | with_reducible refine Gr.drewN ?_ _))
      case pos =>
        rw [show decide (suf ≤ 2) = true by simpa using g1]
        have g1p : suf ≤ 2 := by omega
        clear g1
        cases b4 with
        | false =>
          go_enter Try.func22, Try.ntmps22
          go_wp2_with (first
            | (go_at_call 40; (with_reducible refine (refWithin_any id 0 999999 _ H1.out _).mono ?_); rotate_right; rintro e w' ⟨rfl, rfl⟩)
            | (go_at_call 40; (with_reducible refine (refWithin_any n 1 5 _ H2.out _).mono ?_); rotate_right; rintro e w' ⟨rfl, rfl⟩)
            | (go_at_call 41; (with_reducible refine (refSpanned_any lo hi 0 100000 _ H4.out _).mono ?_); rotate_right; rintro e w1 ⟨rfl, hbw1⟩; obtain ⟨hcw1, hfw1, hzw1⟩ := hbw1.rules; (try simp at hzw1); have hzw1_0 : w.heap.size < w1.heap.size := (by omega); have hyw1_0 : w.heap.size ≤ w1.heap.size := (by omega)))
          go_ret
          refine ⟨by simp, ?_⟩
          (repeat (first | with_reducible exact Gr.refl _ | with_reducible refine Gr.trans ?_ hbw1 | with_reducible refine Gr.alloc ?_ _ | with_reducible refine Gr.setCell ?_ (by simp) _ | with_reducible refine Gr.setCell ?_ (by simp; omega) _ | with_reducible refine Gr.drew ?_ | with_reducible refine Gr.drewN ?_ _))
        | true =>
          by_cases g3 : m ≤ 6
          case neg =>
            rw [show decide (m ≤ 6) = false by simpa using g3]
            have g3n : (6 : Int) < m := by omega
            clear g3
            go_enter Try.func22, Try.ntmps22
            go_wp2_with (first
              | (go_at_call 40; (with_reducible refine (refWithin_any id 0 999999 _ H1.out _).mono ?_); rotate_right; rintro e w' ⟨rfl, rfl⟩)
              | (go_at_call 40; (with_reducible refine (refWithin_any n 1 5 _ H2.out _).mono ?_); rotate_right; rintro e w' ⟨rfl, rfl⟩)
              | (go_at_call 41; (with_reducible refine (refSpanned_any lo hi 0 100000 _ H4.out _).mono ?_); rotate_right; rintro e w1 ⟨rfl, hbw1⟩; obtain ⟨hcw1, hfw1, hzw1⟩ := hbw1.rules; (try simp at hzw1); have hzw1_0 : w.heap.size < w1.heap.size := (by omega); have hyw1_0 : w.heap.size ≤ w1.heap.size := (by omega)))
            go_ret
            refine ⟨by simp, ?_⟩
            (repeat (first | with_reducible exact Gr.refl _ | with_reducible refine Gr.trans ?_ hbw1 | with_reducible refine Gr.alloc ?_ _ | with_reducible refine Gr.setCell ?_ (by simp) _ | with_reducible refine Gr.setCell ?_ (by simp; omega) _ | with_reducible refine Gr.drew ?_ | with_reducible refine Gr.drewN ?_ _))
          case pos =>
            rw [show decide (m ≤ 6) = true by simpa using g3]
            have g3p : (m : Int) ≤ 6 := by omega
            clear g3
            simp only [Bool.true_and, Bool.and_true]
            go_enter Try.func22, Try.ntmps22
            go_wp2_with (first
              | (go_at_call 40; (with_reducible refine (refWithin_any id 0 999999 _ H1.out _).mono ?_); rotate_right; rintro e w' ⟨rfl, rfl⟩)
              | (go_at_call 40; (with_reducible refine (refWithin_any n 1 5 _ H2.out _).mono ?_); rotate_right; rintro e w' ⟨rfl, rfl⟩)
              | (go_at_call 41; (with_reducible refine (refSpanned_any lo hi 0 100000 _ H4.out _).mono ?_); rotate_right; rintro e w1 ⟨rfl, hbw1⟩; obtain ⟨hcw1, hfw1, hzw1⟩ := hbw1.rules; (try simp at hzw1); have hzw1_0 : w.heap.size < w1.heap.size := (by omega); have hyw1_0 : w.heap.size ≤ w1.heap.size := (by omega)))
            have hg1 : Gr w w1 := by
              (repeat (first | with_reducible exact Gr.refl _ | with_reducible refine Gr.trans ?_ hbw1 | with_reducible refine Gr.alloc ?_ _ | with_reducible refine Gr.setCell ?_ (by simp) _ | with_reducible refine Gr.setCell ?_ (by simp; omega) _ | with_reducible refine Gr.drew ?_ | with_reducible refine Gr.drewN ?_ _))
            have hbx : w1.cell? ⟨w.heap.size, 1, none⟩ = some (.slice A n c) := by rw [hcw1 _ _ (by simp)]; simp
            have hbx4 : w1.cell? ⟨w.heap.size, 5, none⟩ = some (.string num) := by rw [hcw1 _ _ (by simp)]; simp
            have hbx6 : w1.cell? ⟨w.heap.size, 7, none⟩ = some (.slice B m d) := by rw [hcw1 _ _ (by simp)]; simp
            have HG1 := hid hg1
            have HZ := hid hzw1_0
            clear hcw1 hfw1 hzw1 hyw1_0 hbw1 hg1 hzw1_0
            go_loop [3] (fun i => ∃ k : Nat, k ≤ n ∧ i = .int .i64 k ∧ Hid (∀ j, j < k → wordB names[j]! = true)) (fun i => n - (intOf i).toNat)
            case atStart => exact ⟨0, Nat.zero_le _, rfl, fun j hj => absurd hj (Nat.not_lt_zero _)⟩
            case round =>
              obtain ⟨k, hk, rfl, HA⟩ := hrel
              by_cases hlt : k < n
              · have hlen : k < names.length := by have := HN.out; omega
                obtain ⟨b, off, rfl, hb, hc⟩ := ((HR.out.names).gr HG1.out).at_ (by omega)
                have hcell : w1.cell? ⟨b, off + k, none⟩ = some (.string names[k]!) := hc k _ (Rd.get hlen)
                have hsz : (names[k]!).size ≤ maxLen := HR.out.words _ (mem_get hlen)
                have HC := hid hc
                clear hc
                have HL := hid hlen
                clear hlen
                generalize hy : names[k]! = y at hcell hsz
                have HY := hid hy
                clear hy
                have HO := hid (fun W => refOf_any y 65 90 W hsz)
                have hsz' : (y.size : Int) ≤ 9223372036854775807 := by unfold maxLen at hsz; omega
                clear hsz
                obtain ⟨c1, k1⟩ : ∃ b, inB 1 20 y.size = b := ⟨_, rfl⟩
                obtain ⟨c2, k2⟩ : ∃ b, madeB y 65 90 = b := ⟨_, rfl⟩
                have HK : Hid (wordB y = (c1 && c2)) := by unfold Hid wordB; rw [k1, k2]
                rw [k2] at HO
                have K1 := hid k1
                clear k1 k2
                cases c1 with
                | false =>
                  go_wp2_with (first
                    | (go_at_call 40; (with_reducible refine (refWithin_any y.size 1 20 _ K1.out _).mono ?_); rotate_right; rintro e w' ⟨rfl, rfl⟩)
                    | (go_at_call 42; (with_reducible refine (HO.out _).mono ?_); rotate_right; rintro e w' ⟨rfl, rfl⟩))
                  go_ret
                  exact ⟨by rw [all_false_of HL.out (by rw [HY.out, HK.out]; rfl)]; simp, HG1.out⟩
                | true =>
                  cases c2 with
                  | false =>
                    go_wp2_with (first
                      | (go_at_call 40; (with_reducible refine (refWithin_any y.size 1 20 _ K1.out _).mono ?_); rotate_right; rintro e w' ⟨rfl, rfl⟩)
                      | (go_at_call 42; (with_reducible refine (HO.out _).mono ?_); rotate_right; rintro e w' ⟨rfl, rfl⟩))
                    go_ret
                    exact ⟨by rw [all_false_of HL.out (by rw [HY.out, HK.out]; rfl)]; simp, HG1.out⟩
                  | true =>
                    go_wp2_with (first
                      | (go_at_call 40; (with_reducible refine (refWithin_any y.size 1 20 _ K1.out _).mono ?_); rotate_right; rintro e w' ⟨rfl, rfl⟩)
                      | (go_at_call 42; (with_reducible refine (HO.out _).mono ?_); rotate_right; rintro e w' ⟨rfl, rfl⟩))
                    go_round
                    case rel => exact ⟨k + 1, by omega, by go_num, hid fun j hj => by
                      by_cases e : j = k
                      · subst e; rw [HY.out, HK.out]; rfl
                      · exact HA.out j (by omega)⟩
                    case measure => simp [intOf]; omega
              · have E3 := hid (all_true_of (l := names) (p := wordB) (fun j hj => HA.out j (by have := HN.out; omega)))
                clear HA
                have HO := hid (fun W => refOf_any num 48 57 W (show num.size ≤ maxLen from HR.out.number))
                by_cases z0 : num.size = 0
                · have EZ : Hid ((decide (num.size = 0) || decide (num.size = 9)) = true) := by unfold Hid; simp [z0]
                  obtain rfl : num = ByteArray.empty := ByteArray.size_eq_zero_iff.1 z0
                  clear z0
                  have E6 : Hid (madeB ByteArray.empty 48 57 = true) := rfl
                  rw [E6.out] at HO
                  go_wp2_with (first
                    | (go_at_call 42; (with_reducible refine (HO.out _).mono ?_); rotate_right; rintro e w' ⟨rfl, rfl⟩))
                  go_loopg [4] m (fun gg i wr => ∃ k : Nat, k ≤ m ∧ m - k ≤ gg ∧ i = .int .i64 k ∧ Gr w1 wr ∧ Hid (∀ j, j < k → Sty.ok stays[j]! = true))
                  case atStart => exact ⟨0, Nat.zero_le _, by omega, rfl, Gr.refl _, fun j hj => absurd hj (Nat.not_lt_zero _)⟩
                  case round =>
                    obtain ⟨k, hk, hg, rfl, BW, HB⟩ := hrel
                    have hq6 : wr.cell? ⟨w.heap.size, 7, none⟩ = some (.slice B m d) := by rw [BW.cell HZ.out]; exact hbx6
                    by_cases hlt : k < m
                    · obtain ⟨hlen, b, off, rfl, hb, hcell, hcell1, hcell2⟩ := (HR.out.stays.gr (HG1.out.trans BW)).sty hlt
                      have HL := hid hlen
                      clear hlen
                      dsimp only at hcell hcell1 hcell2 HL
                      generalize hy : stays[k]! = y at hcell hcell1 hcell2
                      have HY := hid hy
                      clear hy
                      obtain ⟨p, f, t⟩ := y
                      dsimp only at hcell hcell1 hcell2
                      obtain ⟨c1, k1⟩ : ∃ b, inB 0 99999 p = b := ⟨_, rfl⟩
                      obtain ⟨c2, k2⟩ : ∃ b, inB 0 100000 f = b := ⟨_, rfl⟩
                      obtain ⟨c3, k3⟩ : ∃ b, inB f 100000 t = b := ⟨_, rfl⟩
                      have HK : Hid (Sty.ok ⟨p, f, t⟩ = (c1 && c2 && c3)) := by unfold Hid; rw [Sty.ok_ref, k1, k2, k3]
                      have K1 := hid k1
                      have K2 := hid k2
                      have K3 := hid k3
                      clear k1 k2 k3
                      by_cases hc : (c1 && c2 && c3) = true
                      · simp only [Bool.and_eq_true] at hc
                        obtain ⟨⟨rfl, rfl⟩, rfl⟩ := hc
                        go_wp2_with (first
                          | (go_at_call 40; (with_reducible refine (refWithin_any p 0 99999 _ K1.out _).mono ?_); rotate_right; rintro e w' ⟨rfl, rfl⟩)
                          | (go_at_call 40; (with_reducible refine (refWithin_any f 0 100000 _ K2.out _).mono ?_); rotate_right; rintro e w' ⟨rfl, rfl⟩)
                          | (go_at_call 40; (with_reducible refine (refWithin_any t f 100000 _ K3.out _).mono ?_); rotate_right; rintro e w' ⟨rfl, rfl⟩))
                        go_roundg (m - (k + 1))
                        case measure => omega
                        case rel => exact ⟨k + 1, by omega, by omega, by go_num, BW.alloc _, hid fun j hj => by
                          by_cases e : j = k
                          · subst e; rw [HY.out, HK.out]; rfl
                          · exact HB.out j (by omega)⟩
                      · have HF : Hid (stays.all Sty.ok = false) := all_false_of HL.out (by rw [HY.out, HK.out]; simpa using hc)
                        have HC := hid hc
                        clear hc
                        go_wp2_with (first
                          | (go_at_call 40; (with_reducible refine (refWithin_any p 0 99999 _ K1.out _).mono ?_); rotate_right; rintro e w' ⟨rfl, rfl⟩)
                          | (go_at_call 40; (with_reducible refine (refWithin_any f 0 100000 _ K2.out _).mono ?_); rotate_right; rintro e w' ⟨rfl, rfl⟩)
                          | (go_at_call 40; (with_reducible refine (refWithin_any t f 100000 _ K3.out _).mono ?_); rotate_right; rintro e w' ⟨rfl, rfl⟩))
                        all_goals first
                          | (go_ret
                             exact ⟨by rw [HF.out]; simp, HG1.out.trans (BW.alloc _)⟩)
                          | (have e1 : c1 = true := by assumption
                             have e2 : c2 = true := by assumption
                             have e3 : (!c3) = false := by assumption
                             exact absurd (by rw [e1, e2]; simpa using e3) HC.out)
                    · go_wp2
                      go_ret
                      have E5 := all_true_of (l := stays) (p := Sty.ok) (fun j hj => HB.out j (by have := HM.out; omega))
                      exact ⟨by rw [E3.out, E5, E6.out, EZ.out]; rfl, HG1.out.trans BW⟩
                · have hne : ¬ num = ByteArray.empty := fun h => z0 (ByteArray.size_eq_zero_iff.2 h)
                  have hsz' : (num.size : Int) ≤ 9223372036854775807 := by have : num.size ≤ maxLen := HR.out.number; unfold maxLen at this; omega
                  by_cases z9 : num.size = 9
                  · have EZ : Hid ((decide (num.size = 0) || decide (num.size = 9)) = true) := by unfold Hid; simp [z9]
                    have h9 : (num.size : Int) = 9 := by omega
                    clear z9 z0
                    obtain ⟨c6, k6⟩ : ∃ b, madeB num 48 57 = b := ⟨_, rfl⟩
                    rw [k6] at HO
                    have E6 := hid k6
                    clear k6
                    cases c6 with
                    | false =>
                      go_wp2_with (first
                        | (go_at_call 42; (with_reducible refine (HO.out _).mono ?_); rotate_right; rintro e w' ⟨rfl, rfl⟩))
                      all_goals
                        go_ret
                        exact ⟨by rw [E6.out]; simp, HG1.out⟩
                    | true =>
                      go_wp2_with (first
                        | (go_at_call 42; (with_reducible refine (HO.out _).mono ?_); rotate_right; rintro e w' ⟨rfl, rfl⟩))
                      go_loopg [4] m (fun gg i wr => ∃ k : Nat, k ≤ m ∧ m - k ≤ gg ∧ i = .int .i64 k ∧ Gr w1 wr ∧ Hid (∀ j, j < k → Sty.ok stays[j]! = true))
                      case atStart => exact ⟨0, Nat.zero_le _, by omega, rfl, Gr.refl _, fun j hj => absurd hj (Nat.not_lt_zero _)⟩
                      case round =>
                        obtain ⟨k, hk, hg, rfl, BW, HB⟩ := hrel
                        have hq6 : wr.cell? ⟨w.heap.size, 7, none⟩ = some (.slice B m d) := by rw [BW.cell HZ.out]; exact hbx6
                        by_cases hlt : k < m
                        · obtain ⟨hlen, b, off, rfl, hb, hcell, hcell1, hcell2⟩ := (HR.out.stays.gr (HG1.out.trans BW)).sty hlt
                          have HL := hid hlen
                          clear hlen
                          dsimp only at hcell hcell1 hcell2 HL
                          generalize hy : stays[k]! = y at hcell hcell1 hcell2
                          have HY := hid hy
                          clear hy
                          obtain ⟨p, f, t⟩ := y
                          dsimp only at hcell hcell1 hcell2
                          obtain ⟨c1, k1⟩ : ∃ b, inB 0 99999 p = b := ⟨_, rfl⟩
                          obtain ⟨c2, k2⟩ : ∃ b, inB 0 100000 f = b := ⟨_, rfl⟩
                          obtain ⟨c3, k3⟩ : ∃ b, inB f 100000 t = b := ⟨_, rfl⟩
                          have HK : Hid (Sty.ok ⟨p, f, t⟩ = (c1 && c2 && c3)) := by unfold Hid; rw [Sty.ok_ref, k1, k2, k3]
                          have K1 := hid k1
                          have K2 := hid k2
                          have K3 := hid k3
                          clear k1 k2 k3
                          by_cases hc : (c1 && c2 && c3) = true
                          · simp only [Bool.and_eq_true] at hc
                            obtain ⟨⟨rfl, rfl⟩, rfl⟩ := hc
                            go_wp2_with (first
                              | (go_at_call 40; (with_reducible refine (refWithin_any p 0 99999 _ K1.out _).mono ?_); rotate_right; rintro e w' ⟨rfl, rfl⟩)
                              | (go_at_call 40; (with_reducible refine (refWithin_any f 0 100000 _ K2.out _).mono ?_); rotate_right; rintro e w' ⟨rfl, rfl⟩)
                              | (go_at_call 40; (with_reducible refine (refWithin_any t f 100000 _ K3.out _).mono ?_); rotate_right; rintro e w' ⟨rfl, rfl⟩))
                            go_roundg (m - (k + 1))
                            case measure => omega
                            case rel => exact ⟨k + 1, by omega, by omega, by go_num, BW.alloc _, hid fun j hj => by
                              by_cases e : j = k
                              · subst e; rw [HY.out, HK.out]; rfl
                              · exact HB.out j (by omega)⟩
                          · have HF : Hid (stays.all Sty.ok = false) := all_false_of HL.out (by rw [HY.out, HK.out]; simpa using hc)
                            have HC := hid hc
                            clear hc
                            go_wp2_with (first
                              | (go_at_call 40; (with_reducible refine (refWithin_any p 0 99999 _ K1.out _).mono ?_); rotate_right; rintro e w' ⟨rfl, rfl⟩)
                              | (go_at_call 40; (with_reducible refine (refWithin_any f 0 100000 _ K2.out _).mono ?_); rotate_right; rintro e w' ⟨rfl, rfl⟩)
                              | (go_at_call 40; (with_reducible refine (refWithin_any t f 100000 _ K3.out _).mono ?_); rotate_right; rintro e w' ⟨rfl, rfl⟩))
                            all_goals first
                              | (go_ret
                                 exact ⟨by rw [HF.out]; simp, HG1.out.trans (BW.alloc _)⟩)
                              | (have e1 : c1 = true := by assumption
                                 have e2 : c2 = true := by assumption
                                 have e3 : (!c3) = false := by assumption
                                 exact absurd (by rw [e1, e2]; simpa using e3) HC.out)
                        · go_wp2
                          go_ret
                          have E5 := all_true_of (l := stays) (p := Sty.ok) (fun j hj => HB.out j (by have := HM.out; omega))
                          exact ⟨by rw [E3.out, E5, E6.out, EZ.out]; rfl, HG1.out.trans BW⟩
                  · have EZ : Hid ((decide (num.size = 0) || decide (num.size = 9)) = false) := by unfold Hid; simpa using ⟨hne, z9⟩
                    have Z9 := hid z9
                    have h9 : ¬ (num.size : Int) = 9 := by omega
                    clear z9 z0
                    go_wp2_with (first
                      | (go_at_call 42; (with_reducible refine (HO.out _).mono ?_); rotate_right; rintro e w' ⟨rfl, rfl⟩))
                    all_goals
                      go_ret
                      exact ⟨by first | (rw [EZ.out]; simp; done) | (simp [Z9.out]; done) | (have z := Z9.out; simp_all; done), HG1.out⟩
end Go.Proofs.Ytlkjimfkapcenaa
