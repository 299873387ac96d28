/- recorded of the package match: whether a record is valid. For every record. -/
import Derived.Test.YtlkjimfkapcenaaStays
import Derived.Test.YtlkjimfkapcenaaSlStr
import Derived.Test.YtlkjimfkapcenaaMade
namespace Go.Proofs.Ytlkjimfkapcenaa
open Go.RowKit

/-- A record, apart from where its slices lie. -/
structure Rcd where
  id : Int
  names : List ByteArray
  suffix : Int
  lo : Int
  hi : Int
  number : ByteArray
  twin : Bool
  stays : List Sty
/-- The value of a record whose slices lie there. -/
def Rcd.val (r : Rcd) (A : Option Addr) (n c : Nat) (B : Option Addr) (m d : Nat) : Value :=
  .agg #[.int .i64 r.id, .slice A n c, .int .u8 r.suffix, .int .i64 r.lo, .int .i64 r.hi, .string r.number, .bool r.twin, .slice B m d]
/-- The slices hold the names and the stays, and nothing is longer than Go lets it. -/
structure Rcd.In (r : Rcd) (w : World) (A : Option Addr) (n : Nat) (B : Option Addr) (m : Nat) : Prop where
  names : Rd w 1 A n (r.names.map Value.string)
  stays : Rd w 3 B m (r.stays.flatMap Sty.cells)
  nbig : n ≤ 9223372036854775807
  mbig : m ≤ 9223372036854775807
  words : ∀ s ∈ r.names, s.size ≤ maxLen
  number : r.number.size ≤ maxLen
theorem Rcd.In.gr {r : Rcd} {w w' : World} {A : Option Addr} {n : Nat} {B : Option Addr} {m : Nat} (h : r.In w A n B m) (g : Gr w w') : r.In w' A n B m :=
  ⟨h.names.gr g, h.stays.gr g, h.nbig, h.mbig, h.words, h.number⟩
theorem Rcd.In.nlen {r : Rcd} {w : World} {A : Option Addr} {n : Nat} {B : Option Addr} {m : Nat} (h : r.In w A n B m) : r.names.length = n := by
  simpa using h.names.len
theorem Rcd.In.mlen {r : Rcd} {w : World} {A : Option Addr} {n : Nat} {B : Option Addr} {m : Nat} (h : r.In w A n B m) : r.stays.length = m := by
  have := h.stays.len
  rw [flatMap_len Sty.len] at this
  omega

/-- A word. -/
def wordB (s : ByteArray) : Bool := inB 1 20 s.size && madeB s 65 90
/-- Whether a record is valid. -/
def Rcd.ok (r : Rcd) : Bool :=
  inB 0 999999 r.id && inB 1 5 r.names.length && r.names.all wordB && decide (r.suffix ≤ 2) && ((inB 0 100000 r.lo && inB 0 100000 r.hi) && decide (r.lo ≤ r.hi)) && decide (r.stays.length ≤ 6) && r.stays.all Sty.ok &&
    (decide (r.number.size = 0) || decide (r.number.size = 9)) && madeB r.number 48 57

theorem recorded1_any (s : ByteArray) (w : World) (hs : s.size ≤ maxLen) :
    Calls Try.prog 51 #[.string s] w fun e w' => e = .returned (.bool (!wordB s)) ∧ Gr w w' := by
  unfold wordB
  obtain ⟨b1, h1⟩ : ∃ b, inB 1 20 s.size = b := ⟨_, rfl⟩
  obtain ⟨b2, h2⟩ : ∃ b, madeB s 65 90 = b := ⟨_, rfl⟩
  have HM := hid (fun W => made_any s 65 90 W hs)
  rw [h1, h2]
  rw [h2] at HM
  have H1 := hid h1
  clear h1 h2 hs
  go_enter Try.func51, Try.ntmps51
  go_wp2_with (first
    | (go_at_call 30; (with_reducible refine (within_one 1 20 s.size b1 H1.out _ _ _ ?_ ?_).mono ?_); rotate_right; rintro e w1 ⟨rfl, hbw1⟩; obtain ⟨hcw1, hfw1, hzw1⟩ := hbw1.rules; (try simp at hzw1); have hzw1_0 : w.heap.size < w1.heap.size := (by omega); have hyw1_0 : w.heap.size ≤ w1.heap.size := (by omega))
    | (go_at_call 52; (with_reducible refine (HM.out _).mono ?_); rotate_right; rintro e w' ⟨rfl, rfl⟩))
  all_goals first
    | (simp; done)
    | (go_ret
       refine ⟨by (simp_all; done), ?_⟩
       (repeat (first | with_reducible exact Gr.refl _ | with_reducible refine Gr.trans ?_ hbw1 | with_reducible refine Gr.alloc ?_ _ | with_reducible refine Gr.setCell ?_ (by simp) _ | with_reducible refine Gr.setCell ?_ (by simp; omega) _ | with_reducible refine Gr.drew ?_ | with_reducible refine Gr.drewN ?_ _)))

set_option maxHeartbeats 4000000 in
theorem recorded_any (r : Rcd) (A : Option Addr) (n c : Nat) (B : Option Addr) (m d : Nat) (w : World) (hr : r.In w A n B m) :
    Calls Try.prog 34 #[r.val A n c B m d] w fun e w' => e = .returned (.bool r.ok) ∧ Gr w w' := by
  have hn := hr.nlen
  have hm := hr.mlen
  have hnb := hr.nbig
  have hmb := hr.mbig
  obtain ⟨id, names, suf, lo, hi, num, tw, stays⟩ := r
  unfold Rcd.val Rcd.ok
  dsimp only at hn hm ⊢
  rw [hn, hm]
  obtain ⟨b1, h1⟩ : ∃ b, inB 0 999999 id = b := ⟨_, rfl⟩
  obtain ⟨b2, h2⟩ : ∃ b, inB 1 5 n = b := ⟨_, rfl⟩
  obtain ⟨b3, h3⟩ : ∃ b, names.all wordB = b := ⟨_, rfl⟩
  obtain ⟨b4, h4⟩ : ∃ b, (inB 0 100000 lo && inB 0 100000 hi) = b := ⟨_, rfl⟩
  obtain ⟨b5, h5⟩ : ∃ b, stays.all Sty.ok = b := ⟨_, rfl⟩
  obtain ⟨b6, h6⟩ : ∃ b, madeB num 48 57 = b := ⟨_, rfl⟩
  rw [h1, h2, h3, h4, h5, h6]
  have H1 := hid h1
  have H2 := hid h2
  have H4 := hid h4
  have HN : Hid (∀ W, Gr w W → Calls Try.prog 54 #[.slice A n c, .func (.func 51) #[] #[]] W fun e w' => e = .returned (.bool (!b3)) ∧ Gr W w') := by
    intro W hW
    rw [← h3, show (!names.all wordB) = names.any (fun s => !wordB s) by simp [List.any_eq_not_all_not]]
    exact containsFunc_str 51 #[] (enters_of Try.func51 (by kernel_rfl) rfl) _ A n c names W (fun W' x hx _ => recorded1_any x W' (hr.words x hx)) (hr.names.gr hW) (by omega)
  have HS : Hid (∀ W, Gr w W → Calls Try.prog 55 #[.slice B m d, .func (.func 53) #[] #[]] W fun e w' => e = .returned (.bool (!b5)) ∧ Gr W w') := by
    intro W hW
    rw [← h5, show (!stays.all Sty.ok) = stays.any (fun s => !s.ok) by simp [List.any_eq_not_all_not]]
    exact containsFunc_sty 53 #[] (enters_of Try.func53 (by kernel_rfl) rfl) _ B m d stays W (fun W' x _ _ => recorded2_any x W') (hr.stays.gr hW) (by omega)
  have HM : Hid (∀ W, Calls Try.prog 52 #[.string num, .int .u8 48, .int .u8 57] W fun e w' => e = .returned (.bool b6) ∧ W = w') := fun W => h6 ▸ made_any num 48 57 W hr.number
  have HS0 := hid (toList_nil num)
  clear h1 h2 h3 h4 h5 h6 hr hn hm hnb
  have hmb' : (m : Int) ≤ 9223372036854775807 := by omega
  clear hmb
  cases b1 with
  | false =>
    go_enter Try.func34, Try.ntmps34
    go_wp2_with (first
      | (go_at_call 30; (with_reducible refine (within_one 0 999999 id _ H1.out _ _ _ ?_ ?_).mono ?_); rotate_right; rintro e w1 ⟨rfl, hbw1⟩; obtain ⟨hcw1, hfw1, hzw1⟩ := hbw1.rules; (try simp at hzw1); have hzw1_0 : w.heap.size < w1.heap.size := (by omega); have hyw1_0 : w.heap.size ≤ w1.heap.size := (by omega))
      | (go_at_call 30; (with_reducible refine (within_one 1 5 n _ H2.out _ _ _ ?_ ?_).mono ?_); rotate_right; rintro e w2 ⟨rfl, hbw2⟩; obtain ⟨hcw2, hfw2, hzw2⟩ := hbw2.rules; (try simp at hzw2); have hzw2_0 : w.heap.size < w2.heap.size := (by omega); have hyw2_0 : w.heap.size ≤ w2.heap.size := (by omega))
      | (go_at_call 54; (with_reducible refine (HN.out _ ?_).mono ?_); rotate_right; rintro e w3 ⟨rfl, hbw3⟩; obtain ⟨hcw3, hfw3, hzw3⟩ := hbw3.rules; (try simp at hzw3); have hzw3_0 : w.heap.size < w3.heap.size := (by omega); have hyw3_0 : w.heap.size ≤ w3.heap.size := (by omega))
      | (go_at_call 30; (with_reducible refine (within_two 0 100000 lo hi _ H4.out _ _ _ ?_ ?_ ?_).mono ?_); rotate_right; rintro e w4 ⟨rfl, hbw4⟩; obtain ⟨hcw4, hfw4, hzw4⟩ := hbw4.rules; (try simp at hzw4); have hzw4_0 : w.heap.size < w4.heap.size := (by omega); have hyw4_0 : w.heap.size ≤ w4.heap.size := (by omega))
      | (go_at_call 55; (with_reducible refine (HS.out _ ?_).mono ?_); rotate_right; rintro e w5 ⟨rfl, hbw5⟩; obtain ⟨hcw5, hfw5, hzw5⟩ := hbw5.rules; (try simp at hzw5); have hzw5_0 : w.heap.size < w5.heap.size := (by omega); have hyw5_0 : w.heap.size ≤ w5.heap.size := (by omega))
      | (go_at_call 52; (with_reducible refine (HM.out _).mono ?_); rotate_right; rintro e w' ⟨rfl, rfl⟩))
    all_goals first
      | (simp; done)
      | (go_ret
         refine ⟨by simp, ?_⟩
         (repeat (first | with_reducible exact Gr.refl _ | with_reducible refine Gr.trans ?_ hbw5 | with_reducible refine Gr.trans ?_ hbw4 | with_reducible refine Gr.trans ?_ hbw3 | with_reducible refine Gr.trans ?_ hbw2 | with_reducible refine Gr.trans ?_ hbw1 | with_reducible refine Gr.alloc ?_ _ | with_reducible refine Gr.setCell ?_ (by simp) _ | with_reducible refine Gr.setCell ?_ (by simp; omega) _ | with_reducible refine Gr.drew ?_ | with_reducible refine Gr.drewN ?_ _)))
      | ((repeat (first | with_reducible exact Gr.refl _ | with_reducible refine Gr.trans ?_ hbw5 | with_reducible refine Gr.trans ?_ hbw4 | with_reducible refine Gr.trans ?_ hbw3 | with_reducible refine Gr.trans ?_ hbw2 | with_reducible refine Gr.trans ?_ hbw1 | with_reducible refine Gr.alloc ?_ _ | with_reducible refine Gr.setCell ?_ (by simp) _ | with_reducible refine Gr.setCell ?_ (by simp; omega) _ | with_reducible refine Gr.drew ?_ | with_reducible refine Gr.drewN ?_ _)); done)
  | true =>
    cases b2 with
    | false =>
      go_enter Try.func34, Try.ntmps34
      go_wp2_with (first
        | (go_at_call 30; (with_reducible refine (within_one 0 999999 id _ H1.out _ _ _ ?_ ?_).mono ?_); rotate_right; rintro e w1 ⟨rfl, hbw1⟩; obtain ⟨hcw1, hfw1, hzw1⟩ := hbw1.rules; (try simp at hzw1); have hzw1_0 : w.heap.size < w1.heap.size := (by omega); have hyw1_0 : w.heap.size ≤ w1.heap.size := (by omega))
        | (go_at_call 30; (with_reducible refine (within_one 1 5 n _ H2.out _ _ _ ?_ ?_).mono ?_); rotate_right; rintro e w2 ⟨rfl, hbw2⟩; obtain ⟨hcw2, hfw2, hzw2⟩ := hbw2.rules; (try simp at hzw2); have hzw2_0 : w.heap.size < w2.heap.size := (by omega); have hyw2_0 : w.heap.size ≤ w2.heap.size := (by omega))
        | (go_at_call 54; (with_reducible refine (HN.out _ ?_).mono ?_); rotate_right; rintro e w3 ⟨rfl, hbw3⟩; obtain ⟨hcw3, hfw3, hzw3⟩ := hbw3.rules; (try simp at hzw3); have hzw3_0 : w.heap.size < w3.heap.size := (by omega); have hyw3_0 : w.heap.size ≤ w3.heap.size := (by omega))
        | (go_at_call 30; (with_reducible refine (within_two 0 100000 lo hi _ H4.out _ _ _ ?_ ?_ ?_).mono ?_); rotate_right; rintro e w4 ⟨rfl, hbw4⟩; obtain ⟨hcw4, hfw4, hzw4⟩ := hbw4.rules; (try simp at hzw4); have hzw4_0 : w.heap.size < w4.heap.size := (by omega); have hyw4_0 : w.heap.size ≤ w4.heap.size := (by omega))
        | (go_at_call 55; (with_reducible refine (HS.out _ ?_).mono ?_); rotate_right; rintro e w5 ⟨rfl, hbw5⟩; obtain ⟨hcw5, hfw5, hzw5⟩ := hbw5.rules; (try simp at hzw5); have hzw5_0 : w.heap.size < w5.heap.size := (by omega); have hyw5_0 : w.heap.size ≤ w5.heap.size := (by omega))
        | (go_at_call 52; (with_reducible refine (HM.out _).mono ?_); rotate_right; rintro e w' ⟨rfl, rfl⟩))
      all_goals first
        | (simp; done)
        | (go_ret
           refine ⟨by simp, ?_⟩
           (repeat (first | with_reducible exact Gr.refl _ | with_reducible refine Gr.trans ?_ hbw5 | with_reducible refine Gr.trans ?_ hbw4 | with_reducible refine Gr.trans ?_ hbw3 | with_reducible refine Gr.trans ?_ hbw2 | with_reducible refine Gr.trans ?_ hbw1 | with_reducible refine Gr.alloc ?_ _ | with_reducible refine Gr.setCell ?_ (by simp) _ | with_reducible refine Gr.setCell ?_ (by simp; omega) _ | with_reducible refine Gr.drew ?_ | with_reducible refine Gr.drewN ?_ _)))
        | ((repeat (first | with_reducible exact Gr.refl _ | with_reducible refine Gr.trans ?_ hbw5 | with_reducible refine Gr.trans ?_ hbw4 | with_reducible refine Gr.trans ?_ hbw3 | with_reducible refine Gr.trans ?_ hbw2 | with_reducible refine Gr.trans ?_ hbw1 | with_reducible refine Gr.alloc ?_ _ | with_reducible refine Gr.setCell ?_ (by simp) _ | with_reducible refine Gr.setCell ?_ (by simp; omega) _ | with_reducible refine Gr.drew ?_ | with_reducible refine Gr.drewN ?_ _)); done)
    | true =>
      cases b3 with
      | false =>
        go_enter Try.func34, Try.ntmps34
        go_wp2_with (first
          | (go_at_call 30; (with_reducible refine (within_one 0 999999 id _ H1.out _ _ _ ?_ ?_).mono ?_); rotate_right; rintro e w1 ⟨rfl, hbw1⟩; obtain ⟨hcw1, hfw1, hzw1⟩ := hbw1.rules; (try simp at hzw1); have hzw1_0 : w.heap.size < w1.heap.size := (by omega); have hyw1_0 : w.heap.size ≤ w1.heap.size := (by omega))
          | (go_at_call 30; (with_reducible refine (within_one 1 5 n _ H2.out _ _ _ ?_ ?_).mono ?_); rotate_right; rintro e w2 ⟨rfl, hbw2⟩; obtain ⟨hcw2, hfw2, hzw2⟩ := hbw2.rules; (try simp at hzw2); have hzw2_0 : w.heap.size < w2.heap.size := (by omega); have hyw2_0 : w.heap.size ≤ w2.heap.size := (by omega))
          | (go_at_call 54; (with_reducible refine (HN.out _ ?_).mono ?_); rotate_right; rintro e w3 ⟨rfl, hbw3⟩; obtain ⟨hcw3, hfw3, hzw3⟩ := hbw3.rules; (try simp at hzw3); have hzw3_0 : w.heap.size < w3.heap.size := (by omega); have hyw3_0 : w.heap.size ≤ w3.heap.size := (by omega))
          | (go_at_call 30; (with_reducible refine (within_two 0 100000 lo hi _ H4.out _ _ _ ?_ ?_ ?_).mono ?_); rotate_right; rintro e w4 ⟨rfl, hbw4⟩; obtain ⟨hcw4, hfw4, hzw4⟩ := hbw4.rules; (try simp at hzw4); have hzw4_0 : w.heap.size < w4.heap.size := (by omega); have hyw4_0 : w.heap.size ≤ w4.heap.size := (by omega))
          | (go_at_call 55; (with_reducible refine (HS.out _ ?_).mono ?_); rotate_right; rintro e w5 ⟨rfl, hbw5⟩; obtain ⟨hcw5, hfw5, hzw5⟩ := hbw5.rules; (try simp at hzw5); have hzw5_0 : w.heap.size < w5.heap.size := (by omega); have hyw5_0 : w.heap.size ≤ w5.heap.size := (by omega))
          | (go_at_call 52; (with_reducible refine (HM.out _).mono ?_); rotate_right; rintro e w' ⟨rfl, rfl⟩))
        all_goals first
          | (simp; done)
          | (go_ret
             refine ⟨by simp, ?_⟩
             (repeat (first | with_reducible exact Gr.refl _ | with_reducible refine Gr.trans ?_ hbw5 | with_reducible refine Gr.trans ?_ hbw4 | with_reducible refine Gr.trans ?_ hbw3 | with_reducible refine Gr.trans ?_ hbw2 | with_reducible refine Gr.trans ?_ hbw1 | with_reducible refine Gr.alloc ?_ _ | with_reducible refine Gr.setCell ?_ (by simp) _ | with_reducible refine Gr.setCell ?_ (by simp; omega) _ | with_reducible refine Gr.drew ?_ | with_reducible refine Gr.drewN ?_ _)))
          | ((repeat (first | with_reducible exact Gr.refl _ | with_reducible refine Gr.trans ?_ hbw5 | with_reducible refine Gr.trans ?_ hbw4 | with_reducible refine Gr.trans ?_ hbw3 | with_reducible refine Gr.trans ?_ hbw2 | with_reducible refine Gr.trans ?_ hbw1 | with_reducible refine Gr.alloc ?_ _ | with_reducible refine Gr.setCell ?_ (by simp) _ | with_reducible refine Gr.setCell ?_ (by simp; omega) _ | with_reducible refine Gr.drew ?_ | with_reducible refine Gr.drewN ?_ _)); done)
      | true =>
        by_cases g1 : suf ≤ 2
        case neg =>
          rw [show decide (suf ≤ 2) = false by simpa using g1]
          have g1' : 2 < suf := by omega
          clear g1
          go_enter Try.func34, Try.ntmps34
          go_wp2_with (first
            | (go_at_call 30; (with_reducible refine (within_one 0 999999 id _ H1.out _ _ _ ?_ ?_).mono ?_); rotate_right; rintro e w1 ⟨rfl, hbw1⟩; obtain ⟨hcw1, hfw1, hzw1⟩ := hbw1.rules; (try simp at hzw1); have hzw1_0 : w.heap.size < w1.heap.size := (by omega); have hyw1_0 : w.heap.size ≤ w1.heap.size := (by omega))
            | (go_at_call 30; (with_reducible refine (within_one 1 5 n _ H2.out _ _ _ ?_ ?_).mono ?_); rotate_right; rintro e w2 ⟨rfl, hbw2⟩; obtain ⟨hcw2, hfw2, hzw2⟩ := hbw2.rules; (try simp at hzw2); have hzw2_0 : w.heap.size < w2.heap.size := (by omega); have hyw2_0 : w.heap.size ≤ w2.heap.size := (by omega))
            | (go_at_call 54; (with_reducible refine (HN.out _ ?_).mono ?_); rotate_right; rintro e w3 ⟨rfl, hbw3⟩; obtain ⟨hcw3, hfw3, hzw3⟩ := hbw3.rules; (try simp at hzw3); have hzw3_0 : w.heap.size < w3.heap.size := (by omega); have hyw3_0 : w.heap.size ≤ w3.heap.size := (by omega))
            | (go_at_call 30; (with_reducible refine (within_two 0 100000 lo hi _ H4.out _ _ _ ?_ ?_ ?_).mono ?_); rotate_right; rintro e w4 ⟨rfl, hbw4⟩; obtain ⟨hcw4, hfw4, hzw4⟩ := hbw4.rules; (try simp at hzw4); have hzw4_0 : w.heap.size < w4.heap.size := (by omega); have hyw4_0 : w.heap.size ≤ w4.heap.size := (by omega))
            | (go_at_call 55; (with_reducible refine (HS.out _ ?_).mono ?_); rotate_right; rintro e w5 ⟨rfl, hbw5⟩; obtain ⟨hcw5, hfw5, hzw5⟩ := hbw5.rules; (try simp at hzw5); have hzw5_0 : w.heap.size < w5.heap.size := (by omega); have hyw5_0 : w.heap.size ≤ w5.heap.size := (by omega))
            | (go_at_call 52; (with_reducible refine (HM.out _).mono ?_); rotate_right; rintro e w' ⟨rfl, rfl⟩))
          all_goals first
            | (simp; done)
            | (go_ret
               refine ⟨by simp, ?_⟩
               (repeat (first | with_reducible exact Gr.refl _ | with_reducible refine Gr.trans ?_ hbw5 | with_reducible refine Gr.trans ?_ hbw4 | with_reducible refine Gr.trans ?_ hbw3 | with_reducible refine Gr.trans ?_ hbw2 | with_reducible refine Gr.trans ?_ hbw1 | with_reducible refine Gr.alloc ?_ _ | with_reducible refine Gr.setCell ?_ (by simp) _ | with_reducible refine Gr.setCell ?_ (by simp; omega) _ | with_reducible refine Gr.drew ?_ | with_reducible refine Gr.drewN ?_ _)))
            | ((repeat (first | with_reducible exact Gr.refl _ | with_reducible refine Gr.trans ?_ hbw5 | with_reducible refine Gr.trans ?_ hbw4 | with_reducible refine Gr.trans ?_ hbw3 | with_reducible refine Gr.trans ?_ hbw2 | with_reducible refine Gr.trans ?_ hbw1 | with_reducible refine Gr.alloc ?_ _ | with_reducible refine Gr.setCell ?_ (by simp) _ | with_reducible refine Gr.setCell ?_ (by simp; omega) _ | with_reducible refine Gr.drew ?_ | with_reducible refine Gr.drewN ?_ _)); done)
        case pos =>
          rw [show decide (suf ≤ 2) = true by simpa using g1]
          cases b4 with
          | false =>
            go_enter Try.func34, Try.ntmps34
            go_wp2_with (first
              | (go_at_call 30; (with_reducible refine (within_one 0 999999 id _ H1.out _ _ _ ?_ ?_).mono ?_); rotate_right; rintro e w1 ⟨rfl, hbw1⟩; obtain ⟨hcw1, hfw1, hzw1⟩ := hbw1.rules; (try simp at hzw1); have hzw1_0 : w.heap.size < w1.heap.size := (by omega); have hyw1_0 : w.heap.size ≤ w1.heap.size := (by omega))
              | (go_at_call 30; (with_reducible refine (within_one 1 5 n _ H2.out _ _ _ ?_ ?_).mono ?_); rotate_right; rintro e w2 ⟨rfl, hbw2⟩; obtain ⟨hcw2, hfw2, hzw2⟩ := hbw2.rules; (try simp at hzw2); have hzw2_0 : w.heap.size < w2.heap.size := (by omega); have hyw2_0 : w.heap.size ≤ w2.heap.size := (by omega))
              | (go_at_call 54; (with_reducible refine (HN.out _ ?_).mono ?_); rotate_right; rintro e w3 ⟨rfl, hbw3⟩; obtain ⟨hcw3, hfw3, hzw3⟩ := hbw3.rules; (try simp at hzw3); have hzw3_0 : w.heap.size < w3.heap.size := (by omega); have hyw3_0 : w.heap.size ≤ w3.heap.size := (by omega))
              | (go_at_call 30; (with_reducible refine (within_two 0 100000 lo hi _ H4.out _ _ _ ?_ ?_ ?_).mono ?_); rotate_right; rintro e w4 ⟨rfl, hbw4⟩; obtain ⟨hcw4, hfw4, hzw4⟩ := hbw4.rules; (try simp at hzw4); have hzw4_0 : w.heap.size < w4.heap.size := (by omega); have hyw4_0 : w.heap.size ≤ w4.heap.size := (by omega))
              | (go_at_call 55; (with_reducible refine (HS.out _ ?_).mono ?_); rotate_right; rintro e w5 ⟨rfl, hbw5⟩; obtain ⟨hcw5, hfw5, hzw5⟩ := hbw5.rules; (try simp at hzw5); have hzw5_0 : w.heap.size < w5.heap.size := (by omega); have hyw5_0 : w.heap.size ≤ w5.heap.size := (by omega))
              | (go_at_call 52; (with_reducible refine (HM.out _).mono ?_); rotate_right; rintro e w' ⟨rfl, rfl⟩))
            all_goals first
              | (simp; done)
              | (go_ret
                 refine ⟨by simp, ?_⟩
                 (repeat (first | with_reducible exact Gr.refl _ | with_reducible refine Gr.trans ?_ hbw5 | with_reducible refine Gr.trans ?_ hbw4 | with_reducible refine Gr.trans ?_ hbw3 | with_reducible refine Gr.trans ?_ hbw2 | with_reducible refine Gr.trans ?_ hbw1 | with_reducible refine Gr.alloc ?_ _ | with_reducible refine Gr.setCell ?_ (by simp) _ | with_reducible refine Gr.setCell ?_ (by simp; omega) _ | with_reducible refine Gr.drew ?_ | with_reducible refine Gr.drewN ?_ _)))
              | ((repeat (first | with_reducible exact Gr.refl _ | with_reducible refine Gr.trans ?_ hbw5 | with_reducible refine Gr.trans ?_ hbw4 | with_reducible refine Gr.trans ?_ hbw3 | with_reducible refine Gr.trans ?_ hbw2 | with_reducible refine Gr.trans ?_ hbw1 | with_reducible refine Gr.alloc ?_ _ | with_reducible refine Gr.setCell ?_ (by simp) _ | with_reducible refine Gr.setCell ?_ (by simp; omega) _ | with_reducible refine Gr.drew ?_ | with_reducible refine Gr.drewN ?_ _)); done)
          | true =>
            by_cases g2 : lo ≤ hi
            case neg =>
              rw [show decide (lo ≤ hi) = false by simpa using g2]
              have g2' : hi < lo := by omega
              clear g2
              go_enter Try.func34, Try.ntmps34
              go_wp2_with (first
                | (go_at_call 30; (with_reducible refine (within_one 0 999999 id _ H1.out _ _ _ ?_ ?_).mono ?_); rotate_right; rintro e w1 ⟨rfl, hbw1⟩; obtain ⟨hcw1, hfw1, hzw1⟩ := hbw1.rules; (try simp at hzw1); have hzw1_0 : w.heap.size < w1.heap.size := (by omega); have hyw1_0 : w.heap.size ≤ w1.heap.size := (by omega))
                | (go_at_call 30; (with_reducible refine (within_one 1 5 n _ H2.out _ _ _ ?_ ?_).mono ?_); rotate_right; rintro e w2 ⟨rfl, hbw2⟩; obtain ⟨hcw2, hfw2, hzw2⟩ := hbw2.rules; (try simp at hzw2); have hzw2_0 : w.heap.size < w2.heap.size := (by omega); have hyw2_0 : w.heap.size ≤ w2.heap.size := (by omega))
                | (go_at_call 54; (with_reducible refine (HN.out _ ?_).mono ?_); rotate_right; rintro e w3 ⟨rfl, hbw3⟩; obtain ⟨hcw3, hfw3, hzw3⟩ := hbw3.rules; (try simp at hzw3); have hzw3_0 : w.heap.size < w3.heap.size := (by omega); have hyw3_0 : w.heap.size ≤ w3.heap.size := (by omega))
                | (go_at_call 30; (with_reducible refine (within_two 0 100000 lo hi _ H4.out _ _ _ ?_ ?_ ?_).mono ?_); rotate_right; rintro e w4 ⟨rfl, hbw4⟩; obtain ⟨hcw4, hfw4, hzw4⟩ := hbw4.rules; (try simp at hzw4); have hzw4_0 : w.heap.size < w4.heap.size := (by omega); have hyw4_0 : w.heap.size ≤ w4.heap.size := (by omega))
                | (go_at_call 55; (with_reducible refine (HS.out _ ?_).mono ?_); rotate_right; rintro e w5 ⟨rfl, hbw5⟩; obtain ⟨hcw5, hfw5, hzw5⟩ := hbw5.rules; (try simp at hzw5); have hzw5_0 : w.heap.size < w5.heap.size := (by omega); have hyw5_0 : w.heap.size ≤ w5.heap.size := (by omega))
                | (go_at_call 52; (with_reducible refine (HM.out _).mono ?_); rotate_right; rintro e w' ⟨rfl, rfl⟩))
              all_goals first
                | (simp; done)
                | (go_ret
                   refine ⟨by simp, ?_⟩
                   (repeat (first | with_reducible exact Gr.refl _ | with_reducible refine Gr.trans ?_ hbw5 | with_reducible refine Gr.trans ?_ hbw4 | with_reducible refine Gr.trans ?_ hbw3 | with_reducible refine Gr.trans ?_ hbw2 | with_reducible refine Gr.trans ?_ hbw1 | with_reducible refine Gr.alloc ?_ _ | with_reducible refine Gr.setCell ?_ (by simp) _ | with_reducible refine Gr.setCell ?_ (by simp; omega) _ | with_reducible refine Gr.drew ?_ | with_reducible refine Gr.drewN ?_ _)))
                | ((repeat (first | with_reducible exact Gr.refl _ | with_reducible refine Gr.trans ?_ hbw5 | with_reducible refine Gr.trans ?_ hbw4 | with_reducible refine Gr.trans ?_ hbw3 | with_reducible refine Gr.trans ?_ hbw2 | with_reducible refine Gr.trans ?_ hbw1 | with_reducible refine Gr.alloc ?_ _ | with_reducible refine Gr.setCell ?_ (by simp) _ | with_reducible refine Gr.setCell ?_ (by simp; omega) _ | with_reducible refine Gr.drew ?_ | with_reducible refine Gr.drewN ?_ _)); done)
            case pos =>
              rw [show decide (lo ≤ hi) = true by simpa using g2]
              by_cases g3 : m ≤ 6
              case neg =>
                rw [show decide (m ≤ 6) = false by simpa using g3]
                have g3' : (6 : Int) < m := by omega
                clear g3
                go_enter Try.func34, Try.ntmps34
                go_wp2_with (first
                  | (go_at_call 30; (with_reducible refine (within_one 0 999999 id _ H1.out _ _ _ ?_ ?_).mono ?_); rotate_right; rintro e w1 ⟨rfl, hbw1⟩; obtain ⟨hcw1, hfw1, hzw1⟩ := hbw1.rules; (try simp at hzw1); have hzw1_0 : w.heap.size < w1.heap.size := (by omega); have hyw1_0 : w.heap.size ≤ w1.heap.size := (by omega))
                  | (go_at_call 30; (with_reducible refine (within_one 1 5 n _ H2.out _ _ _ ?_ ?_).mono ?_); rotate_right; rintro e w2 ⟨rfl, hbw2⟩; obtain ⟨hcw2, hfw2, hzw2⟩ := hbw2.rules; (try simp at hzw2); have hzw2_0 : w.heap.size < w2.heap.size := (by omega); have hyw2_0 : w.heap.size ≤ w2.heap.size := (by omega))
                  | (go_at_call 54; (with_reducible refine (HN.out _ ?_).mono ?_); rotate_right; rintro e w3 ⟨rfl, hbw3⟩; obtain ⟨hcw3, hfw3, hzw3⟩ := hbw3.rules; (try simp at hzw3); have hzw3_0 : w.heap.size < w3.heap.size := (by omega); have hyw3_0 : w.heap.size ≤ w3.heap.size := (by omega))
                  | (go_at_call 30; (with_reducible refine (within_two 0 100000 lo hi _ H4.out _ _ _ ?_ ?_ ?_).mono ?_); rotate_right; rintro e w4 ⟨rfl, hbw4⟩; obtain ⟨hcw4, hfw4, hzw4⟩ := hbw4.rules; (try simp at hzw4); have hzw4_0 : w.heap.size < w4.heap.size := (by omega); have hyw4_0 : w.heap.size ≤ w4.heap.size := (by omega))
                  | (go_at_call 55; (with_reducible refine (HS.out _ ?_).mono ?_); rotate_right; rintro e w5 ⟨rfl, hbw5⟩; obtain ⟨hcw5, hfw5, hzw5⟩ := hbw5.rules; (try simp at hzw5); have hzw5_0 : w.heap.size < w5.heap.size := (by omega); have hyw5_0 : w.heap.size ≤ w5.heap.size := (by omega))
                  | (go_at_call 52; (with_reducible refine (HM.out _).mono ?_); rotate_right; rintro e w' ⟨rfl, rfl⟩))
                all_goals first
                  | (simp; done)
                  | (go_ret
                     refine ⟨by simp, ?_⟩
                     (repeat (first | with_reducible exact Gr.refl _ | with_reducible refine Gr.trans ?_ hbw5 | with_reducible refine Gr.trans ?_ hbw4 | with_reducible refine Gr.trans ?_ hbw3 | with_reducible refine Gr.trans ?_ hbw2 | with_reducible refine Gr.trans ?_ hbw1 | with_reducible refine Gr.alloc ?_ _ | with_reducible refine Gr.setCell ?_ (by simp) _ | with_reducible refine Gr.setCell ?_ (by simp; omega) _ | with_reducible refine Gr.drew ?_ | with_reducible refine Gr.drewN ?_ _)))
                  | ((repeat (first | with_reducible exact Gr.refl _ | with_reducible refine Gr.trans ?_ hbw5 | with_reducible refine Gr.trans ?_ hbw4 | with_reducible refine Gr.trans ?_ hbw3 | with_reducible refine Gr.trans ?_ hbw2 | with_reducible refine Gr.trans ?_ hbw1 | with_reducible refine Gr.alloc ?_ _ | with_reducible refine Gr.setCell ?_ (by simp) _ | with_reducible refine Gr.setCell ?_ (by simp; omega) _ | with_reducible refine Gr.drew ?_ | with_reducible refine Gr.drewN ?_ _)); done)
              case pos =>
                rw [show decide (m ≤ 6) = true by simpa using g3]
                have g3' : (m : Int) ≤ 6 := by omega
                clear g3
                cases b5 with
                | false =>
                  go_enter Try.func34, Try.ntmps34
                  go_wp2_with (first
                    | (go_at_call 30; (with_reducible refine (within_one 0 999999 id _ H1.out _ _ _ ?_ ?_).mono ?_); rotate_right; rintro e w1 ⟨rfl, hbw1⟩; obtain ⟨hcw1, hfw1, hzw1⟩ := hbw1.rules; (try simp at hzw1); have hzw1_0 : w.heap.size < w1.heap.size := (by omega); have hyw1_0 : w.heap.size ≤ w1.heap.size := (by omega))
                    | (go_at_call 30; (with_reducible refine (within_one 1 5 n _ H2.out _ _ _ ?_ ?_).mono ?_); rotate_right; rintro e w2 ⟨rfl, hbw2⟩; obtain ⟨hcw2, hfw2, hzw2⟩ := hbw2.rules; (try simp at hzw2); have hzw2_0 : w.heap.size < w2.heap.size := (by omega); have hyw2_0 : w.heap.size ≤ w2.heap.size := (by omega))
                    | (go_at_call 54; (with_reducible refine (HN.out _ ?_).mono ?_); rotate_right; rintro e w3 ⟨rfl, hbw3⟩; obtain ⟨hcw3, hfw3, hzw3⟩ := hbw3.rules; (try simp at hzw3); have hzw3_0 : w.heap.size < w3.heap.size := (by omega); have hyw3_0 : w.heap.size ≤ w3.heap.size := (by omega))
                    | (go_at_call 30; (with_reducible refine (within_two 0 100000 lo hi _ H4.out _ _ _ ?_ ?_ ?_).mono ?_); rotate_right; rintro e w4 ⟨rfl, hbw4⟩; obtain ⟨hcw4, hfw4, hzw4⟩ := hbw4.rules; (try simp at hzw4); have hzw4_0 : w.heap.size < w4.heap.size := (by omega); have hyw4_0 : w.heap.size ≤ w4.heap.size := (by omega))
                    | (go_at_call 55; (with_reducible refine (HS.out _ ?_).mono ?_); rotate_right; rintro e w5 ⟨rfl, hbw5⟩; obtain ⟨hcw5, hfw5, hzw5⟩ := hbw5.rules; (try simp at hzw5); have hzw5_0 : w.heap.size < w5.heap.size := (by omega); have hyw5_0 : w.heap.size ≤ w5.heap.size := (by omega))
                    | (go_at_call 52; (with_reducible refine (HM.out _).mono ?_); rotate_right; rintro e w' ⟨rfl, rfl⟩))
                  all_goals first
                    | (simp; done)
                    | (go_ret
                       refine ⟨by simp, ?_⟩
                       (repeat (first | with_reducible exact Gr.refl _ | with_reducible refine Gr.trans ?_ hbw5 | with_reducible refine Gr.trans ?_ hbw4 | with_reducible refine Gr.trans ?_ hbw3 | with_reducible refine Gr.trans ?_ hbw2 | with_reducible refine Gr.trans ?_ hbw1 | with_reducible refine Gr.alloc ?_ _ | with_reducible refine Gr.setCell ?_ (by simp) _ | with_reducible refine Gr.setCell ?_ (by simp; omega) _ | with_reducible refine Gr.drew ?_ | with_reducible refine Gr.drewN ?_ _)))
                    | ((repeat (first | with_reducible exact Gr.refl _ | with_reducible refine Gr.trans ?_ hbw5 | with_reducible refine Gr.trans ?_ hbw4 | with_reducible refine Gr.trans ?_ hbw3 | with_reducible refine Gr.trans ?_ hbw2 | with_reducible refine Gr.trans ?_ hbw1 | with_reducible refine Gr.alloc ?_ _ | with_reducible refine Gr.setCell ?_ (by simp) _ | with_reducible refine Gr.setCell ?_ (by simp; omega) _ | with_reducible refine Gr.drew ?_ | with_reducible refine Gr.drewN ?_ _)); done)
                | true =>
                  go_enter Try.func34, Try.ntmps34
                  go_wp2_with (first
                    | (go_at_call 30; (with_reducible refine (within_one 0 999999 id _ H1.out _ _ _ ?_ ?_).mono ?_); rotate_right; rintro e w1 ⟨rfl, hbw1⟩; obtain ⟨hcw1, hfw1, hzw1⟩ := hbw1.rules; (try simp at hzw1); have hzw1_0 : w.heap.size < w1.heap.size := (by omega); have hyw1_0 : w.heap.size ≤ w1.heap.size := (by omega))
                    | (go_at_call 30; (with_reducible refine (within_one 1 5 n _ H2.out _ _ _ ?_ ?_).mono ?_); rotate_right; rintro e w2 ⟨rfl, hbw2⟩; obtain ⟨hcw2, hfw2, hzw2⟩ := hbw2.rules; (try simp at hzw2); have hzw2_0 : w.heap.size < w2.heap.size := (by omega); have hyw2_0 : w.heap.size ≤ w2.heap.size := (by omega))
                    | (go_at_call 54; (with_reducible refine (HN.out _ ?_).mono ?_); rotate_right; rintro e w3 ⟨rfl, hbw3⟩; obtain ⟨hcw3, hfw3, hzw3⟩ := hbw3.rules; (try simp at hzw3); have hzw3_0 : w.heap.size < w3.heap.size := (by omega); have hyw3_0 : w.heap.size ≤ w3.heap.size := (by omega))
                    | (go_at_call 30; (with_reducible refine (within_two 0 100000 lo hi _ H4.out _ _ _ ?_ ?_ ?_).mono ?_); rotate_right; rintro e w4 ⟨rfl, hbw4⟩; obtain ⟨hcw4, hfw4, hzw4⟩ := hbw4.rules; (try simp at hzw4); have hzw4_0 : w.heap.size < w4.heap.size := (by omega); have hyw4_0 : w.heap.size ≤ w4.heap.size := (by omega))
                    | (go_at_call 55; (with_reducible refine (HS.out _ ?_).mono ?_); rotate_right; rintro e w5 ⟨rfl, hbw5⟩; obtain ⟨hcw5, hfw5, hzw5⟩ := hbw5.rules; (try simp at hzw5); have hzw5_0 : w.heap.size < w5.heap.size := (by omega); have hyw5_0 : w.heap.size ≤ w5.heap.size := (by omega))
                    | (go_at_call 52; (with_reducible refine (HM.out _).mono ?_); rotate_right; rintro e w' ⟨rfl, rfl⟩))
                  all_goals first
                    | (simp; done)
                    | (go_ret
                       refine ⟨?_, ?_⟩
                       rotate_left
                       (repeat (first | with_reducible exact Gr.refl _ | with_reducible refine Gr.trans ?_ hbw5 | with_reducible refine Gr.trans ?_ hbw4 | with_reducible refine Gr.trans ?_ hbw3 | with_reducible refine Gr.trans ?_ hbw2 | with_reducible refine Gr.trans ?_ hbw1 | with_reducible refine Gr.alloc ?_ _ | with_reducible refine Gr.setCell ?_ (by simp) _ | with_reducible refine Gr.setCell ?_ (by simp; omega) _ | with_reducible refine Gr.drew ?_ | with_reducible refine Gr.drewN ?_ _))
                       first
                         | (have h0 : num.toList = [] := by assumption
                            rw [show decide (num.size = 0) = true by simpa using HS0.out.1 h0]
                            simp; done)
                         | (have h0 : ¬ num.toList = [] := by assumption
                            have h9 : (num.size : Int) = 9 := by assumption
                            rw [show decide (num.size = 9) = true by simp; omega]
                            simp; done)
                         | (have h0 : ¬ num.toList = [] := by assumption
                            have h9 : ¬ (num.size : Int) = 9 := by assumption
                            rw [show decide (num.size = 9) = false by simp; omega, show decide (num.size = 0) = false by simpa using fun h => h0 (HS0.out.2 h)]
                            simp; done))
                    | ((repeat (first | with_reducible exact Gr.refl _ | with_reducible refine Gr.trans ?_ hbw5 | with_reducible refine Gr.trans ?_ hbw4 | with_reducible refine Gr.trans ?_ hbw3 | with_reducible refine Gr.trans ?_ hbw2 | with_reducible refine Gr.trans ?_ hbw1 | with_reducible refine Gr.alloc ?_ _ | with_reducible refine Gr.setCell ?_ (by simp) _ | with_reducible refine Gr.setCell ?_ (by simp; omega) _ | with_reducible refine Gr.drew ?_ | with_reducible refine Gr.drewN ?_ _)); done)
end Go.Proofs.Ytlkjimfkapcenaa
