/- Edits of the package match and of its reference. For any two words. Whether two given names are alike, in the package match and in its reference. For all words. The closure of among, in the package match. For all words. The tests of the package match's list of verdicts. For all records and agreements. Whether two stays overlap by the days of together: the closure of the package match's places. For all valid stays. How much two records agree, as functions of plain data, and that it is the same with both exchanged. For all records. given of the reference: whether given names are some of others, in their order. For all words of one to twenty letters. The tests of the package match's list of verdicts that ask about twins. For all records and agreements. The edits of two words are a distance: plain arithmetic. For any words. The edits of two words, reckoned by steps that the kernel can take. For any words. -/
import Derived.Deep.LoopGhost
import Derived.Test.YtlkjimfkapcenaaQWithin
import Derived.Test.YtlkjimfkapcenaaQNumbers
import Derived.Test.YtlkjimfkapcenaaQRefEdits
import Derived.Test.YtlkjimfkapcenaaQEdits
import Derived.Test.YtlkjimfkapcenaaQBirths
import Derived.Test.YtlkjimfkapcenaaQRegGr
namespace Go.Proofs.Ytlkjimfkapcenaa
open Go.RowKit

/-- Whether both are words. -/
def edOk (a b : ByteArray) : Bool := inB 0 20 a.size && inB 0 20 b.size
/-- The edits, and the error. -/
def edN (a b : ByteArray) : Int := if edOk a b then lev a b a.size b.size else 0
def edE (a b : ByteArray) : Int := if edOk a b then 0 else 2

set_option maxHeartbeats 400000 in
theorem editsTop_any (a b : ByteArray) (w : World) (ha : a.size ≤ maxLen) (hb : b.size ≤ maxLen) :
    Calls Try.prog 13 #[.string a, .string b] w fun e w' => e = .returned (.tuple #[.int .i64 (edN a b), .int .i64 (edE a b)]) ∧ Gr w w' := by
  unfold maxLen at ha hb
  have ha' : (a.size : Int) ≤ 9223372036854775807 := by omega
  have hb' : (b.size : Int) ≤ 9223372036854775807 := by omega
  clear ha hb
  unfold edN edE
  cases h : edOk a b with
  | false =>
    have H := hid (show (inB 0 20 a.size && inB 0 20 b.size) = false from h)
    clear h
    go_enter Try.func13, Try.ntmps13
    go_wp2_with (first
      | (go_at_call 30; (with_reducible refine (within_two 0 20 a.size b.size _ H.out _ _ _ ?_ ?_ ?_).mono ?_); rotate_right; rintro e w1 ⟨rfl, hbw1⟩; obtain ⟨hcw1, hfw1, hzw1⟩ := hbw1.rules; (try simp at hzw1); have hzw1_0 : w.heap.size < w1.heap.size := (by omega); have hyw1_0 : w.heap.size ≤ w1.heap.size := (by omega)))
    all_goals first
      | (simp; done)
      | (go_ret2
         refine ⟨rfl, ?_⟩
         (repeat (first | with_reducible exact Gr.refl _ | with_reducible refine Gr.trans ?_ hbw1 | with_reducible refine Gr.alloc ?_ _ | with_reducible refine Gr.setCell ?_ (by simp) _ | with_reducible refine Gr.setCell ?_ (by simp; omega) _ | with_reducible refine Gr.drew ?_ | with_reducible refine Gr.drewN ?_ _)))
  | true =>
    have H := hid (show (inB 0 20 a.size && inB 0 20 b.size) = true from h)
    have HE := hid (fun W => edits_any a b W (by have := H.out; unfold inB at this; simp at this; omega) (by have := H.out; unfold inB at this; simp at this; omega))
    clear h
    go_enter Try.func13, Try.ntmps13
    go_wp2_with (first
      | (go_at_call 30; (with_reducible refine (within_two 0 20 a.size b.size _ H.out _ _ _ ?_ ?_ ?_).mono ?_); rotate_right; rintro e w1 ⟨rfl, hbw1⟩; obtain ⟨hcw1, hfw1, hzw1⟩ := hbw1.rules; (try simp at hzw1); have hzw1_0 : w.heap.size < w1.heap.size := (by omega); have hyw1_0 : w.heap.size ≤ w1.heap.size := (by omega))
      | (go_at_call 31; (with_reducible refine (HE.out _).mono ?_); rotate_right; rintro e w2 ⟨rfl, hbw2⟩; obtain ⟨hcw2, hfw2, hzw2⟩ := hbw2.rules; (try simp at hzw2); have hzw2_0 : w.heap.size < w2.heap.size := (by omega); have hyw2_0 : w.heap.size ≤ w2.heap.size := (by omega)))
    all_goals first
      | (simp; done)
      | (go_ret2
         refine ⟨rfl, ?_⟩
         (repeat (first | with_reducible exact Gr.refl _ | with_reducible refine Gr.trans ?_ hbw2 | with_reducible refine Gr.trans ?_ hbw1 | with_reducible refine Gr.alloc ?_ _ | with_reducible refine Gr.setCell ?_ (by simp) _ | with_reducible refine Gr.setCell ?_ (by simp; omega) _ | with_reducible refine Gr.drew ?_ | with_reducible refine Gr.drewN ?_ _)))

set_option maxHeartbeats 400000 in
theorem refEditsTop_any (a b : ByteArray) (w : World) (ha : a.size ≤ maxLen) (hb : b.size ≤ maxLen) :
    Calls Try.prog 14 #[.string a, .string b] w fun e w' => e = .returned (.tuple #[.int .i64 (edN a b), .int .i64 (edE a b)]) ∧ Gr w w' := by
  unfold maxLen at ha hb
  have ha' : (a.size : Int) ≤ 9223372036854775807 := by omega
  have hb' : (b.size : Int) ≤ 9223372036854775807 := by omega
  clear ha hb
  unfold edN edE
  by_cases h : a.size ≤ 20 ∧ b.size ≤ 20
  · rw [show edOk a b = true by unfold edOk inB; simp; omega]
    obtain ⟨h1, h2⟩ := h
    have HE := hid (fun W => refEdits_any a b W (by omega) (by omega))
    have h1' : (a.size : Int) ≤ 20 := by omega
    have h2' : (b.size : Int) ≤ 20 := by omega
    clear h1 h2
    go_enter Try.func14, Try.ntmps14
    go_wp2_with (first
      | (go_at_call 32; (with_reducible refine (HE.out _).mono ?_); rotate_right; rintro e w2 ⟨rfl, hbw2⟩; obtain ⟨hcw2, hfw2, hzw2⟩ := hbw2.rules; (try simp at hzw2)))
    go_ret2
    refine ⟨rfl, ?_⟩
    (repeat (first | with_reducible exact Gr.refl _ | with_reducible refine Gr.trans ?_ hbw2 | with_reducible refine Gr.alloc ?_ _ | with_reducible refine Gr.setCell ?_ (by simp) _ | with_reducible refine Gr.setCell ?_ (by simp; omega) _ | with_reducible refine Gr.drew ?_ | with_reducible refine Gr.drewN ?_ _))
  · rw [show edOk a b = false by unfold edOk inB; rw [Bool.eq_false_iff]; simp; omega]
    by_cases h1 : a.size ≤ 20
    · have h1' : (a.size : Int) ≤ 20 := by omega
      have h2' : (20 : Int) < b.size := by omega
      clear h h1
      go_enter Try.func14, Try.ntmps14
      go_wp2
      go_ret2
      exact ⟨rfl, Gr.refl w⟩
    · have h1' : (20 : Int) < a.size := by omega
      clear h h1
      go_enter Try.func14, Try.ntmps14
      go_wp2
      go_ret2
      exact ⟨rfl, Gr.refl w⟩
end Go.Proofs.Ytlkjimfkapcenaa
namespace Go.Proofs.Ytlkjimfkapcenaa
open Go.RowKit

theorem toList_ne' {p q : ByteArray} (h : ¬ p = q) : ¬ p.toList = q.toList := fun e => h (by
  rw [ByteArray.toList_eq, ByteArray.toList_eq] at e
  exact ByteArray.ext (Array.toList_inj.1 e))
theorem toList_beq {p q : ByteArray} (h : ¬ p = q) : (p.toList == q.toList) = false := by
  have := toList_ne' h
  simpa using this
theorem byt0_eq {p q : ByteArray} (hp : 0 < p.size) (hq : 0 < q.size) (h : byt p 0 = byt q 0) : ((p[0].toNat : Int) == (q[0].toNat : Int)) = true := by
  have := byt_eq hp hq h
  simpa [bne] using this
theorem byt0_ne {p q : ByteArray} (hp : 0 < p.size) (hq : 0 < q.size) (h : ¬ byt p 0 = byt q 0) : ((p[0].toNat : Int) == (q[0].toNat : Int)) = false := by
  have := byt_ne hp hq h
  simpa [bne] using this
/-- Whether two names are the same, or one is the first letter of the other. -/
def oneB (p q : ByteArray) : Bool := decide (p = q) || (decide (p.size = 1) && decide (byt p 0 = byt q 0)) || (decide (q.size = 1) && decide (byt p 0 = byt q 0))
/-- Whether two names are alike. -/
def alikeB (p q : ByteArray) (k : Int) : Bool := oneB p q || (decide (0 ≤ k) && decide ((lev p q p.size q.size : Int) ≤ k))
theorem alike_one {p q : ByteArray} {k : Int} (h : oneB p q = true) : alikeB p q k = true := by unfold alikeB; rw [h]; rfl
theorem alike_not {p q : ByteArray} {k : Int} (h : oneB p q = false) : alikeB p q k = (decide (0 ≤ k) && decide ((lev p q p.size q.size : Int) ≤ k)) := by unfold alikeB; rw [h]; rfl

set_option maxRecDepth 100000 in
set_option maxHeartbeats 4000000 in
theorem same_any (p q : ByteArray) (w : World) (hp : 0 < p.size) (hq : 0 < q.size) :
    Calls Try.prog 95 #[.string p, .string q] w fun e w' => e = .returned (.bool (oneB p q)) ∧ Gr w w' := by
  have ip : (0 : Int) < p.size := by omega
  have iq : (0 : Int) < q.size := by omega
  by_cases e0 : p = q
  · have E := hid (show oneB p q = true by unfold oneB; rw [decide_eq_true e0]; rfl)
    subst e0
    go_enter Try.func95, Try.ntmps95
    go_wp2
    go_quiet (fail)
    go_wp2
    go_ret
    exact ⟨by rw [E.out]; rfl, by (repeat (first | with_reducible exact Gr.refl _ | with_reducible refine Gr.alloc ?_ _ | with_reducible refine Gr.setCell ?_ (by simp) _ | with_reducible refine Gr.setCell ?_ (by simp; omega) _ | with_reducible refine Gr.drew ?_ | with_reducible refine Gr.drewN ?_ _))⟩
  · have tl := toList_ne' e0
    have tb := toList_beq e0
    by_cases hbe : byt p 0 = byt q 0
    · by_cases hps : p.size = 1
      · by_cases hqs : q.size = 1
        · have f1 : ((p.size : Int) == 1) = true := by simp; omega
          have f2 : ((q.size : Int) == 1) = true := by simp; omega
          have f3 := byt0_eq hp hq hbe
          have E := hid (show oneB p q = true by unfold oneB; rw [decide_eq_false e0, decide_eq_true hps, decide_eq_true hqs, decide_eq_true hbe]; rfl)
          go_enter Try.func95, Try.ntmps95
          go_wp2
          go_quiet (fail)
          go_wp2
          go_ret
          exact ⟨by rw [E.out]; rfl, by (repeat (first | with_reducible exact Gr.refl _ | with_reducible refine Gr.alloc ?_ _ | with_reducible refine Gr.setCell ?_ (by simp) _ | with_reducible refine Gr.setCell ?_ (by simp; omega) _ | with_reducible refine Gr.drew ?_ | with_reducible refine Gr.drewN ?_ _))⟩
        · have f1 : ((p.size : Int) == 1) = true := by simp; omega
          have f2 : ((q.size : Int) == 1) = false := by simp; omega
          have f3 := byt0_eq hp hq hbe
          have E := hid (show oneB p q = true by unfold oneB; rw [decide_eq_false e0, decide_eq_true hps, decide_eq_false hqs, decide_eq_true hbe]; rfl)
          go_enter Try.func95, Try.ntmps95
          go_wp2
          go_quiet (fail)
          go_wp2
          go_ret
          exact ⟨by rw [E.out]; rfl, by (repeat (first | with_reducible exact Gr.refl _ | with_reducible refine Gr.alloc ?_ _ | with_reducible refine Gr.setCell ?_ (by simp) _ | with_reducible refine Gr.setCell ?_ (by simp; omega) _ | with_reducible refine Gr.drew ?_ | with_reducible refine Gr.drewN ?_ _))⟩
      · by_cases hqs : q.size = 1
        · have f1 : ((p.size : Int) == 1) = false := by simp; omega
          have f2 : ((q.size : Int) == 1) = true := by simp; omega
          have f3 := byt0_eq hp hq hbe
          have E := hid (show oneB p q = true by unfold oneB; rw [decide_eq_false e0, decide_eq_false hps, decide_eq_true hqs, decide_eq_true hbe]; rfl)
          go_enter Try.func95, Try.ntmps95
          go_wp2
          go_quiet (fail)
          go_wp2
          go_ret
          exact ⟨by rw [E.out]; rfl, by (repeat (first | with_reducible exact Gr.refl _ | with_reducible refine Gr.alloc ?_ _ | with_reducible refine Gr.setCell ?_ (by simp) _ | with_reducible refine Gr.setCell ?_ (by simp; omega) _ | with_reducible refine Gr.drew ?_ | with_reducible refine Gr.drewN ?_ _))⟩
        · have f1 : ((p.size : Int) == 1) = false := by simp; omega
          have f2 : ((q.size : Int) == 1) = false := by simp; omega
          have f3 := byt0_eq hp hq hbe
          have E := hid (show oneB p q = false by unfold oneB; rw [decide_eq_false e0, decide_eq_false hps, decide_eq_false hqs, decide_eq_true hbe]; rfl)
          go_enter Try.func95, Try.ntmps95
          go_wp2
          go_quiet (fail)
          go_wp2
          go_ret
          exact ⟨by rw [E.out]; rfl, by (repeat (first | with_reducible exact Gr.refl _ | with_reducible refine Gr.alloc ?_ _ | with_reducible refine Gr.setCell ?_ (by simp) _ | with_reducible refine Gr.setCell ?_ (by simp; omega) _ | with_reducible refine Gr.drew ?_ | with_reducible refine Gr.drewN ?_ _))⟩
    · by_cases hps : p.size = 1
      · by_cases hqs : q.size = 1
        · have f1 : ((p.size : Int) == 1) = true := by simp; omega
          have f2 : ((q.size : Int) == 1) = true := by simp; omega
          have f3 := byt0_ne hp hq hbe
          have E := hid (show oneB p q = false by unfold oneB; rw [decide_eq_false e0, decide_eq_true hps, decide_eq_true hqs, decide_eq_false hbe]; rfl)
          go_enter Try.func95, Try.ntmps95
          go_wp2
          go_quiet (fail)
          go_wp2
          go_ret
          exact ⟨by rw [E.out]; rfl, by (repeat (first | with_reducible exact Gr.refl _ | with_reducible refine Gr.alloc ?_ _ | with_reducible refine Gr.setCell ?_ (by simp) _ | with_reducible refine Gr.setCell ?_ (by simp; omega) _ | with_reducible refine Gr.drew ?_ | with_reducible refine Gr.drewN ?_ _))⟩
        · have f1 : ((p.size : Int) == 1) = true := by simp; omega
          have f2 : ((q.size : Int) == 1) = false := by simp; omega
          have f3 := byt0_ne hp hq hbe
          have E := hid (show oneB p q = false by unfold oneB; rw [decide_eq_false e0, decide_eq_true hps, decide_eq_false hqs, decide_eq_false hbe]; rfl)
          go_enter Try.func95, Try.ntmps95
          go_wp2
          go_quiet (fail)
          go_wp2
          go_ret
          exact ⟨by rw [E.out]; rfl, by (repeat (first | with_reducible exact Gr.refl _ | with_reducible refine Gr.alloc ?_ _ | with_reducible refine Gr.setCell ?_ (by simp) _ | with_reducible refine Gr.setCell ?_ (by simp; omega) _ | with_reducible refine Gr.drew ?_ | with_reducible refine Gr.drewN ?_ _))⟩
      · by_cases hqs : q.size = 1
        · have f1 : ((p.size : Int) == 1) = false := by simp; omega
          have f2 : ((q.size : Int) == 1) = true := by simp; omega
          have f3 := byt0_ne hp hq hbe
          have E := hid (show oneB p q = false by unfold oneB; rw [decide_eq_false e0, decide_eq_false hps, decide_eq_true hqs, decide_eq_false hbe]; rfl)
          go_enter Try.func95, Try.ntmps95
          go_wp2
          go_quiet (fail)
          go_wp2
          go_ret
          exact ⟨by rw [E.out]; rfl, by (repeat (first | with_reducible exact Gr.refl _ | with_reducible refine Gr.alloc ?_ _ | with_reducible refine Gr.setCell ?_ (by simp) _ | with_reducible refine Gr.setCell ?_ (by simp; omega) _ | with_reducible refine Gr.drew ?_ | with_reducible refine Gr.drewN ?_ _))⟩
        · have f1 : ((p.size : Int) == 1) = false := by simp; omega
          have f2 : ((q.size : Int) == 1) = false := by simp; omega
          have f3 := byt0_ne hp hq hbe
          have E := hid (show oneB p q = false by unfold oneB; rw [decide_eq_false e0, decide_eq_false hps, decide_eq_false hqs, decide_eq_false hbe]; rfl)
          go_enter Try.func95, Try.ntmps95
          go_wp2
          go_quiet (fail)
          go_wp2
          go_ret
          exact ⟨by rw [E.out]; rfl, by (repeat (first | with_reducible exact Gr.refl _ | with_reducible refine Gr.alloc ?_ _ | with_reducible refine Gr.setCell ?_ (by simp) _ | with_reducible refine Gr.setCell ?_ (by simp; omega) _ | with_reducible refine Gr.drew ?_ | with_reducible refine Gr.drewN ?_ _))⟩

set_option maxRecDepth 100000 in
set_option maxHeartbeats 8000000 in
theorem alike_any (p q : ByteArray) (k : Int) (w : World) (hp : 0 < p.size) (hq : 0 < q.size) (zp : p.size ≤ 20) (zq : q.size ≤ 20) :
    Calls Try.prog 94 #[.string p, .string q, .int .i64 k] w fun e w' => e = .returned (.bool (alikeB p q k)) ∧ Gr w w' := by
  have HL := hid (fun W => edits_any p q W (by omega) zq)
  have ip : (0 : Int) < p.size := by omega
  have iq : (0 : Int) < q.size := by omega
  by_cases e0 : p = q
  · have E := hid (alike_one (k := k) (show oneB p q = true by unfold oneB; rw [decide_eq_true e0]; rfl))
    subst e0
    clear HL
    go_enter Try.func94, Try.ntmps94
    go_wp2
    go_quiet (fail)
    go_wp2
    go_ret
    exact ⟨by rw [E.out]; rfl, by (repeat (first | with_reducible exact Gr.refl _ | with_reducible refine Gr.alloc ?_ _ | with_reducible refine Gr.setCell ?_ (by simp) _ | with_reducible refine Gr.setCell ?_ (by simp; omega) _ | with_reducible refine Gr.drew ?_ | with_reducible refine Gr.drewN ?_ _))⟩
  · have tl := toList_ne' e0
    have tb := toList_beq e0
    by_cases hbe : byt p 0 = byt q 0
    · by_cases hps : p.size = 1
      · by_cases hqs : q.size = 1
        · have f1 : ((p.size : Int) == 1) = true := by simp; omega
          have f2 : ((q.size : Int) == 1) = true := by simp; omega
          have f3 := byt0_eq hp hq hbe
          have E := hid (alike_one (k := k) (show oneB p q = true by unfold oneB; rw [decide_eq_false e0, decide_eq_true hps, decide_eq_true hqs, decide_eq_true hbe]; rfl))
          go_enter Try.func94, Try.ntmps94
          go_wp2
          go_quiet (fail)
          go_wp2
          go_ret
          exact ⟨by rw [E.out]; rfl, by (repeat (first | with_reducible exact Gr.refl _ | with_reducible refine Gr.alloc ?_ _ | with_reducible refine Gr.setCell ?_ (by simp) _ | with_reducible refine Gr.setCell ?_ (by simp; omega) _ | with_reducible refine Gr.drew ?_ | with_reducible refine Gr.drewN ?_ _))⟩
        · have f1 : ((p.size : Int) == 1) = true := by simp; omega
          have f2 : ((q.size : Int) == 1) = false := by simp; omega
          have f3 := byt0_eq hp hq hbe
          have E := hid (alike_one (k := k) (show oneB p q = true by unfold oneB; rw [decide_eq_false e0, decide_eq_true hps, decide_eq_false hqs, decide_eq_true hbe]; rfl))
          go_enter Try.func94, Try.ntmps94
          go_wp2
          go_quiet (fail)
          go_wp2
          go_ret
          exact ⟨by rw [E.out]; rfl, by (repeat (first | with_reducible exact Gr.refl _ | with_reducible refine Gr.alloc ?_ _ | with_reducible refine Gr.setCell ?_ (by simp) _ | with_reducible refine Gr.setCell ?_ (by simp; omega) _ | with_reducible refine Gr.drew ?_ | with_reducible refine Gr.drewN ?_ _))⟩
      · by_cases hqs : q.size = 1
        · have f1 : ((p.size : Int) == 1) = false := by simp; omega
          have f2 : ((q.size : Int) == 1) = true := by simp; omega
          have f3 := byt0_eq hp hq hbe
          have E := hid (alike_one (k := k) (show oneB p q = true by unfold oneB; rw [decide_eq_false e0, decide_eq_false hps, decide_eq_true hqs, decide_eq_true hbe]; rfl))
          go_enter Try.func94, Try.ntmps94
          go_wp2
          go_quiet (fail)
          go_wp2
          go_ret
          exact ⟨by rw [E.out]; rfl, by (repeat (first | with_reducible exact Gr.refl _ | with_reducible refine Gr.alloc ?_ _ | with_reducible refine Gr.setCell ?_ (by simp) _ | with_reducible refine Gr.setCell ?_ (by simp; omega) _ | with_reducible refine Gr.drew ?_ | with_reducible refine Gr.drewN ?_ _))⟩
        · have f1 : ((p.size : Int) == 1) = false := by simp; omega
          have f2 : ((q.size : Int) == 1) = false := by simp; omega
          have f3 := byt0_eq hp hq hbe
          have E := hid (alike_not (k := k) (show oneB p q = false by unfold oneB; rw [decide_eq_false e0, decide_eq_false hps, decide_eq_false hqs, decide_eq_true hbe]; rfl))
          clear zp zq
          by_cases hk : 0 ≤ k
          · have E2 := hid (E.out.trans (show (decide (0 ≤ k) && decide (((lev p q p.size q.size : Nat) : Int) ≤ k)) = decide (((lev p q p.size q.size : Nat) : Int) ≤ k) by rw [decide_eq_true hk]; rfl))
            clear E
            generalize lev p q p.size q.size = v at HL E2
            go_enter Try.func94, Try.ntmps94
            go_wp2
            go_quiet (fail)
            go_wp2_with ((go_at_call 31; (with_reducible refine (HL.out _).mono ?_); rotate_right; rintro e w1 ⟨rfl, hbw1⟩; obtain ⟨hcw1, hfw1, hzw1⟩ := hbw1.rules; (try simp at hzw1)))
            go_ret
            exact ⟨by rw [E2.out]; rfl, by (repeat (first | with_reducible exact Gr.refl _ | with_reducible refine Gr.trans ?_ hbw1 | with_reducible refine Gr.alloc ?_ _ | with_reducible refine Gr.setCell ?_ (by simp) _ | with_reducible refine Gr.setCell ?_ (by simp; omega) _ | with_reducible refine Gr.drew ?_ | with_reducible refine Gr.drewN ?_ _))⟩
          · have E2 := hid (E.out.trans (show (decide (0 ≤ k) && decide (((lev p q p.size q.size : Nat) : Int) ≤ k)) = false by rw [decide_eq_false hk]; rfl))
            clear E HL
            go_enter Try.func94, Try.ntmps94
            go_wp2
            go_quiet (fail)
            go_wp2
            go_ret
            exact ⟨by rw [E2.out]; rfl, by (repeat (first | with_reducible exact Gr.refl _ | with_reducible refine Gr.alloc ?_ _ | with_reducible refine Gr.setCell ?_ (by simp) _ | with_reducible refine Gr.setCell ?_ (by simp; omega) _ | with_reducible refine Gr.drew ?_ | with_reducible refine Gr.drewN ?_ _))⟩
    · by_cases hps : p.size = 1
      · by_cases hqs : q.size = 1
        · have f1 : ((p.size : Int) == 1) = true := by simp; omega
          have f2 : ((q.size : Int) == 1) = true := by simp; omega
          have f3 := byt0_ne hp hq hbe
          have E := hid (alike_not (k := k) (show oneB p q = false by unfold oneB; rw [decide_eq_false e0, decide_eq_true hps, decide_eq_true hqs, decide_eq_false hbe]; rfl))
          clear zp zq
          by_cases hk : 0 ≤ k
          · have E2 := hid (E.out.trans (show (decide (0 ≤ k) && decide (((lev p q p.size q.size : Nat) : Int) ≤ k)) = decide (((lev p q p.size q.size : Nat) : Int) ≤ k) by rw [decide_eq_true hk]; rfl))
            clear E
            generalize lev p q p.size q.size = v at HL E2
            go_enter Try.func94, Try.ntmps94
            go_wp2
            go_quiet (fail)
            go_wp2_with ((go_at_call 31; (with_reducible refine (HL.out _).mono ?_); rotate_right; rintro e w1 ⟨rfl, hbw1⟩; obtain ⟨hcw1, hfw1, hzw1⟩ := hbw1.rules; (try simp at hzw1)))
            go_ret
            exact ⟨by rw [E2.out]; rfl, by (repeat (first | with_reducible exact Gr.refl _ | with_reducible refine Gr.trans ?_ hbw1 | with_reducible refine Gr.alloc ?_ _ | with_reducible refine Gr.setCell ?_ (by simp) _ | with_reducible refine Gr.setCell ?_ (by simp; omega) _ | with_reducible refine Gr.drew ?_ | with_reducible refine Gr.drewN ?_ _))⟩
          · have E2 := hid (E.out.trans (show (decide (0 ≤ k) && decide (((lev p q p.size q.size : Nat) : Int) ≤ k)) = false by rw [decide_eq_false hk]; rfl))
            clear E HL
            go_enter Try.func94, Try.ntmps94
            go_wp2
            go_quiet (fail)
            go_wp2
            go_ret
            exact ⟨by rw [E2.out]; rfl, by (repeat (first | with_reducible exact Gr.refl _ | with_reducible refine Gr.alloc ?_ _ | with_reducible refine Gr.setCell ?_ (by simp) _ | with_reducible refine Gr.setCell ?_ (by simp; omega) _ | with_reducible refine Gr.drew ?_ | with_reducible refine Gr.drewN ?_ _))⟩
        · have f1 : ((p.size : Int) == 1) = true := by simp; omega
          have f2 : ((q.size : Int) == 1) = false := by simp; omega
          have f3 := byt0_ne hp hq hbe
          have E := hid (alike_not (k := k) (show oneB p q = false by unfold oneB; rw [decide_eq_false e0, decide_eq_true hps, decide_eq_false hqs, decide_eq_false hbe]; rfl))
          clear zp zq
          by_cases hk : 0 ≤ k
          · have E2 := hid (E.out.trans (show (decide (0 ≤ k) && decide (((lev p q p.size q.size : Nat) : Int) ≤ k)) = decide (((lev p q p.size q.size : Nat) : Int) ≤ k) by rw [decide_eq_true hk]; rfl))
            clear E
            generalize lev p q p.size q.size = v at HL E2
            go_enter Try.func94, Try.ntmps94
            go_wp2
            go_quiet (fail)
            go_wp2_with ((go_at_call 31; (with_reducible refine (HL.out _).mono ?_); rotate_right; rintro e w1 ⟨rfl, hbw1⟩; obtain ⟨hcw1, hfw1, hzw1⟩ := hbw1.rules; (try simp at hzw1)))
            go_ret
            exact ⟨by rw [E2.out]; rfl, by (repeat (first | with_reducible exact Gr.refl _ | with_reducible refine Gr.trans ?_ hbw1 | with_reducible refine Gr.alloc ?_ _ | with_reducible refine Gr.setCell ?_ (by simp) _ | with_reducible refine Gr.setCell ?_ (by simp; omega) _ | with_reducible refine Gr.drew ?_ | with_reducible refine Gr.drewN ?_ _))⟩
          · have E2 := hid (E.out.trans (show (decide (0 ≤ k) && decide (((lev p q p.size q.size : Nat) : Int) ≤ k)) = false by rw [decide_eq_false hk]; rfl))
            clear E HL
            go_enter Try.func94, Try.ntmps94
            go_wp2
            go_quiet (fail)
            go_wp2
            go_ret
            exact ⟨by rw [E2.out]; rfl, by (repeat (first | with_reducible exact Gr.refl _ | with_reducible refine Gr.alloc ?_ _ | with_reducible refine Gr.setCell ?_ (by simp) _ | with_reducible refine Gr.setCell ?_ (by simp; omega) _ | with_reducible refine Gr.drew ?_ | with_reducible refine Gr.drewN ?_ _))⟩
      · by_cases hqs : q.size = 1
        · have f1 : ((p.size : Int) == 1) = false := by simp; omega
          have f2 : ((q.size : Int) == 1) = true := by simp; omega
          have f3 := byt0_ne hp hq hbe
          have E := hid (alike_not (k := k) (show oneB p q = false by unfold oneB; rw [decide_eq_false e0, decide_eq_false hps, decide_eq_true hqs, decide_eq_false hbe]; rfl))
          clear zp zq
          by_cases hk : 0 ≤ k
          · have E2 := hid (E.out.trans (show (decide (0 ≤ k) && decide (((lev p q p.size q.size : Nat) : Int) ≤ k)) = decide (((lev p q p.size q.size : Nat) : Int) ≤ k) by rw [decide_eq_true hk]; rfl))
            clear E
            generalize lev p q p.size q.size = v at HL E2
            go_enter Try.func94, Try.ntmps94
            go_wp2
            go_quiet (fail)
            go_wp2_with ((go_at_call 31; (with_reducible refine (HL.out _).mono ?_); rotate_right; rintro e w1 ⟨rfl, hbw1⟩; obtain ⟨hcw1, hfw1, hzw1⟩ := hbw1.rules; (try simp at hzw1)))
            go_ret
            exact ⟨by rw [E2.out]; rfl, by (repeat (first | with_reducible exact Gr.refl _ | with_reducible refine Gr.trans ?_ hbw1 | with_reducible refine Gr.alloc ?_ _ | with_reducible refine Gr.setCell ?_ (by simp) _ | with_reducible refine Gr.setCell ?_ (by simp; omega) _ | with_reducible refine Gr.drew ?_ | with_reducible refine Gr.drewN ?_ _))⟩
          · have E2 := hid (E.out.trans (show (decide (0 ≤ k) && decide (((lev p q p.size q.size : Nat) : Int) ≤ k)) = false by rw [decide_eq_false hk]; rfl))
            clear E HL
            go_enter Try.func94, Try.ntmps94
            go_wp2
            go_quiet (fail)
            go_wp2
            go_ret
            exact ⟨by rw [E2.out]; rfl, by (repeat (first | with_reducible exact Gr.refl _ | with_reducible refine Gr.alloc ?_ _ | with_reducible refine Gr.setCell ?_ (by simp) _ | with_reducible refine Gr.setCell ?_ (by simp; omega) _ | with_reducible refine Gr.drew ?_ | with_reducible refine Gr.drewN ?_ _))⟩
        · have f1 : ((p.size : Int) == 1) = false := by simp; omega
          have f2 : ((q.size : Int) == 1) = false := by simp; omega
          have f3 := byt0_ne hp hq hbe
          have E := hid (alike_not (k := k) (show oneB p q = false by unfold oneB; rw [decide_eq_false e0, decide_eq_false hps, decide_eq_false hqs, decide_eq_false hbe]; rfl))
          clear zp zq
          by_cases hk : 0 ≤ k
          · have E2 := hid (E.out.trans (show (decide (0 ≤ k) && decide (((lev p q p.size q.size : Nat) : Int) ≤ k)) = decide (((lev p q p.size q.size : Nat) : Int) ≤ k) by rw [decide_eq_true hk]; rfl))
            clear E
            generalize lev p q p.size q.size = v at HL E2
            go_enter Try.func94, Try.ntmps94
            go_wp2
            go_quiet (fail)
            go_wp2_with ((go_at_call 31; (with_reducible refine (HL.out _).mono ?_); rotate_right; rintro e w1 ⟨rfl, hbw1⟩; obtain ⟨hcw1, hfw1, hzw1⟩ := hbw1.rules; (try simp at hzw1)))
            go_ret
            exact ⟨by rw [E2.out]; rfl, by (repeat (first | with_reducible exact Gr.refl _ | with_reducible refine Gr.trans ?_ hbw1 | with_reducible refine Gr.alloc ?_ _ | with_reducible refine Gr.setCell ?_ (by simp) _ | with_reducible refine Gr.setCell ?_ (by simp; omega) _ | with_reducible refine Gr.drew ?_ | with_reducible refine Gr.drewN ?_ _))⟩
          · have E2 := hid (E.out.trans (show (decide (0 ≤ k) && decide (((lev p q p.size q.size : Nat) : Int) ≤ k)) = false by rw [decide_eq_false hk]; rfl))
            clear E HL
            go_enter Try.func94, Try.ntmps94
            go_wp2
            go_quiet (fail)
            go_wp2
            go_ret
            exact ⟨by rw [E2.out]; rfl, by (repeat (first | with_reducible exact Gr.refl _ | with_reducible refine Gr.alloc ?_ _ | with_reducible refine Gr.setCell ?_ (by simp) _ | with_reducible refine Gr.setCell ?_ (by simp; omega) _ | with_reducible refine Gr.drew ?_ | with_reducible refine Gr.drewN ?_ _))⟩
end Go.Proofs.Ytlkjimfkapcenaa
namespace Go.Proofs.Ytlkjimfkapcenaa
open Go.RowKit

set_option maxRecDepth 100000 in
set_option maxHeartbeats 1000000 in
theorem among1_any (x y : ByteArray) (k : Int) (g1 g2 : Nat) (w : World) (hx : 0 < x.size) (hy : 0 < y.size) (zx : x.size ≤ 20) (zy : y.size ≤ 20)
    (c1 : w.cell? ⟨g1, 0, none⟩ = some (.string y)) (c2 : w.cell? ⟨g2, 0, none⟩ = some (.int .i64 k)) :
    Calls Try.prog 93 #[.string x, .pointer (some ⟨g1, 0, none⟩), .pointer (some ⟨g2, 0, none⟩)] w fun e w' => e = .returned (.bool (alikeB y x k)) ∧ Gr w w' := by
  have HL := hid (fun W => alike_any y x k W hy hx zy zx)
  clear hx hy zx zy
  generalize alikeB y x k = v at HL
  go_enter Try.func93, Try.ntmps93
  go_wp2_with ((go_at_call 94; (with_reducible refine (HL.out _).mono ?_); rotate_right; rintro e w1 ⟨rfl, hbw1⟩; obtain ⟨hcw1, hfw1, hzw1⟩ := hbw1.rules; (try simp at hzw1)))
  go_ret
  exact ⟨by rfl, by (repeat (first | with_reducible exact Gr.refl _ | with_reducible refine Gr.trans ?_ hbw1 | with_reducible refine Gr.alloc ?_ _ | with_reducible refine Gr.setCell ?_ (by simp) _ | with_reducible refine Gr.setCell ?_ (by simp; omega) _ | with_reducible refine Gr.drew ?_ | with_reducible refine Gr.drewN ?_ _))⟩
end Go.Proofs.Ytlkjimfkapcenaa
namespace Go.Proofs.Ytlkjimfkapcenaa
open Go.RowKit

/-- A comparison: how names, numbers, births and places agree, and the verdict. -/
structure Cmp where
  nm : Int
  nu : Int
  bi : Int
  pl : Int
  vd : Int
/-- Its value. -/
def Cmp.val (x : Cmp) : Value := .agg #[.int .u8 x.nm, .int .u8 x.nu, .int .u8 x.bi, .int .u8 x.pl, .int .u8 x.vd]

set_option maxRecDepth 100000 in
theorem verd1_any (a b : Rcd) (A : Option Addr) (n c : Nat) (B : Option Addr) (m d : Nat) (A' : Option Addr) (n' c' : Nat) (B' : Option Addr) (m' d' : Nat) (w : World) :
    Calls Try.prog 76 #[a.val A n c B m d, b.val A' n' c' B' m' d'] w fun e w' => e = .returned (.bool (a.twin || b.twin)) ∧ Gr w w' := by
  obtain ⟨id, names, suf, l1, h1, p, tw, stays⟩ := a
  obtain ⟨id', names', suf', l2, h2, q, tw', stays'⟩ := b
  unfold Rcd.val
  dsimp only
  cases tw
  all_goals
    go_enter Try.func76, Try.ntmps76
    go_wp2
    go_ret
    exact ⟨by rfl, by (repeat (first | with_reducible exact Gr.refl _ | with_reducible refine Gr.alloc ?_ _ | with_reducible refine Gr.setCell ?_ (by simp) _ | with_reducible refine Gr.setCell ?_ (by simp; omega) _ | with_reducible refine Gr.drew ?_ | with_reducible refine Gr.drewN ?_ _))⟩

set_option maxRecDepth 100000 in
theorem verd2_any (a b : Rcd) (x : Cmp) (A : Option Addr) (n c : Nat) (B : Option Addr) (m d : Nat) (A' : Option Addr) (n' c' : Nat) (B' : Option Addr) (m' d' : Nat) (w : World) :
    Calls Try.prog 77 #[a.val A n c B m d, b.val A' n' c' B' m' d', x.val] w fun e w' => e = .returned (.bool (x.bi == 0)) ∧ Gr w w' := by
  obtain ⟨id, names, suf, l1, h1, p, tw, stays⟩ := a
  obtain ⟨id', names', suf', l2, h2, q, tw', stays'⟩ := b
  obtain ⟨nm, nu, bi, pl, vd⟩ := x
  unfold Rcd.val Cmp.val
  dsimp only
  go_enter Try.func77, Try.ntmps77
  go_wp2
  go_ret
  exact ⟨by rfl, by (repeat (first | with_reducible exact Gr.refl _ | with_reducible refine Gr.alloc ?_ _ | with_reducible refine Gr.setCell ?_ (by simp) _ | with_reducible refine Gr.setCell ?_ (by simp; omega) _ | with_reducible refine Gr.drew ?_ | with_reducible refine Gr.drewN ?_ _))⟩

set_option maxRecDepth 100000 in
theorem verd3_any (a b : Rcd) (x : Cmp) (A : Option Addr) (n c : Nat) (B : Option Addr) (m d : Nat) (A' : Option Addr) (n' c' : Nat) (B' : Option Addr) (m' d' : Nat) (w : World)
    (ha : 0 ≤ a.suffix ∧ a.suffix ≤ 2) (hb : 0 ≤ b.suffix ∧ b.suffix ≤ 2) :
    Calls Try.prog 78 #[a.val A n c B m d, b.val A' n' c' B' m' d', x.val] w fun e w' => e = .returned (.bool (decide (a.suffix ≠ 0 ∧ b.suffix ≠ 0 ∧ a.suffix ≠ b.suffix))) ∧ Gr w w' := by
  obtain ⟨id, names, suf, l1, h1, p, tw, stays⟩ := a
  obtain ⟨id', names', suf', l2, h2, q, tw', stays'⟩ := b
  obtain ⟨nm, nu, bi, pl, vd⟩ := x
  unfold Rcd.val Cmp.val
  dsimp only at ha hb ⊢
  have e1 : suf = 0 ∨ suf = 1 ∨ suf = 2 := by omega
  have e2 : suf' = 0 ∨ suf' = 1 ∨ suf' = 2 := by omega
  clear ha hb
  rcases e1 with rfl | rfl | rfl <;> rcases e2 with rfl | rfl | rfl
  all_goals
    go_enter Try.func78, Try.ntmps78
    go_wp2
    go_ret
    exact ⟨by rfl, by (repeat (first | with_reducible exact Gr.refl _ | with_reducible refine Gr.alloc ?_ _ | with_reducible refine Gr.setCell ?_ (by simp) _ | with_reducible refine Gr.setCell ?_ (by simp; omega) _ | with_reducible refine Gr.drew ?_ | with_reducible refine Gr.drewN ?_ _))⟩

set_option maxRecDepth 100000 in
theorem verd4_any (a b : Rcd) (x : Cmp) (A : Option Addr) (n c : Nat) (B : Option Addr) (m d : Nat) (A' : Option Addr) (n' c' : Nat) (B' : Option Addr) (m' d' : Nat) (w : World) :
    Calls Try.prog 79 #[a.val A n c B m d, b.val A' n' c' B' m' d', x.val] w fun e w' => e = .returned (.bool (x.nm == 0 && x.nu != 3)) ∧ Gr w w' := by
  obtain ⟨id, names, suf, l1, h1, p, tw, stays⟩ := a
  obtain ⟨id', names', suf', l2, h2, q, tw', stays'⟩ := b
  obtain ⟨nm, nu, bi, pl, vd⟩ := x
  unfold Rcd.val Cmp.val
  dsimp only
  cases e1 : nm == 0
  all_goals
    go_enter Try.func79, Try.ntmps79
    go_wp2
    go_ret
    exact ⟨by rfl, by (repeat (first | with_reducible exact Gr.refl _ | with_reducible refine Gr.alloc ?_ _ | with_reducible refine Gr.setCell ?_ (by simp) _ | with_reducible refine Gr.setCell ?_ (by simp; omega) _ | with_reducible refine Gr.drew ?_ | with_reducible refine Gr.drewN ?_ _))⟩

set_option maxRecDepth 100000 in
theorem verd5_any (a b : Rcd) (x : Cmp) (A : Option Addr) (n c : Nat) (B : Option Addr) (m d : Nat) (A' : Option Addr) (n' c' : Nat) (B' : Option Addr) (m' d' : Nat) (w : World) :
    Calls Try.prog 80 #[a.val A n c B m d, b.val A' n' c' B' m' d', x.val] w fun e w' => e = .returned (.bool (x.nu == 0 && x.pl != 3)) ∧ Gr w w' := by
  obtain ⟨id, names, suf, l1, h1, p, tw, stays⟩ := a
  obtain ⟨id', names', suf', l2, h2, q, tw', stays'⟩ := b
  obtain ⟨nm, nu, bi, pl, vd⟩ := x
  unfold Rcd.val Cmp.val
  dsimp only
  cases e1 : nu == 0
  all_goals
    go_enter Try.func80, Try.ntmps80
    go_wp2
    go_ret
    exact ⟨by rfl, by (repeat (first | with_reducible exact Gr.refl _ | with_reducible refine Gr.alloc ?_ _ | with_reducible refine Gr.setCell ?_ (by simp) _ | with_reducible refine Gr.setCell ?_ (by simp; omega) _ | with_reducible refine Gr.drew ?_ | with_reducible refine Gr.drewN ?_ _))⟩

set_option maxRecDepth 100000 in
theorem verd7_any (a b : Rcd) (x : Cmp) (A : Option Addr) (n c : Nat) (B : Option Addr) (m d : Nat) (A' : Option Addr) (n' c' : Nat) (B' : Option Addr) (m' d' : Nat) (w : World) :
    Calls Try.prog 82 #[a.val A n c B m d, b.val A' n' c' B' m' d', x.val] w fun e w' => e = .returned (.bool (x.nu == 3 && decide (2 ≤ x.nm))) ∧ Gr w w' := by
  obtain ⟨id, names, suf, l1, h1, p, tw, stays⟩ := a
  obtain ⟨id', names', suf', l2, h2, q, tw', stays'⟩ := b
  obtain ⟨nm, nu, bi, pl, vd⟩ := x
  unfold Rcd.val Cmp.val
  dsimp only
  cases e1 : nu == 3
  all_goals
    go_enter Try.func82, Try.ntmps82
    go_wp2
    go_ret
    exact ⟨by rfl, by (repeat (first | with_reducible exact Gr.refl _ | with_reducible refine Gr.alloc ?_ _ | with_reducible refine Gr.setCell ?_ (by simp) _ | with_reducible refine Gr.setCell ?_ (by simp; omega) _ | with_reducible refine Gr.drew ?_ | with_reducible refine Gr.drewN ?_ _))⟩
end Go.Proofs.Ytlkjimfkapcenaa
namespace Go.Proofs.Ytlkjimfkapcenaa
open Go.RowKit

/-- Whether two stays overlap enough. -/
def overB (tg : Int) (s x : Sty) : Bool := decide (tg - 1 ≤ (if s.to_ ≤ x.to_ then s.to_ else x.to_) - (if s.from_ < x.from_ then x.from_ else s.from_))

set_option maxRecDepth 100000 in
set_option maxHeartbeats 1000000 in
theorem places1_any (tg : Int) (s x : Sty) (g1 g2 : Nat) (w : World) (ht : 0 ≤ tg ∧ tg ≤ 1000000)
    (h1 : 0 ≤ s.from_ ∧ s.from_ ≤ 100000) (h2 : 0 ≤ s.to_ ∧ s.to_ ≤ 100000) (h3 : 0 ≤ x.from_ ∧ x.from_ ≤ 100000) (h4 : 0 ≤ x.to_ ∧ x.to_ ≤ 100000)
    (c1 : w.cell? ⟨g1, 1, none⟩ = some (.int .i64 s.from_)) (c2 : w.cell? ⟨g1, 2, none⟩ = some (.int .i64 s.to_)) (c3 : w.cell? ⟨g2, 3, none⟩ = some (.int .i64 tg)) :
    Calls Try.prog 75 #[x.val, .pointer (some ⟨g1, 0, none⟩), .pointer (some ⟨g2, 0, none⟩)] w fun e w' => e = .returned (.bool (overB tg s x)) ∧ Gr w w' := by
  obtain ⟨p, f, t⟩ := s
  obtain ⟨p', f', t'⟩ := x
  unfold Sty.val
  dsimp only at h1 h2 h3 h4 c1 c2 ⊢
  have b1 : g1 < w.heap.size := block_lt_of_cell c1
  have b2 : g2 < w.heap.size := block_lt_of_cell c3
  have n1 : g1 ≠ w.heap.size := by omega
  have n2 : g2 ≠ w.heap.size := by omega
  by_cases m1 : t ≤ t'
  · by_cases m2 : f < f'
    · have E := hid (show overB tg ⟨p, f, t⟩ ⟨p', f', t'⟩ = decide (tg - 1 ≤ t - f') by unfold overB; dsimp only; rw [if_pos m1, if_pos m2])
      go_enter Try.func75, Try.ntmps75
      go_wp2
      go_ret
      exact ⟨by rw [E.out]; rfl, by (repeat (first | with_reducible exact Gr.refl _ | with_reducible refine Gr.alloc ?_ _ | with_reducible refine Gr.setCell ?_ (by simp) _ | with_reducible refine Gr.setCell ?_ (by simp; omega) _ | with_reducible refine Gr.drew ?_ | with_reducible refine Gr.drewN ?_ _))⟩
    · have E := hid (show overB tg ⟨p, f, t⟩ ⟨p', f', t'⟩ = decide (tg - 1 ≤ t - f) by unfold overB; dsimp only; rw [if_pos m1, if_neg m2])
      go_enter Try.func75, Try.ntmps75
      go_wp2
      go_ret
      exact ⟨by rw [E.out]; rfl, by (repeat (first | with_reducible exact Gr.refl _ | with_reducible refine Gr.alloc ?_ _ | with_reducible refine Gr.setCell ?_ (by simp) _ | with_reducible refine Gr.setCell ?_ (by simp; omega) _ | with_reducible refine Gr.drew ?_ | with_reducible refine Gr.drewN ?_ _))⟩
  · by_cases m2 : f < f'
    · have E := hid (show overB tg ⟨p, f, t⟩ ⟨p', f', t'⟩ = decide (tg - 1 ≤ t' - f') by unfold overB; dsimp only; rw [if_neg m1, if_pos m2])
      go_enter Try.func75, Try.ntmps75
      go_wp2
      go_ret
      exact ⟨by rw [E.out]; rfl, by (repeat (first | with_reducible exact Gr.refl _ | with_reducible refine Gr.alloc ?_ _ | with_reducible refine Gr.setCell ?_ (by simp) _ | with_reducible refine Gr.setCell ?_ (by simp; omega) _ | with_reducible refine Gr.drew ?_ | with_reducible refine Gr.drewN ?_ _))⟩
    · have E := hid (show overB tg ⟨p, f, t⟩ ⟨p', f', t'⟩ = decide (tg - 1 ≤ t' - f) by unfold overB; dsimp only; rw [if_neg m1, if_neg m2])
      go_enter Try.func75, Try.ntmps75
      go_wp2
      go_ret
      exact ⟨by rw [E.out]; rfl, by (repeat (first | with_reducible exact Gr.refl _ | with_reducible refine Gr.alloc ?_ _ | with_reducible refine Gr.setCell ?_ (by simp) _ | with_reducible refine Gr.setCell ?_ (by simp; omega) _ | with_reducible refine Gr.drew ?_ | with_reducible refine Gr.drewN ?_ _))⟩
end Go.Proofs.Ytlkjimfkapcenaa
namespace Go.Proofs.Ytlkjimfkapcenaa
open Go.RowKit

theorem ite_iff {p q : Prop} [Decidable p] [Decidable q] {α : Type} {x y u v : α} (h : p ↔ q) (hx : x = u) (hy : y = v) : (if p then x else y) = if q then u else v := by
  by_cases hp : p
  · rw [if_pos hp, if_pos (h.1 hp), hx]
  · rw [if_neg hp, if_neg (fun hq => hp (h.2 hq)), hy]
/-- What is left of given names behind the first one that is like a name. -/
def amStep (k : Int) (l : List ByteArray) (x : ByteArray) : Option (List ByteArray) :=
  match l.findIdx? (fun y => alikeB x y k) with
  | some i => some (l.drop (i + 1))
  | none => none
/-- Whether given names are some of others, in their order. -/
def amongB (k : Int) (xs ys : List ByteArray) : Bool := (xs.foldlM (amStep k) ys).isSome
theorem amStep_fidx (k : Int) (l : List ByteArray) (x : ByteArray) : (fidx (fun y => alikeB x y k) l = -1 ∧ amStep k l x = none) ∨ ∃ i, i < l.length ∧ fidx (fun y => alikeB x y k) l = (i : Int) ∧ amStep k l x = some (l.drop (i + 1)) := by
  unfold fidx amStep
  cases h : l.findIdx? (fun y => alikeB x y k) with
  | none => exact .inl ⟨rfl, rfl⟩
  | some i => exact .inr ⟨i, (by rw [List.findIdx?_eq_some_iff_getElem] at h; exact h.1), rfl, rfl⟩
theorem amStep_none {k : Int} {l : List ByteArray} {x : ByteArray} (h : ∀ j, j < l.length → alikeB x l[j]! k = false) : amStep k l x = none := by
  unfold amStep
  have e : l.findIdx? (fun y => alikeB x y k) = none := by
    rw [List.findIdx?_eq_none_iff]
    intro y hy
    obtain ⟨j, hj, rfl⟩ := List.getElem_of_mem hy
    have := h j hj
    rwa [getElem!_pos l j hj] at this
  rw [e]
theorem amStep_some {k : Int} {l : List ByteArray} {x : ByteArray} {i : Nat} (hi : i < l.length) (h : alikeB x l[i]! k = true) (hb : ∀ j, j < i → alikeB x l[j]! k = false) : amStep k l x = some (l.drop (i + 1)) := by
  unfold amStep
  have e : l.findIdx? (fun y => alikeB x y k) = some i := by
    rw [List.findIdx?_eq_some_iff_getElem]
    refine ⟨hi, by rwa [getElem!_pos l i hi] at h, fun j hj => ?_⟩
    have := hb j hj
    rw [getElem!_pos l j (by omega)] at this
    simp [this]
  rw [e]
theorem among_cons (k : Int) (x : ByteArray) (xs ys : List ByteArray) : amongB k (x :: xs) ys = (match amStep k ys x with | some l => amongB k xs l | none => false) := by
  unfold amongB
  rw [List.foldlM_cons]
  cases amStep k ys x <;> rfl
theorem among_snoc (k : Int) (pre : List ByteArray) (x : ByteArray) (ys : List ByteArray) : (pre ++ [x]).foldlM (amStep k) ys = (pre.foldlM (amStep k) ys).bind fun l => amStep k l x := by
  rw [List.foldlM_append]
  cases pre.foldlM (amStep k) ys with
  | none => rfl
  | some l => simp
theorem amStep_len {k : Int} {l l' : List ByteArray} {x : ByteArray} (h : amStep k l x = some l') : l'.length < l.length := by
  rcases amStep_fidx k l x with ⟨_, e⟩ | ⟨i, hi, _, e⟩
  · rw [e] at h; cases h
  · rw [e] at h
    cases h
    simp; omega
theorem among_len (k : Int) : ∀ xs ys : List ByteArray, amongB k xs ys = true → xs.length ≤ ys.length := by
  intro xs
  induction xs with
  | nil => intro ys _; simp
  | cons x xs ih =>
    intro ys h
    rw [among_cons] at h
    cases e : amStep k ys x with
    | none => rw [e] at h; cases h
    | some l =>
      rw [e] at h
      have h1 := ih l h
      have h2 := amStep_len e
      simp; omega
theorem among_eq (k : Int) : ∀ xs ys : List ByteArray, xs.length = ys.length → amongB k xs ys = (xs.zip ys).all (fun p => alikeB p.1 p.2 k) := by
  intro xs
  induction xs with
  | nil => intro ys _; simp [amongB]
  | cons x xs ih =>
    intro ys h
    cases ys with
    | nil => simp at h
    | cons y ys =>
      have hl : xs.length = ys.length := by simpa using h
      rw [among_cons]
      simp only [List.zip_cons_cons, List.all_cons]
      cases e : alikeB x y k with
      | true =>
        have e1 : amStep k (y :: ys) x = some ys := by
          have := amStep_some (k := k) (l := y :: ys) (x := x) (i := 0) (by simp) (by simpa using e) (fun j hj => absurd hj (by omega))
          simpa using this
        rw [e1]
        simpa using ih ys hl
      | false =>
        simp only [Bool.false_and]
        cases e1 : amStep k (y :: ys) x with
        | none => rfl
        | some l =>
          dsimp only
          cases e2 : amongB k xs l with
          | false => rfl
          | true =>
            exfalso
            have h1 := among_len k xs l e2
            rcases amStep_fidx k (y :: ys) x with ⟨_, e3⟩ | ⟨i, hi, hf, e3⟩
            · rw [e3] at e1; cases e1
            · rw [e3] at e1
              cases e1
              have : i ≠ 0 := by
                rintro rfl
                unfold fidx at hf
                cases hq : (y :: ys).findIdx? (fun y => alikeB x y k) with
                | none => rw [hq] at hf; simp at hf
                | some j =>
                  rw [hq] at hf
                  dsimp only at hf
                  rw [List.findIdx?_eq_some_iff_getElem] at hq
                  obtain ⟨hj, hq, _⟩ := hq
                  have hj0 : j = 0 := by omega
                  subst hj0
                  simp [e] at hq
              simp at h1 hi
              omega
theorem lev_symm (a b : ByteArray) : ∀ i k, lev a b i k = lev b a k i := by
  intro i
  induction i with
  | zero => intro k; rw [lev_zero]; rw [lev]
  | succ i ih =>
    intro k
    induction k with
    | zero => rw [lev_zero, lev]
    | succ k ihk =>
      rw [lev_step, lev_step, ih k, ih (k + 1), ihk]
      have : (if byt a i = byt b k then (0 : Nat) else 1) = if byt b k = byt a i then 0 else 1 := by
        by_cases h : byt a i = byt b k
        · rw [if_pos h, if_pos h.symm]
        · rw [if_neg h, if_neg (fun e => h e.symm)]
      rw [this]
      omega
theorem oneB_symm (p q : ByteArray) : oneB p q = oneB q p := by
  unfold oneB
  have e1 : decide (p = q) = decide (q = p) := by rw [Bool.eq_iff_iff]; simp [eq_comm]
  have e2 : decide (byt p 0 = byt q 0) = decide (byt q 0 = byt p 0) := by rw [Bool.eq_iff_iff]; simp [eq_comm]
  rw [e1, e2]
  cases decide (q = p) <;> cases decide (p.size = 1) <;> cases decide (q.size = 1) <;> cases decide (byt q 0 = byt p 0) <;> rfl
theorem alikeB_symm (p q : ByteArray) (k : Int) : alikeB p q k = alikeB q p k := by
  unfold alikeB
  rw [oneB_symm, lev_symm]
theorem zip_all_symm {α : Type} {f g : α → α → Bool} (h : ∀ x y, f x y = g y x) : ∀ xs ys : List α, (xs.zip ys).all (fun p => f p.1 p.2) = (ys.zip xs).all (fun p => g p.1 p.2) := by
  intro xs
  induction xs with
  | nil => intro ys; simp
  | cons x xs ih =>
    intro ys
    cases ys with
    | nil => simp
    | cons y ys => simp [ih ys, h x y]
theorem among_symm (k : Int) {xs ys : List ByteArray} (h : xs.length = ys.length) : amongB k xs ys = amongB k ys xs := by
  rw [among_eq k xs ys h, among_eq k ys xs h.symm]
  exact zip_all_symm (f := fun x y => alikeB x y k) (g := fun x y => alikeB x y k) (fun x y => alikeB_symm x y k) xs ys

/-- How names agree, the shorter list being the first. -/
def namesO (k : Int) (xs ys : List ByteArray) : Int :=
  if xs[0]! = ys[0]! ∧ amongB (-1) xs.tail ys.tail = true then 3 else if (lev xs[0]! ys[0]! xs[0]!.size ys[0]!.size : Int) ≤ k ∧ amongB k xs.tail ys.tail = true then 2 else 0
/-- How names agree. -/
def namesN (k : Int) (xs ys : List ByteArray) : Int := if ys.length < xs.length then namesO k ys xs else namesO k xs ys
theorem namesO_symm (k : Int) {xs ys : List ByteArray} (h : xs.length = ys.length) : namesO k xs ys = namesO k ys xs := by
  unfold namesO
  have h' : xs.tail.length = ys.tail.length := by simp [h]
  rw [among_symm (-1) h', among_symm k h', lev_symm]
  by_cases e : xs[0]! = ys[0]!
  · rw [e]
  · have q1 : ¬ (xs[0]! = ys[0]! ∧ amongB (-1) ys.tail xs.tail = true) := fun h => e h.1
    have q2 : ¬ (ys[0]! = xs[0]! ∧ amongB (-1) ys.tail xs.tail = true) := fun h => e h.1.symm
    rw [if_neg q1, if_neg q2]
theorem namesN_symm (k : Int) (xs ys : List ByteArray) : namesN k xs ys = namesN k ys xs := by
  unfold namesN
  by_cases h1 : ys.length < xs.length
  · rw [if_pos h1, if_neg (by omega)]
  · by_cases h2 : xs.length < ys.length
    · rw [if_neg h1, if_pos h2]
    · rw [if_neg h1, if_neg h2, namesO_symm k (by omega)]
theorem namesN_range (k : Int) (xs ys : List ByteArray) : namesN k xs ys = 0 ∨ namesN k xs ys = 2 ∨ namesN k xs ys = 3 := by
  have h : ∀ xs ys, namesO k xs ys = 0 ∨ namesO k xs ys = 2 ∨ namesO k xs ys = 3 := by
    intro xs ys
    unfold namesO
    split
    · exact .inr (.inr rfl)
    · split
      · exact .inr (.inl rfl)
      · exact .inl rfl
  unfold namesN
  split <;> exact h _ _
theorem offN_symm (p q : ByteArray) : ∀ k, offN p q k = offN q p k := by
  intro k
  induction k with
  | zero => rfl
  | succ k ih =>
    unfold offN
    rw [ih]
    by_cases h : byt p k = byt q k
    · rw [if_pos h, if_pos h.symm]
    · rw [if_neg h, if_neg (fun e => h e.symm)]
theorem numN_symm (d : Int) (p q : ByteArray) : numN d p q = numN d q p := by
  unfold numN
  rw [offN_symm]
  by_cases h : p.size = 0 ∨ q.size = 0
  · rw [if_pos h, if_pos (show q.size = 0 ∨ p.size = 0 from h.symm)]
  · rw [if_neg h, if_neg (show ¬ (q.size = 0 ∨ p.size = 0) from fun e => h (Or.symm e))]
theorem numN_range (d : Int) (p q : ByteArray) : numN d p q = 0 ∨ numN d p q = 1 ∨ numN d p q = 2 ∨ numN d p q = 3 := by
  unfold numN
  split
  · simp
  · split
    · simp
    · split <;> simp
theorem birN_symm (d l1 h1 l2 h2 : Int) : birN d l1 h1 l2 h2 = birN d l2 h2 l1 h1 := by
  unfold birN
  exact ite_iff (by omega) rfl (ite_iff (by omega) rfl rfl)
theorem birN_range (d l1 h1 l2 h2 : Int) : birN d l1 h1 l2 h2 = 0 ∨ birN d l1 h1 l2 h2 = 1 ∨ birN d l1 h1 l2 h2 = 3 := by
  unfold birN
  split
  · simp
  · split <;> simp
theorem overB_symm (t : Int) (s x : Sty) : overB t s x = overB t x s := by
  unfold overB
  rw [Bool.eq_iff_iff]
  simp only [decide_eq_true_eq]
  split <;> split <;> split <;> split <;> omega
/-- Whether a stay of one list and one of the other overlap enough at one place. -/
def placesB (t : Int) (xs ys : List Sty) : Bool := ys.any fun s => (xs.filter fun o => decide (o.place = s.place)).any (overB t s)
def placesN (t : Int) (xs ys : List Sty) : Int := if placesB t xs ys then 3 else 1
theorem placesB_iff (t : Int) (xs ys : List Sty) : placesB t xs ys = true ↔ ∃ s ∈ ys, ∃ o ∈ xs, o.place = s.place ∧ overB t s o = true := by
  unfold placesB
  simp only [List.any_eq_true, List.mem_filter, decide_eq_true_eq]
  constructor
  · rintro ⟨s, hs, o, ⟨ho, e⟩, h⟩; exact ⟨s, hs, o, ho, e, h⟩
  · rintro ⟨s, hs, o, ho, e, h⟩; exact ⟨s, hs, o, ⟨ho, e⟩, h⟩
theorem placesB_symm (t : Int) (xs ys : List Sty) : placesB t xs ys = placesB t ys xs := by
  rw [Bool.eq_iff_iff, placesB_iff, placesB_iff]
  constructor
  · rintro ⟨s, hs, o, ho, e, h⟩; exact ⟨o, ho, s, hs, e.symm, by rw [overB_symm]; exact h⟩
  · rintro ⟨s, hs, o, ho, e, h⟩; exact ⟨o, ho, s, hs, e.symm, by rw [overB_symm]; exact h⟩
theorem placesN_range (t : Int) (xs ys : List Sty) : placesN t xs ys = 1 ∨ placesN t xs ys = 3 := by
  unfold placesN; split <;> simp
/-- The verdict on two records that agree so. -/
def verdN (a b : Rcd) (nm nu bi pl : Int) : Int :=
  if bi = 0 then 0 else if a.suffix ≠ 0 ∧ b.suffix ≠ 0 ∧ a.suffix ≠ b.suffix then 0 else if nm = 0 ∧ nu ≠ 3 then 0 else if nu = 0 ∧ pl ≠ 3 then 0 else if (a.twin || b.twin) = true ∧ nu ≠ 3 ∧ nm ≠ 3 then 0
  else if nu = 3 ∧ 2 ≤ nm then 2 else if (a.twin || b.twin) = false ∧ nm = 3 ∧ bi = 3 ∧ pl = 3 then 2 else 1
theorem verdN_symm (a b : Rcd) (nm nu bi pl : Int) : verdN a b nm nu bi pl = verdN b a nm nu bi pl := by
  unfold verdN
  rw [Bool.or_comm a.twin b.twin]
  exact ite_iff Iff.rfl rfl (ite_iff (by omega) rfl rfl)
/-- How much two records agree. -/
def cmpN (r : Rul) (a b : Rcd) : Cmp :=
  ⟨namesN r.letters a.names b.names, numN r.digits a.number b.number, birN r.days a.lo a.hi b.lo b.hi, placesN r.together a.stays b.stays,
    verdN a b (namesN r.letters a.names b.names) (numN r.digits a.number b.number) (birN r.days a.lo a.hi b.lo b.hi) (placesN r.together a.stays b.stays)⟩
theorem cmpN_symm (r : Rul) (a b : Rcd) : cmpN r a b = cmpN r b a := by
  unfold cmpN
  rw [namesN_symm r.letters a.names b.names, numN_symm r.digits a.number b.number, birN_symm r.days a.lo a.hi b.lo b.hi]
  rw [show placesN r.together a.stays b.stays = placesN r.together b.stays a.stays by unfold placesN; rw [placesB_symm], verdN_symm]
end Go.Proofs.Ytlkjimfkapcenaa
namespace Go.Proofs.Ytlkjimfkapcenaa
open Go.RowKit

theorem keep2 {W W' : World} {b0 p b1 q : Nat} {u v : Value} (h : W.cell? ⟨b0, p, none⟩ = some u ∧ W.cell? ⟨b1, q, none⟩ = some v) (g : Gr W W') : W'.cell? ⟨b0, p, none⟩ = some u ∧ W'.cell? ⟨b1, q, none⟩ = some v :=
  ⟨(g.cell (block_lt_of_cell h.1)).trans h.1, (g.cell (block_lt_of_cell h.2)).trans h.2⟩
theorem refEdits20 (p q : ByteArray) (W : World) (hp : p.size ≤ 20) (hq : q.size ≤ 20) :
    Calls Try.prog 32 #[.string p, .string q] W fun e w' => e = .returned (.int .i64 (lev p q p.size q.size)) ∧ Gr W w' := refEdits_any p q W (by omega) (by omega)

theorem get_drop (ys : List ByteArray) (a j : Nat) (hj : a + j < ys.length) : (ys.drop a)[j]! = ys[a + j]! := by
  rw [getElem!_pos _ j (by simp; omega), getElem!_pos ys (a + j) hj, List.getElem_drop]
theorem step_stuck {k : Int} {ys : List ByteArray} {x : ByteArray} {a : Nat} (h : ∀ j, a ≤ j → j < ys.length → alikeB x ys[j]! k = false) : amStep k (ys.drop a) x = none := by
  refine amStep_none (fun j hj => ?_)
  have hj' : a + j < ys.length := by simp at hj; omega
  rw [get_drop ys a j hj']
  exact h _ (by omega) hj'
theorem step_hit {k : Int} {ys : List ByteArray} {x : ByteArray} {a q : Nat} (ha : a ≤ q) (hq : q < ys.length) (h : alikeB x ys[q]! k = true) (hb : ∀ j, a ≤ j → j < q → alikeB x ys[j]! k = false) : amStep k (ys.drop a) x = some (ys.drop (q + 1)) := by
  have e := amStep_some (k := k) (l := ys.drop a) (x := x) (i := q - a) (by simp; omega) (by rw [get_drop ys a _ (by omega), show a + (q - a) = q by omega]; exact h)
    (fun j hj => by rw [get_drop ys a j (by omega)]; exact hb _ (by omega) (by omega))
  rw [e, List.drop_drop, show a + (q - a + 1) = q + 1 by omega]
theorem among_next {k : Int} {xs ys l : List ByteArray} {i : Nat} (hi : i < xs.length) (h : (xs.take i).foldlM (amStep k) ys = some l) : (xs.take (i + 1)).foldlM (amStep k) ys = amStep k l xs[i]! := by
  rw [List.take_succ_eq_append_getElem hi, among_snoc, h, getElem!_pos xs i hi]
  rfl
theorem among_stuck {k : Int} {xs ys l : List ByteArray} {i : Nat} (hi : i < xs.length) (h : (xs.take i).foldlM (amStep k) ys = some l) (hn : amStep k l xs[i]! = none) : amongB k xs ys = false := by
  unfold amongB
  rw [← List.take_append_drop (i + 1) xs, List.foldlM_append, among_next hi h, hn]
  rfl

set_option maxRecDepth 100000 in
set_option maxHeartbeats 8000000 in
theorem refGiven_any (k : Int) (A : Option Addr) (n c : Nat) (xs : List ByteArray) (A' : Option Addr) (n' c' : Nat) (ys : List ByteArray) (w : World)
    (ha : Rd w 1 A n (xs.map Value.string)) (hb : Rd w 1 A' n' (ys.map Value.string)) (hn : n ≤ 100) (hn' : n' ≤ 100) (wa : ∀ s ∈ xs, 0 < s.size ∧ s.size ≤ 20) (wb : ∀ s ∈ ys, 0 < s.size ∧ s.size ≤ 20) :
    Calls Try.prog 84 #[.slice A n c, .slice A' n' c', .int .i64 k] w fun e w' => e = .returned (.bool (amongB k xs ys)) ∧ Gr w w' := by
  have hl := ha.len
  have hl' := hb.len
  simp only [List.length_map, Nat.mul_one] at hl hl'
  have HL := hid hl
  have HL' := hid hl'
  clear hl hl'
  have in1 : (n : Int) ≤ 100 := by omega
  have in2 : (n' : Int) ≤ 100 := by omega
  obtain ⟨Q', hQ⟩ : ∃ Q' : Bool, Q' = amongB k xs ys := ⟨_, rfl⟩
  rw [← hQ]
  have HQ := hid hQ
  clear hQ
  go_enter Try.func84, Try.ntmps84
  go_wp2
  go_loopg [7, 8] n (fun gg s7 s8 wr => ∃ i a : Nat, i ≤ n ∧ a ≤ n' ∧ n - i ≤ gg ∧ s7 = .int .i64 a ∧ s8 = .int .i64 i ∧ Gr w wr ∧ Hid ((xs.take i).foldlM (amStep k) ys = some (ys.drop a)))
  case atStart => exact ⟨0, 0, Nat.zero_le _, Nat.zero_le _, by omega, rfl, rfl, Gr.refl w, hid rfl⟩
  case round =>
    obtain ⟨i, a, hi, hai, hgi, rfl, rfl, BW, HI⟩ := hrel
    by_cases hli : i < n
    case neg =>
      have hli' : (n : Int) ≤ i := by omega
      go_wp2
      go_ret
      refine ⟨?_, BW⟩
      have e : xs.take i = xs := List.take_of_length_le (by have := HL.out; omega)
      have h := HI.out
      rw [e] at h
      rw [HQ.out, show amongB k xs ys = true by unfold amongB; rw [h]; rfl]
      rfl
    have hli' : (i : Int) < n := by omega
    go_wp2
    obtain ⟨wm, rfl⟩ : ∃ wm : World, wm = wr := ⟨_, rfl⟩
    go_loopg [7] n' (fun gg s7 wq => ∃ q : Nat, a ≤ q ∧ q ≤ n' ∧ n' - q ≤ gg ∧ s7 = .int .i64 q ∧ Gr w wq ∧ Hid (∀ j, a ≤ j → j < q → alikeB xs[i]! ys[j]! k = false))
    case atStart => exact ⟨a, Nat.le_refl _, hai, by omega, rfl, BW, hid fun j h1 h2 => absurd h1 (by omega)⟩
    case round =>
      clear BW
      obtain ⟨q, haq, hq, hgq, rfl, BW, HJ⟩ := hrel
      by_cases hlq : q < n'
      case neg =>
        have eq : q = n' := by omega
        subst eq
        go_wp2
        go_quiet (fail)
        go_wp2
        go_ret
        refine ⟨?_, BW.drewN _⟩
        rw [HQ.out, among_stuck (by have := HL.out; omega) HI.out (step_stuck (fun j h1 h2 => HJ.out j h1 (by have := HL'.out; omega)))]
        rfl
      have hlq' : (q : Int) < n' := by omega
      have hlq2 : decide (q < n') = true := decide_eq_true hlq
      have i0 : (0 : Int) ≤ i := by omega
      have q0 : (0 : Int) ≤ q := by omega
      obtain ⟨b0, o0, rfl, hb0, hc0⟩ := (ha.gr BW).at_ (by omega)
      obtain ⟨b1, o1, rfl, hb1, hc1⟩ := (hb.gr BW).at_ (by omega)
      have h0 : wr.cell? ⟨b0, o0 + i, none⟩ = some (.string xs[i]!) := hc0 i _ (Rd.get (by have := HL.out; omega))
      have h1 : wr.cell? ⟨b1, o1 + q, none⟩ = some (.string ys[q]!) := hc1 q _ (Rd.get (by have := HL'.out; omega))
      clear hc0 hc1
      have wx := wa xs[i]! (mem_get (by have := HL.out; omega))
      have wy := wb ys[q]! (mem_get (by have := HL'.out; omega))
      generalize hx : xs[i]! = x at h0 wx
      generalize hy : ys[q]! = y at h1 wy
      have h0 := GrW.cell h0
      have h1 := GrW.cell h1
      have HX := hid hx
      have HY := hid hy
      have HC := hid (fun W => same_any x y W wx.1 wy.1)
      have HE := hid (fun W => refEdits20 x y W wx.2 wy.2)
      have WX := hid wx
      have WY := hid wy
      clear hx hy wx wy
      have HAL := hid (show alikeB x y k = (oneB x y || (decide (0 ≤ k) && decide ((lev x y x.size y.size : Int) ≤ k))) from rfl)
      generalize lev x y x.size y.size = v at HE HAL
      cases ho : oneB x y with
      | true =>
        rw [ho] at HC HAL
        have HA2 := hid (show alikeB x y k = true by rw [HAL.out]; rfl)
        clear ho HAL
        go_wp2
        (refine wp_region_gr (by kernel_rfl) (by kernel_rfl) ?_; (repeat (first | go_big_quiet_step ((first | (go_at_call 95; exact calls_gr (HC.out _)) | (go_at_call 32; exact calls_gr (HE.out _)))) | quiet_step ((first | (go_at_call 95; exact calls_gr (HC.out _)) | (go_at_call 32; exact calls_gr (HE.out _)))))); refine wpQuiet_nil ?_; intro wq hw; obtain ⟨⟨_, hbwq⟩, hw⟩ := hw; subst hw; obtain ⟨hcwq, hfwq, hzwq⟩ := hbwq.rules; (try simp at hzwq))
        have hqe : ((q : Int) == n') = false := by simp; omega
        have hqf : (q == n') = false := by simp; omega
        go_wp2
        go_roundg (n - (i + 1))
        case measure => omega
        case rel =>
          refine ⟨i + 1, q + 1, by omega, by omega, by omega, by go_num, by go_num, BW.trans hbwq, hid ?_⟩
          rw [among_next (by have := HL.out; omega) HI.out]
          exact step_hit haq (by have := HL'.out; omega) (by rw [HX.out, HY.out]; exact HA2.out) HJ.out
      | false =>
        rw [ho] at HC HAL
        clear ho
        by_cases hk : k < 0
        · have hk2 : decide (k < 0) = true := decide_eq_true hk
          have HA2 := hid (show alikeB x y k = false by rw [HAL.out, decide_eq_false (show ¬ 0 ≤ k by omega)]; rfl)
          clear HAL
          go_wp2
          (refine wp_region_gr (by kernel_rfl) (by kernel_rfl) ?_; (repeat (first | go_big_quiet_step ((first | (go_at_call 95; exact calls_gr (HC.out _)) | (go_at_call 32; exact calls_gr (HE.out _)))) | quiet_step ((first | (go_at_call 95; exact calls_gr (HC.out _)) | (go_at_call 32; exact calls_gr (HE.out _)))))); refine wpQuiet_nil ?_; intro wq hw; obtain ⟨⟨_, hbwq⟩, hw⟩ := hw; subst hw; obtain ⟨hcwq, hfwq, hzwq⟩ := hbwq.rules; (try simp at hzwq))
          go_wp2
          go_roundg (n' - (q + 1))
          case measure => omega
          case rel =>
            refine ⟨q + 1, by omega, by omega, by omega, by go_num, BW.trans hbwq, hid fun j h1 h2 => ?_⟩
            by_cases e : j = q
            · subst e
              rw [HX.out, HY.out]; exact HA2.out
            · exact HJ.out j h1 (by omega)
        · have hk2 : decide (k < 0) = false := decide_eq_false hk
          by_cases hv : k < v
          · have hv2 : decide (k < (v : Int)) = true := decide_eq_true hv
            have HA2 := hid (show alikeB x y k = false by rw [HAL.out, decide_eq_true (show 0 ≤ k by omega), decide_eq_false (show ¬ (v : Int) ≤ k by omega)]; rfl)
            clear HAL
            go_wp2
            (refine wp_region_gr (by kernel_rfl) (by kernel_rfl) ?_; (repeat (first | go_big_quiet_step ((first | (go_at_call 95; exact calls_gr (HC.out _)) | (go_at_call 32; exact calls_gr (HE.out _)))) | quiet_step ((first | (go_at_call 95; exact calls_gr (HC.out _)) | (go_at_call 32; exact calls_gr (HE.out _)))))); refine wpQuiet_nil ?_; intro wq hw; obtain ⟨⟨_, hbwq⟩, hw⟩ := hw; subst hw; obtain ⟨hcwq, hfwq, hzwq⟩ := hbwq.rules; (try simp at hzwq))
            go_wp2
            go_roundg (n' - (q + 1))
            case measure => omega
            case rel =>
              refine ⟨q + 1, by omega, by omega, by omega, by go_num, BW.trans hbwq, hid fun j h1 h2 => ?_⟩
              by_cases e : j = q
              · subst e
                rw [HX.out, HY.out]; exact HA2.out
              · exact HJ.out j h1 (by omega)
          · have hv2 : decide (k < (v : Int)) = false := decide_eq_false hv
            have HA2 := hid (show alikeB x y k = true by rw [HAL.out, decide_eq_true (show 0 ≤ k by omega), decide_eq_true (show (v : Int) ≤ k by omega)]; rfl)
            clear HAL
            go_wp2
            (refine wp_region_gr (by kernel_rfl) (by kernel_rfl) ?_; (repeat (first | go_big_quiet_step ((first | (go_at_call 95; exact calls_gr (HC.out _)) | (go_at_call 32; exact calls_gr (HE.out _)))) | quiet_step ((first | (go_at_call 95; exact calls_gr (HC.out _)) | (go_at_call 32; exact calls_gr (HE.out _)))))); refine wpQuiet_nil ?_; intro wq hw; obtain ⟨⟨_, hbwq⟩, hw⟩ := hw; subst hw; obtain ⟨hcwq, hfwq, hzwq⟩ := hbwq.rules; (try simp at hzwq))
            have hqe : ((q : Int) == n') = false := by simp; omega
            have hqf : (q == n') = false := by simp; omega
            go_wp2
            go_roundg (n - (i + 1))
            case measure => omega
            case rel =>
              refine ⟨i + 1, q + 1, by omega, by omega, by omega, by go_num, by go_num, BW.trans hbwq, hid ?_⟩
              rw [among_next (by have := HL.out; omega) HI.out]
              exact step_hit haq (by have := HL'.out; omega) (by rw [HX.out, HY.out]; exact HA2.out) HJ.out
end Go.Proofs.Ytlkjimfkapcenaa
namespace Go.Proofs.Ytlkjimfkapcenaa
open Go.RowKit

set_option maxRecDepth 100000 in
set_option maxHeartbeats 1000000 in
theorem verd6_any (a b : Rcd) (x : Cmp) (g : Nat) (A : Option Addr) (n c : Nat) (B : Option Addr) (m d : Nat) (A' : Option Addr) (n' c' : Nat) (B' : Option Addr) (m' d' : Nat) (w : World)
    (hc : w.cell? ⟨g, 0, none⟩ = some (.func (.func 76) #[] #[])) :
    Calls Try.prog 81 #[a.val A n c B m d, b.val A' n' c' B' m' d', x.val, .pointer (some ⟨g, 0, none⟩)] w fun e w' => e = .returned (.bool (((a.twin || b.twin) && x.nu != 3) && x.nm != 3)) ∧ Gr w w' := by
  have HV := hid (fun W => verd1_any a b A n c B m d A' n' c' B' m' d' W)
  obtain ⟨id, names, suf, l1, h1, p, tw, stays⟩ := a
  obtain ⟨id', names', suf', l2, h2, q, tw', stays'⟩ := b
  obtain ⟨nm, nu, bi, pl, vd⟩ := x
  unfold Rcd.val at HV ⊢
  unfold Cmp.val
  dsimp only at HV ⊢
  have b1 : g < w.heap.size := block_lt_of_cell hc
  have n1 : g ≠ w.heap.size := by omega
  have n2 : g ≠ w.heap.size + 1 := by omega
  have n3 : g ≠ w.heap.size + 1 + 1 := by omega
  have n4 : g ≠ w.heap.size + 2 := by omega
  have b2 : g < w.heap.size + 1 := by omega
  have b3 : g < w.heap.size + 1 + 1 := by omega
  have eg := enters_of Try.func76 (by kernel_rfl) rfl
  generalize (tw || tw') = T at HV
  cases T
  · go_enter Try.func81, Try.ntmps81
    go_wp2_with ((go_at_call 76; (with_reducible refine (HV.out _).mono ?_); rotate_right; rintro e w1 ⟨rfl, hbw1⟩; obtain ⟨hcw1, hfw1, hzw1⟩ := hbw1.rules; (try simp at hzw1); have hzw1_0 : w.heap.size < w1.heap.size := (by omega); have hyw1_0 : w.heap.size ≤ w1.heap.size := (by omega); have hzw1_1 : w.heap.size + 1 < w1.heap.size := (by omega); have hyw1_1 : w.heap.size + 1 ≤ w1.heap.size := (by omega); have hzw1_2 : w.heap.size + 2 < w1.heap.size := (by omega); have hyw1_2 : w.heap.size + 2 ≤ w1.heap.size := (by omega)))
    go_ret
    exact ⟨by rfl, by (repeat (first | with_reducible exact Gr.refl _ | with_reducible refine Gr.trans ?_ hbw1 | with_reducible refine Gr.alloc ?_ _ | with_reducible refine Gr.setCell ?_ (by simp) _ | with_reducible refine Gr.setCell ?_ (by simp; omega) _ | with_reducible refine Gr.drew ?_ | with_reducible refine Gr.drewN ?_ _))⟩
  · cases e1 : nu != 3
    · go_enter Try.func81, Try.ntmps81
      go_wp2_with ((go_at_call 76; (with_reducible refine (HV.out _).mono ?_); rotate_right; rintro e w1 ⟨rfl, hbw1⟩; obtain ⟨hcw1, hfw1, hzw1⟩ := hbw1.rules; (try simp at hzw1); have hzw1_0 : w.heap.size < w1.heap.size := (by omega); have hyw1_0 : w.heap.size ≤ w1.heap.size := (by omega); have hzw1_1 : w.heap.size + 1 < w1.heap.size := (by omega); have hyw1_1 : w.heap.size + 1 ≤ w1.heap.size := (by omega); have hzw1_2 : w.heap.size + 2 < w1.heap.size := (by omega); have hyw1_2 : w.heap.size + 2 ≤ w1.heap.size := (by omega)))
      go_ret
      exact ⟨by rfl, by (repeat (first | with_reducible exact Gr.refl _ | with_reducible refine Gr.trans ?_ hbw1 | with_reducible refine Gr.alloc ?_ _ | with_reducible refine Gr.setCell ?_ (by simp) _ | with_reducible refine Gr.setCell ?_ (by simp; omega) _ | with_reducible refine Gr.drew ?_ | with_reducible refine Gr.drewN ?_ _))⟩
    · go_enter Try.func81, Try.ntmps81
      go_wp2_with ((go_at_call 76; (with_reducible refine (HV.out _).mono ?_); rotate_right; rintro e w1 ⟨rfl, hbw1⟩; obtain ⟨hcw1, hfw1, hzw1⟩ := hbw1.rules; (try simp at hzw1); have hzw1_0 : w.heap.size < w1.heap.size := (by omega); have hyw1_0 : w.heap.size ≤ w1.heap.size := (by omega); have hzw1_1 : w.heap.size + 1 < w1.heap.size := (by omega); have hyw1_1 : w.heap.size + 1 ≤ w1.heap.size := (by omega); have hzw1_2 : w.heap.size + 2 < w1.heap.size := (by omega); have hyw1_2 : w.heap.size + 2 ≤ w1.heap.size := (by omega)))
      go_ret
      exact ⟨by rfl, by (repeat (first | with_reducible exact Gr.refl _ | with_reducible refine Gr.trans ?_ hbw1 | with_reducible refine Gr.alloc ?_ _ | with_reducible refine Gr.setCell ?_ (by simp) _ | with_reducible refine Gr.setCell ?_ (by simp; omega) _ | with_reducible refine Gr.drew ?_ | with_reducible refine Gr.drewN ?_ _))⟩
set_option maxRecDepth 100000 in
set_option maxHeartbeats 1000000 in
theorem verd8_any (a b : Rcd) (x : Cmp) (g : Nat) (A : Option Addr) (n c : Nat) (B : Option Addr) (m d : Nat) (A' : Option Addr) (n' c' : Nat) (B' : Option Addr) (m' d' : Nat) (w : World)
    (hc : w.cell? ⟨g, 0, none⟩ = some (.func (.func 76) #[] #[])) :
    Calls Try.prog 83 #[a.val A n c B m d, b.val A' n' c' B' m' d', x.val, .pointer (some ⟨g, 0, none⟩)] w fun e w' => e = .returned (.bool (((!(a.twin || b.twin) && x.nm == 3) && x.bi == 3) && x.pl == 3)) ∧ Gr w w' := by
  have HV := hid (fun W => verd1_any a b A n c B m d A' n' c' B' m' d' W)
  obtain ⟨id, names, suf, l1, h1, p, tw, stays⟩ := a
  obtain ⟨id', names', suf', l2, h2, q, tw', stays'⟩ := b
  obtain ⟨nm, nu, bi, pl, vd⟩ := x
  unfold Rcd.val at HV ⊢
  unfold Cmp.val
  dsimp only at HV ⊢
  have b1 : g < w.heap.size := block_lt_of_cell hc
  have n1 : g ≠ w.heap.size := by omega
  have n2 : g ≠ w.heap.size + 1 := by omega
  have n3 : g ≠ w.heap.size + 1 + 1 := by omega
  have n4 : g ≠ w.heap.size + 2 := by omega
  have b2 : g < w.heap.size + 1 := by omega
  have b3 : g < w.heap.size + 1 + 1 := by omega
  have eg := enters_of Try.func76 (by kernel_rfl) rfl
  generalize (tw || tw') = T at HV
  cases T
  · cases e1 : nm == 3
    · go_enter Try.func83, Try.ntmps83
      go_wp2_with ((go_at_call 76; (with_reducible refine (HV.out _).mono ?_); rotate_right; rintro e w1 ⟨rfl, hbw1⟩; obtain ⟨hcw1, hfw1, hzw1⟩ := hbw1.rules; (try simp at hzw1); have hzw1_0 : w.heap.size < w1.heap.size := (by omega); have hyw1_0 : w.heap.size ≤ w1.heap.size := (by omega); have hzw1_1 : w.heap.size + 1 < w1.heap.size := (by omega); have hyw1_1 : w.heap.size + 1 ≤ w1.heap.size := (by omega); have hzw1_2 : w.heap.size + 2 < w1.heap.size := (by omega); have hyw1_2 : w.heap.size + 2 ≤ w1.heap.size := (by omega)))
      go_ret
      exact ⟨by rfl, by (repeat (first | with_reducible exact Gr.refl _ | with_reducible refine Gr.trans ?_ hbw1 | with_reducible refine Gr.alloc ?_ _ | with_reducible refine Gr.setCell ?_ (by simp) _ | with_reducible refine Gr.setCell ?_ (by simp; omega) _ | with_reducible refine Gr.drew ?_ | with_reducible refine Gr.drewN ?_ _))⟩
    · cases e2 : bi == 3
      · go_enter Try.func83, Try.ntmps83
        go_wp2_with ((go_at_call 76; (with_reducible refine (HV.out _).mono ?_); rotate_right; rintro e w1 ⟨rfl, hbw1⟩; obtain ⟨hcw1, hfw1, hzw1⟩ := hbw1.rules; (try simp at hzw1); have hzw1_0 : w.heap.size < w1.heap.size := (by omega); have hyw1_0 : w.heap.size ≤ w1.heap.size := (by omega); have hzw1_1 : w.heap.size + 1 < w1.heap.size := (by omega); have hyw1_1 : w.heap.size + 1 ≤ w1.heap.size := (by omega); have hzw1_2 : w.heap.size + 2 < w1.heap.size := (by omega); have hyw1_2 : w.heap.size + 2 ≤ w1.heap.size := (by omega)))
        go_ret
        exact ⟨by rfl, by (repeat (first | with_reducible exact Gr.refl _ | with_reducible refine Gr.trans ?_ hbw1 | with_reducible refine Gr.alloc ?_ _ | with_reducible refine Gr.setCell ?_ (by simp) _ | with_reducible refine Gr.setCell ?_ (by simp; omega) _ | with_reducible refine Gr.drew ?_ | with_reducible refine Gr.drewN ?_ _))⟩
      · go_enter Try.func83, Try.ntmps83
        go_wp2_with ((go_at_call 76; (with_reducible refine (HV.out _).mono ?_); rotate_right; rintro e w1 ⟨rfl, hbw1⟩; obtain ⟨hcw1, hfw1, hzw1⟩ := hbw1.rules; (try simp at hzw1); have hzw1_0 : w.heap.size < w1.heap.size := (by omega); have hyw1_0 : w.heap.size ≤ w1.heap.size := (by omega); have hzw1_1 : w.heap.size + 1 < w1.heap.size := (by omega); have hyw1_1 : w.heap.size + 1 ≤ w1.heap.size := (by omega); have hzw1_2 : w.heap.size + 2 < w1.heap.size := (by omega); have hyw1_2 : w.heap.size + 2 ≤ w1.heap.size := (by omega)))
        go_ret
        exact ⟨by rfl, by (repeat (first | with_reducible exact Gr.refl _ | with_reducible refine Gr.trans ?_ hbw1 | with_reducible refine Gr.alloc ?_ _ | with_reducible refine Gr.setCell ?_ (by simp) _ | with_reducible refine Gr.setCell ?_ (by simp; omega) _ | with_reducible refine Gr.drew ?_ | with_reducible refine Gr.drewN ?_ _))⟩
  · go_enter Try.func83, Try.ntmps83
    go_wp2_with ((go_at_call 76; (with_reducible refine (HV.out _).mono ?_); rotate_right; rintro e w1 ⟨rfl, hbw1⟩; obtain ⟨hcw1, hfw1, hzw1⟩ := hbw1.rules; (try simp at hzw1); have hzw1_0 : w.heap.size < w1.heap.size := (by omega); have hyw1_0 : w.heap.size ≤ w1.heap.size := (by omega); have hzw1_1 : w.heap.size + 1 < w1.heap.size := (by omega); have hyw1_1 : w.heap.size + 1 ≤ w1.heap.size := (by omega); have hzw1_2 : w.heap.size + 2 < w1.heap.size := (by omega); have hyw1_2 : w.heap.size + 2 ≤ w1.heap.size := (by omega)))
    go_ret
    exact ⟨by rfl, by (repeat (first | with_reducible exact Gr.refl _ | with_reducible refine Gr.trans ?_ hbw1 | with_reducible refine Gr.alloc ?_ _ | with_reducible refine Gr.setCell ?_ (by simp) _ | with_reducible refine Gr.setCell ?_ (by simp; omega) _ | with_reducible refine Gr.drew ?_ | with_reducible refine Gr.drewN ?_ _))⟩
end Go.Proofs.Ytlkjimfkapcenaa
namespace Go.Proofs.Ytlkjimfkapcenaa
open Go.RowKit

theorem lev_zero_left (a b : ByteArray) (k : Nat) : lev a b 0 k = k := by cases k <;> simp [lev]
theorem lev_three (a b : ByteArray) (i k : Nat) : lev a b (i + 1) (k + 1) = lev a b i k + (if byt a i = byt b k then 0 else 1) ∨ lev a b (i + 1) (k + 1) = lev a b i (k + 1) + 1 ∨ lev a b (i + 1) (k + 1) = lev a b (i + 1) k + 1 := by
  rw [lev_step]; omega
theorem lev_le1 (a b : ByteArray) (i k : Nat) : lev a b (i + 1) (k + 1) ≤ lev a b i k + (if byt a i = byt b k then 0 else 1) := by rw [lev_step]; omega
theorem lev_le2 (a b : ByteArray) (i k : Nat) : lev a b (i + 1) k ≤ lev a b i k + 1 := by
  cases k with
  | zero => rw [lev_zero, lev_zero]; omega
  | succ k => rw [lev_step]; omega
theorem lev_le3 (a b : ByteArray) (i k : Nat) : lev a b i (k + 1) ≤ lev a b i k + 1 := by
  cases i with
  | zero => rw [lev_zero_left, lev_zero_left]; omega
  | succ i => rw [lev_step]; omega
theorem lev_lower (a b : ByteArray) : ∀ i k, i ≤ lev a b i k + k ∧ k ≤ lev a b i k + i := by
  intro i
  induction i with
  | zero => intro k; rw [lev_zero_left]; omega
  | succ i ih =>
    intro k
    induction k with
    | zero => rw [lev_zero]; omega
    | succ k ihk =>
      have h1 := ih k
      have h2 := ih (k + 1)
      rcases lev_three a b i k with h | h | h <;> rw [h] <;> (try split) <;> omega
theorem lev_upper (a b : ByteArray) : ∀ i k, lev a b i k ≤ max i k := by
  intro i
  induction i with
  | zero => intro k; rw [lev_zero_left]; omega
  | succ i ih =>
    intro k
    cases k with
    | zero => rw [lev_zero]; omega
    | succ k =>
      have h1 := ih k
      have h2 := lev_le1 a b i k
      split at h2 <;> omega
theorem lev_self (a : ByteArray) : ∀ i, lev a a i i = 0 := by
  intro i
  induction i with
  | zero => rw [lev_zero]
  | succ i ih =>
    have h := lev_le1 a a i i
    rw [if_pos rfl, ih] at h
    omega
theorem lev_tri (a b c : ByteArray) : ∀ n i j k, i + j + k ≤ n → lev a c i k ≤ lev a b i j + lev b c j k := by
  intro n
  induction n with
  | zero =>
    intro i j k h
    obtain rfl : i = 0 := by omega
    obtain rfl : k = 0 := by omega
    rw [lev_zero]; omega
  | succ n ih =>
    intro i j k h
    cases i with
    | zero =>
      have := (lev_lower b c j k).2
      rw [lev_zero_left, lev_zero_left]; omega
    | succ i =>
      cases k with
      | zero =>
        have := (lev_lower a b (i + 1) j).1
        rw [lev_zero, lev_zero]; omega
      | succ k =>
        cases j with
        | zero =>
          have := lev_le a c (i + 1) (k + 1)
          rw [lev_zero, lev_zero_left]; omega
        | succ j =>
          rcases lev_three b c j k with h2 | h2 | h2
          · rcases lev_three a b i j with h1 | h1 | h1
            · have k1 := ih i j k (by omega)
              have k2 := lev_le1 a c i k
              have k3 : (if byt a i = byt c k then (0 : Nat) else 1) ≤ (if byt a i = byt b j then 0 else 1) + (if byt b j = byt c k then 0 else 1) := by
                by_cases e1 : byt a i = byt b j
                · by_cases e2 : byt b j = byt c k
                  · rw [if_pos (e1.trans e2)]; omega
                  · rw [if_neg e2]; split <;> omega
                · rw [if_neg e1]; split <;> omega
              omega
            · have k1 := ih i (j + 1) (k + 1) (by omega)
              have k2 := lev_le2 a c i (k + 1)
              omega
            · have k1 := ih (i + 1) j k (by omega)
              have k2 := lev_le3 a c (i + 1) k
              omega
          · rcases lev_three a b i j with h1 | h1 | h1
            · have k1 := ih i j (k + 1) (by omega)
              have k2 := lev_le2 a c i (k + 1)
              omega
            · have k1 := ih i (j + 1) (k + 1) (by omega)
              have k2 := lev_le2 a c i (k + 1)
              omega
            · have k1 := ih (i + 1) j (k + 1) (by omega)
              omega
          · have k1 := ih (i + 1) (j + 1) k (by omega)
            have k2 := lev_le3 a c (i + 1) k
            omega
theorem lev_lip (a b : ByteArray) (i k : Nat) : lev a b i k ≤ lev a b (i + 1) k + 1 := by
  have h1 := lev_tri a a b (i + (i + 1) + k) i (i + 1) k (by omega)
  have h2 := lev_le3 a a i i
  rw [lev_self] at h2
  omega
theorem lev_congr {a a' b : ByteArray} : ∀ i k, (∀ j, j < i → byt a j = byt a' j) → lev a b i k = lev a' b i k := by
  intro i
  induction i with
  | zero => intro k _; rw [lev_zero_left, lev_zero_left]
  | succ i ih =>
    intro k h
    induction k with
    | zero => rw [lev_zero, lev_zero]
    | succ k ihk =>
      have e : byt a i = byt a' i := h i (by omega)
      rw [lev_step, lev_step, ih k (fun j hj => h j (by omega)), ih (k + 1) (fun j hj => h j (by omega)), ihk, e]
theorem lev_eq_zero (a b : ByteArray) : ∀ i k, lev a b i k = 0 → i = k ∧ ∀ j, j < i → byt a j = byt b j := by
  intro i
  induction i with
  | zero => intro k h; rw [lev_zero_left] at h; exact ⟨h.symm, fun j hj => absurd hj (by omega)⟩
  | succ i ih =>
    intro k h
    cases k with
    | zero => rw [lev_zero] at h; omega
    | succ k =>
      rcases lev_three a b i k with e | e | e
      · rw [e] at h
        by_cases hb : byt a i = byt b k
        · rw [if_pos hb] at h
          obtain ⟨rfl, h2⟩ := ih k (by omega)
          refine ⟨rfl, fun j hj => ?_⟩
          by_cases hj' : j = i
          · subst hj'; exact hb
          · exact h2 j (by omega)
        · rw [if_neg hb] at h; omega
      · omega
      · omega
theorem byt_get {a : ByteArray} {i : Nat} (hi : i < a.size) : byt a i = a.data.toList[i]'(by simpa using hi) := by
  unfold byt
  rw [List.getD_eq_getElem?_getD, List.getElem?_eq_getElem (by simpa using hi)]; rfl
theorem bytes_ext {a b : ByteArray} (hs : a.size = b.size) (h : ∀ j, j < a.size → byt a j = byt b j) : a = b := by
  have e : a.data.toList = b.data.toList := by
    apply List.ext_getElem (by simpa using hs)
    intro j h1 h2
    have hj : j < a.size := by simpa using h1
    have := h j hj
    rw [byt_get hj, byt_get (by omega)] at this
    exact this
  cases a; cases b
  congr 1
  exact Array.toList_inj.1 e
/-- The edits of two words. -/
def levW (a b : ByteArray) : Nat := lev a b a.size b.size
theorem levW_symm (a b : ByteArray) : levW a b = levW b a := lev_symm a b _ _
theorem levW_tri (a b c : ByteArray) : levW a c ≤ levW a b + levW b c := lev_tri a b c _ _ _ _ (Nat.le_refl _)
theorem levW_self (a : ByteArray) : levW a a = 0 := lev_self a _
theorem levW_zero (a b : ByteArray) : levW a b = 0 ↔ a = b := by
  constructor
  · intro h
    obtain ⟨h1, h2⟩ := lev_eq_zero a b _ _ h
    exact bytes_ext h1 h2
  · rintro rfl; exact levW_self a
theorem byt_push (a : ByteArray) (c : UInt8) {j : Nat} (hj : j < a.size) : byt (a ++ ⟨#[c]⟩) j = byt a j := by
  have e : (a ++ ⟨#[c]⟩).data.toList = a.data.toList ++ [c] := by simp
  unfold byt
  rw [e, List.getD_eq_getElem?_getD, List.getD_eq_getElem?_getD, List.getElem?_append_left (by simpa using hj)]
theorem size_push (a : ByteArray) (c : UInt8) : (a ++ ⟨#[c]⟩).size = a.size + 1 := by
  rw [ByteArray.size_append]; rfl
theorem levW_push (a b : ByteArray) (c : UInt8) : levW (a ++ ⟨#[c]⟩) b ≤ levW a b + 1 ∧ levW a b ≤ levW (a ++ ⟨#[c]⟩) b + 1 := by
  unfold levW
  rw [size_push]
  have e : lev a b a.size b.size = lev (a ++ ⟨#[c]⟩) b a.size b.size := lev_congr _ _ (fun j hj => (byt_push a c hj).symm)
  rw [e]
  exact ⟨lev_le2 _ _ _ _, lev_lip _ _ _ _⟩
end Go.Proofs.Ytlkjimfkapcenaa
namespace Go.Proofs.Ytlkjimfkapcenaa
open Go.RowKit

def levF : Nat → ByteArray → ByteArray → Nat → Nat → Nat
  | 0, _, _, _, _ => 0
  | _ + 1, _, _, 0, k => k
  | _ + 1, _, _, i + 1, 0 => i + 1
  | n + 1, a, b, i + 1, k + 1 => min (min (levF n a b i k + if byt a i = byt b k then 0 else 1) (levF n a b i (k + 1) + 1)) (levF n a b (i + 1) k + 1)
theorem levF_eq (a b : ByteArray) : ∀ n i k, i + k < n → levF n a b i k = lev a b i k := by
  intro n
  induction n with
  | zero => intro i k h; omega
  | succ n ih =>
    intro i k h
    cases i with
    | zero => rw [lev_zero_left]; cases k <;> rfl
    | succ i =>
      cases k with
      | zero => rw [lev_zero]; rfl
      | succ k =>
        rw [lev_step, ← ih i k (by omega), ← ih i (k + 1) (by omega), ← ih (i + 1) k (by omega)]
        rfl
theorem lev_fuel : lev = fun a b i k => levF (i + k + 1) a b i k := by
  funext a b i k
  exact (levF_eq a b _ _ _ (by omega)).symm
end Go.Proofs.Ytlkjimfkapcenaa
