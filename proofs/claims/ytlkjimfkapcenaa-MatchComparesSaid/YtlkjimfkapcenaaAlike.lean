/- Whether two given names are alike, in the package match and in its reference. For all words. -/
import Derived.Test.YtlkjimfkapcenaaRefNumbers
import Derived.Test.YtlkjimfkapcenaaRefEdits
import Derived.Test.YtlkjimfkapcenaaEditsTop
namespace Go.Proofs.Ytlkjimfkapcenaa
open Go.RowKit

theorem toList_ne' {p q : ByteArray} (h : ¬ p = q) : ¬ p.toList = q.toList := fun e => h (by
  rw [ByteArray.toList_eq, ByteArray.toList_eq] at e
  exact ByteArray.ext (Array.toList_inj.1 e))
theorem toList_beq {p q : ByteArray} (h : ¬ p = q) : (p.toList == q.toList) = false := by
  have := toList_ne' h
  simpa using this
theorem byt0_eq {p q : ByteArray} (hp : 0 < p.size) (hq : 0 < q.size) (h : byt p 0 = byt q 0) : ((p[0].toNat : Int) == (q[0].toNat : Int)) = true := by
  have := byt_eq hp hq h
  simpa [bne] using this
theorem byt0_ne {p q : ByteArray} (hp : 0 < p.size) (hq : 0 < q.size) (h : ¬ byt p 0 = byt q 0) : ((p[0].toNat : Int) == (q[0].toNat : Int)) = false := by
  have := byt_ne hp hq h
  simpa [bne] using this
/-- Whether two names are the same, or one is the first letter of the other. -/
def oneB (p q : ByteArray) : Bool := decide (p = q) || (decide (p.size = 1) && decide (byt p 0 = byt q 0)) || (decide (q.size = 1) && decide (byt p 0 = byt q 0))
/-- Whether two names are alike. -/
def alikeB (p q : ByteArray) (k : Int) : Bool := oneB p q || (decide (0 ≤ k) && decide ((lev p q p.size q.size : Int) ≤ k))
theorem alike_one {p q : ByteArray} {k : Int} (h : oneB p q = true) : alikeB p q k = true := by unfold alikeB; rw [h]; rfl
theorem alike_not {p q : ByteArray} {k : Int} (h : oneB p q = false) : alikeB p q k = (decide (0 ≤ k) && decide ((lev p q p.size q.size : Int) ≤ k)) := by unfold alikeB; rw [h]; rfl

set_option maxRecDepth 100000 in
set_option maxHeartbeats 4000000 in
theorem same_any (p q : ByteArray) (w : World) (hp : 0 < p.size) (hq : 0 < q.size) :
    Calls Try.prog 95 #[.string p, .string q] w fun e w' => e = .returned (.bool (oneB p q)) ∧ Gr w w' := by
  have ip : (0 : Int) < p.size := by omega
  have iq : (0 : Int) < q.size := by omega
  by_cases e0 : p = q
  · have E := hid (show oneB p q = true by unfold oneB; rw [decide_eq_true e0]; rfl)
    subst e0
    go_enter Try.func95, Try.ntmps95
    go_wp2
    go_quiet (fail)
    go_wp2
    go_ret
    exact ⟨by rw [E.out]; rfl, by (repeat (first | with_reducible exact Gr.refl _ | with_reducible refine Gr.alloc ?_ _ | with_reducible refine Gr.setCell ?_ (by simp) _ | with_reducible refine Gr.setCell ?_ (by simp; omega) _ | with_reducible refine Gr.drew ?_ | with_reducible refine Gr.drewN ?_ _))⟩
  · have tl := toList_ne' e0
    have tb := toList_beq e0
    by_cases hbe : byt p 0 = byt q 0
    · by_cases hps : p.size = 1
      · by_cases hqs : q.size = 1
        · have f1 : ((p.size : Int) == 1) = true := by simp; omega
          have f2 : ((q.size : Int) == 1) = true := by simp; omega
          have f3 := byt0_eq hp hq hbe
          have E := hid (show oneB p q = true by unfold oneB; rw [decide_eq_false e0, decide_eq_true hps, decide_eq_true hqs, decide_eq_true hbe]; rfl)
          go_enter Try.func95, Try.ntmps95
          go_wp2
          go_quiet (fail)
          go_wp2
          go_ret
          exact ⟨by rw [E.out]; rfl, by (repeat (first | with_reducible exact Gr.refl _ | with_reducible refine Gr.alloc ?_ _ | with_reducible refine Gr.setCell ?_ (by simp) _ | with_reducible refine Gr.setCell ?_ (by simp; omega) _ | with_reducible refine Gr.drew ?_ | with_reducible refine Gr.drewN ?_ _))⟩
        · have f1 : ((p.size : Int) == 1) = true := by simp; omega
          have f2 : ((q.size : Int) == 1) = false := by simp; omega
          have f3 := byt0_eq hp hq hbe
          have E := hid (show oneB p q = true by unfold oneB; rw [decide_eq_false e0, decide_eq_true hps, decide_eq_false hqs, decide_eq_true hbe]; rfl)
          go_enter Try.func95, Try.ntmps95
          go_wp2
          go_quiet (fail)
          go_wp2
          go_ret
          exact ⟨by rw [E.out]; rfl, by (repeat (first | with_reducible exact Gr.refl _ | with_reducible refine Gr.alloc ?_ _ | with_reducible refine Gr.setCell ?_ (by simp) _ | with_reducible refine Gr.setCell ?_ (by simp; omega) _ | with_reducible refine Gr.drew ?_ | with_reducible refine Gr.drewN ?_ _))⟩
      · by_cases hqs : q.size = 1
        · have f1 : ((p.size : Int) == 1) = false := by simp; omega
          have f2 : ((q.size : Int) == 1) = true := by simp; omega
          have f3 := byt0_eq hp hq hbe
          have E := hid (show oneB p q = true by unfold oneB; rw [decide_eq_false e0, decide_eq_false hps, decide_eq_true hqs, decide_eq_true hbe]; rfl)
          go_enter Try.func95, Try.ntmps95
          go_wp2
          go_quiet (fail)
          go_wp2
          go_ret
          exact ⟨by rw [E.out]; rfl, by (repeat (first | with_reducible exact Gr.refl _ | with_reducible refine Gr.alloc ?_ _ | with_reducible refine Gr.setCell ?_ (by simp) _ | with_reducible refine Gr.setCell ?_ (by simp; omega) _ | with_reducible refine Gr.drew ?_ | with_reducible refine Gr.drewN ?_ _))⟩
        · have f1 : ((p.size : Int) == 1) = false := by simp; omega
          have f2 : ((q.size : Int) == 1) = false := by simp; omega
          have f3 := byt0_eq hp hq hbe
          have E := hid (show oneB p q = false by unfold oneB; rw [decide_eq_false e0, decide_eq_false hps, decide_eq_false hqs, decide_eq_true hbe]; rfl)
          go_enter Try.func95, Try.ntmps95
          go_wp2
          go_quiet (fail)
          go_wp2
          go_ret
          exact ⟨by rw [E.out]; rfl, by (repeat (first | with_reducible exact Gr.refl _ | with_reducible refine Gr.alloc ?_ _ | with_reducible refine Gr.setCell ?_ (by simp) _ | with_reducible refine Gr.setCell ?_ (by simp; omega) _ | with_reducible refine Gr.drew ?_ | with_reducible refine Gr.drewN ?_ _))⟩
    · by_cases hps : p.size = 1
      · by_cases hqs : q.size = 1
        · have f1 : ((p.size : Int) == 1) = true := by simp; omega
          have f2 : ((q.size : Int) == 1) = true := by simp; omega
          have f3 := byt0_ne hp hq hbe
          have E := hid (show oneB p q = false by unfold oneB; rw [decide_eq_false e0, decide_eq_true hps, decide_eq_true hqs, decide_eq_false hbe]; rfl)
          go_enter Try.func95, Try.ntmps95
          go_wp2
          go_quiet (fail)
          go_wp2
          go_ret
          exact ⟨by rw [E.out]; rfl, by (repeat (first | with_reducible exact Gr.refl _ | with_reducible refine Gr.alloc ?_ _ | with_reducible refine Gr.setCell ?_ (by simp) _ | with_reducible refine Gr.setCell ?_ (by simp; omega) _ | with_reducible refine Gr.drew ?_ | with_reducible refine Gr.drewN ?_ _))⟩
        · have f1 : ((p.size : Int) == 1) = true := by simp; omega
          have f2 : ((q.size : Int) == 1) = false := by simp; omega
          have f3 := byt0_ne hp hq hbe
          have E := hid (show oneB p q = false by unfold oneB; rw [decide_eq_false e0, decide_eq_true hps, decide_eq_false hqs, decide_eq_false hbe]; rfl)
          go_enter Try.func95, Try.ntmps95
          go_wp2
          go_quiet (fail)
          go_wp2
          go_ret
          exact ⟨by rw [E.out]; rfl, by (repeat (first | with_reducible exact Gr.refl _ | with_reducible refine Gr.alloc ?_ _ | with_reducible refine Gr.setCell ?_ (by simp) _ | with_reducible refine Gr.setCell ?_ (by simp; omega) _ | with_reducible refine Gr.drew ?_ | with_reducible refine Gr.drewN ?_ _))⟩
      · by_cases hqs : q.size = 1
        · have f1 : ((p.size : Int) == 1) = false := by simp; omega
          have f2 : ((q.size : Int) == 1) = true := by simp; omega
          have f3 := byt0_ne hp hq hbe
          have E := hid (show oneB p q = false by unfold oneB; rw [decide_eq_false e0, decide_eq_false hps, decide_eq_true hqs, decide_eq_false hbe]; rfl)
          go_enter Try.func95, Try.ntmps95
          go_wp2
          go_quiet (fail)
          go_wp2
          go_ret
          exact ⟨by rw [E.out]; rfl, by (repeat (first | with_reducible exact Gr.refl _ | with_reducible refine Gr.alloc ?_ _ | with_reducible refine Gr.setCell ?_ (by simp) _ | with_reducible refine Gr.setCell ?_ (by simp; omega) _ | with_reducible refine Gr.drew ?_ | with_reducible refine Gr.drewN ?_ _))⟩
        · have f1 : ((p.size : Int) == 1) = false := by simp; omega
          have f2 : ((q.size : Int) == 1) = false := by simp; omega
          have f3 := byt0_ne hp hq hbe
          have E := hid (show oneB p q = false by unfold oneB; rw [decide_eq_false e0, decide_eq_false hps, decide_eq_false hqs, decide_eq_false hbe]; rfl)
          go_enter Try.func95, Try.ntmps95
          go_wp2
          go_quiet (fail)
          go_wp2
          go_ret
          exact ⟨by rw [E.out]; rfl, by (repeat (first | with_reducible exact Gr.refl _ | with_reducible refine Gr.alloc ?_ _ | with_reducible refine Gr.setCell ?_ (by simp) _ | with_reducible refine Gr.setCell ?_ (by simp; omega) _ | with_reducible refine Gr.drew ?_ | with_reducible refine Gr.drewN ?_ _))⟩

set_option maxRecDepth 100000 in
set_option maxHeartbeats 8000000 in
theorem alike_any (p q : ByteArray) (k : Int) (w : World) (hp : 0 < p.size) (hq : 0 < q.size) (zp : p.size ≤ 20) (zq : q.size ≤ 20) :
    Calls Try.prog 94 #[.string p, .string q, .int .i64 k] w fun e w' => e = .returned (.bool (alikeB p q k)) ∧ Gr w w' := by
  have HL := hid (fun W => edits_any p q W (by omega) zq)
  have ip : (0 : Int) < p.size := by omega
  have iq : (0 : Int) < q.size := by omega
  by_cases e0 : p = q
  · have E := hid (alike_one (k := k) (show oneB p q = true by unfold oneB; rw [decide_eq_true e0]; rfl))
    subst e0
    clear HL
    go_enter Try.func94, Try.ntmps94
    go_wp2
    go_quiet (fail)
    go_wp2
    go_ret
    exact ⟨by rw [E.out]; rfl, by (repeat (first | with_reducible exact Gr.refl _ | with_reducible refine Gr.alloc ?_ _ | with_reducible refine Gr.setCell ?_ (by simp) _ | with_reducible refine Gr.setCell ?_ (by simp; omega) _ | with_reducible refine Gr.drew ?_ | with_reducible refine Gr.drewN ?_ _))⟩
  · have tl := toList_ne' e0
    have tb := toList_beq e0
    by_cases hbe : byt p 0 = byt q 0
    · by_cases hps : p.size = 1
      · by_cases hqs : q.size = 1
        · have f1 : ((p.size : Int) == 1) = true := by simp; omega
          have f2 : ((q.size : Int) == 1) = true := by simp; omega
          have f3 := byt0_eq hp hq hbe
          have E := hid (alike_one (k := k) (show oneB p q = true by unfold oneB; rw [decide_eq_false e0, decide_eq_true hps, decide_eq_true hqs, decide_eq_true hbe]; rfl))
          go_enter Try.func94, Try.ntmps94
          go_wp2
          go_quiet (fail)
          go_wp2
          go_ret
          exact ⟨by rw [E.out]; rfl, by (repeat (first | with_reducible exact Gr.refl _ | with_reducible refine Gr.alloc ?_ _ | with_reducible refine Gr.setCell ?_ (by simp) _ | with_reducible refine Gr.setCell ?_ (by simp; omega) _ | with_reducible refine Gr.drew ?_ | with_reducible refine Gr.drewN ?_ _))⟩
        · have f1 : ((p.size : Int) == 1) = true := by simp; omega
          have f2 : ((q.size : Int) == 1) = false := by simp; omega
          have f3 := byt0_eq hp hq hbe
          have E := hid (alike_one (k := k) (show oneB p q = true by unfold oneB; rw [decide_eq_false e0, decide_eq_true hps, decide_eq_false hqs, decide_eq_true hbe]; rfl))
          go_enter Try.func94, Try.ntmps94
          go_wp2
          go_quiet (fail)
          go_wp2
          go_ret
          exact ⟨by rw [E.out]; rfl, by (repeat (first | with_reducible exact Gr.refl _ | with_reducible refine Gr.alloc ?_ _ | with_reducible refine Gr.setCell ?_ (by simp) _ | with_reducible refine Gr.setCell ?_ (by simp; omega) _ | with_reducible refine Gr.drew ?_ | with_reducible refine Gr.drewN ?_ _))⟩
      · by_cases hqs : q.size = 1
        · have f1 : ((p.size : Int) == 1) = false := by simp; omega
          have f2 : ((q.size : Int) == 1) = true := by simp; omega
          have f3 := byt0_eq hp hq hbe
          have E := hid (alike_one (k := k) (show oneB p q = true by unfold oneB; rw [decide_eq_false e0, decide_eq_false hps, decide_eq_true hqs, decide_eq_true hbe]; rfl))
          go_enter Try.func94, Try.ntmps94
          go_wp2
          go_quiet (fail)
          go_wp2
          go_ret
          exact ⟨by rw [E.out]; rfl, by (repeat (first | with_reducible exact Gr.refl _ | with_reducible refine Gr.alloc ?_ _ | with_reducible refine Gr.setCell ?_ (by simp) _ | with_reducible refine Gr.setCell ?_ (by simp; omega) _ | with_reducible refine Gr.drew ?_ | with_reducible refine Gr.drewN ?_ _))⟩
        · have f1 : ((p.size : Int) == 1) = false := by simp; omega
          have f2 : ((q.size : Int) == 1) = false := by simp; omega
          have f3 := byt0_eq hp hq hbe
          have E := hid (alike_not (k := k) (show oneB p q = false by unfold oneB; rw [decide_eq_false e0, decide_eq_false hps, decide_eq_false hqs, decide_eq_true hbe]; rfl))
          clear zp zq
          by_cases hk : 0 ≤ k
          · have E2 := hid (E.out.trans (show (decide (0 ≤ k) && decide (((lev p q p.size q.size : Nat) : Int) ≤ k)) = decide (((lev p q p.size q.size : Nat) : Int) ≤ k) by rw [decide_eq_true hk]; rfl))
            clear E
            generalize lev p q p.size q.size = v at HL E2
            go_enter Try.func94, Try.ntmps94
            go_wp2
            go_quiet (fail)
            go_wp2_with ((go_at_call 31; (with_reducible refine (HL.out _).mono ?_); rotate_right; rintro e w1 ⟨rfl, hbw1⟩; obtain ⟨hcw1, hfw1, hzw1⟩ := hbw1.rules; (try simp at hzw1)))
            go_ret
            exact ⟨by rw [E2.out]; rfl, by (repeat (first | with_reducible exact Gr.refl _ | with_reducible refine Gr.trans ?_ hbw1 | with_reducible refine Gr.alloc ?_ _ | with_reducible refine Gr.setCell ?_ (by simp) _ | with_reducible refine Gr.setCell ?_ (by simp; omega) _ | with_reducible refine Gr.drew ?_ | with_reducible refine Gr.drewN ?_ _))⟩
          · have E2 := hid (E.out.trans (show (decide (0 ≤ k) && decide (((lev p q p.size q.size : Nat) : Int) ≤ k)) = false by rw [decide_eq_false hk]; rfl))
            clear E HL
            go_enter Try.func94, Try.ntmps94
            go_wp2
            go_quiet (fail)
            go_wp2
            go_ret
            exact ⟨by rw [E2.out]; rfl, by (repeat (first | with_reducible exact Gr.refl _ | with_reducible refine Gr.alloc ?_ _ | with_reducible refine Gr.setCell ?_ (by simp) _ | with_reducible refine Gr.setCell ?_ (by simp; omega) _ | with_reducible refine Gr.drew ?_ | with_reducible refine Gr.drewN ?_ _))⟩
    · by_cases hps : p.size = 1
      · by_cases hqs : q.size = 1
        · have f1 : ((p.size : Int) == 1) = true := by simp; omega
          have f2 : ((q.size : Int) == 1) = true := by simp; omega
          have f3 := byt0_ne hp hq hbe
          have E := hid (alike_not (k := k) (show oneB p q = false by unfold oneB; rw [decide_eq_false e0, decide_eq_true hps, decide_eq_true hqs, decide_eq_false hbe]; rfl))
          clear zp zq
          by_cases hk : 0 ≤ k
          · have E2 := hid (E.out.trans (show (decide (0 ≤ k) && decide (((lev p q p.size q.size : Nat) : Int) ≤ k)) = decide (((lev p q p.size q.size : Nat) : Int) ≤ k) by rw [decide_eq_true hk]; rfl))
            clear E
            generalize lev p q p.size q.size = v at HL E2
            go_enter Try.func94, Try.ntmps94
            go_wp2
            go_quiet (fail)
            go_wp2_with ((go_at_call 31; (with_reducible refine (HL.out _).mono ?_); rotate_right; rintro e w1 ⟨rfl, hbw1⟩; obtain ⟨hcw1, hfw1, hzw1⟩ := hbw1.rules; (try simp at hzw1)))
            go_ret
            exact ⟨by rw [E2.out]; rfl, by (repeat (first | with_reducible exact Gr.refl _ | with_reducible refine Gr.trans ?_ hbw1 | with_reducible refine Gr.alloc ?_ _ | with_reducible refine Gr.setCell ?_ (by simp) _ | with_reducible refine Gr.setCell ?_ (by simp; omega) _ | with_reducible refine Gr.drew ?_ | with_reducible refine Gr.drewN ?_ _))⟩
          · have E2 := hid (E.out.trans (show (decide (0 ≤ k) && decide (((lev p q p.size q.size : Nat) : Int) ≤ k)) = false by rw [decide_eq_false hk]; rfl))
            clear E HL
            go_enter Try.func94, Try.ntmps94
            go_wp2
            go_quiet (fail)
            go_wp2
            go_ret
            exact ⟨by rw [E2.out]; rfl, by (repeat (first | with_reducible exact Gr.refl _ | with_reducible refine Gr.alloc ?_ _ | with_reducible refine Gr.setCell ?_ (by simp) _ | with_reducible refine Gr.setCell ?_ (by simp; omega) _ | with_reducible refine Gr.drew ?_ | with_reducible refine Gr.drewN ?_ _))⟩
        · have f1 : ((p.size : Int) == 1) = true := by simp; omega
          have f2 : ((q.size : Int) == 1) = false := by simp; omega
          have f3 := byt0_ne hp hq hbe
          have E := hid (alike_not (k := k) (show oneB p q = false by unfold oneB; rw [decide_eq_false e0, decide_eq_true hps, decide_eq_false hqs, decide_eq_false hbe]; rfl))
          clear zp zq
          by_cases hk : 0 ≤ k
          · have E2 := hid (E.out.trans (show (decide (0 ≤ k) && decide (((lev p q p.size q.size : Nat) : Int) ≤ k)) = decide (((lev p q p.size q.size : Nat) : Int) ≤ k) by rw [decide_eq_true hk]; rfl))
            clear E
            generalize lev p q p.size q.size = v at HL E2
            go_enter Try.func94, Try.ntmps94
            go_wp2
            go_quiet (fail)
            go_wp2_with ((go_at_call 31; (with_reducible refine (HL.out _).mono ?_); rotate_right; rintro e w1 ⟨rfl, hbw1⟩; obtain ⟨hcw1, hfw1, hzw1⟩ := hbw1.rules; (try simp at hzw1)))
            go_ret
            exact ⟨by rw [E2.out]; rfl, by (repeat (first | with_reducible exact Gr.refl _ | with_reducible refine Gr.trans ?_ hbw1 | with_reducible refine Gr.alloc ?_ _ | with_reducible refine Gr.setCell ?_ (by simp) _ | with_reducible refine Gr.setCell ?_ (by simp; omega) _ | with_reducible refine Gr.drew ?_ | with_reducible refine Gr.drewN ?_ _))⟩
          · have E2 := hid (E.out.trans (show (decide (0 ≤ k) && decide (((lev p q p.size q.size : Nat) : Int) ≤ k)) = false by rw [decide_eq_false hk]; rfl))
            clear E HL
            go_enter Try.func94, Try.ntmps94
            go_wp2
            go_quiet (fail)
            go_wp2
            go_ret
            exact ⟨by rw [E2.out]; rfl, by (repeat (first | with_reducible exact Gr.refl _ | with_reducible refine Gr.alloc ?_ _ | with_reducible refine Gr.setCell ?_ (by simp) _ | with_reducible refine Gr.setCell ?_ (by simp; omega) _ | with_reducible refine Gr.drew ?_ | with_reducible refine Gr.drewN ?_ _))⟩
      · by_cases hqs : q.size = 1
        · have f1 : ((p.size : Int) == 1) = false := by simp; omega
          have f2 : ((q.size : Int) == 1) = true := by simp; omega
          have f3 := byt0_ne hp hq hbe
          have E := hid (alike_not (k := k) (show oneB p q = false by unfold oneB; rw [decide_eq_false e0, decide_eq_false hps, decide_eq_true hqs, decide_eq_false hbe]; rfl))
          clear zp zq
          by_cases hk : 0 ≤ k
          · have E2 := hid (E.out.trans (show (decide (0 ≤ k) && decide (((lev p q p.size q.size : Nat) : Int) ≤ k)) = decide (((lev p q p.size q.size : Nat) : Int) ≤ k) by rw [decide_eq_true hk]; rfl))
            clear E
            generalize lev p q p.size q.size = v at HL E2
            go_enter Try.func94, Try.ntmps94
            go_wp2
            go_quiet (fail)
            go_wp2_with ((go_at_call 31; (with_reducible refine (HL.out _).mono ?_); rotate_right; rintro e w1 ⟨rfl, hbw1⟩; obtain ⟨hcw1, hfw1, hzw1⟩ := hbw1.rules; (try simp at hzw1)))
            go_ret
            exact ⟨by rw [E2.out]; rfl, by (repeat (first | with_reducible exact Gr.refl _ | with_reducible refine Gr.trans ?_ hbw1 | with_reducible refine Gr.alloc ?_ _ | with_reducible refine Gr.setCell ?_ (by simp) _ | with_reducible refine Gr.setCell ?_ (by simp; omega) _ | with_reducible refine Gr.drew ?_ | with_reducible refine Gr.drewN ?_ _))⟩
          · have E2 := hid (E.out.trans (show (decide (0 ≤ k) && decide (((lev p q p.size q.size : Nat) : Int) ≤ k)) = false by rw [decide_eq_false hk]; rfl))
            clear E HL
            go_enter Try.func94, Try.ntmps94
            go_wp2
            go_quiet (fail)
            go_wp2
            go_ret
            exact ⟨by rw [E2.out]; rfl, by (repeat (first | with_reducible exact Gr.refl _ | with_reducible refine Gr.alloc ?_ _ | with_reducible refine Gr.setCell ?_ (by simp) _ | with_reducible refine Gr.setCell ?_ (by simp; omega) _ | with_reducible refine Gr.drew ?_ | with_reducible refine Gr.drewN ?_ _))⟩
        · have f1 : ((p.size : Int) == 1) = false := by simp; omega
          have f2 : ((q.size : Int) == 1) = false := by simp; omega
          have f3 := byt0_ne hp hq hbe
          have E := hid (alike_not (k := k) (show oneB p q = false by unfold oneB; rw [decide_eq_false e0, decide_eq_false hps, decide_eq_false hqs, decide_eq_false hbe]; rfl))
          clear zp zq
          by_cases hk : 0 ≤ k
          · have E2 := hid (E.out.trans (show (decide (0 ≤ k) && decide (((lev p q p.size q.size : Nat) : Int) ≤ k)) = decide (((lev p q p.size q.size : Nat) : Int) ≤ k) by rw [decide_eq_true hk]; rfl))
            clear E
            generalize lev p q p.size q.size = v at HL E2
            go_enter Try.func94, Try.ntmps94
            go_wp2
            go_quiet (fail)
            go_wp2_with ((go_at_call 31; (with_reducible refine (HL.out _).mono ?_); rotate_right; rintro e w1 ⟨rfl, hbw1⟩; obtain ⟨hcw1, hfw1, hzw1⟩ := hbw1.rules; (try simp at hzw1)))
            go_ret
            exact ⟨by rw [E2.out]; rfl, by (repeat (first | with_reducible exact Gr.refl _ | with_reducible refine Gr.trans ?_ hbw1 | with_reducible refine Gr.alloc ?_ _ | with_reducible refine Gr.setCell ?_ (by simp) _ | with_reducible refine Gr.setCell ?_ (by simp; omega) _ | with_reducible refine Gr.drew ?_ | with_reducible refine Gr.drewN ?_ _))⟩
          · have E2 := hid (E.out.trans (show (decide (0 ≤ k) && decide (((lev p q p.size q.size : Nat) : Int) ≤ k)) = false by rw [decide_eq_false hk]; rfl))
            clear E HL
            go_enter Try.func94, Try.ntmps94
            go_wp2
            go_quiet (fail)
            go_wp2
            go_ret
            exact ⟨by rw [E2.out]; rfl, by (repeat (first | with_reducible exact Gr.refl _ | with_reducible refine Gr.alloc ?_ _ | with_reducible refine Gr.setCell ?_ (by simp) _ | with_reducible refine Gr.setCell ?_ (by simp; omega) _ | with_reducible refine Gr.drew ?_ | with_reducible refine Gr.drewN ?_ _))⟩
end Go.Proofs.Ytlkjimfkapcenaa
