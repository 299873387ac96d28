/- Edits of the package match and of its reference. For any two words. Whether two given names are alike, in the package match and in its reference. For all words. The closure of among, in the package match. For all words. The tests of the package match's list of verdicts. For all records and agreements. Whether two stays overlap by the days of together: the closure of the package match's places. For all valid stays. How much two records agree, as functions of plain data, and that it is the same with both exchanged. For all records. given of the reference: whether given names are some of others, in their order. For all words of one to twenty letters. The tests of the package match's list of verdicts that ask about twins. For all records and agreements. The edits of two words are a distance: plain arithmetic. For any words. The edits of two words, reckoned by steps that the kernel can take. For any words. Rules that allow more, a record and itself, and what says that two are one: plain laws of the agreement. For valid rules and records. -/
import Derived.Deep.LoopGhost
import Derived.Test.YtlkjimfkapcenaaGreatDoorQWithin
import Derived.Test.YtlkjimfkapcenaaGreatDoorQNumbers
import Derived.Test.YtlkjimfkapcenaaGreatDoorQRefEdits
import Derived.Test.YtlkjimfkapcenaaGreatDoorQEdits
import Derived.Test.YtlkjimfkapcenaaGreatDoorQBirths
import Derived.Test.YtlkjimfkapcenaaGreatDoorQRegGr
namespace Go.Proofs.YtlkjimfkapcenaaGreatDoor
open Go.RowKit

/-- Whether both are words. -/
def edOk (a b : ByteArray) : Bool := inB 0 20 a.size && inB 0 20 b.size
/-- The edits, and the error. -/
def edN (a b : ByteArray) : Int := if edOk a b then lev a b a.size b.size else 0
def edE (a b : ByteArray) : Int := if edOk a b then 0 else 2

set_option maxHeartbeats 400000 in
theorem editsTop_any (a b : ByteArray) (w : World) (ha : a.size ≤ maxLen) (hb : b.size ≤ maxLen) :
    Calls Tryz.prog 7 #[.string a, .string b] w fun e w' => e = .returned (.tuple #[.int .i64 (edN a b), .int .i64 (edE a b)]) ∧ Gr w w' := by
  unfold maxLen at ha hb
  have ha' : (a.size : Int) ≤ 9223372036854775807 := by omega
  have hb' : (b.size : Int) ≤ 9223372036854775807 := by omega
  clear ha hb
  unfold edN edE
  cases h : edOk a b with
  | false =>
    have H := hid (show (inB 0 20 a.size && inB 0 20 b.size) = false from h)
    clear h
    go_enter Tryz.func7, Tryz.ntmps7
    go_wp2_with (first
      | (go_at_call 16; (with_reducible refine (within_two 0 20 a.size b.size _ H.out _ _ _ ?_ ?_ ?_).mono ?_); rotate_right; rintro e w1 ⟨rfl, hbw1⟩; obtain ⟨hcw1, hfw1, hzw1⟩ := hbw1.rules; (try simp at hzw1); have hzw1_0 : w.heap.size < w1.heap.size := (by omega); have hyw1_0 : w.heap.size ≤ w1.heap.size := (by omega)))
    all_goals first
      | (simp; done)
      | (go_ret2
         refine ⟨rfl, ?_⟩
         (repeat (first | with_reducible exact Gr.refl _ | with_reducible refine Gr.trans ?_ hbw1 | with_reducible refine Gr.alloc ?_ _ | with_reducible refine Gr.setCell ?_ (by simp) _ | with_reducible refine Gr.setCell ?_ (by simp; omega) _ | with_reducible refine Gr.drew ?_ | with_reducible refine Gr.drewN ?_ _)))
  | true =>
    have H := hid (show (inB 0 20 a.size && inB 0 20 b.size) = true from h)
    have HE := hid (fun W => edits_any a b W (by have := H.out; unfold inB at this; simp at this; omega) (by have := H.out; unfold inB at this; simp at this; omega))
    clear h
    go_enter Tryz.func7, Tryz.ntmps7
    go_wp2_with (first
      | (go_at_call 16; (with_reducible refine (within_two 0 20 a.size b.size _ H.out _ _ _ ?_ ?_ ?_).mono ?_); rotate_right; rintro e w1 ⟨rfl, hbw1⟩; obtain ⟨hcw1, hfw1, hzw1⟩ := hbw1.rules; (try simp at hzw1); have hzw1_0 : w.heap.size < w1.heap.size := (by omega); have hyw1_0 : w.heap.size ≤ w1.heap.size := (by omega))
      | (go_at_call 17; (with_reducible refine (HE.out _).mono ?_); rotate_right; rintro e w2 ⟨rfl, hbw2⟩; obtain ⟨hcw2, hfw2, hzw2⟩ := hbw2.rules; (try simp at hzw2); have hzw2_0 : w.heap.size < w2.heap.size := (by omega); have hyw2_0 : w.heap.size ≤ w2.heap.size := (by omega)))
    all_goals first
      | (simp; done)
      | (go_ret2
         refine ⟨rfl, ?_⟩
         (repeat (first | with_reducible exact Gr.refl _ | with_reducible refine Gr.trans ?_ hbw2 | with_reducible refine Gr.trans ?_ hbw1 | with_reducible refine Gr.alloc ?_ _ | with_reducible refine Gr.setCell ?_ (by simp) _ | with_reducible refine Gr.setCell ?_ (by simp; omega) _ | with_reducible refine Gr.drew ?_ | with_reducible refine Gr.drewN ?_ _)))

end Go.Proofs.YtlkjimfkapcenaaGreatDoor
namespace Go.Proofs.YtlkjimfkapcenaaGreatDoor
open Go.RowKit

theorem toList_ne' {p q : ByteArray} (h : ¬ p = q) : ¬ p.toList = q.toList := fun e => h (by
  rw [ByteArray.toList_eq, ByteArray.toList_eq] at e
  exact ByteArray.ext (Array.toList_inj.1 e))
theorem toList_beq {p q : ByteArray} (h : ¬ p = q) : (p.toList == q.toList) = false := by
  have := toList_ne' h
  simpa using this
theorem byt0_eq {p q : ByteArray} (hp : 0 < p.size) (hq : 0 < q.size) (h : byt p 0 = byt q 0) : ((p[0].toNat : Int) == (q[0].toNat : Int)) = true := by
  have := byt_eq hp hq h
  simpa [bne] using this
theorem byt0_ne {p q : ByteArray} (hp : 0 < p.size) (hq : 0 < q.size) (h : ¬ byt p 0 = byt q 0) : ((p[0].toNat : Int) == (q[0].toNat : Int)) = false := by
  have := byt_ne hp hq h
  simpa [bne] using this
/-- Whether two names are the same, or one is the first letter of the other. -/
def oneB (p q : ByteArray) : Bool := decide (p = q) || (decide (p.size = 1) && decide (byt p 0 = byt q 0)) || (decide (q.size = 1) && decide (byt p 0 = byt q 0))
/-- Whether two names are alike. -/
def alikeB (p q : ByteArray) (k : Int) : Bool := oneB p q || (decide (0 ≤ k) && decide ((lev p q p.size q.size : Int) ≤ k))
theorem alike_one {p q : ByteArray} {k : Int} (h : oneB p q = true) : alikeB p q k = true := by unfold alikeB; rw [h]; rfl
theorem alike_not {p q : ByteArray} {k : Int} (h : oneB p q = false) : alikeB p q k = (decide (0 ≤ k) && decide ((lev p q p.size q.size : Int) ≤ k)) := by unfold alikeB; rw [h]; rfl

set_option maxRecDepth 100000 in
set_option maxHeartbeats 8000000 in
theorem alike_any (p q : ByteArray) (k : Int) (w : World) (hp : 0 < p.size) (hq : 0 < q.size) (zp : p.size ≤ 20) (zq : q.size ≤ 20) :
    Calls Tryz.prog 72 #[.string p, .string q, .int .i64 k] w fun e w' => e = .returned (.bool (alikeB p q k)) ∧ Gr w w' := by
  have HL := hid (fun W => edits_any p q W (by omega) zq)
  have ip : (0 : Int) < p.size := by omega
  have iq : (0 : Int) < q.size := by omega
  by_cases e0 : p = q
  · have E := hid (alike_one (k := k) (show oneB p q = true by unfold oneB; rw [decide_eq_true e0]; rfl))
    subst e0
    clear HL
    go_enter Tryz.func72, Tryz.ntmps72
    go_wp2
    go_quiet (fail)
    go_wp2
    go_ret
    exact ⟨by rw [E.out]; rfl, by (repeat (first | with_reducible exact Gr.refl _ | with_reducible refine Gr.alloc ?_ _ | with_reducible refine Gr.setCell ?_ (by simp) _ | with_reducible refine Gr.setCell ?_ (by simp; omega) _ | with_reducible refine Gr.drew ?_ | with_reducible refine Gr.drewN ?_ _))⟩
  · have tl := toList_ne' e0
    have tb := toList_beq e0
    by_cases hbe : byt p 0 = byt q 0
    · by_cases hps : p.size = 1
      · by_cases hqs : q.size = 1
        · have f1 : ((p.size : Int) == 1) = true := by simp; omega
          have f2 : ((q.size : Int) == 1) = true := by simp; omega
          have f3 := byt0_eq hp hq hbe
          have E := hid (alike_one (k := k) (show oneB p q = true by unfold oneB; rw [decide_eq_false e0, decide_eq_true hps, decide_eq_true hqs, decide_eq_true hbe]; rfl))
          go_enter Tryz.func72, Tryz.ntmps72
          go_wp2
          go_quiet (fail)
          go_wp2
          go_ret
          exact ⟨by rw [E.out]; rfl, by (repeat (first | with_reducible exact Gr.refl _ | with_reducible refine Gr.alloc ?_ _ | with_reducible refine Gr.setCell ?_ (by simp) _ | with_reducible refine Gr.setCell ?_ (by simp; omega) _ | with_reducible refine Gr.drew ?_ | with_reducible refine Gr.drewN ?_ _))⟩
        · have f1 : ((p.size : Int) == 1) = true := by simp; omega
          have f2 : ((q.size : Int) == 1) = false := by simp; omega
          have f3 := byt0_eq hp hq hbe
          have E := hid (alike_one (k := k) (show oneB p q = true by unfold oneB; rw [decide_eq_false e0, decide_eq_true hps, decide_eq_false hqs, decide_eq_true hbe]; rfl))
          go_enter Tryz.func72, Tryz.ntmps72
          go_wp2
          go_quiet (fail)
          go_wp2
          go_ret
          exact ⟨by rw [E.out]; rfl, by (repeat (first | with_reducible exact Gr.refl _ | with_reducible refine Gr.alloc ?_ _ | with_reducible refine Gr.setCell ?_ (by simp) _ | with_reducible refine Gr.setCell ?_ (by simp; omega) _ | with_reducible refine Gr.drew ?_ | with_reducible refine Gr.drewN ?_ _))⟩
      · by_cases hqs : q.size = 1
        · have f1 : ((p.size : Int) == 1) = false := by simp; omega
          have f2 : ((q.size : Int) == 1) = true := by simp; omega
          have f3 := byt0_eq hp hq hbe
          have E := hid (alike_one (k := k) (show oneB p q = true by unfold oneB; rw [decide_eq_false e0, decide_eq_false hps, decide_eq_true hqs, decide_eq_true hbe]; rfl))
          go_enter Tryz.func72, Tryz.ntmps72
          go_wp2
          go_quiet (fail)
          go_wp2
          go_ret
          exact ⟨by rw [E.out]; rfl, by (repeat (first | with_reducible exact Gr.refl _ | with_reducible refine Gr.alloc ?_ _ | with_reducible refine Gr.setCell ?_ (by simp) _ | with_reducible refine Gr.setCell ?_ (by simp; omega) _ | with_reducible refine Gr.drew ?_ | with_reducible refine Gr.drewN ?_ _))⟩
        · have f1 : ((p.size : Int) == 1) = false := by simp; omega
          have f2 : ((q.size : Int) == 1) = false := by simp; omega
          have f3 := byt0_eq hp hq hbe
          have E := hid (alike_not (k := k) (show oneB p q = false by unfold oneB; rw [decide_eq_false e0, decide_eq_false hps, decide_eq_false hqs, decide_eq_true hbe]; rfl))
          clear zp zq
          by_cases hk : 0 ≤ k
          · have E2 := hid (E.out.trans (show (decide (0 ≤ k) && decide (((lev p q p.size q.size : Nat) : Int) ≤ k)) = decide (((lev p q p.size q.size : Nat) : Int) ≤ k) by rw [decide_eq_true hk]; rfl))
            clear E
            generalize lev p q p.size q.size = v at HL E2
            go_enter Tryz.func72, Tryz.ntmps72
            go_wp2
            go_quiet (fail)
            go_wp2_with ((go_at_call 17; (with_reducible refine (HL.out _).mono ?_); rotate_right; rintro e w1 ⟨rfl, hbw1⟩; obtain ⟨hcw1, hfw1, hzw1⟩ := hbw1.rules; (try simp at hzw1)))
            go_ret
            exact ⟨by rw [E2.out]; rfl, by (repeat (first | with_reducible exact Gr.refl _ | with_reducible refine Gr.trans ?_ hbw1 | with_reducible refine Gr.alloc ?_ _ | with_reducible refine Gr.setCell ?_ (by simp) _ | with_reducible refine Gr.setCell ?_ (by simp; omega) _ | with_reducible refine Gr.drew ?_ | with_reducible refine Gr.drewN ?_ _))⟩
          · have E2 := hid (E.out.trans (show (decide (0 ≤ k) && decide (((lev p q p.size q.size : Nat) : Int) ≤ k)) = false by rw [decide_eq_false hk]; rfl))
            clear E HL
            go_enter Tryz.func72, Tryz.ntmps72
            go_wp2
            go_quiet (fail)
            go_wp2
            go_ret
            exact ⟨by rw [E2.out]; rfl, by (repeat (first | with_reducible exact Gr.refl _ | with_reducible refine Gr.alloc ?_ _ | with_reducible refine Gr.setCell ?_ (by simp) _ | with_reducible refine Gr.setCell ?_ (by simp; omega) _ | with_reducible refine Gr.drew ?_ | with_reducible refine Gr.drewN ?_ _))⟩
    · by_cases hps : p.size = 1
      · by_cases hqs : q.size = 1
        · have f1 : ((p.size : Int) == 1) = true := by simp; omega
          have f2 : ((q.size : Int) == 1) = true := by simp; omega
          have f3 := byt0_ne hp hq hbe
          have E := hid (alike_not (k := k) (show oneB p q = false by unfold oneB; rw [decide_eq_false e0, decide_eq_true hps, decide_eq_true hqs, decide_eq_false hbe]; rfl))
          clear zp zq
          by_cases hk : 0 ≤ k
          · have E2 := hid (E.out.trans (show (decide (0 ≤ k) && decide (((lev p q p.size q.size : Nat) : Int) ≤ k)) = decide (((lev p q p.size q.size : Nat) : Int) ≤ k) by rw [decide_eq_true hk]; rfl))
            clear E
            generalize lev p q p.size q.size = v at HL E2
            go_enter Tryz.func72, Tryz.ntmps72
            go_wp2
            go_quiet (fail)
            go_wp2_with ((go_at_call 17; (with_reducible refine (HL.out _).mono ?_); rotate_right; rintro e w1 ⟨rfl, hbw1⟩; obtain ⟨hcw1, hfw1, hzw1⟩ := hbw1.rules; (try simp at hzw1)))
            go_ret
            exact ⟨by rw [E2.out]; rfl, by (repeat (first | with_reducible exact Gr.refl _ | with_reducible refine Gr.trans ?_ hbw1 | with_reducible refine Gr.alloc ?_ _ | with_reducible refine Gr.setCell ?_ (by simp) _ | with_reducible refine Gr.setCell ?_ (by simp; omega) _ | with_reducible refine Gr.drew ?_ | with_reducible refine Gr.drewN ?_ _))⟩
          · have E2 := hid (E.out.trans (show (decide (0 ≤ k) && decide (((lev p q p.size q.size : Nat) : Int) ≤ k)) = false by rw [decide_eq_false hk]; rfl))
            clear E HL
            go_enter Tryz.func72, Tryz.ntmps72
            go_wp2
            go_quiet (fail)
            go_wp2
            go_ret
            exact ⟨by rw [E2.out]; rfl, by (repeat (first | with_reducible exact Gr.refl _ | with_reducible refine Gr.alloc ?_ _ | with_reducible refine Gr.setCell ?_ (by simp) _ | with_reducible refine Gr.setCell ?_ (by simp; omega) _ | with_reducible refine Gr.drew ?_ | with_reducible refine Gr.drewN ?_ _))⟩
        · have f1 : ((p.size : Int) == 1) = true := by simp; omega
          have f2 : ((q.size : Int) == 1) = false := by simp; omega
          have f3 := byt0_ne hp hq hbe
          have E := hid (alike_not (k := k) (show oneB p q = false by unfold oneB; rw [decide_eq_false e0, decide_eq_true hps, decide_eq_false hqs, decide_eq_false hbe]; rfl))
          clear zp zq
          by_cases hk : 0 ≤ k
          · have E2 := hid (E.out.trans (show (decide (0 ≤ k) && decide (((lev p q p.size q.size : Nat) : Int) ≤ k)) = decide (((lev p q p.size q.size : Nat) : Int) ≤ k) by rw [decide_eq_true hk]; rfl))
            clear E
            generalize lev p q p.size q.size = v at HL E2
            go_enter Tryz.func72, Tryz.ntmps72
            go_wp2
            go_quiet (fail)
            go_wp2_with ((go_at_call 17; (with_reducible refine (HL.out _).mono ?_); rotate_right; rintro e w1 ⟨rfl, hbw1⟩; obtain ⟨hcw1, hfw1, hzw1⟩ := hbw1.rules; (try simp at hzw1)))
            go_ret
            exact ⟨by rw [E2.out]; rfl, by (repeat (first | with_reducible exact Gr.refl _ | with_reducible refine Gr.trans ?_ hbw1 | with_reducible refine Gr.alloc ?_ _ | with_reducible refine Gr.setCell ?_ (by simp) _ | with_reducible refine Gr.setCell ?_ (by simp; omega) _ | with_reducible refine Gr.drew ?_ | with_reducible refine Gr.drewN ?_ _))⟩
          · have E2 := hid (E.out.trans (show (decide (0 ≤ k) && decide (((lev p q p.size q.size : Nat) : Int) ≤ k)) = false by rw [decide_eq_false hk]; rfl))
            clear E HL
            go_enter Tryz.func72, Tryz.ntmps72
            go_wp2
            go_quiet (fail)
            go_wp2
            go_ret
            exact ⟨by rw [E2.out]; rfl, by (repeat (first | with_reducible exact Gr.refl _ | with_reducible refine Gr.alloc ?_ _ | with_reducible refine Gr.setCell ?_ (by simp) _ | with_reducible refine Gr.setCell ?_ (by simp; omega) _ | with_reducible refine Gr.drew ?_ | with_reducible refine Gr.drewN ?_ _))⟩
      · by_cases hqs : q.size = 1
        · have f1 : ((p.size : Int) == 1) = false := by simp; omega
          have f2 : ((q.size : Int) == 1) = true := by simp; omega
          have f3 := byt0_ne hp hq hbe
          have E := hid (alike_not (k := k) (show oneB p q = false by unfold oneB; rw [decide_eq_false e0, decide_eq_false hps, decide_eq_true hqs, decide_eq_false hbe]; rfl))
          clear zp zq
          by_cases hk : 0 ≤ k
          · have E2 := hid (E.out.trans (show (decide (0 ≤ k) && decide (((lev p q p.size q.size : Nat) : Int) ≤ k)) = decide (((lev p q p.size q.size : Nat) : Int) ≤ k) by rw [decide_eq_true hk]; rfl))
            clear E
            generalize lev p q p.size q.size = v at HL E2
            go_enter Tryz.func72, Tryz.ntmps72
            go_wp2
            go_quiet (fail)
            go_wp2_with ((go_at_call 17; (with_reducible refine (HL.out _).mono ?_); rotate_right; rintro e w1 ⟨rfl, hbw1⟩; obtain ⟨hcw1, hfw1, hzw1⟩ := hbw1.rules; (try simp at hzw1)))
            go_ret
            exact ⟨by rw [E2.out]; rfl, by (repeat (first | with_reducible exact Gr.refl _ | with_reducible refine Gr.trans ?_ hbw1 | with_reducible refine Gr.alloc ?_ _ | with_reducible refine Gr.setCell ?_ (by simp) _ | with_reducible refine Gr.setCell ?_ (by simp; omega) _ | with_reducible refine Gr.drew ?_ | with_reducible refine Gr.drewN ?_ _))⟩
          · have E2 := hid (E.out.trans (show (decide (0 ≤ k) && decide (((lev p q p.size q.size : Nat) : Int) ≤ k)) = false by rw [decide_eq_false hk]; rfl))
            clear E HL
            go_enter Tryz.func72, Tryz.ntmps72
            go_wp2
            go_quiet (fail)
            go_wp2
            go_ret
            exact ⟨by rw [E2.out]; rfl, by (repeat (first | with_reducible exact Gr.refl _ | with_reducible refine Gr.alloc ?_ _ | with_reducible refine Gr.setCell ?_ (by simp) _ | with_reducible refine Gr.setCell ?_ (by simp; omega) _ | with_reducible refine Gr.drew ?_ | with_reducible refine Gr.drewN ?_ _))⟩
        · have f1 : ((p.size : Int) == 1) = false := by simp; omega
          have f2 : ((q.size : Int) == 1) = false := by simp; omega
          have f3 := byt0_ne hp hq hbe
          have E := hid (alike_not (k := k) (show oneB p q = false by unfold oneB; rw [decide_eq_false e0, decide_eq_false hps, decide_eq_false hqs, decide_eq_false hbe]; rfl))
          clear zp zq
          by_cases hk : 0 ≤ k
          · have E2 := hid (E.out.trans (show (decide (0 ≤ k) && decide (((lev p q p.size q.size : Nat) : Int) ≤ k)) = decide (((lev p q p.size q.size : Nat) : Int) ≤ k) by rw [decide_eq_true hk]; rfl))
            clear E
            generalize lev p q p.size q.size = v at HL E2
            go_enter Tryz.func72, Tryz.ntmps72
            go_wp2
            go_quiet (fail)
            go_wp2_with ((go_at_call 17; (with_reducible refine (HL.out _).mono ?_); rotate_right; rintro e w1 ⟨rfl, hbw1⟩; obtain ⟨hcw1, hfw1, hzw1⟩ := hbw1.rules; (try simp at hzw1)))
            go_ret
            exact ⟨by rw [E2.out]; rfl, by (repeat (first | with_reducible exact Gr.refl _ | with_reducible refine Gr.trans ?_ hbw1 | with_reducible refine Gr.alloc ?_ _ | with_reducible refine Gr.setCell ?_ (by simp) _ | with_reducible refine Gr.setCell ?_ (by simp; omega) _ | with_reducible refine Gr.drew ?_ | with_reducible refine Gr.drewN ?_ _))⟩
          · have E2 := hid (E.out.trans (show (decide (0 ≤ k) && decide (((lev p q p.size q.size : Nat) : Int) ≤ k)) = false by rw [decide_eq_false hk]; rfl))
            clear E HL
            go_enter Tryz.func72, Tryz.ntmps72
            go_wp2
            go_quiet (fail)
            go_wp2
            go_ret
            exact ⟨by rw [E2.out]; rfl, by (repeat (first | with_reducible exact Gr.refl _ | with_reducible refine Gr.alloc ?_ _ | with_reducible refine Gr.setCell ?_ (by simp) _ | with_reducible refine Gr.setCell ?_ (by simp; omega) _ | with_reducible refine Gr.drew ?_ | with_reducible refine Gr.drewN ?_ _))⟩
end Go.Proofs.YtlkjimfkapcenaaGreatDoor
namespace Go.Proofs.YtlkjimfkapcenaaGreatDoor
open Go.RowKit

set_option maxRecDepth 100000 in
set_option maxHeartbeats 1000000 in
theorem among1_any (x y : ByteArray) (k : Int) (g1 g2 : Nat) (w : World) (hx : 0 < x.size) (hy : 0 < y.size) (zx : x.size ≤ 20) (zy : y.size ≤ 20)
    (c1 : w.cell? ⟨g1, 0, none⟩ = some (.string y)) (c2 : w.cell? ⟨g2, 0, none⟩ = some (.int .i64 k)) :
    Calls Tryz.prog 71 #[.string x, .pointer (some ⟨g1, 0, none⟩), .pointer (some ⟨g2, 0, none⟩)] w fun e w' => e = .returned (.bool (alikeB y x k)) ∧ Gr w w' := by
  have HL := hid (fun W => alike_any y x k W hy hx zy zx)
  clear hx hy zx zy
  generalize alikeB y x k = v at HL
  go_enter Tryz.func71, Tryz.ntmps71
  go_wp2_with ((go_at_call 72; (with_reducible refine (HL.out _).mono ?_); rotate_right; rintro e w1 ⟨rfl, hbw1⟩; obtain ⟨hcw1, hfw1, hzw1⟩ := hbw1.rules; (try simp at hzw1)))
  go_ret
  exact ⟨by rfl, by (repeat (first | with_reducible exact Gr.refl _ | with_reducible refine Gr.trans ?_ hbw1 | with_reducible refine Gr.alloc ?_ _ | with_reducible refine Gr.setCell ?_ (by simp) _ | with_reducible refine Gr.setCell ?_ (by simp; omega) _ | with_reducible refine Gr.drew ?_ | with_reducible refine Gr.drewN ?_ _))⟩
end Go.Proofs.YtlkjimfkapcenaaGreatDoor
namespace Go.Proofs.YtlkjimfkapcenaaGreatDoor
open Go.RowKit

/-- A comparison: how names, numbers, births and places agree, and the verdict. -/
structure Cmp where
  nm : Int
  nu : Int
  bi : Int
  pl : Int
  vd : Int
/-- Its value. -/
def Cmp.val (x : Cmp) : Value := .agg #[.int .u8 x.nm, .int .u8 x.nu, .int .u8 x.bi, .int .u8 x.pl, .int .u8 x.vd]

set_option maxRecDepth 100000 in
theorem verd1_any (a b : Rcd) (A : Option Addr) (n c : Nat) (B : Option Addr) (m d : Nat) (A' : Option Addr) (n' c' : Nat) (B' : Option Addr) (m' d' : Nat) (w : World) :
    Calls Tryz.prog 49 #[a.val A n c B m d, b.val A' n' c' B' m' d'] w fun e w' => e = .returned (.bool (a.twin || b.twin)) ∧ Gr w w' := by
  obtain ⟨id, names, suf, l1, h1, p, tw, stays⟩ := a
  obtain ⟨id', names', suf', l2, h2, q, tw', stays'⟩ := b
  unfold Rcd.val
  dsimp only
  cases tw
  all_goals
    go_enter Tryz.func49, Tryz.ntmps49
    go_wp2
    go_ret
    exact ⟨by rfl, by (repeat (first | with_reducible exact Gr.refl _ | with_reducible refine Gr.alloc ?_ _ | with_reducible refine Gr.setCell ?_ (by simp) _ | with_reducible refine Gr.setCell ?_ (by simp; omega) _ | with_reducible refine Gr.drew ?_ | with_reducible refine Gr.drewN ?_ _))⟩

set_option maxRecDepth 100000 in
theorem verd2_any (a b : Rcd) (x : Cmp) (A : Option Addr) (n c : Nat) (B : Option Addr) (m d : Nat) (A' : Option Addr) (n' c' : Nat) (B' : Option Addr) (m' d' : Nat) (w : World) :
    Calls Tryz.prog 50 #[a.val A n c B m d, b.val A' n' c' B' m' d', x.val] w fun e w' => e = .returned (.bool (x.bi == 0)) ∧ Gr w w' := by
  obtain ⟨id, names, suf, l1, h1, p, tw, stays⟩ := a
  obtain ⟨id', names', suf', l2, h2, q, tw', stays'⟩ := b
  obtain ⟨nm, nu, bi, pl, vd⟩ := x
  unfold Rcd.val Cmp.val
  dsimp only
  go_enter Tryz.func50, Tryz.ntmps50
  go_wp2
  go_ret
  exact ⟨by rfl, by (repeat (first | with_reducible exact Gr.refl _ | with_reducible refine Gr.alloc ?_ _ | with_reducible refine Gr.setCell ?_ (by simp) _ | with_reducible refine Gr.setCell ?_ (by simp; omega) _ | with_reducible refine Gr.drew ?_ | with_reducible refine Gr.drewN ?_ _))⟩

set_option maxRecDepth 100000 in
theorem verd3_any (a b : Rcd) (x : Cmp) (A : Option Addr) (n c : Nat) (B : Option Addr) (m d : Nat) (A' : Option Addr) (n' c' : Nat) (B' : Option Addr) (m' d' : Nat) (w : World)
    (ha : 0 ≤ a.suffix ∧ a.suffix ≤ 2) (hb : 0 ≤ b.suffix ∧ b.suffix ≤ 2) :
    Calls Tryz.prog 51 #[a.val A n c B m d, b.val A' n' c' B' m' d', x.val] w fun e w' => e = .returned (.bool (decide (a.suffix ≠ 0 ∧ b.suffix ≠ 0 ∧ a.suffix ≠ b.suffix))) ∧ Gr w w' := by
  obtain ⟨id, names, suf, l1, h1, p, tw, stays⟩ := a
  obtain ⟨id', names', suf', l2, h2, q, tw', stays'⟩ := b
  obtain ⟨nm, nu, bi, pl, vd⟩ := x
  unfold Rcd.val Cmp.val
  dsimp only at ha hb ⊢
  have e1 : suf = 0 ∨ suf = 1 ∨ suf = 2 := by omega
  have e2 : suf' = 0 ∨ suf' = 1 ∨ suf' = 2 := by omega
  clear ha hb
  rcases e1 with rfl | rfl | rfl <;> rcases e2 with rfl | rfl | rfl
  all_goals
    go_enter Tryz.func51, Tryz.ntmps51
    go_wp2
    go_ret
    exact ⟨by rfl, by (repeat (first | with_reducible exact Gr.refl _ | with_reducible refine Gr.alloc ?_ _ | with_reducible refine Gr.setCell ?_ (by simp) _ | with_reducible refine Gr.setCell ?_ (by simp; omega) _ | with_reducible refine Gr.drew ?_ | with_reducible refine Gr.drewN ?_ _))⟩

set_option maxRecDepth 100000 in
theorem verd4_any (a b : Rcd) (x : Cmp) (A : Option Addr) (n c : Nat) (B : Option Addr) (m d : Nat) (A' : Option Addr) (n' c' : Nat) (B' : Option Addr) (m' d' : Nat) (w : World) :
    Calls Tryz.prog 52 #[a.val A n c B m d, b.val A' n' c' B' m' d', x.val] w fun e w' => e = .returned (.bool (x.nm == 0 && x.nu != 3)) ∧ Gr w w' := by
  obtain ⟨id, names, suf, l1, h1, p, tw, stays⟩ := a
  obtain ⟨id', names', suf', l2, h2, q, tw', stays'⟩ := b
  obtain ⟨nm, nu, bi, pl, vd⟩ := x
  unfold Rcd.val Cmp.val
  dsimp only
  cases e1 : nm == 0
  all_goals
    go_enter Tryz.func52, Tryz.ntmps52
    go_wp2
    go_ret
    exact ⟨by rfl, by (repeat (first | with_reducible exact Gr.refl _ | with_reducible refine Gr.alloc ?_ _ | with_reducible refine Gr.setCell ?_ (by simp) _ | with_reducible refine Gr.setCell ?_ (by simp; omega) _ | with_reducible refine Gr.drew ?_ | with_reducible refine Gr.drewN ?_ _))⟩

set_option maxRecDepth 100000 in
theorem verd5_any (a b : Rcd) (x : Cmp) (A : Option Addr) (n c : Nat) (B : Option Addr) (m d : Nat) (A' : Option Addr) (n' c' : Nat) (B' : Option Addr) (m' d' : Nat) (w : World) :
    Calls Tryz.prog 53 #[a.val A n c B m d, b.val A' n' c' B' m' d', x.val] w fun e w' => e = .returned (.bool (x.nu == 0 && x.pl != 3)) ∧ Gr w w' := by
  obtain ⟨id, names, suf, l1, h1, p, tw, stays⟩ := a
  obtain ⟨id', names', suf', l2, h2, q, tw', stays'⟩ := b
  obtain ⟨nm, nu, bi, pl, vd⟩ := x
  unfold Rcd.val Cmp.val
  dsimp only
  cases e1 : nu == 0
  all_goals
    go_enter Tryz.func53, Tryz.ntmps53
    go_wp2
    go_ret
    exact ⟨by rfl, by (repeat (first | with_reducible exact Gr.refl _ | with_reducible refine Gr.alloc ?_ _ | with_reducible refine Gr.setCell ?_ (by simp) _ | with_reducible refine Gr.setCell ?_ (by simp; omega) _ | with_reducible refine Gr.drew ?_ | with_reducible refine Gr.drewN ?_ _))⟩

set_option maxRecDepth 100000 in
theorem verd7_any (a b : Rcd) (x : Cmp) (A : Option Addr) (n c : Nat) (B : Option Addr) (m d : Nat) (A' : Option Addr) (n' c' : Nat) (B' : Option Addr) (m' d' : Nat) (w : World) :
    Calls Tryz.prog 55 #[a.val A n c B m d, b.val A' n' c' B' m' d', x.val] w fun e w' => e = .returned (.bool (x.nu == 3 && decide (2 ≤ x.nm))) ∧ Gr w w' := by
  obtain ⟨id, names, suf, l1, h1, p, tw, stays⟩ := a
  obtain ⟨id', names', suf', l2, h2, q, tw', stays'⟩ := b
  obtain ⟨nm, nu, bi, pl, vd⟩ := x
  unfold Rcd.val Cmp.val
  dsimp only
  cases e1 : nu == 3
  all_goals
    go_enter Tryz.func55, Tryz.ntmps55
    go_wp2
    go_ret
    exact ⟨by rfl, by (repeat (first | with_reducible exact Gr.refl _ | with_reducible refine Gr.alloc ?_ _ | with_reducible refine Gr.setCell ?_ (by simp) _ | with_reducible refine Gr.setCell ?_ (by simp; omega) _ | with_reducible refine Gr.drew ?_ | with_reducible refine Gr.drewN ?_ _))⟩
end Go.Proofs.YtlkjimfkapcenaaGreatDoor
namespace Go.Proofs.YtlkjimfkapcenaaGreatDoor
open Go.RowKit

/-- Whether two stays overlap enough. -/
def overB (tg : Int) (s x : Sty) : Bool := decide (tg - 1 ≤ (if s.to_ ≤ x.to_ then s.to_ else x.to_) - (if s.from_ < x.from_ then x.from_ else s.from_))

set_option maxRecDepth 100000 in
set_option maxHeartbeats 1000000 in
theorem places1_any (tg : Int) (s x : Sty) (g1 g2 : Nat) (w : World) (ht : 0 ≤ tg ∧ tg ≤ 1000000)
    (h1 : 0 ≤ s.from_ ∧ s.from_ ≤ 100000) (h2 : 0 ≤ s.to_ ∧ s.to_ ≤ 100000) (h3 : 0 ≤ x.from_ ∧ x.from_ ≤ 100000) (h4 : 0 ≤ x.to_ ∧ x.to_ ≤ 100000)
    (c1 : w.cell? ⟨g1, 1, none⟩ = some (.int .i64 s.from_)) (c2 : w.cell? ⟨g1, 2, none⟩ = some (.int .i64 s.to_)) (c3 : w.cell? ⟨g2, 3, none⟩ = some (.int .i64 tg)) :
    Calls Tryz.prog 48 #[x.val, .pointer (some ⟨g1, 0, none⟩), .pointer (some ⟨g2, 0, none⟩)] w fun e w' => e = .returned (.bool (overB tg s x)) ∧ Gr w w' := by
  obtain ⟨p, f, t⟩ := s
  obtain ⟨p', f', t'⟩ := x
  unfold Sty.val
  dsimp only at h1 h2 h3 h4 c1 c2 ⊢
  have b1 : g1 < w.heap.size := block_lt_of_cell c1
  have b2 : g2 < w.heap.size := block_lt_of_cell c3
  have n1 : g1 ≠ w.heap.size := by omega
  have n2 : g2 ≠ w.heap.size := by omega
  by_cases m1 : t ≤ t'
  · by_cases m2 : f < f'
    · have E := hid (show overB tg ⟨p, f, t⟩ ⟨p', f', t'⟩ = decide (tg - 1 ≤ t - f') by unfold overB; dsimp only; rw [if_pos m1, if_pos m2])
      go_enter Tryz.func48, Tryz.ntmps48
      go_wp2
      go_ret
      exact ⟨by rw [E.out]; rfl, by (repeat (first | with_reducible exact Gr.refl _ | with_reducible refine Gr.alloc ?_ _ | with_reducible refine Gr.setCell ?_ (by simp) _ | with_reducible refine Gr.setCell ?_ (by simp; omega) _ | with_reducible refine Gr.drew ?_ | with_reducible refine Gr.drewN ?_ _))⟩
    · have E := hid (show overB tg ⟨p, f, t⟩ ⟨p', f', t'⟩ = decide (tg - 1 ≤ t - f) by unfold overB; dsimp only; rw [if_pos m1, if_neg m2])
      go_enter Tryz.func48, Tryz.ntmps48
      go_wp2
      go_ret
      exact ⟨by rw [E.out]; rfl, by (repeat (first | with_reducible exact Gr.refl _ | with_reducible refine Gr.alloc ?_ _ | with_reducible refine Gr.setCell ?_ (by simp) _ | with_reducible refine Gr.setCell ?_ (by simp; omega) _ | with_reducible refine Gr.drew ?_ | with_reducible refine Gr.drewN ?_ _))⟩
  · by_cases m2 : f < f'
    · have E := hid (show overB tg ⟨p, f, t⟩ ⟨p', f', t'⟩ = decide (tg - 1 ≤ t' - f') by unfold overB; dsimp only; rw [if_neg m1, if_pos m2])
      go_enter Tryz.func48, Tryz.ntmps48
      go_wp2
      go_ret
      exact ⟨by rw [E.out]; rfl, by (repeat (first | with_reducible exact Gr.refl _ | with_reducible refine Gr.alloc ?_ _ | with_reducible refine Gr.setCell ?_ (by simp) _ | with_reducible refine Gr.setCell ?_ (by simp; omega) _ | with_reducible refine Gr.drew ?_ | with_reducible refine Gr.drewN ?_ _))⟩
    · have E := hid (show overB tg ⟨p, f, t⟩ ⟨p', f', t'⟩ = decide (tg - 1 ≤ t' - f) by unfold overB; dsimp only; rw [if_neg m1, if_neg m2])
      go_enter Tryz.func48, Tryz.ntmps48
      go_wp2
      go_ret
      exact ⟨by rw [E.out]; rfl, by (repeat (first | with_reducible exact Gr.refl _ | with_reducible refine Gr.alloc ?_ _ | with_reducible refine Gr.setCell ?_ (by simp) _ | with_reducible refine Gr.setCell ?_ (by simp; omega) _ | with_reducible refine Gr.drew ?_ | with_reducible refine Gr.drewN ?_ _))⟩
end Go.Proofs.YtlkjimfkapcenaaGreatDoor
namespace Go.Proofs.YtlkjimfkapcenaaGreatDoor
open Go.RowKit

theorem ite_iff {p q : Prop} [Decidable p] [Decidable q] {α : Type} {x y u v : α} (h : p ↔ q) (hx : x = u) (hy : y = v) : (if p then x else y) = if q then u else v := by
  by_cases hp : p
  · rw [if_pos hp, if_pos (h.1 hp), hx]
  · rw [if_neg hp, if_neg (fun hq => hp (h.2 hq)), hy]
/-- What is left of given names behind the first one that is like a name. -/
def amStep (k : Int) (l : List ByteArray) (x : ByteArray) : Option (List ByteArray) :=
  match l.findIdx? (fun y => alikeB x y k) with
  | some i => some (l.drop (i + 1))
  | none => none
/-- Whether given names are some of others, in their order. -/
def amongB (k : Int) (xs ys : List ByteArray) : Bool := (xs.foldlM (amStep k) ys).isSome
theorem amStep_fidx (k : Int) (l : List ByteArray) (x : ByteArray) : (fidx (fun y => alikeB x y k) l = -1 ∧ amStep k l x = none) ∨ ∃ i, i < l.length ∧ fidx (fun y => alikeB x y k) l = (i : Int) ∧ amStep k l x = some (l.drop (i + 1)) := by
  unfold fidx amStep
  cases h : l.findIdx? (fun y => alikeB x y k) with
  | none => exact .inl ⟨rfl, rfl⟩
  | some i => exact .inr ⟨i, (by rw [List.findIdx?_eq_some_iff_getElem] at h; exact h.1), rfl, rfl⟩
theorem amStep_none {k : Int} {l : List ByteArray} {x : ByteArray} (h : ∀ j, j < l.length → alikeB x l[j]! k = false) : amStep k l x = none := by
  unfold amStep
  have e : l.findIdx? (fun y => alikeB x y k) = none := by
    rw [List.findIdx?_eq_none_iff]
    intro y hy
    obtain ⟨j, hj, rfl⟩ := List.getElem_of_mem hy
    have := h j hj
    rwa [getElem!_pos l j hj] at this
  rw [e]
theorem amStep_some {k : Int} {l : List ByteArray} {x : ByteArray} {i : Nat} (hi : i < l.length) (h : alikeB x l[i]! k = true) (hb : ∀ j, j < i → alikeB x l[j]! k = false) : amStep k l x = some (l.drop (i + 1)) := by
  unfold amStep
  have e : l.findIdx? (fun y => alikeB x y k) = some i := by
    rw [List.findIdx?_eq_some_iff_getElem]
    refine ⟨hi, by rwa [getElem!_pos l i hi] at h, fun j hj => ?_⟩
    have := hb j hj
    rw [getElem!_pos l j (by omega)] at this
    simp [this]
  rw [e]
theorem among_cons (k : Int) (x : ByteArray) (xs ys : List ByteArray) : amongB k (x :: xs) ys = (match amStep k ys x with | some l => amongB k xs l | none => false) := by
  unfold amongB
  rw [List.foldlM_cons]
  cases amStep k ys x <;> rfl
theorem among_snoc (k : Int) (pre : List ByteArray) (x : ByteArray) (ys : List ByteArray) : (pre ++ [x]).foldlM (amStep k) ys = (pre.foldlM (amStep k) ys).bind fun l => amStep k l x := by
  rw [List.foldlM_append]
  cases pre.foldlM (amStep k) ys with
  | none => rfl
  | some l => simp
theorem amStep_len {k : Int} {l l' : List ByteArray} {x : ByteArray} (h : amStep k l x = some l') : l'.length < l.length := by
  rcases amStep_fidx k l x with ⟨_, e⟩ | ⟨i, hi, _, e⟩
  · rw [e] at h; cases h
  · rw [e] at h
    cases h
    simp; omega
theorem among_len (k : Int) : ∀ xs ys : List ByteArray, amongB k xs ys = true → xs.length ≤ ys.length := by
  intro xs
  induction xs with
  | nil => intro ys _; simp
  | cons x xs ih =>
    intro ys h
    rw [among_cons] at h
    cases e : amStep k ys x with
    | none => rw [e] at h; cases h
    | some l =>
      rw [e] at h
      have h1 := ih l h
      have h2 := amStep_len e
      simp; omega
theorem among_eq (k : Int) : ∀ xs ys : List ByteArray, xs.length = ys.length → amongB k xs ys = (xs.zip ys).all (fun p => alikeB p.1 p.2 k) := by
  intro xs
  induction xs with
  | nil => intro ys _; simp [amongB]
  | cons x xs ih =>
    intro ys h
    cases ys with
    | nil => simp at h
    | cons y ys =>
      have hl : xs.length = ys.length := by simpa using h
      rw [among_cons]
      simp only [List.zip_cons_cons, List.all_cons]
      cases e : alikeB x y k with
      | true =>
        have e1 : amStep k (y :: ys) x = some ys := by
          have := amStep_some (k := k) (l := y :: ys) (x := x) (i := 0) (by simp) (by simpa using e) (fun j hj => absurd hj (by omega))
          simpa using this
        rw [e1]
        simpa using ih ys hl
      | false =>
        simp only [Bool.false_and]
        cases e1 : amStep k (y :: ys) x with
        | none => rfl
        | some l =>
          dsimp only
          cases e2 : amongB k xs l with
          | false => rfl
          | true =>
            exfalso
            have h1 := among_len k xs l e2
            rcases amStep_fidx k (y :: ys) x with ⟨_, e3⟩ | ⟨i, hi, hf, e3⟩
            · rw [e3] at e1; cases e1
            · rw [e3] at e1
              cases e1
              have : i ≠ 0 := by
                rintro rfl
                unfold fidx at hf
                cases hq : (y :: ys).findIdx? (fun y => alikeB x y k) with
                | none => rw [hq] at hf; simp at hf
                | some j =>
                  rw [hq] at hf
                  dsimp only at hf
                  rw [List.findIdx?_eq_some_iff_getElem] at hq
                  obtain ⟨hj, hq, _⟩ := hq
                  have hj0 : j = 0 := by omega
                  subst hj0
                  simp [e] at hq
              simp at h1 hi
              omega
theorem lev_symm (a b : ByteArray) : ∀ i k, lev a b i k = lev b a k i := by
  intro i
  induction i with
  | zero => intro k; rw [lev_zero]; rw [lev]
  | succ i ih =>
    intro k
    induction k with
    | zero => rw [lev_zero, lev]
    | succ k ihk =>
      rw [lev_step, lev_step, ih k, ih (k + 1), ihk]
      have : (if byt a i = byt b k then (0 : Nat) else 1) = if byt b k = byt a i then 0 else 1 := by
        by_cases h : byt a i = byt b k
        · rw [if_pos h, if_pos h.symm]
        · rw [if_neg h, if_neg (fun e => h e.symm)]
      rw [this]
      omega
theorem oneB_symm (p q : ByteArray) : oneB p q = oneB q p := by
  unfold oneB
  have e1 : decide (p = q) = decide (q = p) := by rw [Bool.eq_iff_iff]; simp [eq_comm]
  have e2 : decide (byt p 0 = byt q 0) = decide (byt q 0 = byt p 0) := by rw [Bool.eq_iff_iff]; simp [eq_comm]
  rw [e1, e2]
  cases decide (q = p) <;> cases decide (p.size = 1) <;> cases decide (q.size = 1) <;> cases decide (byt q 0 = byt p 0) <;> rfl
theorem alikeB_symm (p q : ByteArray) (k : Int) : alikeB p q k = alikeB q p k := by
  unfold alikeB
  rw [oneB_symm, lev_symm]
theorem zip_all_symm {α : Type} {f g : α → α → Bool} (h : ∀ x y, f x y = g y x) : ∀ xs ys : List α, (xs.zip ys).all (fun p => f p.1 p.2) = (ys.zip xs).all (fun p => g p.1 p.2) := by
  intro xs
  induction xs with
  | nil => intro ys; simp
  | cons x xs ih =>
    intro ys
    cases ys with
    | nil => simp
    | cons y ys => simp [ih ys, h x y]
theorem among_symm (k : Int) {xs ys : List ByteArray} (h : xs.length = ys.length) : amongB k xs ys = amongB k ys xs := by
  rw [among_eq k xs ys h, among_eq k ys xs h.symm]
  exact zip_all_symm (f := fun x y => alikeB x y k) (g := fun x y => alikeB x y k) (fun x y => alikeB_symm x y k) xs ys

/-- How names agree, the shorter list being the first. -/
def namesO (k : Int) (xs ys : List ByteArray) : Int :=
  if xs[0]! = ys[0]! ∧ amongB (-1) xs.tail ys.tail = true then 3 else if (lev xs[0]! ys[0]! xs[0]!.size ys[0]!.size : Int) ≤ k ∧ amongB k xs.tail ys.tail = true then 2 else 0
/-- How names agree. -/
def namesN (k : Int) (xs ys : List ByteArray) : Int := if ys.length < xs.length then namesO k ys xs else namesO k xs ys
theorem namesO_symm (k : Int) {xs ys : List ByteArray} (h : xs.length = ys.length) : namesO k xs ys = namesO k ys xs := by
  unfold namesO
  have h' : xs.tail.length = ys.tail.length := by simp [h]
  rw [among_symm (-1) h', among_symm k h', lev_symm]
  by_cases e : xs[0]! = ys[0]!
  · rw [e]
  · have q1 : ¬ (xs[0]! = ys[0]! ∧ amongB (-1) ys.tail xs.tail = true) := fun h => e h.1
    have q2 : ¬ (ys[0]! = xs[0]! ∧ amongB (-1) ys.tail xs.tail = true) := fun h => e h.1.symm
    rw [if_neg q1, if_neg q2]
theorem namesN_symm (k : Int) (xs ys : List ByteArray) : namesN k xs ys = namesN k ys xs := by
  unfold namesN
  by_cases h1 : ys.length < xs.length
  · rw [if_pos h1, if_neg (by omega)]
  · by_cases h2 : xs.length < ys.length
    · rw [if_neg h1, if_pos h2]
    · rw [if_neg h1, if_neg h2, namesO_symm k (by omega)]
theorem namesN_range (k : Int) (xs ys : List ByteArray) : namesN k xs ys = 0 ∨ namesN k xs ys = 2 ∨ namesN k xs ys = 3 := by
  have h : ∀ xs ys, namesO k xs ys = 0 ∨ namesO k xs ys = 2 ∨ namesO k xs ys = 3 := by
    intro xs ys
    unfold namesO
    split
    · exact .inr (.inr rfl)
    · split
      · exact .inr (.inl rfl)
      · exact .inl rfl
  unfold namesN
  split <;> exact h _ _
theorem offN_symm (p q : ByteArray) : ∀ k, offN p q k = offN q p k := by
  intro k
  induction k with
  | zero => rfl
  | succ k ih =>
    unfold offN
    rw [ih]
    by_cases h : byt p k = byt q k
    · rw [if_pos h, if_pos h.symm]
    · rw [if_neg h, if_neg (fun e => h e.symm)]
theorem numN_symm (d : Int) (p q : ByteArray) : numN d p q = numN d q p := by
  unfold numN
  rw [offN_symm]
  by_cases h : p.size = 0 ∨ q.size = 0
  · rw [if_pos h, if_pos (show q.size = 0 ∨ p.size = 0 from h.symm)]
  · rw [if_neg h, if_neg (show ¬ (q.size = 0 ∨ p.size = 0) from fun e => h (Or.symm e))]
theorem numN_range (d : Int) (p q : ByteArray) : numN d p q = 0 ∨ numN d p q = 1 ∨ numN d p q = 2 ∨ numN d p q = 3 := by
  unfold numN
  split
  · simp
  · split
    · simp
    · split <;> simp
theorem birN_symm (d l1 h1 l2 h2 : Int) : birN d l1 h1 l2 h2 = birN d l2 h2 l1 h1 := by
  unfold birN
  exact ite_iff (by omega) rfl (ite_iff (by omega) rfl rfl)
theorem birN_range (d l1 h1 l2 h2 : Int) : birN d l1 h1 l2 h2 = 0 ∨ birN d l1 h1 l2 h2 = 1 ∨ birN d l1 h1 l2 h2 = 3 := by
  unfold birN
  split
  · simp
  · split <;> simp
theorem overB_symm (t : Int) (s x : Sty) : overB t s x = overB t x s := by
  unfold overB
  rw [Bool.eq_iff_iff]
  simp only [decide_eq_true_eq]
  split <;> split <;> split <;> split <;> omega
/-- Whether a stay of one list and one of the other overlap enough at one place. -/
def placesB (t : Int) (xs ys : List Sty) : Bool := ys.any fun s => (xs.filter fun o => decide (o.place = s.place)).any (overB t s)
def placesN (t : Int) (xs ys : List Sty) : Int := if placesB t xs ys then 3 else 1
theorem placesB_iff (t : Int) (xs ys : List Sty) : placesB t xs ys = true ↔ ∃ s ∈ ys, ∃ o ∈ xs, o.place = s.place ∧ overB t s o = true := by
  unfold placesB
  simp only [List.any_eq_true, List.mem_filter, decide_eq_true_eq]
  constructor
  · rintro ⟨s, hs, o, ⟨ho, e⟩, h⟩; exact ⟨s, hs, o, ho, e, h⟩
  · rintro ⟨s, hs, o, ho, e, h⟩; exact ⟨s, hs, o, ⟨ho, e⟩, h⟩
theorem placesB_symm (t : Int) (xs ys : List Sty) : placesB t xs ys = placesB t ys xs := by
  rw [Bool.eq_iff_iff, placesB_iff, placesB_iff]
  constructor
  · rintro ⟨s, hs, o, ho, e, h⟩; exact ⟨o, ho, s, hs, e.symm, by rw [overB_symm]; exact h⟩
  · rintro ⟨s, hs, o, ho, e, h⟩; exact ⟨o, ho, s, hs, e.symm, by rw [overB_symm]; exact h⟩
theorem placesN_range (t : Int) (xs ys : List Sty) : placesN t xs ys = 1 ∨ placesN t xs ys = 3 := by
  unfold placesN; split <;> simp
/-- The verdict on two records that agree so. -/
def verdN (a b : Rcd) (nm nu bi pl : Int) : Int :=
  if bi = 0 then 0 else if a.suffix ≠ 0 ∧ b.suffix ≠ 0 ∧ a.suffix ≠ b.suffix then 0 else if nm = 0 ∧ nu ≠ 3 then 0 else if nu = 0 ∧ pl ≠ 3 then 0 else if (a.twin || b.twin) = true ∧ nu ≠ 3 ∧ nm ≠ 3 then 0
  else if nu = 3 ∧ 2 ≤ nm then 2 else if (a.twin || b.twin) = false ∧ nm = 3 ∧ bi = 3 ∧ pl = 3 then 2 else 1
theorem verdN_symm (a b : Rcd) (nm nu bi pl : Int) : verdN a b nm nu bi pl = verdN b a nm nu bi pl := by
  unfold verdN
  rw [Bool.or_comm a.twin b.twin]
  exact ite_iff Iff.rfl rfl (ite_iff (by omega) rfl rfl)
/-- How much two records agree. -/
def cmpN (r : Rul) (a b : Rcd) : Cmp :=
  ⟨namesN r.letters a.names b.names, numN r.digits a.number b.number, birN r.days a.lo a.hi b.lo b.hi, placesN r.together a.stays b.stays,
    verdN a b (namesN r.letters a.names b.names) (numN r.digits a.number b.number) (birN r.days a.lo a.hi b.lo b.hi) (placesN r.together a.stays b.stays)⟩
theorem cmpN_symm (r : Rul) (a b : Rcd) : cmpN r a b = cmpN r b a := by
  unfold cmpN
  rw [namesN_symm r.letters a.names b.names, numN_symm r.digits a.number b.number, birN_symm r.days a.lo a.hi b.lo b.hi]
  rw [show placesN r.together a.stays b.stays = placesN r.together b.stays a.stays by unfold placesN; rw [placesB_symm], verdN_symm]
end Go.Proofs.YtlkjimfkapcenaaGreatDoor
namespace Go.Proofs.YtlkjimfkapcenaaGreatDoor
open Go.RowKit

theorem keep2 {W W' : World} {b0 p b1 q : Nat} {u v : Value} (h : W.cell? ⟨b0, p, none⟩ = some u ∧ W.cell? ⟨b1, q, none⟩ = some v) (g : Gr W W') : W'.cell? ⟨b0, p, none⟩ = some u ∧ W'.cell? ⟨b1, q, none⟩ = some v :=
  ⟨(g.cell (block_lt_of_cell h.1)).trans h.1, (g.cell (block_lt_of_cell h.2)).trans h.2⟩
theorem get_drop (ys : List ByteArray) (a j : Nat) (hj : a + j < ys.length) : (ys.drop a)[j]! = ys[a + j]! := by
  rw [getElem!_pos _ j (by simp; omega), getElem!_pos ys (a + j) hj, List.getElem_drop]
theorem step_stuck {k : Int} {ys : List ByteArray} {x : ByteArray} {a : Nat} (h : ∀ j, a ≤ j → j < ys.length → alikeB x ys[j]! k = false) : amStep k (ys.drop a) x = none := by
  refine amStep_none (fun j hj => ?_)
  have hj' : a + j < ys.length := by simp at hj; omega
  rw [get_drop ys a j hj']
  exact h _ (by omega) hj'
theorem step_hit {k : Int} {ys : List ByteArray} {x : ByteArray} {a q : Nat} (ha : a ≤ q) (hq : q < ys.length) (h : alikeB x ys[q]! k = true) (hb : ∀ j, a ≤ j → j < q → alikeB x ys[j]! k = false) : amStep k (ys.drop a) x = some (ys.drop (q + 1)) := by
  have e := amStep_some (k := k) (l := ys.drop a) (x := x) (i := q - a) (by simp; omega) (by rw [get_drop ys a _ (by omega), show a + (q - a) = q by omega]; exact h)
    (fun j hj => by rw [get_drop ys a j (by omega)]; exact hb _ (by omega) (by omega))
  rw [e, List.drop_drop, show a + (q - a + 1) = q + 1 by omega]
theorem among_next {k : Int} {xs ys l : List ByteArray} {i : Nat} (hi : i < xs.length) (h : (xs.take i).foldlM (amStep k) ys = some l) : (xs.take (i + 1)).foldlM (amStep k) ys = amStep k l xs[i]! := by
  rw [List.take_succ_eq_append_getElem hi, among_snoc, h, getElem!_pos xs i hi]
  rfl
theorem among_stuck {k : Int} {xs ys l : List ByteArray} {i : Nat} (hi : i < xs.length) (h : (xs.take i).foldlM (amStep k) ys = some l) (hn : amStep k l xs[i]! = none) : amongB k xs ys = false := by
  unfold amongB
  rw [← List.take_append_drop (i + 1) xs, List.foldlM_append, among_next hi h, hn]
  rfl

end Go.Proofs.YtlkjimfkapcenaaGreatDoor
namespace Go.Proofs.YtlkjimfkapcenaaGreatDoor
open Go.RowKit

set_option maxRecDepth 100000 in
set_option maxHeartbeats 1000000 in
theorem verd6_any (a b : Rcd) (x : Cmp) (g : Nat) (A : Option Addr) (n c : Nat) (B : Option Addr) (m d : Nat) (A' : Option Addr) (n' c' : Nat) (B' : Option Addr) (m' d' : Nat) (w : World)
    (hc : w.cell? ⟨g, 0, none⟩ = some (.func (.func 49) #[] #[])) :
    Calls Tryz.prog 54 #[a.val A n c B m d, b.val A' n' c' B' m' d', x.val, .pointer (some ⟨g, 0, none⟩)] w fun e w' => e = .returned (.bool (((a.twin || b.twin) && x.nu != 3) && x.nm != 3)) ∧ Gr w w' := by
  have HV := hid (fun W => verd1_any a b A n c B m d A' n' c' B' m' d' W)
  obtain ⟨id, names, suf, l1, h1, p, tw, stays⟩ := a
  obtain ⟨id', names', suf', l2, h2, q, tw', stays'⟩ := b
  obtain ⟨nm, nu, bi, pl, vd⟩ := x
  unfold Rcd.val at HV ⊢
  unfold Cmp.val
  dsimp only at HV ⊢
  have b1 : g < w.heap.size := block_lt_of_cell hc
  have n1 : g ≠ w.heap.size := by omega
  have n2 : g ≠ w.heap.size + 1 := by omega
  have n3 : g ≠ w.heap.size + 1 + 1 := by omega
  have n4 : g ≠ w.heap.size + 2 := by omega
  have b2 : g < w.heap.size + 1 := by omega
  have b3 : g < w.heap.size + 1 + 1 := by omega
  have eg := enters_of Tryz.func49 (by kernel_rfl) rfl
  generalize (tw || tw') = T at HV
  cases T
  · go_enter Tryz.func54, Tryz.ntmps54
    go_wp2_with ((go_at_call 49; (with_reducible refine (HV.out _).mono ?_); rotate_right; rintro e w1 ⟨rfl, hbw1⟩; obtain ⟨hcw1, hfw1, hzw1⟩ := hbw1.rules; (try simp at hzw1); have hzw1_0 : w.heap.size < w1.heap.size := (by omega); have hyw1_0 : w.heap.size ≤ w1.heap.size := (by omega); have hzw1_1 : w.heap.size + 1 < w1.heap.size := (by omega); have hyw1_1 : w.heap.size + 1 ≤ w1.heap.size := (by omega); have hzw1_2 : w.heap.size + 2 < w1.heap.size := (by omega); have hyw1_2 : w.heap.size + 2 ≤ w1.heap.size := (by omega)))
    go_ret
    exact ⟨by rfl, by (repeat (first | with_reducible exact Gr.refl _ | with_reducible refine Gr.trans ?_ hbw1 | with_reducible refine Gr.alloc ?_ _ | with_reducible refine Gr.setCell ?_ (by simp) _ | with_reducible refine Gr.setCell ?_ (by simp; omega) _ | with_reducible refine Gr.drew ?_ | with_reducible refine Gr.drewN ?_ _))⟩
  · cases e1 : nu != 3
    · go_enter Tryz.func54, Tryz.ntmps54
      go_wp2_with ((go_at_call 49; (with_reducible refine (HV.out _).mono ?_); rotate_right; rintro e w1 ⟨rfl, hbw1⟩; obtain ⟨hcw1, hfw1, hzw1⟩ := hbw1.rules; (try simp at hzw1); have hzw1_0 : w.heap.size < w1.heap.size := (by omega); have hyw1_0 : w.heap.size ≤ w1.heap.size := (by omega); have hzw1_1 : w.heap.size + 1 < w1.heap.size := (by omega); have hyw1_1 : w.heap.size + 1 ≤ w1.heap.size := (by omega); have hzw1_2 : w.heap.size + 2 < w1.heap.size := (by omega); have hyw1_2 : w.heap.size + 2 ≤ w1.heap.size := (by omega)))
      go_ret
      exact ⟨by rfl, by (repeat (first | with_reducible exact Gr.refl _ | with_reducible refine Gr.trans ?_ hbw1 | with_reducible refine Gr.alloc ?_ _ | with_reducible refine Gr.setCell ?_ (by simp) _ | with_reducible refine Gr.setCell ?_ (by simp; omega) _ | with_reducible refine Gr.drew ?_ | with_reducible refine Gr.drewN ?_ _))⟩
    · go_enter Tryz.func54, Tryz.ntmps54
      go_wp2_with ((go_at_call 49; (with_reducible refine (HV.out _).mono ?_); rotate_right; rintro e w1 ⟨rfl, hbw1⟩; obtain ⟨hcw1, hfw1, hzw1⟩ := hbw1.rules; (try simp at hzw1); have hzw1_0 : w.heap.size < w1.heap.size := (by omega); have hyw1_0 : w.heap.size ≤ w1.heap.size := (by omega); have hzw1_1 : w.heap.size + 1 < w1.heap.size := (by omega); have hyw1_1 : w.heap.size + 1 ≤ w1.heap.size := (by omega); have hzw1_2 : w.heap.size + 2 < w1.heap.size := (by omega); have hyw1_2 : w.heap.size + 2 ≤ w1.heap.size := (by omega)))
      go_ret
      exact ⟨by rfl, by (repeat (first | with_reducible exact Gr.refl _ | with_reducible refine Gr.trans ?_ hbw1 | with_reducible refine Gr.alloc ?_ _ | with_reducible refine Gr.setCell ?_ (by simp) _ | with_reducible refine Gr.setCell ?_ (by simp; omega) _ | with_reducible refine Gr.drew ?_ | with_reducible refine Gr.drewN ?_ _))⟩
set_option maxRecDepth 100000 in
set_option maxHeartbeats 1000000 in
theorem verd8_any (a b : Rcd) (x : Cmp) (g : Nat) (A : Option Addr) (n c : Nat) (B : Option Addr) (m d : Nat) (A' : Option Addr) (n' c' : Nat) (B' : Option Addr) (m' d' : Nat) (w : World)
    (hc : w.cell? ⟨g, 0, none⟩ = some (.func (.func 49) #[] #[])) :
    Calls Tryz.prog 56 #[a.val A n c B m d, b.val A' n' c' B' m' d', x.val, .pointer (some ⟨g, 0, none⟩)] w fun e w' => e = .returned (.bool (((!(a.twin || b.twin) && x.nm == 3) && x.bi == 3) && x.pl == 3)) ∧ Gr w w' := by
  have HV := hid (fun W => verd1_any a b A n c B m d A' n' c' B' m' d' W)
  obtain ⟨id, names, suf, l1, h1, p, tw, stays⟩ := a
  obtain ⟨id', names', suf', l2, h2, q, tw', stays'⟩ := b
  obtain ⟨nm, nu, bi, pl, vd⟩ := x
  unfold Rcd.val at HV ⊢
  unfold Cmp.val
  dsimp only at HV ⊢
  have b1 : g < w.heap.size := block_lt_of_cell hc
  have n1 : g ≠ w.heap.size := by omega
  have n2 : g ≠ w.heap.size + 1 := by omega
  have n3 : g ≠ w.heap.size + 1 + 1 := by omega
  have n4 : g ≠ w.heap.size + 2 := by omega
  have b2 : g < w.heap.size + 1 := by omega
  have b3 : g < w.heap.size + 1 + 1 := by omega
  have eg := enters_of Tryz.func49 (by kernel_rfl) rfl
  generalize (tw || tw') = T at HV
  cases T
  · cases e1 : nm == 3
    · go_enter Tryz.func56, Tryz.ntmps56
      go_wp2_with ((go_at_call 49; (with_reducible refine (HV.out _).mono ?_); rotate_right; rintro e w1 ⟨rfl, hbw1⟩; obtain ⟨hcw1, hfw1, hzw1⟩ := hbw1.rules; (try simp at hzw1); have hzw1_0 : w.heap.size < w1.heap.size := (by omega); have hyw1_0 : w.heap.size ≤ w1.heap.size := (by omega); have hzw1_1 : w.heap.size + 1 < w1.heap.size := (by omega); have hyw1_1 : w.heap.size + 1 ≤ w1.heap.size := (by omega); have hzw1_2 : w.heap.size + 2 < w1.heap.size := (by omega); have hyw1_2 : w.heap.size + 2 ≤ w1.heap.size := (by omega)))
      go_ret
      exact ⟨by rfl, by (repeat (first | with_reducible exact Gr.refl _ | with_reducible refine Gr.trans ?_ hbw1 | with_reducible refine Gr.alloc ?_ _ | with_reducible refine Gr.setCell ?_ (by simp) _ | with_reducible refine Gr.setCell ?_ (by simp; omega) _ | with_reducible refine Gr.drew ?_ | with_reducible refine Gr.drewN ?_ _))⟩
    · cases e2 : bi == 3
      · go_enter Tryz.func56, Tryz.ntmps56
        go_wp2_with ((go_at_call 49; (with_reducible refine (HV.out _).mono ?_); rotate_right; rintro e w1 ⟨rfl, hbw1⟩; obtain ⟨hcw1, hfw1, hzw1⟩ := hbw1.rules; (try simp at hzw1); have hzw1_0 : w.heap.size < w1.heap.size := (by omega); have hyw1_0 : w.heap.size ≤ w1.heap.size := (by omega); have hzw1_1 : w.heap.size + 1 < w1.heap.size := (by omega); have hyw1_1 : w.heap.size + 1 ≤ w1.heap.size := (by omega); have hzw1_2 : w.heap.size + 2 < w1.heap.size := (by omega); have hyw1_2 : w.heap.size + 2 ≤ w1.heap.size := (by omega)))
        go_ret
        exact ⟨by rfl, by (repeat (first | with_reducible exact Gr.refl _ | with_reducible refine Gr.trans ?_ hbw1 | with_reducible refine Gr.alloc ?_ _ | with_reducible refine Gr.setCell ?_ (by simp) _ | with_reducible refine Gr.setCell ?_ (by simp; omega) _ | with_reducible refine Gr.drew ?_ | with_reducible refine Gr.drewN ?_ _))⟩
      · go_enter Tryz.func56, Tryz.ntmps56
        go_wp2_with ((go_at_call 49; (with_reducible refine (HV.out _).mono ?_); rotate_right; rintro e w1 ⟨rfl, hbw1⟩; obtain ⟨hcw1, hfw1, hzw1⟩ := hbw1.rules; (try simp at hzw1); have hzw1_0 : w.heap.size < w1.heap.size := (by omega); have hyw1_0 : w.heap.size ≤ w1.heap.size := (by omega); have hzw1_1 : w.heap.size + 1 < w1.heap.size := (by omega); have hyw1_1 : w.heap.size + 1 ≤ w1.heap.size := (by omega); have hzw1_2 : w.heap.size + 2 < w1.heap.size := (by omega); have hyw1_2 : w.heap.size + 2 ≤ w1.heap.size := (by omega)))
        go_ret
        exact ⟨by rfl, by (repeat (first | with_reducible exact Gr.refl _ | with_reducible refine Gr.trans ?_ hbw1 | with_reducible refine Gr.alloc ?_ _ | with_reducible refine Gr.setCell ?_ (by simp) _ | with_reducible refine Gr.setCell ?_ (by simp; omega) _ | with_reducible refine Gr.drew ?_ | with_reducible refine Gr.drewN ?_ _))⟩
  · go_enter Tryz.func56, Tryz.ntmps56
    go_wp2_with ((go_at_call 49; (with_reducible refine (HV.out _).mono ?_); rotate_right; rintro e w1 ⟨rfl, hbw1⟩; obtain ⟨hcw1, hfw1, hzw1⟩ := hbw1.rules; (try simp at hzw1); have hzw1_0 : w.heap.size < w1.heap.size := (by omega); have hyw1_0 : w.heap.size ≤ w1.heap.size := (by omega); have hzw1_1 : w.heap.size + 1 < w1.heap.size := (by omega); have hyw1_1 : w.heap.size + 1 ≤ w1.heap.size := (by omega); have hzw1_2 : w.heap.size + 2 < w1.heap.size := (by omega); have hyw1_2 : w.heap.size + 2 ≤ w1.heap.size := (by omega)))
    go_ret
    exact ⟨by rfl, by (repeat (first | with_reducible exact Gr.refl _ | with_reducible refine Gr.trans ?_ hbw1 | with_reducible refine Gr.alloc ?_ _ | with_reducible refine Gr.setCell ?_ (by simp) _ | with_reducible refine Gr.setCell ?_ (by simp; omega) _ | with_reducible refine Gr.drew ?_ | with_reducible refine Gr.drewN ?_ _))⟩
end Go.Proofs.YtlkjimfkapcenaaGreatDoor
namespace Go.Proofs.YtlkjimfkapcenaaGreatDoor
open Go.RowKit

theorem lev_zero_left (a b : ByteArray) (k : Nat) : lev a b 0 k = k := by cases k <;> simp [lev]
theorem lev_three (a b : ByteArray) (i k : Nat) : lev a b (i + 1) (k + 1) = lev a b i k + (if byt a i = byt b k then 0 else 1) ∨ lev a b (i + 1) (k + 1) = lev a b i (k + 1) + 1 ∨ lev a b (i + 1) (k + 1) = lev a b (i + 1) k + 1 := by
  rw [lev_step]; omega
theorem lev_le1 (a b : ByteArray) (i k : Nat) : lev a b (i + 1) (k + 1) ≤ lev a b i k + (if byt a i = byt b k then 0 else 1) := by rw [lev_step]; omega
theorem lev_le2 (a b : ByteArray) (i k : Nat) : lev a b (i + 1) k ≤ lev a b i k + 1 := by
  cases k with
  | zero => rw [lev_zero, lev_zero]; omega
  | succ k => rw [lev_step]; omega
theorem lev_le3 (a b : ByteArray) (i k : Nat) : lev a b i (k + 1) ≤ lev a b i k + 1 := by
  cases i with
  | zero => rw [lev_zero_left, lev_zero_left]; omega
  | succ i => rw [lev_step]; omega
theorem lev_lower (a b : ByteArray) : ∀ i k, i ≤ lev a b i k + k ∧ k ≤ lev a b i k + i := by
  intro i
  induction i with
  | zero => intro k; rw [lev_zero_left]; omega
  | succ i ih =>
    intro k
    induction k with
    | zero => rw [lev_zero]; omega
    | succ k ihk =>
      have h1 := ih k
      have h2 := ih (k + 1)
      rcases lev_three a b i k with h | h | h <;> rw [h] <;> (try split) <;> omega
theorem lev_upper (a b : ByteArray) : ∀ i k, lev a b i k ≤ max i k := by
  intro i
  induction i with
  | zero => intro k; rw [lev_zero_left]; omega
  | succ i ih =>
    intro k
    cases k with
    | zero => rw [lev_zero]; omega
    | succ k =>
      have h1 := ih k
      have h2 := lev_le1 a b i k
      split at h2 <;> omega
theorem lev_self (a : ByteArray) : ∀ i, lev a a i i = 0 := by
  intro i
  induction i with
  | zero => rw [lev_zero]
  | succ i ih =>
    have h := lev_le1 a a i i
    rw [if_pos rfl, ih] at h
    omega
theorem lev_tri (a b c : ByteArray) : ∀ n i j k, i + j + k ≤ n → lev a c i k ≤ lev a b i j + lev b c j k := by
  intro n
  induction n with
  | zero =>
    intro i j k h
    obtain rfl : i = 0 := by omega
    obtain rfl : k = 0 := by omega
    rw [lev_zero]; omega
  | succ n ih =>
    intro i j k h
    cases i with
    | zero =>
      have := (lev_lower b c j k).2
      rw [lev_zero_left, lev_zero_left]; omega
    | succ i =>
      cases k with
      | zero =>
        have := (lev_lower a b (i + 1) j).1
        rw [lev_zero, lev_zero]; omega
      | succ k =>
        cases j with
        | zero =>
          have := lev_le a c (i + 1) (k + 1)
          rw [lev_zero, lev_zero_left]; omega
        | succ j =>
          rcases lev_three b c j k with h2 | h2 | h2
          · rcases lev_three a b i j with h1 | h1 | h1
            · have k1 := ih i j k (by omega)
              have k2 := lev_le1 a c i k
              have k3 : (if byt a i = byt c k then (0 : Nat) else 1) ≤ (if byt a i = byt b j then 0 else 1) + (if byt b j = byt c k then 0 else 1) := by
                by_cases e1 : byt a i = byt b j
                · by_cases e2 : byt b j = byt c k
                  · rw [if_pos (e1.trans e2)]; omega
                  · rw [if_neg e2]; split <;> omega
                · rw [if_neg e1]; split <;> omega
              omega
            · have k1 := ih i (j + 1) (k + 1) (by omega)
              have k2 := lev_le2 a c i (k + 1)
              omega
            · have k1 := ih (i + 1) j k (by omega)
              have k2 := lev_le3 a c (i + 1) k
              omega
          · rcases lev_three a b i j with h1 | h1 | h1
            · have k1 := ih i j (k + 1) (by omega)
              have k2 := lev_le2 a c i (k + 1)
              omega
            · have k1 := ih i (j + 1) (k + 1) (by omega)
              have k2 := lev_le2 a c i (k + 1)
              omega
            · have k1 := ih (i + 1) j (k + 1) (by omega)
              omega
          · have k1 := ih (i + 1) (j + 1) k (by omega)
            have k2 := lev_le3 a c (i + 1) k
            omega
theorem lev_lip (a b : ByteArray) (i k : Nat) : lev a b i k ≤ lev a b (i + 1) k + 1 := by
  have h1 := lev_tri a a b (i + (i + 1) + k) i (i + 1) k (by omega)
  have h2 := lev_le3 a a i i
  rw [lev_self] at h2
  omega
theorem lev_congr {a a' b : ByteArray} : ∀ i k, (∀ j, j < i → byt a j = byt a' j) → lev a b i k = lev a' b i k := by
  intro i
  induction i with
  | zero => intro k _; rw [lev_zero_left, lev_zero_left]
  | succ i ih =>
    intro k h
    induction k with
    | zero => rw [lev_zero, lev_zero]
    | succ k ihk =>
      have e : byt a i = byt a' i := h i (by omega)
      rw [lev_step, lev_step, ih k (fun j hj => h j (by omega)), ih (k + 1) (fun j hj => h j (by omega)), ihk, e]
theorem lev_eq_zero (a b : ByteArray) : ∀ i k, lev a b i k = 0 → i = k ∧ ∀ j, j < i → byt a j = byt b j := by
  intro i
  induction i with
  | zero => intro k h; rw [lev_zero_left] at h; exact ⟨h.symm, fun j hj => absurd hj (by omega)⟩
  | succ i ih =>
    intro k h
    cases k with
    | zero => rw [lev_zero] at h; omega
    | succ k =>
      rcases lev_three a b i k with e | e | e
      · rw [e] at h
        by_cases hb : byt a i = byt b k
        · rw [if_pos hb] at h
          obtain ⟨rfl, h2⟩ := ih k (by omega)
          refine ⟨rfl, fun j hj => ?_⟩
          by_cases hj' : j = i
          · subst hj'; exact hb
          · exact h2 j (by omega)
        · rw [if_neg hb] at h; omega
      · omega
      · omega
theorem byt_get {a : ByteArray} {i : Nat} (hi : i < a.size) : byt a i = a.data.toList[i]'(by simpa using hi) := by
  unfold byt
  rw [List.getD_eq_getElem?_getD, List.getElem?_eq_getElem (by simpa using hi)]; rfl
theorem bytes_ext {a b : ByteArray} (hs : a.size = b.size) (h : ∀ j, j < a.size → byt a j = byt b j) : a = b := by
  have e : a.data.toList = b.data.toList := by
    apply List.ext_getElem (by simpa using hs)
    intro j h1 h2
    have hj : j < a.size := by simpa using h1
    have := h j hj
    rw [byt_get hj, byt_get (by omega)] at this
    exact this
  cases a; cases b
  congr 1
  exact Array.toList_inj.1 e
/-- The edits of two words. -/
def levW (a b : ByteArray) : Nat := lev a b a.size b.size
theorem levW_symm (a b : ByteArray) : levW a b = levW b a := lev_symm a b _ _
theorem levW_tri (a b c : ByteArray) : levW a c ≤ levW a b + levW b c := lev_tri a b c _ _ _ _ (Nat.le_refl _)
theorem levW_self (a : ByteArray) : levW a a = 0 := lev_self a _
theorem levW_zero (a b : ByteArray) : levW a b = 0 ↔ a = b := by
  constructor
  · intro h
    obtain ⟨h1, h2⟩ := lev_eq_zero a b _ _ h
    exact bytes_ext h1 h2
  · rintro rfl; exact levW_self a
theorem byt_push (a : ByteArray) (c : UInt8) {j : Nat} (hj : j < a.size) : byt (a ++ ⟨#[c]⟩) j = byt a j := by
  have e : (a ++ ⟨#[c]⟩).data.toList = a.data.toList ++ [c] := by simp
  unfold byt
  rw [e, List.getD_eq_getElem?_getD, List.getD_eq_getElem?_getD, List.getElem?_append_left (by simpa using hj)]
theorem size_push (a : ByteArray) (c : UInt8) : (a ++ ⟨#[c]⟩).size = a.size + 1 := by
  rw [ByteArray.size_append]; rfl
theorem levW_push (a b : ByteArray) (c : UInt8) : levW (a ++ ⟨#[c]⟩) b ≤ levW a b + 1 ∧ levW a b ≤ levW (a ++ ⟨#[c]⟩) b + 1 := by
  unfold levW
  rw [size_push]
  have e : lev a b a.size b.size = lev (a ++ ⟨#[c]⟩) b a.size b.size := lev_congr _ _ (fun j hj => (byt_push a c hj).symm)
  rw [e]
  exact ⟨lev_le2 _ _ _ _, lev_lip _ _ _ _⟩
end Go.Proofs.YtlkjimfkapcenaaGreatDoor
namespace Go.Proofs.YtlkjimfkapcenaaGreatDoor
open Go.RowKit

def levF : Nat → ByteArray → ByteArray → Nat → Nat → Nat
  | 0, _, _, _, _ => 0
  | _ + 1, _, _, 0, k => k
  | _ + 1, _, _, i + 1, 0 => i + 1
  | n + 1, a, b, i + 1, k + 1 => min (min (levF n a b i k + if byt a i = byt b k then 0 else 1) (levF n a b i (k + 1) + 1)) (levF n a b (i + 1) k + 1)
theorem levF_eq (a b : ByteArray) : ∀ n i k, i + k < n → levF n a b i k = lev a b i k := by
  intro n
  induction n with
  | zero => intro i k h; omega
  | succ n ih =>
    intro i k h
    cases i with
    | zero => rw [lev_zero_left]; cases k <;> rfl
    | succ i =>
      cases k with
      | zero => rw [lev_zero]; rfl
      | succ k =>
        rw [lev_step, ← ih i k (by omega), ← ih i (k + 1) (by omega), ← ih (i + 1) k (by omega)]
        rfl
theorem lev_fuel : lev = fun a b i k => levF (i + k + 1) a b i k := by
  funext a b i k
  exact (levF_eq a b _ _ _ (by omega)).symm
end Go.Proofs.YtlkjimfkapcenaaGreatDoor
namespace Go.Proofs.YtlkjimfkapcenaaGreatDoor
open Go.RowKit

theorem alikeB_mono {p q : ByteArray} {k k' : Int} (hk : k ≤ k') (h : alikeB p q k = true) : alikeB p q k' = true := by
  unfold alikeB at h ⊢
  simp only [Bool.or_eq_true, Bool.and_eq_true, decide_eq_true_eq] at h ⊢
  rcases h with h | h
  · exact .inl h
  · exact .inr (by omega)
/-- Names that match others one by one, in order, those between left out. -/
inductive Emb (k : Int) : List ByteArray → List ByteArray → Prop
  | nil (ys : List ByteArray) : Emb k [] ys
  | skip {xs ys : List ByteArray} (y : ByteArray) (h : Emb k xs ys) : Emb k xs (y :: ys)
  | take {xs ys : List ByteArray} {x y : ByteArray} (h : alikeB x y k = true) (h' : Emb k xs ys) : Emb k (x :: xs) (y :: ys)
theorem Emb.mono {k k' : Int} (hk : k ≤ k') {xs ys : List ByteArray} (h : Emb k xs ys) : Emb k' xs ys := by
  induction h with
  | nil ys => exact .nil ys
  | skip y _ ih => exact .skip y ih
  | take h _ ih => exact .take (alikeB_mono hk h) ih
theorem Emb.tail {k : Int} {x : ByteArray} {xs ys : List ByteArray} (h : Emb k (x :: xs) ys) : Emb k xs ys := by
  generalize hz : x :: xs = zs at h
  induction h with
  | nil ys => cases hz
  | skip y _ ih => exact .skip y (ih hz)
  | take h h' _ => cases hz; exact .skip _ h'
theorem among_cons_cons (k : Int) (x : ByteArray) (xs : List ByteArray) (y : ByteArray) (ys : List ByteArray) : amongB k (x :: xs) (y :: ys) = if alikeB x y k then amongB k xs ys else amongB k (x :: xs) ys := by
  rw [among_cons, among_cons]
  unfold amStep
  rw [List.findIdx?_cons]
  cases h : alikeB x y k with
  | true => simp
  | false =>
    simp only [Bool.false_eq_true, if_false]
    cases h2 : ys.findIdx? (fun y => alikeB x y k) with
    | none => simp
    | some i => simp
theorem among_nil_right (k : Int) (x : ByteArray) (xs : List ByteArray) : amongB k (x :: xs) [] = false := by
  rw [among_cons]; rfl
theorem among_nil_left (k : Int) (ys : List ByteArray) : amongB k [] ys = true := by simp [amongB]
theorem among_emb (k : Int) : ∀ ys xs, amongB k xs ys = true ↔ Emb k xs ys := by
  intro ys
  induction ys with
  | nil =>
    intro xs
    cases xs with
    | nil => simp only [among_nil_left, true_iff]; exact .nil _
    | cons x xs =>
      rw [among_nil_right]
      simp only [Bool.false_eq_true, false_iff]
      intro h
      cases h
  | cons y ys ih =>
    intro xs
    cases xs with
    | nil => simp only [among_nil_left, true_iff]; exact .nil _
    | cons x xs =>
      rw [among_cons_cons]
      cases h : alikeB x y k with
      | true =>
        rw [if_pos rfl, ih]
        constructor
        · exact fun h' => .take h h'
        · intro h'
          cases h' with
          | skip _ h' => exact h'.tail
          | take _ h' => exact h'
      | false =>
        rw [if_neg (by simp), ih]
        constructor
        · exact fun h' => .skip _ h'
        · intro h'
          cases h' with
          | skip _ h' => exact h'
          | take h2 _ => rw [h] at h2; cases h2
theorem among_mono {k k' : Int} (hk : k ≤ k') {xs ys : List ByteArray} (h : amongB k xs ys = true) : amongB k' xs ys = true := (among_emb _ _ _).2 (((among_emb _ _ _).1 h).mono hk)
theorem namesO_mono {k k' : Int} (hk : k ≤ k') (xs ys : List ByteArray) : namesO k xs ys ≤ namesO k' xs ys := by
  unfold namesO
  by_cases h1 : xs[0]! = ys[0]! ∧ amongB (-1) xs.tail ys.tail = true
  · rw [if_pos h1, if_pos h1]; omega
  · rw [if_neg h1, if_neg h1]
    by_cases h2 : (lev xs[0]! ys[0]! xs[0]!.size ys[0]!.size : Int) ≤ k ∧ amongB k xs.tail ys.tail = true
    · rw [if_pos h2, if_pos ⟨by omega, among_mono hk h2.2⟩]; omega
    · rw [if_neg h2]; split <;> omega
theorem namesN_mono {k k' : Int} (hk : k ≤ k') (xs ys : List ByteArray) : namesN k xs ys ≤ namesN k' xs ys := by
  unfold namesN
  split <;> exact namesO_mono hk _ _
theorem numN_mono {d d' : Int} (hd : d ≤ d') (p q : ByteArray) : numN d p q ≤ numN d' p q := by
  unfold numN
  split
  · omega
  · split
    · omega
    · split <;> split <;> omega
theorem birN_mono {d d' : Int} (hd : d ≤ d') (l1 h1 l2 h2 : Int) : birN d l1 h1 l2 h2 ≤ birN d' l1 h1 l2 h2 := by
  unfold birN
  split
  · omega
  · split <;> split <;> omega
theorem verdN_range (a b : Rcd) (nm nu bi pl : Int) : verdN a b nm nu bi pl = 0 ∨ verdN a b nm nu bi pl = 1 ∨ verdN a b nm nu bi pl = 2 := by
  unfold verdN
  repeat' split
  all_goals simp
theorem verdN_z (a b : Rcd) (nm nu bi pl : Int) : verdN a b nm nu bi pl = 0 ↔ (bi = 0 ∨ (a.suffix ≠ 0 ∧ b.suffix ≠ 0 ∧ a.suffix ≠ b.suffix) ∨ (nm = 0 ∧ nu ≠ 3) ∨ (nu = 0 ∧ pl ≠ 3) ∨ ((a.twin || b.twin) = true ∧ nu ≠ 3 ∧ nm ≠ 3)) := by
  unfold verdN
  by_cases h1 : bi = 0
  · rw [if_pos h1]; exact ⟨fun _ => .inl h1, fun _ => rfl⟩
  rw [if_neg h1]
  by_cases h2 : a.suffix ≠ 0 ∧ b.suffix ≠ 0 ∧ a.suffix ≠ b.suffix
  · rw [if_pos h2]; exact ⟨fun _ => .inr (.inl h2), fun _ => rfl⟩
  rw [if_neg h2]
  by_cases h3 : nm = 0 ∧ nu ≠ 3
  · rw [if_pos h3]; exact ⟨fun _ => .inr (.inr (.inl h3)), fun _ => rfl⟩
  rw [if_neg h3]
  by_cases h4 : nu = 0 ∧ pl ≠ 3
  · rw [if_pos h4]; exact ⟨fun _ => .inr (.inr (.inr (.inl h4))), fun _ => rfl⟩
  rw [if_neg h4]
  by_cases h5 : (a.twin || b.twin) = true ∧ nu ≠ 3 ∧ nm ≠ 3
  · rw [if_pos h5]; exact ⟨fun _ => .inr (.inr (.inr (.inr h5))), fun _ => rfl⟩
  rw [if_neg h5]
  constructor
  · intro h
    split at h
    · cases h
    · split at h <;> cases h
  · rintro (h | h | h | h | h) <;> contradiction
theorem verdN_two (a b : Rcd) (nm nu bi pl : Int) : verdN a b nm nu bi pl = 2 ↔ verdN a b nm nu bi pl ≠ 0 ∧ ((nu = 3 ∧ 2 ≤ nm) ∨ ((a.twin || b.twin) = false ∧ nm = 3 ∧ bi = 3 ∧ pl = 3)) := by
  by_cases hz : verdN a b nm nu bi pl = 0
  · rw [hz]; simp
  · have hz' := hz
    rw [verdN_z] at hz'
    have h1 : ¬ bi = 0 := fun h => hz' (.inl h)
    have h2 : ¬ (a.suffix ≠ 0 ∧ b.suffix ≠ 0 ∧ a.suffix ≠ b.suffix) := fun h => hz' (.inr (.inl h))
    have h3 : ¬ (nm = 0 ∧ nu ≠ 3) := fun h => hz' (.inr (.inr (.inl h)))
    have h4 : ¬ (nu = 0 ∧ pl ≠ 3) := fun h => hz' (.inr (.inr (.inr (.inl h))))
    have h5 : ¬ ((a.twin || b.twin) = true ∧ nu ≠ 3 ∧ nm ≠ 3) := fun h => hz' (.inr (.inr (.inr (.inr h))))
    have e : verdN a b nm nu bi pl = if nu = 3 ∧ 2 ≤ nm then 2 else if (a.twin || b.twin) = false ∧ nm = 3 ∧ bi = 3 ∧ pl = 3 then 2 else 1 := by
      unfold verdN
      rw [if_neg h1, if_neg h2, if_neg h3, if_neg h4, if_neg h5]
    constructor
    · intro h
      refine ⟨hz, ?_⟩
      rw [e] at h
      split at h
      · rename_i h6; exact .inl h6
      · split at h
        · rename_i h7; exact .inr h7
        · cases h
    · rintro ⟨_, h | h⟩
      · rw [e, if_pos h]
      · rw [e, if_pos h]
        by_cases h' : nu = 3 ∧ 2 ≤ nm
        · rw [if_pos h']
        · rw [if_neg h']
theorem verdN_mono (a b : Rcd) {nm nu bi pl nm' nu' bi' : Int} (h1 : nm ≤ nm') (h2 : nu ≤ nu') (h3 : bi ≤ bi')
    (r1 : nm = 0 ∨ nm = 2 ∨ nm = 3) (r1' : nm' = 0 ∨ nm' = 2 ∨ nm' = 3) (r2 : nu = 0 ∨ nu = 1 ∨ nu = 2 ∨ nu = 3) (r2' : nu' = 0 ∨ nu' = 1 ∨ nu' = 2 ∨ nu' = 3) (r3 : bi = 0 ∨ bi = 1 ∨ bi = 3) (r3' : bi' = 0 ∨ bi' = 1 ∨ bi' = 3) :
    verdN a b nm nu bi pl ≤ verdN a b nm' nu' bi' pl := by
  have hz : verdN a b nm' nu' bi' pl = 0 → verdN a b nm nu bi pl = 0 := by
    rw [verdN_z, verdN_z]
    rintro (h | h | h | h | ⟨h, h'⟩)
    · exact .inl (by omega)
    · exact .inr (.inl h)
    · exact .inr (.inr (.inl (by omega)))
    · exact .inr (.inr (.inr (.inl (by omega))))
    · exact .inr (.inr (.inr (.inr ⟨h, by omega⟩)))
  have ht : verdN a b nm nu bi pl = 2 → verdN a b nm' nu' bi' pl = 2 := by
    intro h
    obtain ⟨k1, k2⟩ := (verdN_two _ _ _ _ _ _).1 h
    refine (verdN_two _ _ _ _ _ _).2 ⟨fun e => k1 (hz e), ?_⟩
    rcases k2 with k2 | ⟨k2, k3⟩
    · exact .inl (by omega)
    · exact .inr ⟨k2, by omega⟩
  have q := verdN_range a b nm nu bi pl
  have q' := verdN_range a b nm' nu' bi' pl
  omega
/-- Rules that allow more. -/
theorem cmpN_mono {r r' : Rul} (h1 : r.letters ≤ r'.letters) (h2 : r.digits ≤ r'.digits) (h3 : r.days ≤ r'.days) (h4 : r.together = r'.together) (a b : Rcd) :
    (cmpN r a b).nm ≤ (cmpN r' a b).nm ∧ (cmpN r a b).nu ≤ (cmpN r' a b).nu ∧ (cmpN r a b).bi ≤ (cmpN r' a b).bi ∧ (cmpN r a b).pl = (cmpN r' a b).pl ∧ (cmpN r a b).vd ≤ (cmpN r' a b).vd := by
  unfold cmpN
  dsimp only
  rw [← h4]
  exact ⟨namesN_mono h1 _ _, numN_mono h2 _ _, birN_mono h3 _ _ _ _, rfl, verdN_mono a b (namesN_mono h1 _ _) (numN_mono h2 _ _) (birN_mono h3 _ _ _ _) (namesN_range _ _ _) (namesN_range _ _ _) (numN_range _ _ _) (numN_range _ _ _) (birN_range _ _ _ _ _) (birN_range _ _ _ _ _)⟩
theorem cmpN_range (r : Rul) (a b : Rcd) : (0 ≤ (cmpN r a b).nm ∧ (cmpN r a b).nm ≤ 3) ∧ (0 ≤ (cmpN r a b).nu ∧ (cmpN r a b).nu ≤ 3) ∧ (0 ≤ (cmpN r a b).bi ∧ (cmpN r a b).bi ≤ 3) ∧ (0 ≤ (cmpN r a b).pl ∧ (cmpN r a b).pl ≤ 3) ∧ (0 ≤ (cmpN r a b).vd ∧ (cmpN r a b).vd ≤ 2) := by
  have h1 := namesN_range r.letters a.names b.names
  have h2 := numN_range r.digits a.number b.number
  have h3 := birN_range r.days a.lo a.hi b.lo b.hi
  have h4 := placesN_range r.together a.stays b.stays
  have h5 := verdN_range a b (namesN r.letters a.names b.names) (numN r.digits a.number b.number) (birN r.days a.lo a.hi b.lo b.hi) (placesN r.together a.stays b.stays)
  unfold cmpN
  dsimp only
  refine ⟨?_, ?_, ?_, ?_, ?_⟩ <;> omega
theorem oneB_self (x : ByteArray) : oneB x x = true := by unfold oneB; simp
theorem alikeB_self (x : ByteArray) (k : Int) : alikeB x x k = true := alike_one (oneB_self x)
theorem among_self (k : Int) (xs : List ByteArray) : amongB k xs xs = true := by
  rw [among_eq k xs xs rfl, List.all_eq_true]
  intro p hp
  obtain ⟨i, hi, rfl⟩ := List.getElem_of_mem hp
  rw [List.getElem_zip]
  exact alikeB_self _ _
theorem namesN_self (k : Int) (xs : List ByteArray) : namesN k xs xs = 3 := by
  unfold namesN
  rw [if_neg (by omega)]
  unfold namesO
  rw [if_pos ⟨rfl, among_self _ _⟩]
theorem offN_zero {p q : ByteArray} : ∀ k, offN p q k = 0 ↔ ∀ j, j < k → byt p j = byt q j := by
  intro k
  induction k with
  | zero => simp [offN]
  | succ k ih =>
    unfold offN
    constructor
    · intro h j hj
      by_cases e : byt p k = byt q k
      · by_cases hj' : j = k
        · subst hj'; exact e
        · exact ih.1 (by omega) j (by omega)
      · rw [if_neg e] at h; omega
    · intro h
      rw [if_pos (h k (by omega)), ih.2 (fun j hj => h j (by omega))]
theorem numN_self (d : Int) (p : ByteArray) (h : p.size ≠ 0) : numN d p p = 3 := by
  unfold numN
  rw [if_neg (by omega), if_pos ((offN_zero 9).2 (fun _ _ => rfl))]
theorem numN_same {d : Int} {p q : ByteArray} (hp : p.size = 0 ∨ p.size = 9) (hq : q.size = 0 ∨ q.size = 9) : numN d p q = 3 ↔ p.size ≠ 0 ∧ p = q := by
  constructor
  · intro h
    unfold numN at h
    split at h
    · cases h
    · rename_i hz
      split at h
      · rename_i ho
        have h1 : p.size = 9 := by omega
        have h2 : q.size = 9 := by omega
        exact ⟨by omega, bytes_ext (by omega) (fun j hj => (offN_zero 9).1 ho j (by omega))⟩
      · split at h <;> cases h
  · rintro ⟨h1, rfl⟩
    exact numN_self d p h1
theorem birN_self {d l h : Int} (hd : 0 ≤ d) (hl : l ≤ h) : birN d l h l h ≠ 0 := by
  unfold birN
  split
  · omega
  · rw [if_pos ⟨by omega, by omega⟩]; omega
/-- What a valid record is. -/
theorem ok_parts {a : Rcd} (h : a.ok = true) : (0 ≤ a.lo ∧ a.lo ≤ a.hi ∧ a.hi ≤ 100000) ∧ (a.number.size = 0 ∨ a.number.size = 9) ∧ a.suffix ≤ 2 := by
  unfold Rcd.ok inB at h
  simp only [Bool.and_eq_true, decide_eq_true_eq, Bool.or_eq_true] at h
  omega
theorem rul_parts {r : Rul} (h : r.ok = true) : (0 ≤ r.letters ∧ r.letters ≤ 5) ∧ (0 ≤ r.digits ∧ r.digits ≤ 5) ∧ (0 ≤ r.days ∧ r.days ≤ 1000) ∧ (1 ≤ r.together ∧ r.together ≤ 1000) := by
  unfold Rul.ok inB at h
  simp only [Bool.and_eq_true, decide_eq_true_eq] at h
  omega
/-- A record and itself. -/
theorem cmpN_self {r : Rul} {a : Rcd} (hr : r.ok = true) (ha : a.ok = true) : (cmpN r a a).nm = 3 ∧ ((cmpN r a a).nu = 3 ↔ a.number.size ≠ 0) ∧ (cmpN r a a).vd ≠ 0 := by
  obtain ⟨⟨h1, h2, h3⟩, h4, _⟩ := ok_parts ha
  obtain ⟨_, _, h5, _⟩ := rul_parts hr
  have hb := birN_self (d := r.days) h5.1 h2
  have hn : (cmpN r a a).nu = 3 ↔ a.number.size ≠ 0 := by
    show numN _ _ _ = 3 ↔ _
    rw [numN_same h4 h4]; simp
  refine ⟨namesN_self _ _, hn, ?_⟩
  show verdN a a (namesN _ _ _) (numN _ _ _) (birN _ _ _ _ _) (placesN _ _ _) ≠ 0
  rw [namesN_self]
  unfold verdN
  rw [if_neg hb, if_neg (by omega), if_neg (by omega)]
  have hn2 : numN r.digits a.number a.number ≠ 0 := by
    unfold numN
    split
    · omega
    · rw [if_pos ((offN_zero 9).2 (fun _ _ => rfl))]; omega
  rw [if_neg (by omega), if_neg (by omega)]
  repeat' split
  all_goals omega
/-- What keeps two records apart. -/
theorem cmpN_apart {r : Rul} {a b : Rcd} (hr : r.ok = true) (ha : a.ok = true) (hb : b.ok = true)
    (h : (a.hi < b.lo - r.days ∨ b.hi < a.lo - r.days) ∨ (a.suffix ≠ 0 ∧ b.suffix ≠ 0 ∧ a.suffix ≠ b.suffix) ∨ ((a.twin || b.twin) = true ∧ (a.number.size = 0 ∨ a.number ≠ b.number) ∧ (cmpN r a b).nm ≠ 3)) : (cmpN r a b).vd = 0 := by
  obtain ⟨⟨h1, h2, h3⟩, h4, _⟩ := ok_parts ha
  obtain ⟨⟨k1, k2, k3⟩, k4, _⟩ := ok_parts hb
  obtain ⟨_, _, h5, _⟩ := rul_parts hr
  show verdN a b (namesN _ _ _) (numN _ _ _) (birN _ _ _ _ _) (placesN _ _ _) = 0
  rcases h with h | h | ⟨g1, g2, g3⟩
  · have : birN r.days a.lo a.hi b.lo b.hi = 0 := by
      unfold birN
      rw [if_neg (by omega), if_neg (by omega)]
    unfold verdN
    rw [if_pos this]
  · rw [verdN_z]; exact .inr (.inl h)
  · have hn : numN r.digits a.number b.number ≠ 3 := by
      rw [Ne, numN_same h4 k4]
      rintro ⟨e1, e2⟩
      rcases g2 with g2 | g2
      · exact e1 g2
      · exact g2 e2
    have g3' : namesN r.letters a.names b.names ≠ 3 := g3
    rw [verdN_z]
    exact .inr (.inr (.inr (.inr ⟨g1, hn, g3'⟩)))
/-- What says that two records are one person's. -/
theorem cmpN_sure {r : Rul} {a b : Rcd} (ha : a.ok = true) (hb : b.ok = true) (h : (cmpN r a b).vd = 2) :
    (a.number.size ≠ 0 ∧ a.number = b.number) ∨ ((cmpN r a b).nm = 3 ∧ a.lo = b.lo ∧ a.hi = b.hi ∧ a.lo = a.hi ∧ a.twin = false ∧ b.twin = false) := by
  obtain ⟨_, h4, _⟩ := ok_parts ha
  obtain ⟨_, k4, _⟩ := ok_parts hb
  have h' : verdN a b (namesN r.letters a.names b.names) (numN r.digits a.number b.number) (birN r.days a.lo a.hi b.lo b.hi) (placesN r.together a.stays b.stays) = 2 := h
  by_cases hn : numN r.digits a.number b.number = 3
  · exact .inl ((numN_same h4 k4).1 hn)
  · right
    show namesN r.letters a.names b.names = 3 ∧ _
    unfold verdN at h'
    split at h'
    · cases h'
    · split at h'
      · cases h'
      · split at h'
        · cases h'
        · split at h'
          · cases h'
          · split at h'
            · cases h'
            · split at h'
              · rename_i q; exact absurd q.1 hn
              · split at h'
                · rename_i q
                  obtain ⟨q1, q2, q3, _⟩ := q
                  have hb3 : a.lo = b.lo ∧ a.hi = b.hi ∧ a.lo = a.hi := by
                    unfold birN at q3
                    split at q3
                    · assumption
                    · split at q3 <;> cases q3
                  have ht : a.twin = false ∧ b.twin = false := by simpa using q1
                  exact ⟨q2, hb3.1, hb3.2.1, hb3.2.2, ht.1, ht.2⟩
                · cases h'
/-- The same record, with no place told. -/
def Rcd.lone (a : Rcd) : Rcd := { a with stays := [] }
theorem Rcd.lone_ok {a : Rcd} (h : a.ok = true) : a.lone.ok = true := by
  unfold Rcd.ok Rcd.lone at *
  simp only [Bool.and_eq_true, decide_eq_true_eq] at *
  obtain ⟨⟨⟨⟨⟨⟨⟨⟨h1, h2⟩, h3⟩, h4⟩, h5⟩, h6⟩, h7⟩, h8⟩, h9⟩ := h
  exact ⟨⟨⟨⟨⟨⟨⟨⟨h1, h2⟩, h3⟩, h4⟩, h5⟩, by simp⟩, by simp⟩, h8⟩, h9⟩
theorem cmpN_lone (r : Rul) (a b : Rcd) : (cmpN r a.lone b).pl = 1 ∧ (cmpN r a.lone b).vd ≤ (cmpN r a b).vd ∧ (cmpN r a.lone b).nm = (cmpN r a b).nm ∧ (cmpN r a.lone b).nu = (cmpN r a b).nu ∧ (cmpN r a.lone b).bi = (cmpN r a b).bi := by
  have hp : placesN r.together [] b.stays = 1 := by
    unfold placesN
    have : placesB r.together [] b.stays = false := by
      cases h : placesB r.together [] b.stays with
      | false => rfl
      | true =>
        obtain ⟨s, _, o, ho, _⟩ := (placesB_iff _ _ _).1 h
        cases ho
    rw [this]; rfl
  refine ⟨hp, ?_, rfl, rfl, rfl⟩
  show verdN a.lone b (namesN r.letters a.names b.names) (numN r.digits a.number b.number) (birN r.days a.lo a.hi b.lo b.hi) (placesN r.together [] b.stays) ≤ verdN a b (namesN r.letters a.names b.names) (numN r.digits a.number b.number) (birN r.days a.lo a.hi b.lo b.hi) (placesN r.together a.stays b.stays)
  rw [hp]
  have hpl := placesN_range r.together a.stays b.stays
  have e1 : a.lone.suffix = a.suffix := rfl
  have e2 : a.lone.twin = a.twin := rfl
  generalize placesN r.together a.stays b.stays = pl at hpl ⊢
  generalize namesN r.letters a.names b.names = nm
  generalize numN r.digits a.number b.number = nu
  generalize birN r.days a.lo a.hi b.lo b.hi = bi
  have e : ∀ p, verdN a.lone b nm nu bi p = verdN a b nm nu bi p := fun p => rfl
  rw [e]
  have hz : verdN a b nm nu bi pl = 0 → verdN a b nm nu bi 1 = 0 := by
    rw [verdN_z, verdN_z]
    rintro (h | h | h | h | h)
    · exact .inl h
    · exact .inr (.inl h)
    · exact .inr (.inr (.inl h))
    · exact .inr (.inr (.inr (.inl ⟨h.1, by omega⟩)))
    · exact .inr (.inr (.inr (.inr h)))
  have ht : verdN a b nm nu bi 1 = 2 → verdN a b nm nu bi pl = 2 := by
    intro h
    obtain ⟨k1, k2⟩ := (verdN_two _ _ _ _ _ _).1 h
    refine (verdN_two _ _ _ _ _ _).2 ⟨fun e => k1 (hz e), ?_⟩
    rcases k2 with k2 | ⟨k2, k3⟩
    · exact .inl k2
    · exact absurd k3.2.2 (by omega)
  have q := verdN_range a b nm nu bi 1
  have q' := verdN_range a b nm nu bi pl
  omega
end Go.Proofs.YtlkjimfkapcenaaGreatDoor
