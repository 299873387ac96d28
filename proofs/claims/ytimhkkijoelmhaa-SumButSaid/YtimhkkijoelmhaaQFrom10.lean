/- The package slices at ints, and from of the package sum: all numbers lie from lo to hi. For every input. -/
import Derived.Deep.LoopGhost
import Derived.Shelf.Abstract
import Derived.Test.YtimhkkijoelmhaaProg
import Derived.Test.YtimhkkijoelmhaaQBase
namespace Go.Proofs.Ytimhkkijoelmhaa
open Go.RowKit

set_option maxHeartbeats 400000 in
theorem indexFunc_int (g : Nat) (lb : Array Value) (eg : ∀ args w, (callFunc g args).run Try.prog w = .ok (.enter g args) w) (p : Int → Bool) (A : Option Addr) (n c : Nat) (zs : List Int) (w : World)
    (hp : PredG Try.prog g lb (Value.int .i64) p zs w) (hr : Rd w 1 A n (zs.map (Value.int .i64))) (hbig : n ≤ 9223372036854775807) :
    Calls Try.prog 97 #[.slice A n c, .func (.func g) #[] lb] w fun e w' => e = .returned (.int .i64 (fidx p zs)) ∧ Gr w w' := by
  have hl := hr.len
  simp only [List.length_map, Nat.mul_one] at hl
  have HL := hid hl
  clear hl
  go_enter Try.func97, Try.ntmps97
  go_wp2
  go_loopg [5, 8] n (fun gg _ s8 wr => ∃ kk : Nat, kk ≤ n ∧ n - kk ≤ gg ∧ s8 = .int .i64 kk ∧ Gr w wr ∧ Hid (∀ j, j < kk → p zs[j]! = false))
  case atStart => exact ⟨0, Nat.zero_le _, by omega, rfl, Gr.refl w, fun j hj => absurd hj (Nat.not_lt_zero _)⟩
  case round =>
    obtain ⟨kk, hkk, hg, rfl, BW, HA⟩ := hrel
    by_cases hlt : kk < n
    · obtain ⟨b, off, rfl, hb, hc⟩ := (hr.gr BW).at_ (by omega)
      have hcell : wr.cell? ⟨b, off + kk, none⟩ = some (.int .i64 zs[kk]!) := hc kk _ (Rd.get (by have := HL.out; omega))
      clear hc
      have hcall := hp wr zs[kk]! (mem_get (by have := HL.out; omega)) BW
      generalize hy : zs[kk]! = y at hcell hcall
      have HY := hid hy
      clear hy
      cases hq : p y with
      | true =>
        rw [hq] at hcall
        have HQ := hid hq
        clear hq
        have HC := hid hcall
        clear hcall
        go_wp2_with (go_at_fn g; refine (HC.out).mono ?_; rintro e w' ⟨rfl, hb'⟩)
        go_ret
        refine ⟨?_, BW.trans hb'⟩
        rw [fidx_hit (k := kk) (by have := HL.out; omega) (by rw [HY.out]; exact HQ.out) HA.out]
        rfl
      | false =>
        rw [hq] at hcall
        have HQ := hid hq
        clear hq
        have HC := hid hcall
        clear hcall
        go_wp2_with (go_at_fn g; refine (HC.out).mono ?_; rintro e w' ⟨rfl, hb'⟩)
        go_roundg (n - (kk + 1))
        case measure => omega
        case rel =>
          refine ⟨kk + 1, by omega, by omega, by go_num, BW.trans hb', hid fun j hj => ?_⟩
          by_cases e : j = kk
          · subst e
            rw [HY.out]; exact HQ.out
          · exact HA.out j (by omega)
    · have hltz : ¬ (kk : Int) < (n : Int) := by omega
      go_wp2
      go_ret
      refine ⟨?_, BW⟩
      rw [fidx_miss (fun j hj => HA.out j (by have := HL.out; omega))]
      rfl

theorem containsFunc_int (g : Nat) (lb : Array Value) (eg : ∀ args w, (callFunc g args).run Try.prog w = .ok (.enter g args) w) (p : Int → Bool) (A : Option Addr) (n c : Nat) (zs : List Int) (w : World)
    (hp : PredG Try.prog g lb (Value.int .i64) p zs w) (hr : Rd w 1 A n (zs.map (Value.int .i64))) (hbig : n ≤ 9223372036854775807) :
    Calls Try.prog 74 #[.slice A n c, .func (.func g) #[] lb] w fun e w' => e = .returned (.bool (zs.any p)) ∧ Gr w w' := by
  rw [← fidx_any]
  have H := hid (indexFunc_int g lb eg p A n c zs w hp hr hbig)
  clear hp hr eg
  go_enter Try.func74, Try.ntmps74
  go_wp2_with (go_at_call 97; refine H.out.mono ?_; rintro e w' ⟨rfl, hb'⟩)
  go_ret
  exact ⟨rfl, hb'⟩

theorem in_1_any (lo hi n : Int) (b c : Nat) (w : World) (h1 : w.cell? ⟨b, 0, none⟩ = some (.int .i64 lo)) (h2 : w.cell? ⟨c, 0, none⟩ = some (.int .i64 hi)) :
    Calls Try.prog 75 #[.int .i64 n, .pointer (some ⟨b, 0, none⟩), .pointer (some ⟨c, 0, none⟩)] w fun e w' => e = .returned (.bool (!inB lo hi n)) ∧ Gr w w' := by
  rw [inB_not]
  go_enter Try.func75, Try.ntmps75
  go_wp2
  all_goals (go_ret; exact ⟨rfl, Gr.refl w⟩)

theorem in_any (lo hi : Int) (A : Option Addr) (n c : Nat) (zs : List Int) (w : World) (hr : Rd w 1 A n (zs.map (Value.int .i64))) (hbig : n ≤ 9223372036854775807) :
    Calls Try.prog 48 #[.int .i64 lo, .int .i64 hi, .slice A n c] w fun e w' => e = .returned (.bool (zs.all (inB lo hi))) ∧ Gr w w' := by
  have hw : Gr w ((w.alloc (.cells #[.int .i64 lo] 3)).alloc (.cells #[.int .i64 hi] 3)) := ((Gr.refl w).alloc _).alloc _
  have H := hid (containsFunc_int 75 #[.pointer (some ⟨w.heap.size, 0, none⟩), .pointer (some ⟨w.heap.size + 1, 0, none⟩)] (enters_of Try.func75 (by kernel_rfl) rfl) (fun n => !inB lo hi n) A n c zs
    ((w.alloc (.cells #[.int .i64 lo] 3)).alloc (.cells #[.int .i64 hi] 3))
    (fun W x _ h => in_1_any lo hi x _ _ W (by rw [h.cell (by simp; omega)]; simp) (by rw [h.cell (by simp)]; simp)) (hr.gr hw) hbig)
  have HW := hid hw
  clear hr hw
  rw [← all_inB]
  go_enter Try.func48, Try.ntmps48
  go_wp2_with (go_at_call 74; refine H.out.mono ?_; rintro e w' ⟨rfl, hb'⟩)
  go_ret
  exact ⟨rfl, HW.out.trans hb'⟩
/-- What is known of a world that grew, as the walk uses it. -/
theorem Gr.rules {W w1 : World} (h : Gr W w1) : (∀ b o, b < W.heap.size → w1.cell? ⟨b, o, none⟩ = W.cell? ⟨b, o, none⟩) ∧ (∀ b o, b < W.heap.size → w1.frozen? ⟨b, o, none⟩ = W.frozen? ⟨b, o, none⟩) ∧ W.heap.size ≤ w1.heap.size :=
  ⟨fun _ _ hb => h.cell hb, fun _ _ hb => h.frozen hb, h.size⟩

theorem Rd.one {w : World} {b o : Nat} {x : Value} (hb : b < w.heap.size) (h : w.cell? ⟨b, o, none⟩ = some x) : Rd w 1 (some ⟨b, o, none⟩) 1 [x] :=
  ⟨rfl, fun _ => ⟨b, o, rfl, hb, fun j u hu => by
    match j, hu with
    | 0, hu => simp at hu; subst hu; exact h⟩⟩
theorem Rd.two {w : World} {b o : Nat} {x y : Value} (hb : b < w.heap.size) (h : w.cell? ⟨b, o, none⟩ = some x) (h1 : w.cell? ⟨b, o + 1, none⟩ = some y) : Rd w 1 (some ⟨b, o, none⟩) 2 [x, y] :=
  ⟨rfl, fun _ => ⟨b, o, rfl, hb, fun j u hu => by
    match j, hu with
    | 0, hu => simp at hu; subst hu; exact h
    | 1, hu => simp at hu; subst hu; exact h1⟩⟩
theorem Rd.three {w : World} {b o : Nat} {x y z : Value} (hb : b < w.heap.size) (h : w.cell? ⟨b, o, none⟩ = some x) (h1 : w.cell? ⟨b, o + 1, none⟩ = some y) (h2 : w.cell? ⟨b, o + 2, none⟩ = some z) : Rd w 1 (some ⟨b, o, none⟩) 3 [x, y, z] :=
  ⟨rfl, fun _ => ⟨b, o, rfl, hb, fun j u hu => by
    match j, hu with
    | 0, hu => simp at hu; subst hu; exact h
    | 1, hu => simp at hu; subst hu; exact h1
    | 2, hu => simp at hu; subst hu; exact h2⟩⟩

theorem in_one (lo hi x : Int) (r : Bool) (hr : inB lo hi x = r) (b c : Nat) (w : World) (hb : b < w.heap.size) (h : w.cell? ⟨b, 0, none⟩ = some (.int .i64 x)) :
    Calls Try.prog 48 #[.int .i64 lo, .int .i64 hi, .slice (some ⟨b, 0, none⟩) 1 c] w fun e w' => e = .returned (.bool r) ∧ Gr w w' := by
  subst hr
  simpa using in_any lo hi (some ⟨b, 0, none⟩) 1 c [x] w (Rd.one hb h) (by omega)
theorem in_1x (lo hi x : Int) (b c : Nat) (w : World) (hb : b < w.heap.size) (h : w.cell? ⟨b, 0, none⟩ = some (.int .i64 x)) :
    Calls Try.prog 48 #[.int .i64 lo, .int .i64 hi, .slice (some ⟨b, 0, none⟩) 1 c] w fun e w' => e = .returned (.bool (inB lo hi x)) ∧ Gr w w' := in_one lo hi x _ rfl b c w hb h
theorem in_two (lo hi x y : Int) (r : Bool) (hr : (inB lo hi x && inB lo hi y) = r) (b c : Nat) (w : World) (hb : b < w.heap.size) (h : w.cell? ⟨b, 0, none⟩ = some (.int .i64 x)) (h1 : w.cell? ⟨b, 1, none⟩ = some (.int .i64 y)) :
    Calls Try.prog 48 #[.int .i64 lo, .int .i64 hi, .slice (some ⟨b, 0, none⟩) 2 c] w fun e w' => e = .returned (.bool r) ∧ Gr w w' := by
  subst hr
  simpa using in_any lo hi (some ⟨b, 0, none⟩) 2 c [x, y] w (Rd.two hb h h1) (by omega)
theorem in_three (lo hi x y z : Int) (r : Bool) (hr : (inB lo hi x && inB lo hi y && inB lo hi z) = r) (b c : Nat) (w : World) (hb : b < w.heap.size) (h : w.cell? ⟨b, 0, none⟩ = some (.int .i64 x)) (h1 : w.cell? ⟨b, 1, none⟩ = some (.int .i64 y)) (h2 : w.cell? ⟨b, 2, none⟩ = some (.int .i64 z)) :
    Calls Try.prog 48 #[.int .i64 lo, .int .i64 hi, .slice (some ⟨b, 0, none⟩) 3 c] w fun e w' => e = .returned (.bool r) ∧ Gr w w' := by
  subst hr
  simpa [Bool.and_assoc] using in_any lo hi (some ⟨b, 0, none⟩) 3 c [x, y, z] w (Rd.three hb h h1 h2) (by omega)
end Go.Proofs.Ytimhkkijoelmhaa
