/- The package slices at ints, and within of the package match: all numbers lie from lo to hi. For every input. ruled of the package match, and Rules of its reference: whether rules are valid. For every input. The package slices at stays, and what is asked of a stay. For every slice of stays. The package slices at strings. For every slice of strings. recorded of the package match: whether a record is valid. For every record. GreatOne of the reference: whether a record is great. For every record. Record of the reference: whether a record is valid. For every record. Check of the package match and of its reference. For all rules and records. -/
import Derived.Deep.LoopGhost
import Derived.Shelf.Abstract
import Derived.Test.YtlkjimfkapcenaaGreatDoorProg
import Derived.Test.YtlkjimfkapcenaaGreatDoorQBase
import Derived.Test.YtlkjimfkapcenaaGreatDoorQMade
namespace Go.Proofs.YtlkjimfkapcenaaGreatDoor
open Go.RowKit

set_option maxHeartbeats 400000 in
theorem indexFunc_int (g : Nat) (lb : Array Value) (eg : ∀ args w, (callFunc g args).run Tryz.prog w = .ok (.enter g args) w) (p : Int → Bool) (A : Option Addr) (n c : Nat) (zs : List Int) (w : World)
    (hp : PredG Tryz.prog g lb (Value.int .i64) p zs w) (hr : Rd w 1 A n (zs.map (Value.int .i64))) (hbig : n ≤ 9223372036854775807) :
    Calls Tryz.prog 41 #[.slice A n c, .func (.func g) #[] lb] w fun e w' => e = .returned (.int .i64 (fidx p zs)) ∧ Gr w w' := by
  have hl := hr.len
  simp only [List.length_map, Nat.mul_one] at hl
  have HL := hid hl
  clear hl
  go_enter Tryz.func41, Tryz.ntmps41
  go_wp2
  go_loopg [5, 8] n (fun gg _ s8 wr => ∃ kk : Nat, kk ≤ n ∧ n - kk ≤ gg ∧ s8 = .int .i64 kk ∧ Gr w wr ∧ Hid (∀ j, j < kk → p zs[j]! = false))
  case atStart => exact ⟨0, Nat.zero_le _, by omega, rfl, Gr.refl w, fun j hj => absurd hj (Nat.not_lt_zero _)⟩
  case round =>
    obtain ⟨kk, hkk, hg, rfl, BW, HA⟩ := hrel
    by_cases hlt : kk < n
    · obtain ⟨b, off, rfl, hb, hc⟩ := (hr.gr BW).at_ (by omega)
      have hcell : wr.cell? ⟨b, off + kk, none⟩ = some (.int .i64 zs[kk]!) := hc kk _ (Rd.get (by have := HL.out; omega))
      clear hc
      have hcall := hp wr zs[kk]! (mem_get (by have := HL.out; omega)) BW
      generalize hy : zs[kk]! = y at hcell hcall
      have HY := hid hy
      clear hy
      cases hq : p y with
      | true =>
        rw [hq] at hcall
        have HQ := hid hq
        clear hq
        have HC := hid hcall
        clear hcall
        go_wp2_with (go_at_fn g; refine (HC.out).mono ?_; rintro e w' ⟨rfl, hb'⟩)
        go_ret
        refine ⟨?_, BW.trans hb'⟩
        rw [fidx_hit (k := kk) (by have := HL.out; omega) (by rw [HY.out]; exact HQ.out) HA.out]
        rfl
      | false =>
        rw [hq] at hcall
        have HQ := hid hq
        clear hq
        have HC := hid hcall
        clear hcall
        go_wp2_with (go_at_fn g; refine (HC.out).mono ?_; rintro e w' ⟨rfl, hb'⟩)
        go_roundg (n - (kk + 1))
        case measure => omega
        case rel =>
          refine ⟨kk + 1, by omega, by omega, by go_num, BW.trans hb', hid fun j hj => ?_⟩
          by_cases e : j = kk
          · subst e
            rw [HY.out]; exact HQ.out
          · exact HA.out j (by omega)
    · have hltz : ¬ (kk : Int) < (n : Int) := by omega
      go_wp2
      go_ret
      refine ⟨?_, BW⟩
      rw [fidx_miss (fun j hj => HA.out j (by have := HL.out; omega))]
      rfl

theorem containsFunc_int (g : Nat) (lb : Array Value) (eg : ∀ args w, (callFunc g args).run Tryz.prog w = .ok (.enter g args) w) (p : Int → Bool) (A : Option Addr) (n c : Nat) (zs : List Int) (w : World)
    (hp : PredG Tryz.prog g lb (Value.int .i64) p zs w) (hr : Rd w 1 A n (zs.map (Value.int .i64))) (hbig : n ≤ 9223372036854775807) :
    Calls Tryz.prog 26 #[.slice A n c, .func (.func g) #[] lb] w fun e w' => e = .returned (.bool (zs.any p)) ∧ Gr w w' := by
  rw [← fidx_any]
  have H := hid (indexFunc_int g lb eg p A n c zs w hp hr hbig)
  clear hp hr eg
  go_enter Tryz.func26, Tryz.ntmps26
  go_wp2_with (go_at_call 41; refine H.out.mono ?_; rintro e w' ⟨rfl, hb'⟩)
  go_ret
  exact ⟨rfl, hb'⟩

/-- n lies from lo to hi. -/
def inB (lo hi n : Int) : Bool := decide (lo ≤ n ∧ n ≤ hi)
theorem inB_not (lo hi n : Int) : (!inB lo hi n) = (decide (n < lo) || decide (hi < n)) := by unfold inB; rw [Bool.eq_iff_iff]; simp

theorem within1_any (lo hi n : Int) (b c : Nat) (w : World) (h1 : w.cell? ⟨b, 0, none⟩ = some (.int .i64 lo)) (h2 : w.cell? ⟨c, 0, none⟩ = some (.int .i64 hi)) :
    Calls Tryz.prog 27 #[.int .i64 n, .pointer (some ⟨b, 0, none⟩), .pointer (some ⟨c, 0, none⟩)] w fun e w' => e = .returned (.bool (!inB lo hi n)) ∧ Gr w w' := by
  rw [inB_not]
  go_enter Tryz.func27, Tryz.ntmps27
  go_wp2
  all_goals (go_ret; exact ⟨rfl, Gr.refl w⟩)

theorem all_inB (lo hi : Int) (zs : List Int) : (!zs.any fun n => !inB lo hi n) = zs.all (inB lo hi) := by
  simp [List.any_eq_not_all_not]

theorem within_any (lo hi : Int) (A : Option Addr) (n c : Nat) (zs : List Int) (w : World) (hr : Rd w 1 A n (zs.map (Value.int .i64))) (hbig : n ≤ 9223372036854775807) :
    Calls Tryz.prog 16 #[.int .i64 lo, .int .i64 hi, .slice A n c] w fun e w' => e = .returned (.bool (zs.all (inB lo hi))) ∧ Gr w w' := by
  have hw : Gr w ((w.alloc (.cells #[.int .i64 lo] 3)).alloc (.cells #[.int .i64 hi] 3)) := ((Gr.refl w).alloc _).alloc _
  have H := hid (containsFunc_int 27 #[.pointer (some ⟨w.heap.size, 0, none⟩), .pointer (some ⟨w.heap.size + 1, 0, none⟩)] (enters_of Tryz.func27 (by kernel_rfl) rfl) (fun n => !inB lo hi n) A n c zs
    ((w.alloc (.cells #[.int .i64 lo] 3)).alloc (.cells #[.int .i64 hi] 3))
    (fun W x _ h => within1_any lo hi x _ _ W (by rw [h.cell (by simp; omega)]; simp) (by rw [h.cell (by simp)]; simp)) (hr.gr hw) hbig)
  have HW := hid hw
  clear hr hw
  rw [← all_inB]
  go_enter Tryz.func16, Tryz.ntmps16
  go_wp2_with (go_at_call 26; refine H.out.mono ?_; rintro e w' ⟨rfl, hb'⟩)
  go_ret
  exact ⟨rfl, HW.out.trans hb'⟩
/-- What is known of a world that grew, as the walk uses it. -/
theorem Gr.rules {W w1 : World} (h : Gr W w1) : (∀ b o, b < W.heap.size → w1.cell? ⟨b, o, none⟩ = W.cell? ⟨b, o, none⟩) ∧ (∀ b o, b < W.heap.size → w1.frozen? ⟨b, o, none⟩ = W.frozen? ⟨b, o, none⟩) ∧ W.heap.size ≤ w1.heap.size :=
  ⟨fun _ _ hb => h.cell hb, fun _ _ hb => h.frozen hb, h.size⟩

theorem Rd.one {w : World} {b o : Nat} {x : Value} (hb : b < w.heap.size) (h : w.cell? ⟨b, o, none⟩ = some x) : Rd w 1 (some ⟨b, o, none⟩) 1 [x] :=
  ⟨rfl, fun _ => ⟨b, o, rfl, hb, fun j u hu => by
    match j, hu with
    | 0, hu => simp at hu; subst hu; exact h⟩⟩
theorem Rd.two {w : World} {b o : Nat} {x y : Value} (hb : b < w.heap.size) (h : w.cell? ⟨b, o, none⟩ = some x) (h1 : w.cell? ⟨b, o + 1, none⟩ = some y) : Rd w 1 (some ⟨b, o, none⟩) 2 [x, y] :=
  ⟨rfl, fun _ => ⟨b, o, rfl, hb, fun j u hu => by
    match j, hu with
    | 0, hu => simp at hu; subst hu; exact h
    | 1, hu => simp at hu; subst hu; exact h1⟩⟩
theorem Rd.three {w : World} {b o : Nat} {x y z : Value} (hb : b < w.heap.size) (h : w.cell? ⟨b, o, none⟩ = some x) (h1 : w.cell? ⟨b, o + 1, none⟩ = some y) (h2 : w.cell? ⟨b, o + 2, none⟩ = some z) : Rd w 1 (some ⟨b, o, none⟩) 3 [x, y, z] :=
  ⟨rfl, fun _ => ⟨b, o, rfl, hb, fun j u hu => by
    match j, hu with
    | 0, hu => simp at hu; subst hu; exact h
    | 1, hu => simp at hu; subst hu; exact h1
    | 2, hu => simp at hu; subst hu; exact h2⟩⟩

theorem within_one (lo hi x : Int) (r : Bool) (hr : inB lo hi x = r) (b c : Nat) (w : World) (hb : b < w.heap.size) (h : w.cell? ⟨b, 0, none⟩ = some (.int .i64 x)) :
    Calls Tryz.prog 16 #[.int .i64 lo, .int .i64 hi, .slice (some ⟨b, 0, none⟩) 1 c] w fun e w' => e = .returned (.bool r) ∧ Gr w w' := by
  subst hr
  simpa using within_any lo hi (some ⟨b, 0, none⟩) 1 c [x] w (Rd.one hb h) (by omega)
theorem within_two (lo hi x y : Int) (r : Bool) (hr : (inB lo hi x && inB lo hi y) = r) (b c : Nat) (w : World) (hb : b < w.heap.size) (h : w.cell? ⟨b, 0, none⟩ = some (.int .i64 x)) (h1 : w.cell? ⟨b, 1, none⟩ = some (.int .i64 y)) :
    Calls Tryz.prog 16 #[.int .i64 lo, .int .i64 hi, .slice (some ⟨b, 0, none⟩) 2 c] w fun e w' => e = .returned (.bool r) ∧ Gr w w' := by
  subst hr
  simpa using within_any lo hi (some ⟨b, 0, none⟩) 2 c [x, y] w (Rd.two hb h h1) (by omega)
end Go.Proofs.YtlkjimfkapcenaaGreatDoor
namespace Go.Proofs.YtlkjimfkapcenaaGreatDoor
open Go.RowKit

/-- Rules. -/
structure Rul where
  letters : Int
  digits : Int
  days : Int
  together : Int
def Rul.val (r : Rul) : Value := .agg #[.int .i64 r.letters, .int .i64 r.digits, .int .i64 r.days, .int .i64 r.together]
/-- Whether rules are valid. -/
def Rul.ok (r : Rul) : Bool := (inB 0 5 r.letters && inB 0 5 r.digits) && inB 0 1000 r.days && inB 1 1000 r.together

set_option maxHeartbeats 400000 in
theorem ruled_any (r : Rul) (w : World) :
    Calls Tryz.prog 20 #[r.val] w fun e w' => e = .returned (.bool r.ok) ∧ Gr w w' := by
  obtain ⟨l, d, y, t⟩ := r
  unfold Rul.val Rul.ok
  obtain ⟨b1, h1⟩ : ∃ b, (inB 0 5 l && inB 0 5 d) = b := ⟨_, rfl⟩
  obtain ⟨b2, h2⟩ : ∃ b, inB 0 1000 y = b := ⟨_, rfl⟩
  obtain ⟨b3, h3⟩ : ∃ b, inB 1 1000 t = b := ⟨_, rfl⟩
  dsimp only
  rw [h1, h2, h3]
  have H1 := hid h1
  have H2 := hid h2
  have H3 := hid h3
  clear h1 h2 h3
  go_enter Tryz.func20, Tryz.ntmps20
  go_wp2_with (first
    | (go_at_call 16; (with_reducible refine (within_two 0 5 l d b1 H1.out _ _ _ ?_ ?_ ?_).mono ?_); rotate_right; rintro e w1 ⟨rfl, hbw1⟩; obtain ⟨hcw1, hfw1, hzw1⟩ := hbw1.rules; (try simp at hzw1); have hzw1_0 : w.heap.size < w1.heap.size := (by omega); have hyw1_0 : w.heap.size ≤ w1.heap.size := (by omega))
    | (go_at_call 16; (with_reducible refine (within_one 0 1000 y b2 H2.out _ _ _ ?_ ?_).mono ?_); rotate_right; rintro e w2 ⟨rfl, hbw2⟩; obtain ⟨hcw2, hfw2, hzw2⟩ := hbw2.rules; (try simp at hzw2); have hzw2_0 : w.heap.size < w2.heap.size := (by omega); have hyw2_0 : w.heap.size ≤ w2.heap.size := (by omega))
    | (go_at_call 16; (with_reducible refine (within_one 1 1000 t b3 H3.out _ _ _ ?_ ?_).mono ?_); rotate_right; rintro e w3 ⟨rfl, hbw3⟩; obtain ⟨hcw3, hfw3, hzw3⟩ := hbw3.rules; (try simp at hzw3); have hzw3_0 : w.heap.size < w3.heap.size := (by omega); have hyw3_0 : w.heap.size ≤ w3.heap.size := (by omega)))
  all_goals first
    | (simp; done)
    | (go_ret
       refine ⟨by simp_all, ?_⟩
       (repeat (first | with_reducible exact Gr.refl _ | with_reducible refine Gr.trans ?_ hbw3 | with_reducible refine Gr.trans ?_ hbw2 | with_reducible refine Gr.trans ?_ hbw1 | with_reducible refine Gr.alloc ?_ _ | with_reducible refine Gr.setCell ?_ (by simp) _ | with_reducible refine Gr.setCell ?_ (by simp; omega) _ | with_reducible refine Gr.drew ?_ | with_reducible refine Gr.drewN ?_ _)))

end Go.Proofs.YtlkjimfkapcenaaGreatDoor
namespace Go.Proofs.YtlkjimfkapcenaaGreatDoor
open Go.RowKit

/-- A stay. -/
structure Sty where
  place : Int
  from_ : Int
  to_ : Int
  deriving Inhabited
def Sty.cells (s : Sty) : List Value := [.int .i64 s.place, .int .i64 s.from_, .int .i64 s.to_]
def Sty.val (s : Sty) : Value := .agg #[.int .i64 s.place, .int .i64 s.from_, .int .i64 s.to_]
theorem Sty.len (s : Sty) : s.cells.length = 3 := rfl
/-- A stay of the list, cell by cell. -/
theorem Rd.sty {w : World} {A : Option Addr} {n : Nat} {zs : List Sty} (h : Rd w 3 A n (zs.flatMap Sty.cells)) {k : Nat} (hk : k < n) :
    k < zs.length ∧ ∃ b off, A = some ⟨b, off, none⟩ ∧ b < w.heap.size ∧ w.cell? ⟨b, off + k * 3, none⟩ = some (.int .i64 zs[k]!.place) ∧ w.cell? ⟨b, off + k * 3 + 1, none⟩ = some (.int .i64 zs[k]!.from_) ∧ w.cell? ⟨b, off + k * 3 + 2, none⟩ = some (.int .i64 zs[k]!.to_) := by
  have hl := h.len
  rw [flatMap_len Sty.len] at hl
  have hk' : k < zs.length := by omega
  obtain ⟨b, off, e, hb, hc⟩ := h.at_ (by omega)
  exact ⟨hk', b, off, e, hb, hc (k * 3) _ (by simpa [Sty.cells] using flatMap_get (i := 0) Sty.len hk' (by omega)), hc (k * 3 + 1) _ (by simpa [Sty.cells] using flatMap_get (i := 1) Sty.len hk' (by omega)), hc (k * 3 + 2) _ (by simpa [Sty.cells] using flatMap_get (i := 2) Sty.len hk' (by omega))⟩

set_option maxHeartbeats 400000 in
theorem indexFunc_sty (g : Nat) (lb : Array Value) (eg : ∀ args w, (callFunc g args).run Tryz.prog w = .ok (.enter g args) w) (p : Sty → Bool) (A : Option Addr) (n c : Nat) (zs : List Sty) (w : World)
    (hp : PredG Tryz.prog g lb Sty.val p zs w) (hr : Rd w 3 A n (zs.flatMap Sty.cells)) (hbig : n ≤ 9223372036854775807) :
    Calls Tryz.prog 69 #[.slice A n c, .func (.func g) #[] lb] w fun e w' => e = .returned (.int .i64 (fidx p zs)) ∧ Gr w w' := by
  have hl := hr.len
  rw [flatMap_len Sty.len] at hl
  have HL := hid hl
  clear hl
  go_enter Tryz.func69, Tryz.ntmps69
  go_wp2
  go_loopg [5, 8] n (fun gg _ s8 wr => ∃ kk : Nat, kk ≤ n ∧ n - kk ≤ gg ∧ s8 = .int .i64 kk ∧ Gr w wr ∧ Hid (∀ j, j < kk → p zs[j]! = false))
  case atStart => exact ⟨0, Nat.zero_le _, by omega, rfl, Gr.refl w, fun j hj => absurd hj (Nat.not_lt_zero _)⟩
  case round =>
    obtain ⟨kk, hkk, hg, rfl, BW, HA⟩ := hrel
    by_cases hlt : kk < n
    · obtain ⟨hk', b, off, rfl, hb, hcell, hcell1, hcell2⟩ := (hr.gr BW).sty hlt
      have hcall := hp wr zs[kk]! (mem_get (by have := HL.out; omega)) BW
      unfold Sty.val at hcall
      generalize hy : zs[kk]! = y at hcell hcell1 hcell2 hcall
      have HY := hid hy
      clear hy
      cases hq : p y with
      | true =>
        rw [hq] at hcall
        have HQ := hid hq
        clear hq
        have HC := hid hcall
        clear hcall
        go_wp2_with (go_at_fn g; refine (HC.out).mono ?_; rintro e w' ⟨rfl, hb'⟩)
        go_ret
        refine ⟨?_, BW.trans hb'⟩
        rw [fidx_hit (k := kk) (by have := HL.out; omega) (by rw [HY.out]; exact HQ.out) HA.out]
        rfl
      | false =>
        rw [hq] at hcall
        have HQ := hid hq
        clear hq
        have HC := hid hcall
        clear hcall
        go_wp2_with (go_at_fn g; refine (HC.out).mono ?_; rintro e w' ⟨rfl, hb'⟩)
        go_roundg (n - (kk + 1))
        case measure => omega
        case rel =>
          refine ⟨kk + 1, by omega, by omega, by go_num, BW.trans hb', hid fun j hj => ?_⟩
          by_cases e : j = kk
          · subst e
            rw [HY.out]; exact HQ.out
          · exact HA.out j (by omega)
    · have hltz : ¬ (kk : Int) < (n : Int) := by omega
      go_wp2
      go_ret
      refine ⟨?_, BW⟩
      rw [fidx_miss (fun j hj => HA.out j (by have := HL.out; omega))]
      rfl

theorem containsFunc_sty (g : Nat) (lb : Array Value) (eg : ∀ args w, (callFunc g args).run Tryz.prog w = .ok (.enter g args) w) (p : Sty → Bool) (A : Option Addr) (n c : Nat) (zs : List Sty) (w : World)
    (hp : PredG Tryz.prog g lb Sty.val p zs w) (hr : Rd w 3 A n (zs.flatMap Sty.cells)) (hbig : n ≤ 9223372036854775807) :
    Calls Tryz.prog 46 #[.slice A n c, .func (.func g) #[] lb] w fun e w' => e = .returned (.bool (zs.any p)) ∧ Gr w w' := by
  rw [← fidx_any]
  have H := hid (indexFunc_sty g lb eg p A n c zs w hp hr hbig)
  clear hp hr eg
  go_enter Tryz.func46, Tryz.ntmps46
  go_wp2_with (go_at_call 69; refine H.out.mono ?_; rintro e w' ⟨rfl, hb'⟩)
  go_ret
  exact ⟨rfl, hb'⟩

/-- Whether a stay is valid. -/
def Sty.ok (s : Sty) : Bool := inB 0 99999 s.place && (inB 0 100000 s.from_ && inB 0 100000 s.to_) && decide (s.from_ ≤ s.to_)

set_option maxHeartbeats 400000 in
theorem recorded2_any (s : Sty) (w : World) :
    Calls Tryz.prog 44 #[s.val] w fun e w' => e = .returned (.bool (!s.ok)) ∧ Gr w w' := by
  obtain ⟨p, f, t⟩ := s
  unfold Sty.val Sty.ok
  obtain ⟨b1, h1⟩ : ∃ b, inB 0 99999 p = b := ⟨_, rfl⟩
  obtain ⟨b2, h2⟩ : ∃ b, (inB 0 100000 f && inB 0 100000 t) = b := ⟨_, rfl⟩
  dsimp only
  rw [h1, h2]
  have H1 := hid h1
  have H2 := hid h2
  clear h1 h2
  go_enter Tryz.func44, Tryz.ntmps44
  go_wp2_with (first
    | (go_at_call 16; (with_reducible refine (within_one 0 99999 p b1 H1.out _ _ _ ?_ ?_).mono ?_); rotate_right; rintro e w1 ⟨rfl, hbw1⟩; obtain ⟨hcw1, hfw1, hzw1⟩ := hbw1.rules; (try simp at hzw1); have hzw1_0 : w.heap.size < w1.heap.size := (by omega); have hyw1_0 : w.heap.size ≤ w1.heap.size := (by omega))
    | (go_at_call 16; (with_reducible refine (within_two 0 100000 f t b2 H2.out _ _ _ ?_ ?_ ?_).mono ?_); rotate_right; rintro e w2 ⟨rfl, hbw2⟩; obtain ⟨hcw2, hfw2, hzw2⟩ := hbw2.rules; (try simp at hzw2); have hzw2_0 : w.heap.size < w2.heap.size := (by omega); have hyw2_0 : w.heap.size ≤ w2.heap.size := (by omega)))
  all_goals first
    | (simp; done)
    | (go_ret
       refine ⟨by first | (simp_all; done) | (simp_all; rw [Bool.eq_iff_iff]; simp), ?_⟩
       (repeat (first | with_reducible exact Gr.refl _ | with_reducible refine Gr.trans ?_ hbw2 | with_reducible refine Gr.trans ?_ hbw1 | with_reducible refine Gr.alloc ?_ _ | with_reducible refine Gr.setCell ?_ (by simp) _ | with_reducible refine Gr.setCell ?_ (by simp; omega) _ | with_reducible refine Gr.drew ?_ | with_reducible refine Gr.drewN ?_ _)))
end Go.Proofs.YtlkjimfkapcenaaGreatDoor
namespace Go.Proofs.YtlkjimfkapcenaaGreatDoor
open Go.RowKit

set_option maxHeartbeats 400000 in
theorem indexFunc_str (g : Nat) (lb : Array Value) (eg : ∀ args w, (callFunc g args).run Tryz.prog w = .ok (.enter g args) w) (p : ByteArray → Bool) (A : Option Addr) (n c : Nat) (zs : List ByteArray) (w : World)
    (hp : PredG Tryz.prog g lb Value.string p zs w) (hr : Rd w 1 A n (zs.map Value.string)) (hbig : n ≤ 9223372036854775807) :
    Calls Tryz.prog 68 #[.slice A n c, .func (.func g) #[] lb] w fun e w' => e = .returned (.int .i64 (fidx p zs)) ∧ Gr w w' := by
  have hl := hr.len
  simp only [List.length_map, Nat.mul_one] at hl
  have HL := hid hl
  clear hl
  go_enter Tryz.func68, Tryz.ntmps68
  go_wp2
  go_loopg [5, 8] n (fun gg _ s8 wr => ∃ kk : Nat, kk ≤ n ∧ n - kk ≤ gg ∧ s8 = .int .i64 kk ∧ Gr w wr ∧ Hid (∀ j, j < kk → p zs[j]! = false))
  case atStart => exact ⟨0, Nat.zero_le _, by omega, rfl, Gr.refl w, fun j hj => absurd hj (Nat.not_lt_zero _)⟩
  case round =>
    obtain ⟨kk, hkk, hg, rfl, BW, HA⟩ := hrel
    by_cases hlt : kk < n
    · obtain ⟨b, off, rfl, hb, hc⟩ := (hr.gr BW).at_ (by omega)
      have hcell : wr.cell? ⟨b, off + kk, none⟩ = some (.string zs[kk]!) := hc kk _ (Rd.get (by have := HL.out; omega))
      clear hc
      have hcall := hp wr zs[kk]! (mem_get (by have := HL.out; omega)) BW
      generalize hy : zs[kk]! = y at hcell hcall
      have HY := hid hy
      clear hy
      cases hq : p y with
      | true =>
        rw [hq] at hcall
        have HQ := hid hq
        clear hq
        have HC := hid hcall
        clear hcall
        go_wp2_with (go_at_fn g; refine (HC.out).mono ?_; rintro e w' ⟨rfl, hb'⟩)
        go_ret
        refine ⟨?_, BW.trans hb'⟩
        rw [fidx_hit (k := kk) (by have := HL.out; omega) (by rw [HY.out]; exact HQ.out) HA.out]
        rfl
      | false =>
        rw [hq] at hcall
        have HQ := hid hq
        clear hq
        have HC := hid hcall
        clear hcall
        go_wp2_with (go_at_fn g; refine (HC.out).mono ?_; rintro e w' ⟨rfl, hb'⟩)
        go_roundg (n - (kk + 1))
        case measure => omega
        case rel =>
          refine ⟨kk + 1, by omega, by omega, by go_num, BW.trans hb', hid fun j hj => ?_⟩
          by_cases e : j = kk
          · subst e
            rw [HY.out]; exact HQ.out
          · exact HA.out j (by omega)
    · have hltz : ¬ (kk : Int) < (n : Int) := by omega
      go_wp2
      go_ret
      refine ⟨?_, BW⟩
      rw [fidx_miss (fun j hj => HA.out j (by have := HL.out; omega))]
      rfl

theorem containsFunc_str (g : Nat) (lb : Array Value) (eg : ∀ args w, (callFunc g args).run Tryz.prog w = .ok (.enter g args) w) (p : ByteArray → Bool) (A : Option Addr) (n c : Nat) (zs : List ByteArray) (w : World)
    (hp : PredG Tryz.prog g lb Value.string p zs w) (hr : Rd w 1 A n (zs.map Value.string)) (hbig : n ≤ 9223372036854775807) :
    Calls Tryz.prog 45 #[.slice A n c, .func (.func g) #[] lb] w fun e w' => e = .returned (.bool (zs.any p)) ∧ Gr w w' := by
  rw [← fidx_any]
  have H := hid (indexFunc_str g lb eg p A n c zs w hp hr hbig)
  clear hp hr eg
  go_enter Tryz.func45, Tryz.ntmps45
  go_wp2_with (go_at_call 68; refine H.out.mono ?_; rintro e w' ⟨rfl, hb'⟩)
  go_ret
  exact ⟨rfl, hb'⟩

end Go.Proofs.YtlkjimfkapcenaaGreatDoor
namespace Go.Proofs.YtlkjimfkapcenaaGreatDoor
open Go.RowKit

/-- A record, apart from where its slices lie. -/
structure Rcd where
  id : Int
  names : List ByteArray
  suffix : Int
  lo : Int
  hi : Int
  number : ByteArray
  twin : Bool
  stays : List Sty
/-- The value of a record whose slices lie there. -/
def Rcd.val (r : Rcd) (A : Option Addr) (n c : Nat) (B : Option Addr) (m d : Nat) : Value :=
  .agg #[.int .i64 r.id, .slice A n c, .int .u8 r.suffix, .int .i64 r.lo, .int .i64 r.hi, .string r.number, .bool r.twin, .slice B m d]
/-- The slices hold the names and the stays, and nothing is longer than Go lets it. -/
structure Rcd.In (r : Rcd) (w : World) (A : Option Addr) (n : Nat) (B : Option Addr) (m : Nat) : Prop where
  names : Rd w 1 A n (r.names.map Value.string)
  stays : Rd w 3 B m (r.stays.flatMap Sty.cells)
  nbig : n ≤ 9223372036854775807
  mbig : m ≤ 9223372036854775807
  words : ∀ s ∈ r.names, s.size ≤ maxLen
  number : r.number.size ≤ maxLen
theorem Rcd.In.gr {r : Rcd} {w w' : World} {A : Option Addr} {n : Nat} {B : Option Addr} {m : Nat} (h : r.In w A n B m) (g : Gr w w') : r.In w' A n B m :=
  ⟨h.names.gr g, h.stays.gr g, h.nbig, h.mbig, h.words, h.number⟩
theorem Rcd.In.nlen {r : Rcd} {w : World} {A : Option Addr} {n : Nat} {B : Option Addr} {m : Nat} (h : r.In w A n B m) : r.names.length = n := by
  simpa using h.names.len
theorem Rcd.In.mlen {r : Rcd} {w : World} {A : Option Addr} {n : Nat} {B : Option Addr} {m : Nat} (h : r.In w A n B m) : r.stays.length = m := by
  have := h.stays.len
  rw [flatMap_len Sty.len] at this
  omega

/-- A word. -/
def wordB (s : ByteArray) : Bool := inB 1 20 s.size && madeB s 65 90
/-- Whether a record is valid. -/
def Rcd.ok (r : Rcd) : Bool :=
  inB 0 999999 r.id && inB 1 5 r.names.length && r.names.all wordB && decide (r.suffix ≤ 2) && ((inB 0 100000 r.lo && inB 0 100000 r.hi) && decide (r.lo ≤ r.hi)) && decide (r.stays.length ≤ 6) && r.stays.all Sty.ok &&
    (decide (r.number.size = 0) || decide (r.number.size = 9)) && madeB r.number 48 57

theorem recorded1_any (s : ByteArray) (w : World) (hs : s.size ≤ maxLen) :
    Calls Tryz.prog 42 #[.string s] w fun e w' => e = .returned (.bool (!wordB s)) ∧ Gr w w' := by
  unfold wordB
  obtain ⟨b1, h1⟩ : ∃ b, inB 1 20 s.size = b := ⟨_, rfl⟩
  obtain ⟨b2, h2⟩ : ∃ b, madeB s 65 90 = b := ⟨_, rfl⟩
  have HM := hid (fun W => made_any s 65 90 W hs)
  rw [h1, h2]
  rw [h2] at HM
  have H1 := hid h1
  clear h1 h2 hs
  go_enter Tryz.func42, Tryz.ntmps42
  go_wp2_with (first
    | (go_at_call 16; (with_reducible refine (within_one 1 20 s.size b1 H1.out _ _ _ ?_ ?_).mono ?_); rotate_right; rintro e w1 ⟨rfl, hbw1⟩; obtain ⟨hcw1, hfw1, hzw1⟩ := hbw1.rules; (try simp at hzw1); have hzw1_0 : w.heap.size < w1.heap.size := (by omega); have hyw1_0 : w.heap.size ≤ w1.heap.size := (by omega))
    | (go_at_call 43; (with_reducible refine (HM.out _).mono ?_); rotate_right; rintro e w' ⟨rfl, rfl⟩))
  all_goals first
    | (simp; done)
    | (go_ret
       refine ⟨by (simp_all; done), ?_⟩
       (repeat (first | with_reducible exact Gr.refl _ | with_reducible refine Gr.trans ?_ hbw1 | with_reducible refine Gr.alloc ?_ _ | with_reducible refine Gr.setCell ?_ (by simp) _ | with_reducible refine Gr.setCell ?_ (by simp; omega) _ | with_reducible refine Gr.drew ?_ | with_reducible refine Gr.drewN ?_ _)))

set_option maxHeartbeats 4000000 in
theorem recorded_any (r : Rcd) (A : Option Addr) (n c : Nat) (B : Option Addr) (m d : Nat) (w : World) (hr : r.In w A n B m) :
    Calls Tryz.prog 29 #[r.val A n c B m d] w fun e w' => e = .returned (.bool r.ok) ∧ Gr w w' := by
  have hn := hr.nlen
  have hm := hr.mlen
  have hnb := hr.nbig
  have hmb := hr.mbig
  obtain ⟨id, names, suf, lo, hi, num, tw, stays⟩ := r
  unfold Rcd.val Rcd.ok
  dsimp only at hn hm ⊢
  rw [hn, hm]
  obtain ⟨b1, h1⟩ : ∃ b, inB 0 999999 id = b := ⟨_, rfl⟩
  obtain ⟨b2, h2⟩ : ∃ b, inB 1 5 n = b := ⟨_, rfl⟩
  obtain ⟨b3, h3⟩ : ∃ b, names.all wordB = b := ⟨_, rfl⟩
  obtain ⟨b4, h4⟩ : ∃ b, (inB 0 100000 lo && inB 0 100000 hi) = b := ⟨_, rfl⟩
  obtain ⟨b5, h5⟩ : ∃ b, stays.all Sty.ok = b := ⟨_, rfl⟩
  obtain ⟨b6, h6⟩ : ∃ b, madeB num 48 57 = b := ⟨_, rfl⟩
  rw [h1, h2, h3, h4, h5, h6]
  have H1 := hid h1
  have H2 := hid h2
  have H4 := hid h4
  have HN : Hid (∀ W, Gr w W → Calls Tryz.prog 45 #[.slice A n c, .func (.func 42) #[] #[]] W fun e w' => e = .returned (.bool (!b3)) ∧ Gr W w') := by
    intro W hW
    rw [← h3, show (!names.all wordB) = names.any (fun s => !wordB s) by simp [List.any_eq_not_all_not]]
    exact containsFunc_str 42 #[] (enters_of Tryz.func42 (by kernel_rfl) rfl) _ A n c names W (fun W' x hx _ => recorded1_any x W' (hr.words x hx)) (hr.names.gr hW) (by omega)
  have HS : Hid (∀ W, Gr w W → Calls Tryz.prog 46 #[.slice B m d, .func (.func 44) #[] #[]] W fun e w' => e = .returned (.bool (!b5)) ∧ Gr W w') := by
    intro W hW
    rw [← h5, show (!stays.all Sty.ok) = stays.any (fun s => !s.ok) by simp [List.any_eq_not_all_not]]
    exact containsFunc_sty 44 #[] (enters_of Tryz.func44 (by kernel_rfl) rfl) _ B m d stays W (fun W' x _ _ => recorded2_any x W') (hr.stays.gr hW) (by omega)
  have HM : Hid (∀ W, Calls Tryz.prog 43 #[.string num, .int .u8 48, .int .u8 57] W fun e w' => e = .returned (.bool b6) ∧ W = w') := fun W => h6 ▸ made_any num 48 57 W hr.number
  have HS0 := hid (toList_nil num)
  clear h1 h2 h3 h4 h5 h6 hr hn hm hnb
  have hmb' : (m : Int) ≤ 9223372036854775807 := by omega
  clear hmb
  cases b1 with
  | false =>
    go_enter Tryz.func29, Tryz.ntmps29
    go_wp2_with (first
      | (go_at_call 16; (with_reducible refine (within_one 0 999999 id _ H1.out _ _ _ ?_ ?_).mono ?_); rotate_right; rintro e w1 ⟨rfl, hbw1⟩; obtain ⟨hcw1, hfw1, hzw1⟩ := hbw1.rules; (try simp at hzw1); have hzw1_0 : w.heap.size < w1.heap.size := (by omega); have hyw1_0 : w.heap.size ≤ w1.heap.size := (by omega))
      | (go_at_call 16; (with_reducible refine (within_one 1 5 n _ H2.out _ _ _ ?_ ?_).mono ?_); rotate_right; rintro e w2 ⟨rfl, hbw2⟩; obtain ⟨hcw2, hfw2, hzw2⟩ := hbw2.rules; (try simp at hzw2); have hzw2_0 : w.heap.size < w2.heap.size := (by omega); have hyw2_0 : w.heap.size ≤ w2.heap.size := (by omega))
      | (go_at_call 45; (with_reducible refine (HN.out _ ?_).mono ?_); rotate_right; rintro e w3 ⟨rfl, hbw3⟩; obtain ⟨hcw3, hfw3, hzw3⟩ := hbw3.rules; (try simp at hzw3); have hzw3_0 : w.heap.size < w3.heap.size := (by omega); have hyw3_0 : w.heap.size ≤ w3.heap.size := (by omega))
      | (go_at_call 16; (with_reducible refine (within_two 0 100000 lo hi _ H4.out _ _ _ ?_ ?_ ?_).mono ?_); rotate_right; rintro e w4 ⟨rfl, hbw4⟩; obtain ⟨hcw4, hfw4, hzw4⟩ := hbw4.rules; (try simp at hzw4); have hzw4_0 : w.heap.size < w4.heap.size := (by omega); have hyw4_0 : w.heap.size ≤ w4.heap.size := (by omega))
      | (go_at_call 46; (with_reducible refine (HS.out _ ?_).mono ?_); rotate_right; rintro e w5 ⟨rfl, hbw5⟩; obtain ⟨hcw5, hfw5, hzw5⟩ := hbw5.rules; (try simp at hzw5); have hzw5_0 : w.heap.size < w5.heap.size := (by omega); have hyw5_0 : w.heap.size ≤ w5.heap.size := (by omega))
      | (go_at_call 43; (with_reducible refine (HM.out _).mono ?_); rotate_right; rintro e w' ⟨rfl, rfl⟩))
    all_goals first
      | (simp; done)
      | (go_ret
         refine ⟨by simp, ?_⟩
         (repeat (first | with_reducible exact Gr.refl _ | with_reducible refine Gr.trans ?_ hbw5 | with_reducible refine Gr.trans ?_ hbw4 | with_reducible refine Gr.trans ?_ hbw3 | with_reducible refine Gr.trans ?_ hbw2 | with_reducible refine Gr.trans ?_ hbw1 | with_reducible refine Gr.alloc ?_ _ | with_reducible refine Gr.setCell ?_ (by simp) _ | with_reducible refine Gr.setCell ?_ (by simp; omega) _ | with_reducible refine Gr.drew ?_ | with_reducible refine Gr.drewN ?_ _)))
      | ((repeat (first | with_reducible exact Gr.refl _ | with_reducible refine Gr.trans ?_ hbw5 | with_reducible refine Gr.trans ?_ hbw4 | with_reducible refine Gr.trans ?_ hbw3 | with_reducible refine Gr.trans ?_ hbw2 | with_reducible refine Gr.trans ?_ hbw1 | with_reducible refine Gr.alloc ?_ _ | with_reducible refine Gr.setCell ?_ (by simp) _ | with_reducible refine Gr.setCell ?_ (by simp; omega) _ | with_reducible refine Gr.drew ?_ | with_reducible refine Gr.drewN ?_ _)); done)
  | true =>
    cases b2 with
    | false =>
      go_enter Tryz.func29, Tryz.ntmps29
      go_wp2_with (first
        | (go_at_call 16; (with_reducible refine (within_one 0 999999 id _ H1.out _ _ _ ?_ ?_).mono ?_); rotate_right; rintro e w1 ⟨rfl, hbw1⟩; obtain ⟨hcw1, hfw1, hzw1⟩ := hbw1.rules; (try simp at hzw1); have hzw1_0 : w.heap.size < w1.heap.size := (by omega); have hyw1_0 : w.heap.size ≤ w1.heap.size := (by omega))
        | (go_at_call 16; (with_reducible refine (within_one 1 5 n _ H2.out _ _ _ ?_ ?_).mono ?_); rotate_right; rintro e w2 ⟨rfl, hbw2⟩; obtain ⟨hcw2, hfw2, hzw2⟩ := hbw2.rules; (try simp at hzw2); have hzw2_0 : w.heap.size < w2.heap.size := (by omega); have hyw2_0 : w.heap.size ≤ w2.heap.size := (by omega))
        | (go_at_call 45; (with_reducible refine (HN.out _ ?_).mono ?_); rotate_right; rintro e w3 ⟨rfl, hbw3⟩; obtain ⟨hcw3, hfw3, hzw3⟩ := hbw3.rules; (try simp at hzw3); have hzw3_0 : w.heap.size < w3.heap.size := (by omega); have hyw3_0 : w.heap.size ≤ w3.heap.size := (by omega))
        | (go_at_call 16; (with_reducible refine (within_two 0 100000 lo hi _ H4.out _ _ _ ?_ ?_ ?_).mono ?_); rotate_right; rintro e w4 ⟨rfl, hbw4⟩; obtain ⟨hcw4, hfw4, hzw4⟩ := hbw4.rules; (try simp at hzw4); have hzw4_0 : w.heap.size < w4.heap.size := (by omega); have hyw4_0 : w.heap.size ≤ w4.heap.size := (by omega))
        | (go_at_call 46; (with_reducible refine (HS.out _ ?_).mono ?_); rotate_right; rintro e w5 ⟨rfl, hbw5⟩; obtain ⟨hcw5, hfw5, hzw5⟩ := hbw5.rules; (try simp at hzw5); have hzw5_0 : w.heap.size < w5.heap.size := (by omega); have hyw5_0 : w.heap.size ≤ w5.heap.size := (by omega))
        | (go_at_call 43; (with_reducible refine (HM.out _).mono ?_); rotate_right; rintro e w' ⟨rfl, rfl⟩))
      all_goals first
        | (simp; done)
        | (go_ret
           refine ⟨by simp, ?_⟩
           (repeat (first | with_reducible exact Gr.refl _ | with_reducible refine Gr.trans ?_ hbw5 | with_reducible refine Gr.trans ?_ hbw4 | with_reducible refine Gr.trans ?_ hbw3 | with_reducible refine Gr.trans ?_ hbw2 | with_reducible refine Gr.trans ?_ hbw1 | with_reducible refine Gr.alloc ?_ _ | with_reducible refine Gr.setCell ?_ (by simp) _ | with_reducible refine Gr.setCell ?_ (by simp; omega) _ | with_reducible refine Gr.drew ?_ | with_reducible refine Gr.drewN ?_ _)))
        | ((repeat (first | with_reducible exact Gr.refl _ | with_reducible refine Gr.trans ?_ hbw5 | with_reducible refine Gr.trans ?_ hbw4 | with_reducible refine Gr.trans ?_ hbw3 | with_reducible refine Gr.trans ?_ hbw2 | with_reducible refine Gr.trans ?_ hbw1 | with_reducible refine Gr.alloc ?_ _ | with_reducible refine Gr.setCell ?_ (by simp) _ | with_reducible refine Gr.setCell ?_ (by simp; omega) _ | with_reducible refine Gr.drew ?_ | with_reducible refine Gr.drewN ?_ _)); done)
    | true =>
      cases b3 with
      | false =>
        go_enter Tryz.func29, Tryz.ntmps29
        go_wp2_with (first
          | (go_at_call 16; (with_reducible refine (within_one 0 999999 id _ H1.out _ _ _ ?_ ?_).mono ?_); rotate_right; rintro e w1 ⟨rfl, hbw1⟩; obtain ⟨hcw1, hfw1, hzw1⟩ := hbw1.rules; (try simp at hzw1); have hzw1_0 : w.heap.size < w1.heap.size := (by omega); have hyw1_0 : w.heap.size ≤ w1.heap.size := (by omega))
          | (go_at_call 16; (with_reducible refine (within_one 1 5 n _ H2.out _ _ _ ?_ ?_).mono ?_); rotate_right; rintro e w2 ⟨rfl, hbw2⟩; obtain ⟨hcw2, hfw2, hzw2⟩ := hbw2.rules; (try simp at hzw2); have hzw2_0 : w.heap.size < w2.heap.size := (by omega); have hyw2_0 : w.heap.size ≤ w2.heap.size := (by omega))
          | (go_at_call 45; (with_reducible refine (HN.out _ ?_).mono ?_); rotate_right; rintro e w3 ⟨rfl, hbw3⟩; obtain ⟨hcw3, hfw3, hzw3⟩ := hbw3.rules; (try simp at hzw3); have hzw3_0 : w.heap.size < w3.heap.size := (by omega); have hyw3_0 : w.heap.size ≤ w3.heap.size := (by omega))
          | (go_at_call 16; (with_reducible refine (within_two 0 100000 lo hi _ H4.out _ _ _ ?_ ?_ ?_).mono ?_); rotate_right; rintro e w4 ⟨rfl, hbw4⟩; obtain ⟨hcw4, hfw4, hzw4⟩ := hbw4.rules; (try simp at hzw4); have hzw4_0 : w.heap.size < w4.heap.size := (by omega); have hyw4_0 : w.heap.size ≤ w4.heap.size := (by omega))
          | (go_at_call 46; (with_reducible refine (HS.out _ ?_).mono ?_); rotate_right; rintro e w5 ⟨rfl, hbw5⟩; obtain ⟨hcw5, hfw5, hzw5⟩ := hbw5.rules; (try simp at hzw5); have hzw5_0 : w.heap.size < w5.heap.size := (by omega); have hyw5_0 : w.heap.size ≤ w5.heap.size := (by omega))
          | (go_at_call 43; (with_reducible refine (HM.out _).mono ?_); rotate_right; rintro e w' ⟨rfl, rfl⟩))
        all_goals first
          | (simp; done)
          | (go_ret
             refine ⟨by simp, ?_⟩
             (repeat (first | with_reducible exact Gr.refl _ | with_reducible refine Gr.trans ?_ hbw5 | with_reducible refine Gr.trans ?_ hbw4 | with_reducible refine Gr.trans ?_ hbw3 | with_reducible refine Gr.trans ?_ hbw2 | with_reducible refine Gr.trans ?_ hbw1 | with_reducible refine Gr.alloc ?_ _ | with_reducible refine Gr.setCell ?_ (by simp) _ | with_reducible refine Gr.setCell ?_ (by simp; omega) _ | with_reducible refine Gr.drew ?_ | with_reducible refine Gr.drewN ?_ _)))
          | ((repeat (first | with_reducible exact Gr.refl _ | with_reducible refine Gr.trans ?_ hbw5 | with_reducible refine Gr.trans ?_ hbw4 | with_reducible refine Gr.trans ?_ hbw3 | with_reducible refine Gr.trans ?_ hbw2 | with_reducible refine Gr.trans ?_ hbw1 | with_reducible refine Gr.alloc ?_ _ | with_reducible refine Gr.setCell ?_ (by simp) _ | with_reducible refine Gr.setCell ?_ (by simp; omega) _ | with_reducible refine Gr.drew ?_ | with_reducible refine Gr.drewN ?_ _)); done)
      | true =>
        by_cases g1 : suf ≤ 2
        case neg =>
          rw [show decide (suf ≤ 2) = false by simpa using g1]
          have g1' : 2 < suf := by omega
          clear g1
          go_enter Tryz.func29, Tryz.ntmps29
          go_wp2_with (first
            | (go_at_call 16; (with_reducible refine (within_one 0 999999 id _ H1.out _ _ _ ?_ ?_).mono ?_); rotate_right; rintro e w1 ⟨rfl, hbw1⟩; obtain ⟨hcw1, hfw1, hzw1⟩ := hbw1.rules; (try simp at hzw1); have hzw1_0 : w.heap.size < w1.heap.size := (by omega); have hyw1_0 : w.heap.size ≤ w1.heap.size := (by omega))
            | (go_at_call 16; (with_reducible refine (within_one 1 5 n _ H2.out _ _ _ ?_ ?_).mono ?_); rotate_right; rintro e w2 ⟨rfl, hbw2⟩; obtain ⟨hcw2, hfw2, hzw2⟩ := hbw2.rules; (try simp at hzw2); have hzw2_0 : w.heap.size < w2.heap.size := (by omega); have hyw2_0 : w.heap.size ≤ w2.heap.size := (by omega))
            | (go_at_call 45; (with_reducible refine (HN.out _ ?_).mono ?_); rotate_right; rintro e w3 ⟨rfl, hbw3⟩; obtain ⟨hcw3, hfw3, hzw3⟩ := hbw3.rules; (try simp at hzw3); have hzw3_0 : w.heap.size < w3.heap.size := (by omega); have hyw3_0 : w.heap.size ≤ w3.heap.size := (by omega))
            | (go_at_call 16; (with_reducible refine (within_two 0 100000 lo hi _ H4.out _ _ _ ?_ ?_ ?_).mono ?_); rotate_right; rintro e w4 ⟨rfl, hbw4⟩; obtain ⟨hcw4, hfw4, hzw4⟩ := hbw4.rules; (try simp at hzw4); have hzw4_0 : w.heap.size < w4.heap.size := (by omega); have hyw4_0 : w.heap.size ≤ w4.heap.size := (by omega))
            | (go_at_call 46; (with_reducible refine (HS.out _ ?_).mono ?_); rotate_right; rintro e w5 ⟨rfl, hbw5⟩; obtain ⟨hcw5, hfw5, hzw5⟩ := hbw5.rules; (try simp at hzw5); have hzw5_0 : w.heap.size < w5.heap.size := (by omega); have hyw5_0 : w.heap.size ≤ w5.heap.size := (by omega))
            | (go_at_call 43; (with_reducible refine (HM.out _).mono ?_); rotate_right; rintro e w' ⟨rfl, rfl⟩))
          all_goals first
            | (simp; done)
            | (go_ret
               refine ⟨by simp, ?_⟩
               (repeat (first | with_reducible exact Gr.refl _ | with_reducible refine Gr.trans ?_ hbw5 | with_reducible refine Gr.trans ?_ hbw4 | with_reducible refine Gr.trans ?_ hbw3 | with_reducible refine Gr.trans ?_ hbw2 | with_reducible refine Gr.trans ?_ hbw1 | with_reducible refine Gr.alloc ?_ _ | with_reducible refine Gr.setCell ?_ (by simp) _ | with_reducible refine Gr.setCell ?_ (by simp; omega) _ | with_reducible refine Gr.drew ?_ | with_reducible refine Gr.drewN ?_ _)))
            | ((repeat (first | with_reducible exact Gr.refl _ | with_reducible refine Gr.trans ?_ hbw5 | with_reducible refine Gr.trans ?_ hbw4 | with_reducible refine Gr.trans ?_ hbw3 | with_reducible refine Gr.trans ?_ hbw2 | with_reducible refine Gr.trans ?_ hbw1 | with_reducible refine Gr.alloc ?_ _ | with_reducible refine Gr.setCell ?_ (by simp) _ | with_reducible refine Gr.setCell ?_ (by simp; omega) _ | with_reducible refine Gr.drew ?_ | with_reducible refine Gr.drewN ?_ _)); done)
        case pos =>
          rw [show decide (suf ≤ 2) = true by simpa using g1]
          cases b4 with
          | false =>
            go_enter Tryz.func29, Tryz.ntmps29
            go_wp2_with (first
              | (go_at_call 16; (with_reducible refine (within_one 0 999999 id _ H1.out _ _ _ ?_ ?_).mono ?_); rotate_right; rintro e w1 ⟨rfl, hbw1⟩; obtain ⟨hcw1, hfw1, hzw1⟩ := hbw1.rules; (try simp at hzw1); have hzw1_0 : w.heap.size < w1.heap.size := (by omega); have hyw1_0 : w.heap.size ≤ w1.heap.size := (by omega))
              | (go_at_call 16; (with_reducible refine (within_one 1 5 n _ H2.out _ _ _ ?_ ?_).mono ?_); rotate_right; rintro e w2 ⟨rfl, hbw2⟩; obtain ⟨hcw2, hfw2, hzw2⟩ := hbw2.rules; (try simp at hzw2); have hzw2_0 : w.heap.size < w2.heap.size := (by omega); have hyw2_0 : w.heap.size ≤ w2.heap.size := (by omega))
              | (go_at_call 45; (with_reducible refine (HN.out _ ?_).mono ?_); rotate_right; rintro e w3 ⟨rfl, hbw3⟩; obtain ⟨hcw3, hfw3, hzw3⟩ := hbw3.rules; (try simp at hzw3); have hzw3_0 : w.heap.size < w3.heap.size := (by omega); have hyw3_0 : w.heap.size ≤ w3.heap.size := (by omega))
              | (go_at_call 16; (with_reducible refine (within_two 0 100000 lo hi _ H4.out _ _ _ ?_ ?_ ?_).mono ?_); rotate_right; rintro e w4 ⟨rfl, hbw4⟩; obtain ⟨hcw4, hfw4, hzw4⟩ := hbw4.rules; (try simp at hzw4); have hzw4_0 : w.heap.size < w4.heap.size := (by omega); have hyw4_0 : w.heap.size ≤ w4.heap.size := (by omega))
              | (go_at_call 46; (with_reducible refine (HS.out _ ?_).mono ?_); rotate_right; rintro e w5 ⟨rfl, hbw5⟩; obtain ⟨hcw5, hfw5, hzw5⟩ := hbw5.rules; (try simp at hzw5); have hzw5_0 : w.heap.size < w5.heap.size := (by omega); have hyw5_0 : w.heap.size ≤ w5.heap.size := (by omega))
              | (go_at_call 43; (with_reducible refine (HM.out _).mono ?_); rotate_right; rintro e w' ⟨rfl, rfl⟩))
            all_goals first
              | (simp; done)
              | (go_ret
                 refine ⟨by simp, ?_⟩
                 (repeat (first | with_reducible exact Gr.refl _ | with_reducible refine Gr.trans ?_ hbw5 | with_reducible refine Gr.trans ?_ hbw4 | with_reducible refine Gr.trans ?_ hbw3 | with_reducible refine Gr.trans ?_ hbw2 | with_reducible refine Gr.trans ?_ hbw1 | with_reducible refine Gr.alloc ?_ _ | with_reducible refine Gr.setCell ?_ (by simp) _ | with_reducible refine Gr.setCell ?_ (by simp; omega) _ | with_reducible refine Gr.drew ?_ | with_reducible refine Gr.drewN ?_ _)))
              | ((repeat (first | with_reducible exact Gr.refl _ | with_reducible refine Gr.trans ?_ hbw5 | with_reducible refine Gr.trans ?_ hbw4 | with_reducible refine Gr.trans ?_ hbw3 | with_reducible refine Gr.trans ?_ hbw2 | with_reducible refine Gr.trans ?_ hbw1 | with_reducible refine Gr.alloc ?_ _ | with_reducible refine Gr.setCell ?_ (by simp) _ | with_reducible refine Gr.setCell ?_ (by simp; omega) _ | with_reducible refine Gr.drew ?_ | with_reducible refine Gr.drewN ?_ _)); done)
          | true =>
            by_cases g2 : lo ≤ hi
            case neg =>
              rw [show decide (lo ≤ hi) = false by simpa using g2]
              have g2' : hi < lo := by omega
              clear g2
              go_enter Tryz.func29, Tryz.ntmps29
              go_wp2_with (first
                | (go_at_call 16; (with_reducible refine (within_one 0 999999 id _ H1.out _ _ _ ?_ ?_).mono ?_); rotate_right; rintro e w1 ⟨rfl, hbw1⟩; obtain ⟨hcw1, hfw1, hzw1⟩ := hbw1.rules; (try simp at hzw1); have hzw1_0 : w.heap.size < w1.heap.size := (by omega); have hyw1_0 : w.heap.size ≤ w1.heap.size := (by omega))
                | (go_at_call 16; (with_reducible refine (within_one 1 5 n _ H2.out _ _ _ ?_ ?_).mono ?_); rotate_right; rintro e w2 ⟨rfl, hbw2⟩; obtain ⟨hcw2, hfw2, hzw2⟩ := hbw2.rules; (try simp at hzw2); have hzw2_0 : w.heap.size < w2.heap.size := (by omega); have hyw2_0 : w.heap.size ≤ w2.heap.size := (by omega))
                | (go_at_call 45; (with_reducible refine (HN.out _ ?_).mono ?_); rotate_right; rintro e w3 ⟨rfl, hbw3⟩; obtain ⟨hcw3, hfw3, hzw3⟩ := hbw3.rules; (try simp at hzw3); have hzw3_0 : w.heap.size < w3.heap.size := (by omega); have hyw3_0 : w.heap.size ≤ w3.heap.size := (by omega))
                | (go_at_call 16; (with_reducible refine (within_two 0 100000 lo hi _ H4.out _ _ _ ?_ ?_ ?_).mono ?_); rotate_right; rintro e w4 ⟨rfl, hbw4⟩; obtain ⟨hcw4, hfw4, hzw4⟩ := hbw4.rules; (try simp at hzw4); have hzw4_0 : w.heap.size < w4.heap.size := (by omega); have hyw4_0 : w.heap.size ≤ w4.heap.size := (by omega))
                | (go_at_call 46; (with_reducible refine (HS.out _ ?_).mono ?_); rotate_right; rintro e w5 ⟨rfl, hbw5⟩; obtain ⟨hcw5, hfw5, hzw5⟩ := hbw5.rules; (try simp at hzw5); have hzw5_0 : w.heap.size < w5.heap.size := (by omega); have hyw5_0 : w.heap.size ≤ w5.heap.size := (by omega))
                | (go_at_call 43; (with_reducible refine (HM.out _).mono ?_); rotate_right; rintro e w' ⟨rfl, rfl⟩))
              all_goals first
                | (simp; done)
                | (go_ret
                   refine ⟨by simp, ?_⟩
                   (repeat (first | with_reducible exact Gr.refl _ | with_reducible refine Gr.trans ?_ hbw5 | with_reducible refine Gr.trans ?_ hbw4 | with_reducible refine Gr.trans ?_ hbw3 | with_reducible refine Gr.trans ?_ hbw2 | with_reducible refine Gr.trans ?_ hbw1 | with_reducible refine Gr.alloc ?_ _ | with_reducible refine Gr.setCell ?_ (by simp) _ | with_reducible refine Gr.setCell ?_ (by simp; omega) _ | with_reducible refine Gr.drew ?_ | with_reducible refine Gr.drewN ?_ _)))
                | ((repeat (first | with_reducible exact Gr.refl _ | with_reducible refine Gr.trans ?_ hbw5 | with_reducible refine Gr.trans ?_ hbw4 | with_reducible refine Gr.trans ?_ hbw3 | with_reducible refine Gr.trans ?_ hbw2 | with_reducible refine Gr.trans ?_ hbw1 | with_reducible refine Gr.alloc ?_ _ | with_reducible refine Gr.setCell ?_ (by simp) _ | with_reducible refine Gr.setCell ?_ (by simp; omega) _ | with_reducible refine Gr.drew ?_ | with_reducible refine Gr.drewN ?_ _)); done)
            case pos =>
              rw [show decide (lo ≤ hi) = true by simpa using g2]
              by_cases g3 : m ≤ 6
              case neg =>
                rw [show decide (m ≤ 6) = false by simpa using g3]
                have g3' : (6 : Int) < m := by omega
                clear g3
                go_enter Tryz.func29, Tryz.ntmps29
                go_wp2_with (first
                  | (go_at_call 16; (with_reducible refine (within_one 0 999999 id _ H1.out _ _ _ ?_ ?_).mono ?_); rotate_right; rintro e w1 ⟨rfl, hbw1⟩; obtain ⟨hcw1, hfw1, hzw1⟩ := hbw1.rules; (try simp at hzw1); have hzw1_0 : w.heap.size < w1.heap.size := (by omega); have hyw1_0 : w.heap.size ≤ w1.heap.size := (by omega))
                  | (go_at_call 16; (with_reducible refine (within_one 1 5 n _ H2.out _ _ _ ?_ ?_).mono ?_); rotate_right; rintro e w2 ⟨rfl, hbw2⟩; obtain ⟨hcw2, hfw2, hzw2⟩ := hbw2.rules; (try simp at hzw2); have hzw2_0 : w.heap.size < w2.heap.size := (by omega); have hyw2_0 : w.heap.size ≤ w2.heap.size := (by omega))
                  | (go_at_call 45; (with_reducible refine (HN.out _ ?_).mono ?_); rotate_right; rintro e w3 ⟨rfl, hbw3⟩; obtain ⟨hcw3, hfw3, hzw3⟩ := hbw3.rules; (try simp at hzw3); have hzw3_0 : w.heap.size < w3.heap.size := (by omega); have hyw3_0 : w.heap.size ≤ w3.heap.size := (by omega))
                  | (go_at_call 16; (with_reducible refine (within_two 0 100000 lo hi _ H4.out _ _ _ ?_ ?_ ?_).mono ?_); rotate_right; rintro e w4 ⟨rfl, hbw4⟩; obtain ⟨hcw4, hfw4, hzw4⟩ := hbw4.rules; (try simp at hzw4); have hzw4_0 : w.heap.size < w4.heap.size := (by omega); have hyw4_0 : w.heap.size ≤ w4.heap.size := (by omega))
                  | (go_at_call 46; (with_reducible refine (HS.out _ ?_).mono ?_); rotate_right; rintro e w5 ⟨rfl, hbw5⟩; obtain ⟨hcw5, hfw5, hzw5⟩ := hbw5.rules; (try simp at hzw5); have hzw5_0 : w.heap.size < w5.heap.size := (by omega); have hyw5_0 : w.heap.size ≤ w5.heap.size := (by omega))
                  | (go_at_call 43; (with_reducible refine (HM.out _).mono ?_); rotate_right; rintro e w' ⟨rfl, rfl⟩))
                all_goals first
                  | (simp; done)
                  | (go_ret
                     refine ⟨by simp, ?_⟩
                     (repeat (first | with_reducible exact Gr.refl _ | with_reducible refine Gr.trans ?_ hbw5 | with_reducible refine Gr.trans ?_ hbw4 | with_reducible refine Gr.trans ?_ hbw3 | with_reducible refine Gr.trans ?_ hbw2 | with_reducible refine Gr.trans ?_ hbw1 | with_reducible refine Gr.alloc ?_ _ | with_reducible refine Gr.setCell ?_ (by simp) _ | with_reducible refine Gr.setCell ?_ (by simp; omega) _ | with_reducible refine Gr.drew ?_ | with_reducible refine Gr.drewN ?_ _)))
                  | ((repeat (first | with_reducible exact Gr.refl _ | with_reducible refine Gr.trans ?_ hbw5 | with_reducible refine Gr.trans ?_ hbw4 | with_reducible refine Gr.trans ?_ hbw3 | with_reducible refine Gr.trans ?_ hbw2 | with_reducible refine Gr.trans ?_ hbw1 | with_reducible refine Gr.alloc ?_ _ | with_reducible refine Gr.setCell ?_ (by simp) _ | with_reducible refine Gr.setCell ?_ (by simp; omega) _ | with_reducible refine Gr.drew ?_ | with_reducible refine Gr.drewN ?_ _)); done)
              case pos =>
                rw [show decide (m ≤ 6) = true by simpa using g3]
                have g3' : (m : Int) ≤ 6 := by omega
                clear g3
                cases b5 with
                | false =>
                  go_enter Tryz.func29, Tryz.ntmps29
                  go_wp2_with (first
                    | (go_at_call 16; (with_reducible refine (within_one 0 999999 id _ H1.out _ _ _ ?_ ?_).mono ?_); rotate_right; rintro e w1 ⟨rfl, hbw1⟩; obtain ⟨hcw1, hfw1, hzw1⟩ := hbw1.rules; (try simp at hzw1); have hzw1_0 : w.heap.size < w1.heap.size := (by omega); have hyw1_0 : w.heap.size ≤ w1.heap.size := (by omega))
                    | (go_at_call 16; (with_reducible refine (within_one 1 5 n _ H2.out _ _ _ ?_ ?_).mono ?_); rotate_right; rintro e w2 ⟨rfl, hbw2⟩; obtain ⟨hcw2, hfw2, hzw2⟩ := hbw2.rules; (try simp at hzw2); have hzw2_0 : w.heap.size < w2.heap.size := (by omega); have hyw2_0 : w.heap.size ≤ w2.heap.size := (by omega))
                    | (go_at_call 45; (with_reducible refine (HN.out _ ?_).mono ?_); rotate_right; rintro e w3 ⟨rfl, hbw3⟩; obtain ⟨hcw3, hfw3, hzw3⟩ := hbw3.rules; (try simp at hzw3); have hzw3_0 : w.heap.size < w3.heap.size := (by omega); have hyw3_0 : w.heap.size ≤ w3.heap.size := (by omega))
                    | (go_at_call 16; (with_reducible refine (within_two 0 100000 lo hi _ H4.out _ _ _ ?_ ?_ ?_).mono ?_); rotate_right; rintro e w4 ⟨rfl, hbw4⟩; obtain ⟨hcw4, hfw4, hzw4⟩ := hbw4.rules; (try simp at hzw4); have hzw4_0 : w.heap.size < w4.heap.size := (by omega); have hyw4_0 : w.heap.size ≤ w4.heap.size := (by omega))
                    | (go_at_call 46; (with_reducible refine (HS.out _ ?_).mono ?_); rotate_right; rintro e w5 ⟨rfl, hbw5⟩; obtain ⟨hcw5, hfw5, hzw5⟩ := hbw5.rules; (try simp at hzw5); have hzw5_0 : w.heap.size < w5.heap.size := (by omega); have hyw5_0 : w.heap.size ≤ w5.heap.size := (by omega))
                    | (go_at_call 43; (with_reducible refine (HM.out _).mono ?_); rotate_right; rintro e w' ⟨rfl, rfl⟩))
                  all_goals first
                    | (simp; done)
                    | (go_ret
                       refine ⟨by simp, ?_⟩
                       (repeat (first | with_reducible exact Gr.refl _ | with_reducible refine Gr.trans ?_ hbw5 | with_reducible refine Gr.trans ?_ hbw4 | with_reducible refine Gr.trans ?_ hbw3 | with_reducible refine Gr.trans ?_ hbw2 | with_reducible refine Gr.trans ?_ hbw1 | with_reducible refine Gr.alloc ?_ _ | with_reducible refine Gr.setCell ?_ (by simp) _ | with_reducible refine Gr.setCell ?_ (by simp; omega) _ | with_reducible refine Gr.drew ?_ | with_reducible refine Gr.drewN ?_ _)))
                    | ((repeat (first | with_reducible exact Gr.refl _ | with_reducible refine Gr.trans ?_ hbw5 | with_reducible refine Gr.trans ?_ hbw4 | with_reducible refine Gr.trans ?_ hbw3 | with_reducible refine Gr.trans ?_ hbw2 | with_reducible refine Gr.trans ?_ hbw1 | with_reducible refine Gr.alloc ?_ _ | with_reducible refine Gr.setCell ?_ (by simp) _ | with_reducible refine Gr.setCell ?_ (by simp; omega) _ | with_reducible refine Gr.drew ?_ | with_reducible refine Gr.drewN ?_ _)); done)
                | true =>
                  go_enter Tryz.func29, Tryz.ntmps29
                  go_wp2_with (first
                    | (go_at_call 16; (with_reducible refine (within_one 0 999999 id _ H1.out _ _ _ ?_ ?_).mono ?_); rotate_right; rintro e w1 ⟨rfl, hbw1⟩; obtain ⟨hcw1, hfw1, hzw1⟩ := hbw1.rules; (try simp at hzw1); have hzw1_0 : w.heap.size < w1.heap.size := (by omega); have hyw1_0 : w.heap.size ≤ w1.heap.size := (by omega))
                    | (go_at_call 16; (with_reducible refine (within_one 1 5 n _ H2.out _ _ _ ?_ ?_).mono ?_); rotate_right; rintro e w2 ⟨rfl, hbw2⟩; obtain ⟨hcw2, hfw2, hzw2⟩ := hbw2.rules; (try simp at hzw2); have hzw2_0 : w.heap.size < w2.heap.size := (by omega); have hyw2_0 : w.heap.size ≤ w2.heap.size := (by omega))
                    | (go_at_call 45; (with_reducible refine (HN.out _ ?_).mono ?_); rotate_right; rintro e w3 ⟨rfl, hbw3⟩; obtain ⟨hcw3, hfw3, hzw3⟩ := hbw3.rules; (try simp at hzw3); have hzw3_0 : w.heap.size < w3.heap.size := (by omega); have hyw3_0 : w.heap.size ≤ w3.heap.size := (by omega))
                    | (go_at_call 16; (with_reducible refine (within_two 0 100000 lo hi _ H4.out _ _ _ ?_ ?_ ?_).mono ?_); rotate_right; rintro e w4 ⟨rfl, hbw4⟩; obtain ⟨hcw4, hfw4, hzw4⟩ := hbw4.rules; (try simp at hzw4); have hzw4_0 : w.heap.size < w4.heap.size := (by omega); have hyw4_0 : w.heap.size ≤ w4.heap.size := (by omega))
                    | (go_at_call 46; (with_reducible refine (HS.out _ ?_).mono ?_); rotate_right; rintro e w5 ⟨rfl, hbw5⟩; obtain ⟨hcw5, hfw5, hzw5⟩ := hbw5.rules; (try simp at hzw5); have hzw5_0 : w.heap.size < w5.heap.size := (by omega); have hyw5_0 : w.heap.size ≤ w5.heap.size := (by omega))
                    | (go_at_call 43; (with_reducible refine (HM.out _).mono ?_); rotate_right; rintro e w' ⟨rfl, rfl⟩))
                  all_goals first
                    | (simp; done)
                    | (go_ret
                       refine ⟨?_, ?_⟩
                       rotate_left
                       (repeat (first | with_reducible exact Gr.refl _ | with_reducible refine Gr.trans ?_ hbw5 | with_reducible refine Gr.trans ?_ hbw4 | with_reducible refine Gr.trans ?_ hbw3 | with_reducible refine Gr.trans ?_ hbw2 | with_reducible refine Gr.trans ?_ hbw1 | with_reducible refine Gr.alloc ?_ _ | with_reducible refine Gr.setCell ?_ (by simp) _ | with_reducible refine Gr.setCell ?_ (by simp; omega) _ | with_reducible refine Gr.drew ?_ | with_reducible refine Gr.drewN ?_ _))
                       first
                         | (have h0 : num.toList = [] := by assumption
                            rw [show decide (num.size = 0) = true by simpa using HS0.out.1 h0]
                            simp; done)
                         | (have h0 : ¬ num.toList = [] := by assumption
                            have h9 : (num.size : Int) = 9 := by assumption
                            rw [show decide (num.size = 9) = true by simp; omega]
                            simp; done)
                         | (have h0 : ¬ num.toList = [] := by assumption
                            have h9 : ¬ (num.size : Int) = 9 := by assumption
                            rw [show decide (num.size = 9) = false by simp; omega, show decide (num.size = 0) = false by simpa using fun h => h0 (HS0.out.2 h)]
                            simp; done))
                    | ((repeat (first | with_reducible exact Gr.refl _ | with_reducible refine Gr.trans ?_ hbw5 | with_reducible refine Gr.trans ?_ hbw4 | with_reducible refine Gr.trans ?_ hbw3 | with_reducible refine Gr.trans ?_ hbw2 | with_reducible refine Gr.trans ?_ hbw1 | with_reducible refine Gr.alloc ?_ _ | with_reducible refine Gr.setCell ?_ (by simp) _ | with_reducible refine Gr.setCell ?_ (by simp; omega) _ | with_reducible refine Gr.drew ?_ | with_reducible refine Gr.drewN ?_ _)); done)
end Go.Proofs.YtlkjimfkapcenaaGreatDoor
namespace Go.Proofs.YtlkjimfkapcenaaGreatDoor
open Go.RowKit

/-- Whether a record is great. -/
def Rcd.great (r : Rcd) : Bool := decide (8 < r.names.length) || decide (10 < r.stays.length) || decide (20 < r.number.size) || r.names.any fun s => decide (30 < s.size)
theorem any_true_of {α : Type} [Inhabited α] {p : α → Bool} {l : List α} {k : Nat} (hk : k < l.length) (h : p l[k]! = true) : l.any p = true := by
  rw [List.any_eq_true]
  exact ⟨l[k]!, mem_get hk, h⟩
theorem any_false_of {α : Type} [Inhabited α] {p : α → Bool} {l : List α} (h : ∀ j, j < l.length → p l[j]! = false) : l.any p = false := by
  rw [List.any_eq_false]
  intro x hx
  obtain ⟨j, hj, rfl⟩ := List.getElem_of_mem hx
  have := h j hj
  rw [getElem!_pos l j hj] at this
  simp [this]

end Go.Proofs.YtlkjimfkapcenaaGreatDoor
namespace Go.Proofs.YtlkjimfkapcenaaGreatDoor
open Go.RowKit

theorem all_false_of {α : Type} [Inhabited α] {p : α → Bool} {l : List α} {k : Nat} (hk : k < l.length) (h : p l[k]! = false) : l.all p = false := by
  rw [List.all_eq_false]
  exact ⟨l[k]!, mem_get hk, by rw [h]; simp⟩
theorem all_true_of {α : Type} [Inhabited α] {p : α → Bool} {l : List α} (h : ∀ j, j < l.length → p l[j]! = true) : l.all p = true := by
  rw [List.all_eq_true]
  intro x hx
  obtain ⟨j, hj, rfl⟩ := List.getElem_of_mem hx
  have := h j hj
  rwa [getElem!_pos l j hj] at this

theorem Sty.ok_ref (p f t : Int) : Sty.ok ⟨p, f, t⟩ = (inB 0 99999 p && inB 0 100000 f && inB f 100000 t) := by
  unfold Sty.ok inB; rw [Bool.eq_iff_iff]; simp; omega

end Go.Proofs.YtlkjimfkapcenaaGreatDoor
namespace Go.Proofs.YtlkjimfkapcenaaGreatDoor
open Go.RowKit

/-- The error of rules and a record. -/
def checkN (r : Rul) (a : Rcd) : Int := if r.ok then (if a.ok then 0 else 11) else 10

set_option maxHeartbeats 400000 in
theorem check_any (r : Rul) (a : Rcd) (A : Option Addr) (n c : Nat) (B : Option Addr) (m d : Nat) (w : World) (ha : a.In w A n B m) :
    Calls Tryz.prog 18 #[r.val, a.val A n c B m d] w fun e w' => e = .returned (.int .i64 (checkN r a)) ∧ Gr w w' := by
  unfold checkN
  have HU := hid (fun W => ruled_any r W)
  have HR := hid (fun W (h : Gr w W) => recorded_any a A n c B m d W (ha.gr h))
  obtain ⟨b1, h1⟩ : ∃ b, r.ok = b := ⟨_, rfl⟩
  obtain ⟨b2, h2⟩ : ∃ b, a.ok = b := ⟨_, rfl⟩
  rw [h1] at HU ⊢
  rw [h2] at HR ⊢
  clear h1 h2 ha
  unfold Rul.val at HU ⊢
  unfold Rcd.val at HR ⊢
  cases b1 <;> cases b2
  all_goals
    go_enter Tryz.func18, Tryz.ntmps18
    go_wp2_with (first
      | (go_at_call 20; (with_reducible refine (HU.out _).mono ?_); rotate_right; rintro e w1 ⟨rfl, hbw1⟩; obtain ⟨hcw1, hfw1, hzw1⟩ := hbw1.rules; (try simp at hzw1); have hzw1_0 : w.heap.size < w1.heap.size := (by omega); have hyw1_0 : w.heap.size ≤ w1.heap.size := (by omega); have hzw1_1 : w.heap.size + 1 < w1.heap.size := (by omega); have hyw1_1 : w.heap.size + 1 ≤ w1.heap.size := (by omega))
      | (go_at_call 29; (with_reducible refine (HR.out _ ?_).mono ?_); rotate_right; rintro e w2 ⟨rfl, hbw2⟩; obtain ⟨hcw2, hfw2, hzw2⟩ := hbw2.rules; (try simp at hzw2); have hzw2_0 : w.heap.size < w2.heap.size := (by omega); have hyw2_0 : w.heap.size ≤ w2.heap.size := (by omega)))
    all_goals first
      | (go_ret
         refine ⟨rfl, ?_⟩
         (repeat (first | with_reducible exact Gr.refl _ | with_reducible refine Gr.trans ?_ hbw2 | with_reducible refine Gr.trans ?_ hbw1 | with_reducible refine Gr.alloc ?_ _ | with_reducible refine Gr.setCell ?_ (by simp) _ | with_reducible refine Gr.setCell ?_ (by simp; omega) _ | with_reducible refine Gr.drew ?_ | with_reducible refine Gr.drewN ?_ _)))
      | ((repeat (first | with_reducible exact Gr.refl _ | with_reducible refine Gr.trans ?_ hbw2 | with_reducible refine Gr.trans ?_ hbw1 | with_reducible refine Gr.alloc ?_ _ | with_reducible refine Gr.setCell ?_ (by simp) _ | with_reducible refine Gr.setCell ?_ (by simp; omega) _ | with_reducible refine Gr.drew ?_ | with_reducible refine Gr.drewN ?_ _)); done)

end Go.Proofs.YtlkjimfkapcenaaGreatDoor
