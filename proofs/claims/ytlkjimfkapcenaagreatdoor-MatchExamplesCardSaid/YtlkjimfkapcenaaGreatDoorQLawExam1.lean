/- The law MatchExamples, walked: the chapter's examples, limits and numbers. No condition. (Printed by gen_exam1.py.) -/
import Derived.Deep.CutRange
import Derived.Deep.DeepCutAuto
import Derived.Deep.RegionHeld3
import Derived.Deep.RegionWith
import Derived.Great.BuildSlice
import Derived.Test.YtlkjimfkapcenaaGreatDoorQCompareTop
import Derived.Test.YtlkjimfkapcenaaGreatDoorQPairSpec
import Derived.Test.YtlkjimfkapcenaaGreatDoorQAlive
import Derived.Test.YtlkjimfkapcenaaGreatDoorQErrStr
import Derived.Test.YtlkjimfkapcenaaGreatDoorQPlan
namespace Go.Proofs.YtlkjimfkapcenaaGreatDoor
open Go.RowKit

theorem own_low1 {W : World} {base base' : Nat} {e : TypeId} {size n : Nat} {v : Value} {xs : List Value} (h : W.ownsRow base e size v n xs) (hb : base' ≤ base) : W.ownsRow base' e size v n xs :=
  ⟨h.1, h.2.imp id (fun ⟨g, cap, cur, h1, h2, h3⟩ => ⟨g, cap, cur, h1, Nat.le_trans hb h2, h3⟩)⟩
theorem wp_make8 {P : Program} (w : World) {o : Oper} {a : Act} {K : Act → World → Prop} {Q : Exit → Act → World → Prop} (l c : Operand) (t : TypeId) (hop : o.op = Op.makeSlice t l c)
    (e : TypeId) (i : TypeInfo) (z : Value) (h1 : P.underlying t = some (.slice e)) (h2 : P.info? e = some i) (h3 : i.zero = some z) (h4 : i.size = 8)
    (kl : IntKind) (n : Nat) (hl : a.eval l = .int kl (n : Int)) (hc : a.eval c = .int kl (n : Int)) (b2 : i.bytes * n ≤ 281474976710656) (b3 : n ≤ 9223372036854775807)
    (hK : K (a.put o.dst (.slice (some ⟨w.heap.size, 0, none⟩) n n)) (w.alloc (.cells (madeCells z.cells (n * 8)) e))) : o.wp P a w K Q := by
  have b2' : (i.bytes : Int) * (n : Int) ≤ 281474976710656 := by
    have h : ((i.bytes * n : Nat) : Int) ≤ ((281474976710656 : Nat) : Int) := Int.ofNat_le.2 b2
    rw [Int.natCast_mul] at h
    exact h
  have hrun := run_make (P := P) w t e i z h1 h2 h3 kl kl n n (by omega) (by omega) b2' (by omega)
  unfold Oper.wp execOp
  simp only [hop, hl, hc, Sem.run_bind, hrun, Result.andThen_ok, Sem.run_pure, Int.toNat_natCast, h4]
  exact hK
theorem eight_of {l : List Value} (h : l.length = 8) : ∃ b0 b1 b2 b3 b4 b5 b6 b7, l = [b0, b1, b2, b3, b4, b5, b6, b7] :=
  match l, h with
  | [b0, b1, b2, b3, b4, b5, b6, b7], _ => ⟨b0, b1, b2, b3, b4, b5, b6, b7, rfl⟩
theorem fill_one8 (f : Nat → Value) (c0 c1 c2 c3 c4 c5 c6 c7 : Value) : Instr.fill (fun i => some (i * 8, 8)) ((Array.range (1 * 8)).map f) [(0, .agg #[c0, c1, c2, c3, c4, c5, c6, c7])] = some #[c0, c1, c2, c3, c4, c5, c6, c7] := by
  have hs : ((Array.range (1 * 8)).map f).size = 8 := by simp
  generalize (Array.range (1 * 8)).map f = B at hs
  obtain ⟨l⟩ := B
  obtain ⟨b0, b1, b2, b3, b4, b5, b6, b7, rfl⟩ := eight_of (l := l) (by simpa using hs)
  simp [Instr.fill, Value.cells]
set_option maxRecDepth 100000 in
theorem made25 : (madeCells (Value.agg #[.int .i64 0, .slice none 0 0, .int .u8 0, .int .i64 0, .int .i64 0, .string ByteArray.empty, .bool false, .slice none 0 0]).cells (25 * 8)).toList = (List.replicate 25 elN).flatMap Elt.cells := by kernel_rfl
theorem made_recs (W : World) : RecsIn (W.alloc (.cells (madeCells (Value.agg #[.int .i64 0, .slice none 0 0, .int .u8 0, .int .i64 0, .int .i64 0, .string ByteArray.empty, .bool false, .slice none 0 0]).cells (25 * 8)) 41)) (some ⟨W.heap.size, 0, none⟩) 25 (List.replicate 25 elN) :=
  ⟨Rd.of_row (heap_alloc_new W _) made25 (by rw [flatMap_len Elt.len, List.length_replicate]), by omega, fun e he => by rw [List.eq_of_mem_replicate he]; exact elN_in _⟩

set_option maxRecDepth 100000 in
set_option maxHeartbeats 16000000 in
theorem matchExamples_any (w : World) : Calls Tryz.prog 3 #[] w fun e w' => e = .returned (.bool true) ∧ Gr w w' := by
  have HAL := hid (fun W => alive_any W)
  have HER := hid (fun W => err_ten W)
  have HED1 : Hid (∀ W, Calls Tryz.prog 7 #[.string ⟨#[]⟩, .string ⟨#[65, 66]⟩] W fun e w' => e = .returned (.tuple #[.int .i64 2, .int .i64 0]) ∧ Gr W w') := fun W => by
    have h := editsTop_any ⟨#[]⟩ ⟨#[65, 66]⟩ W (by show 0 ≤ maxLen; unfold maxLen; omega) (by show 2 ≤ maxLen; unfold maxLen; omega)
    rw [ex_edits2.1, ex_edits2.2] at h
    exact h
  have HED2 : Hid (∀ W, Calls Tryz.prog 7 #[.string ⟨#[]⟩, .string ⟨#[65, 66, 67, 68, 69, 70, 71, 72, 73, 74, 75, 76, 77, 78, 79, 80, 81, 82, 83, 84, 85]⟩] W fun e w' => e = .returned (.tuple #[.int .i64 0, .int .i64 2]) ∧ Gr W w') := fun W => by
    have h := editsTop_any ⟨#[]⟩ ⟨#[65, 66, 67, 68, 69, 70, 71, 72, 73, 74, 75, 76, 77, 78, 79, 80, 81, 82, 83, 84, 85]⟩ W (by show 0 ≤ maxLen; unfold maxLen; omega) (by show 21 ≤ maxLen; unfold maxLen; omega)
    rw [ex_edits3.1, ex_edits3.2] at h
    exact h
  have HRU : Hid (∀ W, Calls Tryz.prog 9 #[] W fun e w' => e = .returned (.agg #[.int .i64 2, .int .i64 1, .int .i64 30, .int .i64 10]) ∧ Gr W w') := fun W => exRules_any W
  have HPO := hid (fun W => people_own W)
  have HP6 : Hid (∀ W A c zs, RecsIn W A 6 zs → zs.map (·.r) = exL ++ [ex1] → Calls Tryz.prog 10 #[.agg #[.int .i64 2, .int .i64 1, .int .i64 30, .int .i64 10], .slice A 6 c] W fun e w' => ∃ v1 v2, e = .returned (.tuple #[v1, v2, .int .i64 12]) ∧ Gr W w') := fun W A c zs h he => by
    have hl := h.len
    have h1 := pairs_any exR zs A c W (by rw [hl]; exact h.rdE) h.each (by have := h.big; omega)
    rw [he, hl, ex_pairs6] at h1
    exact h1.mono fun e w' ⟨v1, v2, k1, _, _, k2⟩ => ⟨v1, v2, k1, k2⟩
  have HP25 : Hid (∀ W A c, RecsIn W A 25 (List.replicate 25 elN) → Calls Tryz.prog 10 #[.agg #[.int .i64 2, .int .i64 1, .int .i64 30, .int .i64 10], .slice A 25 c] W fun e w' => ∃ v1 v2, e = .returned (.tuple #[v1, v2, .int .i64 4]) ∧ Gr W w') := fun W A c h => by
    have hl : (List.replicate 25 elN).length = 25 := rfl
    have h1 := pairs_any exR (List.replicate 25 elN) A c W (by rw [hl]; exact h.rdE) h.each (by have := h.big; omega)
    have he : (List.replicate 25 elN).map (·.r) = List.replicate 25 exN := rfl
    rw [he, hl, ex_pairs25] at h1
    exact h1.mono fun e w' ⟨v1, v2, k1, _, _, k2⟩ => ⟨v1, v2, k1, k2⟩
  go_enter Tryz.func3, Tryz.ntmps3
  go_upto_region 6 with (first
    | (go_at_call 4; (with_reducible refine (HAL.out _).mono ?_); rotate_right; rintro e w0 ⟨rfl, hbw0⟩; obtain ⟨hcw0, hfw0, hzw0⟩ := hbw0.rules; (try simp at hzw0))
    | (go_at_call 5; (with_reducible refine (HER.out _).mono ?_); rotate_right; rintro e w' ⟨rfl, rfl⟩)
    | (go_at_call 6; refine (people_any _).mono ?_; rintro e wp ⟨b, es, rfl, h1, h2, h3, h4, hbp⟩; have HP := hid (And.intro h1 (And.intro h2 (And.intro h3 h4))); clear h1 h2 h3 h4; have HBP := hid hbp; clear hbp)
    | (go_at_call 7; (with_reducible refine (HED1.out _).mono ?_); rotate_right; rintro e wa ⟨rfl, hbwa⟩; obtain ⟨hcwa, hfwa, hzwa⟩ := hbwa.rules; (try simp at hzwa))
    | (go_at_call 7; (with_reducible refine (HED2.out _).mono ?_); rotate_right; rintro e w1 ⟨rfl, hbw1⟩; obtain ⟨hcw1, hfw1, hzw1⟩ := hbw1.rules; (try simp at hzw1)))
  obtain ⟨h1, h2, h3, h4⟩ := HP.out
  obtain ⟨e1, e2, e3, e4, e5, rfl⟩ := five h1
  obtain ⟨x1, A1, n1, c1, B1, m1, d1⟩ := e1
  obtain ⟨x2, A2, n2, c2, B2, m2, d2⟩ := e2
  obtain ⟨x3, A3, n3, c3, B3, m3, d3⟩ := e3
  obtain ⟨x4, A4, n4, c4, B4, m4, d4⟩ := e4
  obtain ⟨x5, A5, n5, c5, B5, m5, d5⟩ := e5
  unfold exL at h4
  simp only [List.map_cons, List.map_nil, List.cons.injEq, and_true] at h4
  obtain ⟨rfl, rfl, rfl, rfl, rfl⟩ := h4
  have HE := hid h3
  have HRE := hid h2
  clear HP h1
  have HC6 : Hid (∀ W, Gr wp W → Calls Tryz.prog 8 #[.agg #[.int .i64 2, .int .i64 1, .int .i64 30, .int .i64 10], .agg #[.int .i64 4, .slice A4 n4 c4, .int .u8 2, .int .i64 14000, .int .i64 14100, .string ⟨#[]⟩, .bool false, .slice B4 m4 d4], .agg #[.int .i64 5, .slice A5 n5 c5, .int .u8 1, .int .i64 5000, .int .i64 5000, .string ⟨#[57, 56, 55, 54, 53, 52, 51, 50, 49]⟩, .bool false, .slice B5 m5 d5]] W fun e w' => e = .returned (.tuple #[.agg #[.int .u8 3, .int .u8 1, .int .u8 0, .int .u8 1, .int .u8 0], .int .i64 0]) ∧ Gr W w') := fun W g => by
    have h := compareTop_any exR ex4 ex5 A4 n4 c4 B4 m4 d4 A5 n5 c5 B5 m5 d5 W ((HE.out ⟨ex4, A4, n4, c4, B4, m4, d4⟩ (by simp)).at_.gr g) ((HE.out ⟨ex5, A5, n5, c5, B5, m5, d5⟩ (by simp)).at_.gr g) (HE.out ⟨ex4, A4, n4, c4, B4, m4, d4⟩ (by simp)).cap (HE.out ⟨ex5, A5, n5, c5, B5, m5, d5⟩ (by simp)).cap (HE.out ⟨ex4, A4, n4, c4, B4, m4, d4⟩ (by simp)).sfx (HE.out ⟨ex5, A5, n5, c5, B5, m5, d5⟩ (by simp)).sfx
    rw [ex_cmp45.1, ex_cmp45.2] at h
    exact h
  have HC7 : Hid (∀ W, Gr wp W → Calls Tryz.prog 8 #[.agg #[.int .i64 2, .int .i64 1, .int .i64 30, .int .i64 10], .agg #[.int .i64 1, .slice A1 n1 c1, .int .u8 0, .int .i64 5000, .int .i64 5000, .string ⟨#[49, 50, 51, 52, 53, 54, 55, 56, 57]⟩, .bool false, .slice B1 m1 d1], .agg #[.int .i64 5, .slice A5 n5 c5, .int .u8 1, .int .i64 5000, .int .i64 5000, .string ⟨#[57, 56, 55, 54, 53, 52, 51, 50, 49]⟩, .bool false, .slice B5 m5 d5]] W fun e w' => e = .returned (.tuple #[.agg #[.int .u8 3, .int .u8 0, .int .u8 3, .int .u8 1, .int .u8 0], .int .i64 0]) ∧ Gr W w') := fun W g => by
    have h := compareTop_any exR ex1 ex5 A1 n1 c1 B1 m1 d1 A5 n5 c5 B5 m5 d5 W ((HE.out ⟨ex1, A1, n1, c1, B1, m1, d1⟩ (by simp)).at_.gr g) ((HE.out ⟨ex5, A5, n5, c5, B5, m5, d5⟩ (by simp)).at_.gr g) (HE.out ⟨ex1, A1, n1, c1, B1, m1, d1⟩ (by simp)).cap (HE.out ⟨ex5, A5, n5, c5, B5, m5, d5⟩ (by simp)).cap (HE.out ⟨ex1, A1, n1, c1, B1, m1, d1⟩ (by simp)).sfx (HE.out ⟨ex5, A5, n5, c5, B5, m5, d5⟩ (by simp)).sfx
    rw [ex_cmp15.1, ex_cmp15.2] at h
    exact h
  have HC11 : Hid (∀ W, Gr wp W → Calls Tryz.prog 8 #[.agg #[.int .i64 0, .int .i64 0, .int .i64 0, .int .i64 0], .agg #[.int .i64 1, .slice A1 n1 c1, .int .u8 0, .int .i64 5000, .int .i64 5000, .string ⟨#[49, 50, 51, 52, 53, 54, 55, 56, 57]⟩, .bool false, .slice B1 m1 d1], .agg #[.int .i64 2, .slice A2 n2 c2, .int .u8 0, .int .i64 5000, .int .i64 5000, .string ⟨#[49, 50, 51, 52, 53, 54, 55, 56, 48]⟩, .bool false, .slice B2 m2 d2]] W fun e w' => e = .returned (.tuple #[.agg #[.int .u8 0, .int .u8 0, .int .u8 0, .int .u8 0, .int .u8 0], .int .i64 10]) ∧ Gr W w') := fun W g => by
    have h := compareTop_any exZ ex1 ex2 A1 n1 c1 B1 m1 d1 A2 n2 c2 B2 m2 d2 W ((HE.out ⟨ex1, A1, n1, c1, B1, m1, d1⟩ (by simp)).at_.gr g) ((HE.out ⟨ex2, A2, n2, c2, B2, m2, d2⟩ (by simp)).at_.gr g) (HE.out ⟨ex1, A1, n1, c1, B1, m1, d1⟩ (by simp)).cap (HE.out ⟨ex2, A2, n2, c2, B2, m2, d2⟩ (by simp)).cap (HE.out ⟨ex1, A1, n1, c1, B1, m1, d1⟩ (by simp)).sfx (HE.out ⟨ex2, A2, n2, c2, B2, m2, d2⟩ (by simp)).sfx
    rw [ex_cmpZ.1, ex_cmpZ.2] at h
    exact h
  have HC12 : Hid (∀ W, Gr wp W → Calls Tryz.prog 8 #[.agg #[.int .i64 2, .int .i64 1, .int .i64 30, .int .i64 10], .agg #[.int .i64 1, .slice A1 n1 c1, .int .u8 0, .int .i64 5000, .int .i64 5000, .string ⟨#[49, 50, 51, 52, 53, 54, 55, 56, 57]⟩, .bool false, .slice B1 m1 d1], .agg #[.int .i64 0, .slice none 0 0, .int .u8 0, .int .i64 0, .int .i64 0, .string ⟨#[]⟩, .bool false, .slice none 0 0]] W fun e w' => e = .returned (.tuple #[.agg #[.int .u8 0, .int .u8 0, .int .u8 0, .int .u8 0, .int .u8 0], .int .i64 11]) ∧ Gr W w') := fun W g => by
    have h := compareTop_any exR ex1 exN A1 n1 c1 B1 m1 d1 none 0 0 none 0 0 W ((HE.out ⟨ex1, A1, n1, c1, B1, m1, d1⟩ (by simp)).at_.gr g) (elN_in W).at_ (HE.out ⟨ex1, A1, n1, c1, B1, m1, d1⟩ (by simp)).cap (elN_in W).cap (HE.out ⟨ex1, A1, n1, c1, B1, m1, d1⟩ (by simp)).sfx (elN_in W).sfx
    rw [ex_cmpN.1, ex_cmpN.2] at h
    exact h
  have HHO : Hid (∀ W, Gr wp W → Calls Tryz.prog 11 #[.slice (some ⟨b, 0, none⟩) 5 5, .int .i64 (-1)] W fun e w' => ∃ v, e = .returned (.tuple #[v, .int .i64 2]) ∧ Gr W w') := fun W g => by
    have h := homes_any [⟨ex1, A1, n1, c1, B1, m1, d1⟩, ⟨ex2, A2, n2, c2, B2, m2, d2⟩, ⟨ex3, A3, n3, c3, B3, m3, d3⟩, ⟨ex4, A4, n4, c4, B4, m4, d4⟩, ⟨ex5, A5, n5, c5, B5, m5, d5⟩] (-1) (some ⟨b, 0, none⟩) 5 W (HRE.out.gr g) (fun e he => (HE.out e he).gr g) (by show 5 ≤ 9223372036854775807; omega)
    have e : [⟨ex1, A1, n1, c1, B1, m1, d1⟩, ⟨ex2, A2, n2, c2, B2, m2, d2⟩, ⟨ex3, A3, n3, c3, B3, m3, d3⟩, ⟨ex4, A4, n4, c4, B4, m4, d4⟩, ⟨ex5, A5, n5, c5, B5, m5, d5⟩].map (fun x : Elt => x.r) = exL := rfl
    rw [e, ex_home0.1, ex_home0.2] at h
    exact h.mono fun e w' ⟨v, k1, _, k2⟩ => ⟨v, k1, k2⟩
  have S1 : (wp.cell? ⟨b, 0, none⟩ = some (.int .i64 1) ∧ wp.cell? ⟨b, 1, none⟩ = some (.slice A1 n1 c1) ∧ wp.cell? ⟨b, 2, none⟩ = some (.int .u8 0) ∧ wp.cell? ⟨b, 3, none⟩ = some (.int .i64 5000) ∧ wp.cell? ⟨b, 4, none⟩ = some (.int .i64 5000) ∧ wp.cell? ⟨b, 5, none⟩ = some (.string ⟨#[49, 50, 51, 52, 53, 54, 55, 56, 57]⟩) ∧ wp.cell? ⟨b, 6, none⟩ = some (.bool false) ∧ wp.cell? ⟨b, 7, none⟩ = some (.slice B1 m1 d1)) := by
    obtain ⟨b', off, e, _, hh⟩ := h2.2 (by omega)
    obtain ⟨rfl, rfl⟩ : b = b' ∧ 0 = off := by simpa using e
    exact holds8_at (hh 0 ⟨ex1, A1, n1, c1, B1, m1, d1⟩ rfl) rfl rfl rfl rfl rfl rfl rfl rfl
  have S2 : (wp.cell? ⟨b, 8, none⟩ = some (.int .i64 2) ∧ wp.cell? ⟨b, 9, none⟩ = some (.slice A2 n2 c2) ∧ wp.cell? ⟨b, 10, none⟩ = some (.int .u8 0) ∧ wp.cell? ⟨b, 11, none⟩ = some (.int .i64 5000) ∧ wp.cell? ⟨b, 12, none⟩ = some (.int .i64 5000) ∧ wp.cell? ⟨b, 13, none⟩ = some (.string ⟨#[49, 50, 51, 52, 53, 54, 55, 56, 48]⟩) ∧ wp.cell? ⟨b, 14, none⟩ = some (.bool false) ∧ wp.cell? ⟨b, 15, none⟩ = some (.slice B2 m2 d2)) := by
    obtain ⟨b', off, e, _, hh⟩ := h2.2 (by omega)
    obtain ⟨rfl, rfl⟩ : b = b' ∧ 0 = off := by simpa using e
    exact holds8_at (hh 1 ⟨ex2, A2, n2, c2, B2, m2, d2⟩ rfl) rfl rfl rfl rfl rfl rfl rfl rfl
  have S4 : (wp.cell? ⟨b, 24, none⟩ = some (.int .i64 4) ∧ wp.cell? ⟨b, 25, none⟩ = some (.slice A4 n4 c4) ∧ wp.cell? ⟨b, 26, none⟩ = some (.int .u8 2) ∧ wp.cell? ⟨b, 27, none⟩ = some (.int .i64 14000) ∧ wp.cell? ⟨b, 28, none⟩ = some (.int .i64 14100) ∧ wp.cell? ⟨b, 29, none⟩ = some (.string ⟨#[]⟩) ∧ wp.cell? ⟨b, 30, none⟩ = some (.bool false) ∧ wp.cell? ⟨b, 31, none⟩ = some (.slice B4 m4 d4)) := by
    obtain ⟨b', off, e, _, hh⟩ := h2.2 (by omega)
    obtain ⟨rfl, rfl⟩ : b = b' ∧ 0 = off := by simpa using e
    exact holds8_at (hh 3 ⟨ex4, A4, n4, c4, B4, m4, d4⟩ rfl) rfl rfl rfl rfl rfl rfl rfl rfl
  have S5 : (wp.cell? ⟨b, 32, none⟩ = some (.int .i64 5) ∧ wp.cell? ⟨b, 33, none⟩ = some (.slice A5 n5 c5) ∧ wp.cell? ⟨b, 34, none⟩ = some (.int .u8 1) ∧ wp.cell? ⟨b, 35, none⟩ = some (.int .i64 5000) ∧ wp.cell? ⟨b, 36, none⟩ = some (.int .i64 5000) ∧ wp.cell? ⟨b, 37, none⟩ = some (.string ⟨#[57, 56, 55, 54, 53, 52, 51, 50, 49]⟩) ∧ wp.cell? ⟨b, 38, none⟩ = some (.bool false) ∧ wp.cell? ⟨b, 39, none⟩ = some (.slice B5 m5 d5)) := by
    obtain ⟨b', off, e, _, hh⟩ := h2.2 (by omega)
    obtain ⟨rfl, rfl⟩ : b = b' ∧ 0 = off := by simpa using e
    exact holds8_at (hh 4 ⟨ex5, A5, n5, c5, B5, m5, d5⟩ rfl) rfl rfl rfl rfl rfl rfl rfl rfl
  clear h2 h3
  have HG1 := hid (hbwa.trans hbw1)
  have HGP := hid (hbw0.trans HBP.out)
  clear hcw0 hfw0 hzw0 hcwa hfwa hzwa hcw1 hfw1 hzw1 hbw0 hbwa hbw1 HBP HED1 HED2 HAL HER
  go_cut [6, 7] (fun s6 s7 wx => ∃ gm : Nat, s6 = .pointer (some ⟨gm, 0, none⟩) ∧ s7 = .int .i64 0 ∧ Gr w1 wx ∧ wx.heap[gm]? = some (.cells #[.int .u8 3, .int .u8 1, .int .u8 0, .int .u8 1, .int .u8 0] 30 (0, 0)))
  case first => as_aux_lemma =>
    have KS : Hid (∀ W, Gr w1 W → (W.cell? ⟨b, 24, none⟩ = some (.int .i64 4) ∧ W.cell? ⟨b, 25, none⟩ = some (.slice A4 n4 c4) ∧ W.cell? ⟨b, 26, none⟩ = some (.int .u8 2) ∧ W.cell? ⟨b, 27, none⟩ = some (.int .i64 14000) ∧ W.cell? ⟨b, 28, none⟩ = some (.int .i64 14100) ∧ W.cell? ⟨b, 29, none⟩ = some (.string ⟨#[]⟩) ∧ W.cell? ⟨b, 30, none⟩ = some (.bool false) ∧ W.cell? ⟨b, 31, none⟩ = some (.slice B4 m4 d4)) ∧ (W.cell? ⟨b, 32, none⟩ = some (.int .i64 5) ∧ W.cell? ⟨b, 33, none⟩ = some (.slice A5 n5 c5) ∧ W.cell? ⟨b, 34, none⟩ = some (.int .u8 1) ∧ W.cell? ⟨b, 35, none⟩ = some (.int .i64 5000) ∧ W.cell? ⟨b, 36, none⟩ = some (.int .i64 5000) ∧ W.cell? ⟨b, 37, none⟩ = some (.string ⟨#[57, 56, 55, 54, 53, 52, 51, 50, 49]⟩) ∧ W.cell? ⟨b, 38, none⟩ = some (.bool false) ∧ W.cell? ⟨b, 39, none⟩ = some (.slice B5 m5 d5))) := fun W g => ⟨keep8o S4 (HG1.out.trans g), keep8o S5 (HG1.out.trans g)⟩
    clear S1 S2 S4 S5 HE HRE HP6 HP25 HPO HHO HC7 HC11 HC12
    go_region_held3 (fun W => (W.cell? ⟨b, 24, none⟩ = some (.int .i64 4) ∧ W.cell? ⟨b, 25, none⟩ = some (.slice A4 n4 c4) ∧ W.cell? ⟨b, 26, none⟩ = some (.int .u8 2) ∧ W.cell? ⟨b, 27, none⟩ = some (.int .i64 14000) ∧ W.cell? ⟨b, 28, none⟩ = some (.int .i64 14100) ∧ W.cell? ⟨b, 29, none⟩ = some (.string ⟨#[]⟩) ∧ W.cell? ⟨b, 30, none⟩ = some (.bool false) ∧ W.cell? ⟨b, 31, none⟩ = some (.slice B4 m4 d4)) ∧ (W.cell? ⟨b, 32, none⟩ = some (.int .i64 5) ∧ W.cell? ⟨b, 33, none⟩ = some (.slice A5 n5 c5) ∧ W.cell? ⟨b, 34, none⟩ = some (.int .u8 1) ∧ W.cell? ⟨b, 35, none⟩ = some (.int .i64 5000) ∧ W.cell? ⟨b, 36, none⟩ = some (.int .i64 5000) ∧ W.cell? ⟨b, 37, none⟩ = some (.string ⟨#[57, 56, 55, 54, 53, 52, 51, 50, 49]⟩) ∧ W.cell? ⟨b, 38, none⟩ = some (.bool false) ∧ W.cell? ⟨b, 39, none⟩ = some (.slice B5 m5 d5)))
      (((with_reducible refine KS.out _ ?_); (repeat' (first | with_reducible exact q2 | with_reducible exact q1 | with_reducible exact Gr.refl _ | with_reducible refine Gr.alloc ?_ _ | with_reducible refine Gr.drew ?_ | ((with_reducible refine set5_gr q2 ?_ _ _ _ _ _); first | exact q1.size | exact q2.size | exact Nat.le_refl _)))))
      (first
        | (go_at_call 9; refine (HRU.out _).mono ?_; rintro e u1 ⟨rfl, hk1⟩; have q1 : Gr w1 u1 := Gr.trans (by (repeat (first | with_reducible exact q2 | with_reducible exact q1 | with_reducible exact Gr.refl _ | with_reducible refine Gr.alloc ?_ _ | with_reducible refine Gr.drew ?_))) hk1; obtain ⟨hc1, hf1, hz1⟩ := hk1.rules; (try simp at hz1); (try have y01 : w1.heap.size < u1.heap.size := by omega))
        | (go_at_call 8; refine (HC6.out _ (HG1.out.trans (by (repeat (first | with_reducible exact q2 | with_reducible exact q1 | with_reducible exact Gr.refl _ | with_reducible refine Gr.alloc ?_ _ | with_reducible refine Gr.drew ?_))))).mono ?_; rintro e u2 ⟨rfl, hk2⟩; have q2 : Gr w1 u2 := Gr.trans (by (repeat (first | with_reducible exact q2 | with_reducible exact q1 | with_reducible exact Gr.refl _ | with_reducible refine Gr.alloc ?_ _ | with_reducible refine Gr.drew ?_))) hk2; obtain ⟨hc2, hf2, hz2⟩ := hk2.rules; (try simp at hz2); (try have y02 : w1.heap.size < u2.heap.size := by omega); (try have y12 : u1.heap.size < u2.heap.size := by omega)))
    · go_wp2_with fail
      go_meet
      exact ⟨_, rfl, rfl, Gr.alloc q2 _, heap_alloc_new _ _⟩
    · go_wp2_with fail
      go_meet
      exact ⟨_, rfl, rfl, set5_gr q2 q1.size _ _ _ _ _, set5_row (row_gr (heap_alloc_new u1 _) hk2)⟩
    · go_wp2_with fail
      go_meet
      exact ⟨_, rfl, rfl, set5_gr q2 (Nat.le_refl _) _ _ _ _ _, set5_row (row_gr (row_gr (show (w1.alloc _).drew.heap[w1.heap.size]? = _ from heap_alloc_new w1 _) hk1) hk2)⟩
  case rest =>
    obtain ⟨g6, rfl, rfl, GC6, F6⟩ := hcut
    obtain ⟨W6, rfl⟩ : ∃ W6 : World, W6 = wc := ⟨_, rfl⟩
    have HG6 := hid (HG1.out.trans GC6)
    have HF6 := hid F6
    have HX6 := hid GC6
    clear F6 GC6
    go_upto_region 7 with fail
    go_cut [8, 9] (fun s8 s9 wx => ∃ gm : Nat, s8 = .pointer (some ⟨gm, 0, none⟩) ∧ s9 = .int .i64 0 ∧ Gr W6 wx ∧ wx.heap[gm]? = some (.cells #[.int .u8 3, .int .u8 0, .int .u8 3, .int .u8 1, .int .u8 0] 30 (0, 0)))
    case first => as_aux_lemma =>
      have KS : Hid (∀ W, Gr W6 W → (W.cell? ⟨b, 0, none⟩ = some (.int .i64 1) ∧ W.cell? ⟨b, 1, none⟩ = some (.slice A1 n1 c1) ∧ W.cell? ⟨b, 2, none⟩ = some (.int .u8 0) ∧ W.cell? ⟨b, 3, none⟩ = some (.int .i64 5000) ∧ W.cell? ⟨b, 4, none⟩ = some (.int .i64 5000) ∧ W.cell? ⟨b, 5, none⟩ = some (.string ⟨#[49, 50, 51, 52, 53, 54, 55, 56, 57]⟩) ∧ W.cell? ⟨b, 6, none⟩ = some (.bool false) ∧ W.cell? ⟨b, 7, none⟩ = some (.slice B1 m1 d1)) ∧ (W.cell? ⟨b, 32, none⟩ = some (.int .i64 5) ∧ W.cell? ⟨b, 33, none⟩ = some (.slice A5 n5 c5) ∧ W.cell? ⟨b, 34, none⟩ = some (.int .u8 1) ∧ W.cell? ⟨b, 35, none⟩ = some (.int .i64 5000) ∧ W.cell? ⟨b, 36, none⟩ = some (.int .i64 5000) ∧ W.cell? ⟨b, 37, none⟩ = some (.string ⟨#[57, 56, 55, 54, 53, 52, 51, 50, 49]⟩) ∧ W.cell? ⟨b, 38, none⟩ = some (.bool false) ∧ W.cell? ⟨b, 39, none⟩ = some (.slice B5 m5 d5))) := fun W g => ⟨keep8o S1 (HG6.out.trans g), keep8o S5 (HG6.out.trans g)⟩
      clear S1 S2 S4 S5 HE HRE HP6 HP25 HPO HHO HC6 HC11 HC12 HF6 HX6 HG1
      go_region_held3 (fun W => (W.cell? ⟨b, 0, none⟩ = some (.int .i64 1) ∧ W.cell? ⟨b, 1, none⟩ = some (.slice A1 n1 c1) ∧ W.cell? ⟨b, 2, none⟩ = some (.int .u8 0) ∧ W.cell? ⟨b, 3, none⟩ = some (.int .i64 5000) ∧ W.cell? ⟨b, 4, none⟩ = some (.int .i64 5000) ∧ W.cell? ⟨b, 5, none⟩ = some (.string ⟨#[49, 50, 51, 52, 53, 54, 55, 56, 57]⟩) ∧ W.cell? ⟨b, 6, none⟩ = some (.bool false) ∧ W.cell? ⟨b, 7, none⟩ = some (.slice B1 m1 d1)) ∧ (W.cell? ⟨b, 32, none⟩ = some (.int .i64 5) ∧ W.cell? ⟨b, 33, none⟩ = some (.slice A5 n5 c5) ∧ W.cell? ⟨b, 34, none⟩ = some (.int .u8 1) ∧ W.cell? ⟨b, 35, none⟩ = some (.int .i64 5000) ∧ W.cell? ⟨b, 36, none⟩ = some (.int .i64 5000) ∧ W.cell? ⟨b, 37, none⟩ = some (.string ⟨#[57, 56, 55, 54, 53, 52, 51, 50, 49]⟩) ∧ W.cell? ⟨b, 38, none⟩ = some (.bool false) ∧ W.cell? ⟨b, 39, none⟩ = some (.slice B5 m5 d5)))
        (((with_reducible refine KS.out _ ?_); (repeat' (first | with_reducible exact q2 | with_reducible exact q1 | with_reducible exact Gr.refl _ | with_reducible refine Gr.alloc ?_ _ | with_reducible refine Gr.drew ?_ | ((with_reducible refine set5_gr q2 ?_ _ _ _ _ _); first | exact q1.size | exact q2.size | exact Nat.le_refl _)))))
        (first
          | (go_at_call 9; refine (HRU.out _).mono ?_; rintro e u1 ⟨rfl, hk1⟩; have q1 : Gr W6 u1 := Gr.trans (by (repeat (first | with_reducible exact q2 | with_reducible exact q1 | with_reducible exact Gr.refl _ | with_reducible refine Gr.alloc ?_ _ | with_reducible refine Gr.drew ?_))) hk1; obtain ⟨hc1, hf1, hz1⟩ := hk1.rules; (try simp at hz1); (try have y01 : W6.heap.size < u1.heap.size := by omega))
          | (go_at_call 8; refine (HC7.out _ (HG6.out.trans (by (repeat (first | with_reducible exact q2 | with_reducible exact q1 | with_reducible exact Gr.refl _ | with_reducible refine Gr.alloc ?_ _ | with_reducible refine Gr.drew ?_))))).mono ?_; rintro e u2 ⟨rfl, hk2⟩; have q2 : Gr W6 u2 := Gr.trans (by (repeat (first | with_reducible exact q2 | with_reducible exact q1 | with_reducible exact Gr.refl _ | with_reducible refine Gr.alloc ?_ _ | with_reducible refine Gr.drew ?_))) hk2; obtain ⟨hc2, hf2, hz2⟩ := hk2.rules; (try simp at hz2); (try have y02 : W6.heap.size < u2.heap.size := by omega); (try have y12 : u1.heap.size < u2.heap.size := by omega)))
      · go_wp2_with fail
        go_meet
        exact ⟨_, rfl, rfl, Gr.alloc q2 _, heap_alloc_new _ _⟩
      · go_wp2_with fail
        go_meet
        exact ⟨_, rfl, rfl, set5_gr q2 q1.size _ _ _ _ _, set5_row (row_gr (heap_alloc_new u1 _) hk2)⟩
      · go_wp2_with fail
        go_meet
        exact ⟨_, rfl, rfl, set5_gr q2 (Nat.le_refl _) _ _ _ _ _, set5_row (row_gr (row_gr (show (W6.alloc _).drew.heap[W6.heap.size]? = _ from heap_alloc_new W6 _) hk1) hk2)⟩
    case rest =>
      obtain ⟨g7, rfl, rfl, GC7, F7⟩ := hcut
      obtain ⟨W7, rfl⟩ : ∃ W7 : World, W7 = wc := ⟨_, rfl⟩
      have HG7 := hid (HG6.out.trans GC7)
      have HF7 := hid F7
      have HX7 := hid GC7
      clear F7 GC7
      go_upto_region 8 with fail
      go_cut [12] (fun s12 wx => s12 = .int .i64 12 ∧ Gr W7 wx)
      case first => as_aux_lemma =>
        have KS : Hid (∀ W, Gr W7 W → (W.cell? ⟨b, 0, none⟩ = some (.int .i64 1) ∧ W.cell? ⟨b, 1, none⟩ = some (.slice A1 n1 c1) ∧ W.cell? ⟨b, 2, none⟩ = some (.int .u8 0) ∧ W.cell? ⟨b, 3, none⟩ = some (.int .i64 5000) ∧ W.cell? ⟨b, 4, none⟩ = some (.int .i64 5000) ∧ W.cell? ⟨b, 5, none⟩ = some (.string ⟨#[49, 50, 51, 52, 53, 54, 55, 56, 57]⟩) ∧ W.cell? ⟨b, 6, none⟩ = some (.bool false) ∧ W.cell? ⟨b, 7, none⟩ = some (.slice B1 m1 d1))) := fun W g => keep8o S1 (HG7.out.trans g)
        have E1 : Hid (EltIn W7 ⟨ex1, A1, n1, c1, B1, m1, d1⟩) := (HE.out ⟨ex1, A1, n1, c1, B1, m1, d1⟩ (by simp)).gr HG7.out
        obtain ⟨i0, hi0, hz0, hs0, hy0⟩ := info_parts info_rec
        have HI0 := hid hi0
        have HZ0 := hid hz0
        have HS0 := hid hs0
        have HY0 := hid hy0
        clear S1 S2 S4 S5 HE HRE HP25 HHO HC6 HC7 HC11 HC12 HF6 HX6 HF7 HX7 HG1 HG6 hi0 hz0 hs0 hy0
        obtain ⟨s0, s1, s2, s3, s4, s5, s6, s7⟩ := KS.out W7 (Gr.refl _)
        obtain ⟨nu, hnu⟩ : ∃ nu : ByteArray, nu = ⟨#[49, 50, 51, 52, 53, 54, 55, 56, 57]⟩ := ⟨_, rfl⟩
        rw [← hnu] at s5
        have HNU := hid hnu
        clear hnu
        have t0 := GrW.cell s0
        have t1 := GrW.cell s1
        have t2 := GrW.cell s2
        have t3 := GrW.cell s3
        have t4 := GrW.cell s4
        have t5 := GrW.cell s5
        have t6 := GrW.cell s6
        have t7 := GrW.cell s7
        refine wp_region_planT (C := fun w' => ∃ p : GrW W7, w' = p.W) (.take 2 (.take 3 (.take 4 (.two 0 (.two 1 (.one 5 (.one 6 (.one 7 (.take 8 (.take 9 (.take 10 (.take 11 (.take 12 (.take 13 (.take 14 .done)))))))))) 5 (.one 1 (.one 6 (.one 7 (.take 8 (.take 9 (.take 10 (.take 11 (.take 12 (.take 13 (.take 14 .done))))))))))) 5 (.one 0 (.one 1 (.one 6 (.one 7 (.take 8 (.take 9 (.take 10 (.take 11 (.take 12 (.take 13 (.take 14 .done))))))))))))))) (by rfl) (by kernel_rfl) (by kernel_rfl) ⟨⟨_, (Gr.refl W7).drew⟩, rfl⟩ ?_
        (iterate 3 ((refine plan_readT rfl rfl (fun K hK => ?_)); go_big_quiet_op; (with_reducible refine hK _ ?_); clear hK K))
        clear s0 t0 s1 t1 s2 t2 s3 t3 s4 t4 s5 t5 s6 t6 s7 t7
        have G0 := hid (show Gr W7 W7.drew from (Gr.refl W7).drew)
        refine plan_twoT ?_ ?_
        · refine plan_oneT rfl (fun K hK => ?_)
          go_simp
          refine (HRU.out _).mono ?_
          rintro e u1 ⟨rfl, hk⟩
          have G1 := hid (show Gr W7 u1 from G0.out.trans hk)
          refine hK.out _ _ ⟨⟨_, G1.out⟩, rfl⟩ ?_
          clear hK K
          (try simp only [Act.put, List.setIfInBounds_toArray, List.set_cons_zero, List.set_cons_succ])
          refine plan_twoT ?_ ?_
          · refine plan_oneT rfl (fun K hK => ?_)
            go_simp
            refine (HPO.out _).mono ?_
            rintro e u2 ⟨bq, qs, rfl, l5, ho, he, hm, hk⟩
            have G2 := hid (show Gr W7 u2 from G1.out.trans hk)
            have HO := hid (own_low1 ho (show W7.heap.size ≤ _ from G1.out.size))
            have HEQ := hid he
            have HMQ := hid hm
            have HL5 := hid l5
            have P2 := hid (Gr.refl u2)
            clear ho he hm l5
            refine hK.out _ _ ⟨⟨_, G2.out⟩, rfl⟩ ?_
            clear hK K
            (try simp only [Act.put, List.setIfInBounds_toArray, List.set_cons_zero, List.set_cons_succ])
            refine plan_oneT rfl (fun K hK => ?_)
            refine wp_buildSlice 25 41 1 #[(0, .tmp 66)] rfl #[.int .i64 1, .slice A1 n1 c1, .int .u8 0, .int .i64 5000, .int .i64 5000, .string nu, .bool false, .slice B1 m1 d1] i0 (.agg #[.int .i64 0, .slice none 0 0, .int .u8 0, .int .i64 0, .int .i64 0, .string ByteArray.empty, .bool false, .slice none 0 0]) Tryz.underlying25 HI0.out HZ0.out (by rw [HS0.out]; decide) (by rw [HS0.out]; decide) (by rw [HS0.out, Array.toList_map]; exact fill_one8 _ _ _ _ _ _ _ _ _) ?_
            have G3 := hid (show Gr W7 ((u2).alloc (.cells #[.int .i64 1, .slice A1 n1 c1, .int .u8 0, .int .i64 5000, .int .i64 5000, .string nu, .bool false, .slice B1 m1 d1] 41)) from G2.out.alloc _)
            have R3 := hid (heap_alloc_new (u2) (.cells #[.int .i64 1, .slice A1 n1 c1, .int .u8 0, .int .i64 5000, .int .i64 5000, .string nu, .bool false, .slice B1 m1 d1] 41))
            have P3 := hid (show Gr u2 ((u2).alloc (.cells #[.int .i64 1, .slice A1 n1 c1, .int .u8 0, .int .i64 5000, .int .i64 5000, .string nu, .bool false, .slice B1 m1 d1] 41)) from P2.out.alloc _)
            refine hK.out _ _ ⟨⟨_, G3.out⟩, rfl⟩ ?_
            clear hK K
            (try simp only [Act.put, List.setIfInBounds_toArray, List.set_cons_zero, List.set_cons_succ])
            refine plan_oneT rfl (fun K hK => ?_)
            refine wp_append_rd (.tmp 63) (.tmp 67) 25 rfl W7.heap.size 41 i0 (.agg #[.int .i64 0, .slice none 0 0, .int .u8 0, .int .i64 0, .int .i64 0, .string ByteArray.empty, .bool false, .slice none 0 0]) 8 104 Tryz.underlying25 HI0.out HZ0.out HS0.out HY0.out rfl (by decide) _ _ _ rfl (own_gr2 HO.out P3.out) (some ⟨(u2).heap.size, 0, none⟩) 1 1 [.int .i64 1, .slice A1 n1 c1, .int .u8 0, .int .i64 5000, .int .i64 5000, .string nu, .bool false, .slice B1 m1 d1] rfl (Rd.of_row R3.out rfl rfl) (fun u hu => by rw [HNU.out] at hu; exact Elt.one ⟨ex1, A1, n1, c1, B1, m1, d1⟩ u hu) (by have : maxLen = 9223372036854775807 := rfl; omega) (by omega) G3.out.size ?_
            intro AX cX u4 hown hgrow hbel
            have G4 := hid (show Gr W7 u4 from Below.trans G3.out hbel)
            have Q4 : Hid (RecsIn u4 AX 6 (qs ++ [⟨ex1, A1, n1, c1, B1, m1, d1⟩])) := by
              rw [HNU.out] at hown
              refine ⟨by rw [List.flatMap_append]; exact Rd.of_own hown, by omega, fun e he => ?_⟩
              rcases List.mem_append.1 he with h | h
              · exact ((HEQ.out e h).1.gr P3.out).grown hgrow (HEQ.out e h).2
              · rw [List.mem_singleton.1 h]; exact E1.out.gr G4.out
            clear hown hgrow hbel
            refine hK.out _ _ ⟨⟨_, G4.out⟩, rfl⟩ ?_
            clear hK K
            (try simp only [Act.put, List.setIfInBounds_toArray, List.set_cons_zero, List.set_cons_succ])
            refine plan_oneT rfl (fun K hK => ?_)
            go_simp
            refine (HP6.out _ _ _ _ Q4.out (by rw [List.map_append, HMQ.out]; rfl)).mono ?_
            rintro e u5 ⟨v1, v2, rfl, hk⟩
            have G5 := hid (show Gr W7 u5 from G4.out.trans hk)
            refine hK.out _ _ ⟨⟨_, G5.out⟩, rfl⟩ ?_
            clear hK K
            (try simp only [Act.put, List.setIfInBounds_toArray, List.set_cons_zero, List.set_cons_succ])
            (iterate 7 ((refine plan_readT rfl rfl (fun K hK => ?_)); go_big_quiet_op; (with_reducible refine hK _ ?_); clear hK K))
            (with_reducible refine plan_doneT ?_)
            go_wp2
            go_meet
            exact ⟨rfl, G5.out⟩
          · refine plan_oneT rfl (fun K hK => ?_)
            refine wp_buildSlice 25 41 1 #[(0, .tmp 66)] rfl #[.int .i64 1, .slice A1 n1 c1, .int .u8 0, .int .i64 5000, .int .i64 5000, .string nu, .bool false, .slice B1 m1 d1] i0 (.agg #[.int .i64 0, .slice none 0 0, .int .u8 0, .int .i64 0, .int .i64 0, .string ByteArray.empty, .bool false, .slice none 0 0]) Tryz.underlying25 HI0.out HZ0.out (by rw [HS0.out]; decide) (by rw [HS0.out]; decide) (by rw [HS0.out, Array.toList_map]; exact fill_one8 _ _ _ _ _ _ _ _ _) ?_
            have G2 := hid (show Gr W7 ((u1).alloc (.cells #[.int .i64 1, .slice A1 n1 c1, .int .u8 0, .int .i64 5000, .int .i64 5000, .string nu, .bool false, .slice B1 m1 d1] 41)) from G1.out.alloc _)
            have R2 := hid (heap_alloc_new (u1) (.cells #[.int .i64 1, .slice A1 n1 c1, .int .u8 0, .int .i64 5000, .int .i64 5000, .string nu, .bool false, .slice B1 m1 d1] 41))
            refine hK.out _ _ ⟨⟨_, G2.out⟩, rfl⟩ ?_
            clear hK K
            (try simp only [Act.put, List.setIfInBounds_toArray, List.set_cons_zero, List.set_cons_succ])
            refine plan_oneT rfl (fun K hK => ?_)
            go_simp
            refine (HPO.out _).mono ?_
            rintro e u3 ⟨bq, qs, rfl, l5, ho, he, hm, hk⟩
            have G3 := hid (show Gr W7 u3 from G2.out.trans hk)
            have HO := hid (own_low1 ho (show W7.heap.size ≤ _ from G2.out.size))
            have HEQ := hid he
            have HMQ := hid hm
            have HL5 := hid l5
            have P3 := hid (Gr.refl u3)
            have R3 := hid (row_gr R2.out hk)
            clear ho he hm l5
            refine hK.out _ _ ⟨⟨_, G3.out⟩, rfl⟩ ?_
            clear hK K
            (try simp only [Act.put, List.setIfInBounds_toArray, List.set_cons_zero, List.set_cons_succ])
            refine plan_oneT rfl (fun K hK => ?_)
            refine wp_append_rd (.tmp 63) (.tmp 67) 25 rfl W7.heap.size 41 i0 (.agg #[.int .i64 0, .slice none 0 0, .int .u8 0, .int .i64 0, .int .i64 0, .string ByteArray.empty, .bool false, .slice none 0 0]) 8 104 Tryz.underlying25 HI0.out HZ0.out HS0.out HY0.out rfl (by decide) _ _ _ rfl (own_gr2 HO.out P3.out) (some ⟨(u1).heap.size, 0, none⟩) 1 1 [.int .i64 1, .slice A1 n1 c1, .int .u8 0, .int .i64 5000, .int .i64 5000, .string nu, .bool false, .slice B1 m1 d1] rfl (Rd.of_row R3.out rfl rfl) (fun u hu => by rw [HNU.out] at hu; exact Elt.one ⟨ex1, A1, n1, c1, B1, m1, d1⟩ u hu) (by have : maxLen = 9223372036854775807 := rfl; omega) (by omega) G3.out.size ?_
            intro AX cX u4 hown hgrow hbel
            have G4 := hid (show Gr W7 u4 from Below.trans G3.out hbel)
            have Q4 : Hid (RecsIn u4 AX 6 (qs ++ [⟨ex1, A1, n1, c1, B1, m1, d1⟩])) := by
              rw [HNU.out] at hown
              refine ⟨by rw [List.flatMap_append]; exact Rd.of_own hown, by omega, fun e he => ?_⟩
              rcases List.mem_append.1 he with h | h
              · exact ((HEQ.out e h).1.gr P3.out).grown hgrow (HEQ.out e h).2
              · rw [List.mem_singleton.1 h]; exact E1.out.gr G4.out
            clear hown hgrow hbel
            refine hK.out _ _ ⟨⟨_, G4.out⟩, rfl⟩ ?_
            clear hK K
            (try simp only [Act.put, List.setIfInBounds_toArray, List.set_cons_zero, List.set_cons_succ])
            refine plan_oneT rfl (fun K hK => ?_)
            go_simp
            refine (HP6.out _ _ _ _ Q4.out (by rw [List.map_append, HMQ.out]; rfl)).mono ?_
            rintro e u5 ⟨v1, v2, rfl, hk⟩
            have G5 := hid (show Gr W7 u5 from G4.out.trans hk)
            refine hK.out _ _ ⟨⟨_, G5.out⟩, rfl⟩ ?_
            clear hK K
            (try simp only [Act.put, List.setIfInBounds_toArray, List.set_cons_zero, List.set_cons_succ])
            (iterate 7 ((refine plan_readT rfl rfl (fun K hK => ?_)); go_big_quiet_op; (with_reducible refine hK _ ?_); clear hK K))
            (with_reducible refine plan_doneT ?_)
            go_wp2
            go_meet
            exact ⟨rfl, G5.out⟩
        · refine plan_oneT rfl (fun K hK => ?_)
          refine wp_buildSlice 25 41 1 #[(0, .tmp 66)] rfl #[.int .i64 1, .slice A1 n1 c1, .int .u8 0, .int .i64 5000, .int .i64 5000, .string nu, .bool false, .slice B1 m1 d1] i0 (.agg #[.int .i64 0, .slice none 0 0, .int .u8 0, .int .i64 0, .int .i64 0, .string ByteArray.empty, .bool false, .slice none 0 0]) Tryz.underlying25 HI0.out HZ0.out (by rw [HS0.out]; decide) (by rw [HS0.out]; decide) (by rw [HS0.out, Array.toList_map]; exact fill_one8 _ _ _ _ _ _ _ _ _) ?_
          have G1 := hid (show Gr W7 ((W7.drew).alloc (.cells #[.int .i64 1, .slice A1 n1 c1, .int .u8 0, .int .i64 5000, .int .i64 5000, .string nu, .bool false, .slice B1 m1 d1] 41)) from G0.out.alloc _)
          have R1 := hid (heap_alloc_new (W7.drew) (.cells #[.int .i64 1, .slice A1 n1 c1, .int .u8 0, .int .i64 5000, .int .i64 5000, .string nu, .bool false, .slice B1 m1 d1] 41))
          refine hK.out _ _ ⟨⟨_, G1.out⟩, rfl⟩ ?_
          clear hK K
          (try simp only [Act.put, List.setIfInBounds_toArray, List.set_cons_zero, List.set_cons_succ])
          refine plan_oneT rfl (fun K hK => ?_)
          go_simp
          refine (HRU.out _).mono ?_
          rintro e u2 ⟨rfl, hk⟩
          have G2 := hid (show Gr W7 u2 from G1.out.trans hk)
          have R2 := hid (row_gr R1.out hk)
          refine hK.out _ _ ⟨⟨_, G2.out⟩, rfl⟩ ?_
          clear hK K
          (try simp only [Act.put, List.setIfInBounds_toArray, List.set_cons_zero, List.set_cons_succ])
          refine plan_oneT rfl (fun K hK => ?_)
          go_simp
          refine (HPO.out _).mono ?_
          rintro e u3 ⟨bq, qs, rfl, l5, ho, he, hm, hk⟩
          have G3 := hid (show Gr W7 u3 from G2.out.trans hk)
          have HO := hid (own_low1 ho (show W7.heap.size ≤ _ from G2.out.size))
          have HEQ := hid he
          have HMQ := hid hm
          have HL5 := hid l5
          have P3 := hid (Gr.refl u3)
          have R3 := hid (row_gr R2.out hk)
          clear ho he hm l5
          refine hK.out _ _ ⟨⟨_, G3.out⟩, rfl⟩ ?_
          clear hK K
          (try simp only [Act.put, List.setIfInBounds_toArray, List.set_cons_zero, List.set_cons_succ])
          refine plan_oneT rfl (fun K hK => ?_)
          refine wp_append_rd (.tmp 63) (.tmp 67) 25 rfl W7.heap.size 41 i0 (.agg #[.int .i64 0, .slice none 0 0, .int .u8 0, .int .i64 0, .int .i64 0, .string ByteArray.empty, .bool false, .slice none 0 0]) 8 104 Tryz.underlying25 HI0.out HZ0.out HS0.out HY0.out rfl (by decide) _ _ _ rfl (own_gr2 HO.out P3.out) (some ⟨(W7.drew).heap.size, 0, none⟩) 1 1 [.int .i64 1, .slice A1 n1 c1, .int .u8 0, .int .i64 5000, .int .i64 5000, .string nu, .bool false, .slice B1 m1 d1] rfl (Rd.of_row R3.out rfl rfl) (fun u hu => by rw [HNU.out] at hu; exact Elt.one ⟨ex1, A1, n1, c1, B1, m1, d1⟩ u hu) (by have : maxLen = 9223372036854775807 := rfl; omega) (by omega) G3.out.size ?_
          intro AX cX u4 hown hgrow hbel
          have G4 := hid (show Gr W7 u4 from Below.trans G3.out hbel)
          have Q4 : Hid (RecsIn u4 AX 6 (qs ++ [⟨ex1, A1, n1, c1, B1, m1, d1⟩])) := by
            rw [HNU.out] at hown
            refine ⟨by rw [List.flatMap_append]; exact Rd.of_own hown, by omega, fun e he => ?_⟩
            rcases List.mem_append.1 he with h | h
            · exact ((HEQ.out e h).1.gr P3.out).grown hgrow (HEQ.out e h).2
            · rw [List.mem_singleton.1 h]; exact E1.out.gr G4.out
          clear hown hgrow hbel
          refine hK.out _ _ ⟨⟨_, G4.out⟩, rfl⟩ ?_
          clear hK K
          (try simp only [Act.put, List.setIfInBounds_toArray, List.set_cons_zero, List.set_cons_succ])
          refine plan_oneT rfl (fun K hK => ?_)
          go_simp
          refine (HP6.out _ _ _ _ Q4.out (by rw [List.map_append, HMQ.out]; rfl)).mono ?_
          rintro e u5 ⟨v1, v2, rfl, hk⟩
          have G5 := hid (show Gr W7 u5 from G4.out.trans hk)
          refine hK.out _ _ ⟨⟨_, G5.out⟩, rfl⟩ ?_
          clear hK K
          (try simp only [Act.put, List.setIfInBounds_toArray, List.set_cons_zero, List.set_cons_succ])
          (iterate 7 ((refine plan_readT rfl rfl (fun K hK => ?_)); go_big_quiet_op; (with_reducible refine hK _ ?_); clear hK K))
          (with_reducible refine plan_doneT ?_)
          go_wp2
          go_meet
          exact ⟨rfl, G5.out⟩
      case rest =>
        obtain ⟨rfl, GC8⟩ := hcut
        obtain ⟨W8, rfl⟩ : ∃ W8 : World, W8 = wc := ⟨_, rfl⟩
        have HG8 := hid (HG7.out.trans GC8)
        have HX8 := hid GC8
        clear GC8
        go_upto_region 9 with fail
        go_cut [15] (fun s15 wx => s15 = .int .i64 4 ∧ Gr W8 wx)
        case first => as_aux_lemma =>
          obtain ⟨i0, hi0, hz0, hs0, hy0⟩ := info_parts info_rec
          have HI0 := hid hi0
          have HZ0 := hid hz0
          have HS0 := hid hs0
          have HY0 := hid hy0
          clear S1 S2 S4 S5 HE HRE HP6 HHO HC6 HC7 HC11 HC12 HF6 HX6 HF7 HX7 HG1 HG6 HX8 HPO hi0 hz0 hs0 hy0
          refine wp_region_planT (C := fun w' => ∃ p : GrW W8, w' = p.W) (.two 0 (.one 1 (.one 2 (.take 3 (.take 4 (.take 5 (.take 6 (.take 7 (.take 8 (.take 9 .done))))))))) 1 (.one 0 (.one 2 (.take 3 (.take 4 (.take 5 (.take 6 (.take 7 (.take 8 (.take 9 .done)))))))))) (by rfl) (by kernel_rfl) (by kernel_rfl) ⟨⟨_, (Gr.refl W8).drew⟩, rfl⟩ ?_
          have G0 := hid (show Gr W8 W8.drew from (Gr.refl W8).drew)
          refine plan_twoT ?_ ?_
          · refine plan_oneT rfl (fun K hK => ?_)
            go_simp
            refine (HRU.out _).mono ?_
            rintro e u1 ⟨rfl, hk⟩
            have G1 := hid (show Gr W8 u1 from G0.out.trans hk)
            refine hK.out _ _ ⟨⟨_, G1.out⟩, rfl⟩ ?_
            clear hK K
            (try simp only [Act.put, List.setIfInBounds_toArray, List.set_cons_zero, List.set_cons_succ])
            refine plan_oneT rfl (fun K hK => ?_)
            refine wp_make8 (u1) _ _ 25 rfl 41 i0 _ Tryz.underlying25 HI0.out HZ0.out HS0.out .i64 25 rfl rfl (by rw [HY0.out]; omega) (by omega) ?_
            have G2 := hid (show Gr W8 (u1.alloc (.cells (madeCells (Value.agg #[.int .i64 0, .slice none 0 0, .int .u8 0, .int .i64 0, .int .i64 0, .string ByteArray.empty, .bool false, .slice none 0 0]).cells (25 * 8)) 41)) from G1.out.alloc _)
            refine hK.out _ _ ⟨⟨_, G2.out⟩, rfl⟩ ?_
            clear hK K
            (try simp only [Act.put, List.setIfInBounds_toArray, List.set_cons_zero, List.set_cons_succ])
            refine plan_oneT rfl (fun K hK => ?_)
            go_simp
            refine (HP25.out _ _ _ (made_recs u1)).mono ?_
            rintro e u3 ⟨v1, v2, rfl, hk⟩
            have G3 := hid (show Gr W8 u3 from G2.out.trans hk)
            refine hK.out _ _ ⟨⟨_, G3.out⟩, rfl⟩ ?_
            clear hK K
            (try simp only [Act.put, List.setIfInBounds_toArray, List.set_cons_zero, List.set_cons_succ])
            (iterate 7 ((refine plan_readT rfl rfl (fun K hK => ?_)); go_big_quiet_op; (with_reducible refine hK _ ?_); clear hK K))
            (with_reducible refine plan_doneT ?_)
            go_wp2
            go_meet
            exact ⟨rfl, G3.out⟩
          · refine plan_oneT rfl (fun K hK => ?_)
            refine wp_make8 (W8.drew) _ _ 25 rfl 41 i0 _ Tryz.underlying25 HI0.out HZ0.out HS0.out .i64 25 rfl rfl (by rw [HY0.out]; omega) (by omega) ?_
            have G1 := hid (show Gr W8 (W8.drew.alloc (.cells (madeCells (Value.agg #[.int .i64 0, .slice none 0 0, .int .u8 0, .int .i64 0, .int .i64 0, .string ByteArray.empty, .bool false, .slice none 0 0]).cells (25 * 8)) 41)) from G0.out.alloc _)
            refine hK.out _ _ ⟨⟨_, G1.out⟩, rfl⟩ ?_
            clear hK K
            (try simp only [Act.put, List.setIfInBounds_toArray, List.set_cons_zero, List.set_cons_succ])
            refine plan_oneT rfl (fun K hK => ?_)
            go_simp
            refine (HRU.out _).mono ?_
            rintro e u2 ⟨rfl, hk⟩
            have G2 := hid (show Gr W8 u2 from G1.out.trans hk)
            refine hK.out _ _ ⟨⟨_, G2.out⟩, rfl⟩ ?_
            have HRB := hid ((made_recs W8.drew).gr hk)
            clear hK K
            (try simp only [Act.put, List.setIfInBounds_toArray, List.set_cons_zero, List.set_cons_succ])
            refine plan_oneT rfl (fun K hK => ?_)
            go_simp
            refine (HP25.out _ _ _ HRB.out).mono ?_
            rintro e u3 ⟨v1, v2, rfl, hk⟩
            have G3 := hid (show Gr W8 u3 from G2.out.trans hk)
            refine hK.out _ _ ⟨⟨_, G3.out⟩, rfl⟩ ?_
            clear hK K
            (try simp only [Act.put, List.setIfInBounds_toArray, List.set_cons_zero, List.set_cons_succ])
            (iterate 7 ((refine plan_readT rfl rfl (fun K hK => ?_)); go_big_quiet_op; (with_reducible refine hK _ ?_); clear hK K))
            (with_reducible refine plan_doneT ?_)
            go_wp2
            go_meet
            exact ⟨rfl, G3.out⟩
        case rest =>
          obtain ⟨rfl, GC9⟩ := hcut
          obtain ⟨W9, rfl⟩ : ∃ W9 : World, W9 = wc := ⟨_, rfl⟩
          have HG9 := hid (HG8.out.trans GC9)
          have HX9 := hid GC9
          clear GC9
          go_upto_region 11 with (go_at_call 11; refine (HHO.out _ HG9.out).mono ?_; rintro e W10 ⟨v10, rfl, hbw10⟩)
          have HG10 := hid (HG9.out.trans hbw10)
          have HX10 := hid hbw10
          clear hbw10
          go_cut [19] (fun s19 wx => s19 = .int .i64 10 ∧ Gr W10 wx)
          case first => as_aux_lemma =>
            have KS : Hid (∀ W, Gr W10 W → (W.cell? ⟨b, 0, none⟩ = some (.int .i64 1) ∧ W.cell? ⟨b, 1, none⟩ = some (.slice A1 n1 c1) ∧ W.cell? ⟨b, 2, none⟩ = some (.int .u8 0) ∧ W.cell? ⟨b, 3, none⟩ = some (.int .i64 5000) ∧ W.cell? ⟨b, 4, none⟩ = some (.int .i64 5000) ∧ W.cell? ⟨b, 5, none⟩ = some (.string ⟨#[49, 50, 51, 52, 53, 54, 55, 56, 57]⟩) ∧ W.cell? ⟨b, 6, none⟩ = some (.bool false) ∧ W.cell? ⟨b, 7, none⟩ = some (.slice B1 m1 d1)) ∧ (W.cell? ⟨b, 8, none⟩ = some (.int .i64 2) ∧ W.cell? ⟨b, 9, none⟩ = some (.slice A2 n2 c2) ∧ W.cell? ⟨b, 10, none⟩ = some (.int .u8 0) ∧ W.cell? ⟨b, 11, none⟩ = some (.int .i64 5000) ∧ W.cell? ⟨b, 12, none⟩ = some (.int .i64 5000) ∧ W.cell? ⟨b, 13, none⟩ = some (.string ⟨#[49, 50, 51, 52, 53, 54, 55, 56, 48]⟩) ∧ W.cell? ⟨b, 14, none⟩ = some (.bool false) ∧ W.cell? ⟨b, 15, none⟩ = some (.slice B2 m2 d2))) := fun W g => ⟨keep8o S1 (HG10.out.trans g), keep8o S2 (HG10.out.trans g)⟩
            clear S1 S2 S4 S5 HE HRE HP6 HP25 HPO HHO HC6 HC7 HC12 HF6 HX6 HF7 HX7 HG1 HG6 HX8 HX9 HX10
            go_region_held3 (fun W => (W.cell? ⟨b, 0, none⟩ = some (.int .i64 1) ∧ W.cell? ⟨b, 1, none⟩ = some (.slice A1 n1 c1) ∧ W.cell? ⟨b, 2, none⟩ = some (.int .u8 0) ∧ W.cell? ⟨b, 3, none⟩ = some (.int .i64 5000) ∧ W.cell? ⟨b, 4, none⟩ = some (.int .i64 5000) ∧ W.cell? ⟨b, 5, none⟩ = some (.string ⟨#[49, 50, 51, 52, 53, 54, 55, 56, 57]⟩) ∧ W.cell? ⟨b, 6, none⟩ = some (.bool false) ∧ W.cell? ⟨b, 7, none⟩ = some (.slice B1 m1 d1)) ∧ (W.cell? ⟨b, 8, none⟩ = some (.int .i64 2) ∧ W.cell? ⟨b, 9, none⟩ = some (.slice A2 n2 c2) ∧ W.cell? ⟨b, 10, none⟩ = some (.int .u8 0) ∧ W.cell? ⟨b, 11, none⟩ = some (.int .i64 5000) ∧ W.cell? ⟨b, 12, none⟩ = some (.int .i64 5000) ∧ W.cell? ⟨b, 13, none⟩ = some (.string ⟨#[49, 50, 51, 52, 53, 54, 55, 56, 48]⟩) ∧ W.cell? ⟨b, 14, none⟩ = some (.bool false) ∧ W.cell? ⟨b, 15, none⟩ = some (.slice B2 m2 d2)))
              (((with_reducible refine KS.out _ ?_); (repeat' (first | with_reducible exact q2 | with_reducible exact q1 | with_reducible exact Gr.refl _ | with_reducible refine Gr.alloc ?_ _ | with_reducible refine Gr.drew ?_ | ((with_reducible refine set5_gr q2 ?_ _ _ _ _ _); first | exact q1.size | exact q2.size | exact Nat.le_refl _)))))
              (first
                | (go_at_call 8; refine (HC11.out _ (HG10.out.trans (by (repeat (first | with_reducible exact q2 | with_reducible exact q1 | with_reducible exact Gr.refl _ | with_reducible refine Gr.alloc ?_ _ | with_reducible refine Gr.drew ?_))))).mono ?_; rintro e u2 ⟨rfl, hk2⟩; have q2 : Gr W10 u2 := Gr.trans (by (repeat (first | with_reducible exact q2 | with_reducible exact q1 | with_reducible exact Gr.refl _ | with_reducible refine Gr.alloc ?_ _ | with_reducible refine Gr.drew ?_))) hk2; obtain ⟨hc2, hf2, hz2⟩ := hk2.rules; (try simp at hz2); (try have y02 : W10.heap.size < u2.heap.size := by omega); (try have y12 : u1.heap.size < u2.heap.size := by omega)))
            all_goals
              go_wp2_with fail
              go_meet
              refine ⟨rfl, ?_⟩
              first
                | (with_reducible refine Gr.alloc ?_ _; exact q2)
                | (with_reducible refine set5_gr ?_ ?_ _ _ _ _ _; exact q2; first | exact Nat.le_refl _ | exact q1.size)
          case rest =>
            obtain ⟨rfl, GC11⟩ := hcut
            obtain ⟨W11, rfl⟩ : ∃ W11 : World, W11 = wc := ⟨_, rfl⟩
            have HG11 := hid (HG10.out.trans GC11)
            have HX11 := hid GC11
            clear GC11
            go_upto_region 12 with fail
            go_cut [21] (fun s21 wx => s21 = .int .i64 11 ∧ Gr W11 wx)
            case first => as_aux_lemma =>
              have KS : Hid (∀ W, Gr W11 W → (W.cell? ⟨b, 0, none⟩ = some (.int .i64 1) ∧ W.cell? ⟨b, 1, none⟩ = some (.slice A1 n1 c1) ∧ W.cell? ⟨b, 2, none⟩ = some (.int .u8 0) ∧ W.cell? ⟨b, 3, none⟩ = some (.int .i64 5000) ∧ W.cell? ⟨b, 4, none⟩ = some (.int .i64 5000) ∧ W.cell? ⟨b, 5, none⟩ = some (.string ⟨#[49, 50, 51, 52, 53, 54, 55, 56, 57]⟩) ∧ W.cell? ⟨b, 6, none⟩ = some (.bool false) ∧ W.cell? ⟨b, 7, none⟩ = some (.slice B1 m1 d1))) := fun W g => keep8o S1 (HG11.out.trans g)
              clear S1 S2 S4 S5 HE HRE HP6 HP25 HPO HHO HC6 HC7 HC11 HF6 HX6 HF7 HX7 HG1 HG6 HX8 HX9 HX10 HX11
              go_region_held3 (fun W => (W.cell? ⟨b, 0, none⟩ = some (.int .i64 1) ∧ W.cell? ⟨b, 1, none⟩ = some (.slice A1 n1 c1) ∧ W.cell? ⟨b, 2, none⟩ = some (.int .u8 0) ∧ W.cell? ⟨b, 3, none⟩ = some (.int .i64 5000) ∧ W.cell? ⟨b, 4, none⟩ = some (.int .i64 5000) ∧ W.cell? ⟨b, 5, none⟩ = some (.string ⟨#[49, 50, 51, 52, 53, 54, 55, 56, 57]⟩) ∧ W.cell? ⟨b, 6, none⟩ = some (.bool false) ∧ W.cell? ⟨b, 7, none⟩ = some (.slice B1 m1 d1)))
                (((with_reducible refine KS.out _ ?_); (repeat' (first | with_reducible exact q2 | with_reducible exact q1 | with_reducible exact Gr.refl _ | with_reducible refine Gr.alloc ?_ _ | with_reducible refine Gr.drew ?_ | ((with_reducible refine set5_gr q2 ?_ _ _ _ _ _); first | exact q1.size | exact q2.size | exact Nat.le_refl _)))))
                (first
                  | (go_at_call 9; refine (HRU.out _).mono ?_; rintro e u1 ⟨rfl, hk1⟩; have q1 : Gr W11 u1 := Gr.trans (by (repeat (first | with_reducible exact q2 | with_reducible exact q1 | with_reducible exact Gr.refl _ | with_reducible refine Gr.alloc ?_ _ | with_reducible refine Gr.drew ?_))) hk1; obtain ⟨hc1, hf1, hz1⟩ := hk1.rules; (try simp at hz1); (try have y01 : W11.heap.size < u1.heap.size := by omega))
                  | (go_at_call 8; refine (HC12.out _ (HG11.out.trans (by (repeat (first | with_reducible exact q2 | with_reducible exact q1 | with_reducible exact Gr.refl _ | with_reducible refine Gr.alloc ?_ _ | with_reducible refine Gr.drew ?_))))).mono ?_; rintro e u2 ⟨rfl, hk2⟩; have q2 : Gr W11 u2 := Gr.trans (by (repeat (first | with_reducible exact q2 | with_reducible exact q1 | with_reducible exact Gr.refl _ | with_reducible refine Gr.alloc ?_ _ | with_reducible refine Gr.drew ?_))) hk2; obtain ⟨hc2, hf2, hz2⟩ := hk2.rules; (try simp at hz2); (try have y02 : W11.heap.size < u2.heap.size := by omega); (try have y12 : u1.heap.size < u2.heap.size := by omega)))
              all_goals
                go_wp2_with fail
                go_meet
                refine ⟨rfl, ?_⟩
                first
                  | (with_reducible refine Gr.alloc ?_ _; exact q2)
                  | (with_reducible refine set5_gr ?_ ?_ _ _ _ _ _; exact q2; first | exact Nat.le_refl _ | exact q1.size)
            case rest =>
              obtain ⟨rfl, GC12⟩ := hcut
              obtain ⟨W12, rfl⟩ : ∃ W12 : World, W12 = wc := ⟨_, rfl⟩
              have HG12 := hid (HG11.out.trans GC12)
              have HX12 := hid GC12
              clear GC12
              have GT := HX8.out.trans (HX9.out.trans (HX10.out.trans (HX11.out.trans HX12.out)))
              obtain ⟨a60, a61, a62, a63, a64⟩ := cellsat5 (row_gr HF6.out (HX7.out.trans GT))
              obtain ⟨a70, a71, a72, a73, a74⟩ := cellsat5 (row_gr HF7.out GT)
              clear S1 S2 S4 S5 GT
              go_wp2
              go_ret
              exact ⟨rfl, HGP.out.trans HG12.out⟩
end Go.Proofs.YtlkjimfkapcenaaGreatDoor
