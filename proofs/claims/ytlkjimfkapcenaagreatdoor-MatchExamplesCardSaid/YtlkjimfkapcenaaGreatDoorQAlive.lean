/- alive of the laws of match: the chapter's examples come out as they are told. No condition. -/
import Derived.Deep.CutRange
import Derived.Deep.DeepCutAuto
import Derived.Deep.RegionHeld3
import Derived.Test.YtlkjimfkapcenaaGreatDoorQEditsTop
import Derived.Test.YtlkjimfkapcenaaGreatDoorQPairSpec
import Derived.Test.YtlkjimfkapcenaaGreatDoorQSames
import Derived.Test.YtlkjimfkapcenaaGreatDoorQSortedKeys
namespace Go.Proofs.YtlkjimfkapcenaaGreatDoor
open Go.RowKit

/-- Eight cells of an element, kept. -/
theorem keep8o {W W' : World} {b o0 o1 o2 o3 o4 o5 o6 o7 : Nat} {v0 v1 v2 v3 v4 v5 v6 v7 : Value} (h : W.cell? ⟨b, o0, none⟩ = some v0 ∧ W.cell? ⟨b, o1, none⟩ = some v1 ∧ W.cell? ⟨b, o2, none⟩ = some v2 ∧ W.cell? ⟨b, o3, none⟩ = some v3 ∧ W.cell? ⟨b, o4, none⟩ = some v4 ∧ W.cell? ⟨b, o5, none⟩ = some v5 ∧ W.cell? ⟨b, o6, none⟩ = some v6 ∧ W.cell? ⟨b, o7, none⟩ = some v7) (k : Gr W W') :
    W'.cell? ⟨b, o0, none⟩ = some v0 ∧ W'.cell? ⟨b, o1, none⟩ = some v1 ∧ W'.cell? ⟨b, o2, none⟩ = some v2 ∧ W'.cell? ⟨b, o3, none⟩ = some v3 ∧ W'.cell? ⟨b, o4, none⟩ = some v4 ∧ W'.cell? ⟨b, o5, none⟩ = some v5 ∧ W'.cell? ⟨b, o6, none⟩ = some v6 ∧ W'.cell? ⟨b, o7, none⟩ = some v7 :=
  ⟨row_cell (h.1) k, row_cell (h.2.1) k, row_cell (h.2.2.1) k, row_cell (h.2.2.2.1) k, row_cell (h.2.2.2.2.1) k, row_cell (h.2.2.2.2.2.1) k, row_cell (h.2.2.2.2.2.2.1) k, row_cell (h.2.2.2.2.2.2.2) k⟩
theorem holds8_at {W : World} {b o : Nat} {e : Elt} (h : Holds8 W b o e) {o0 o1 o2 o3 o4 o5 o6 o7 : Nat} (e0 : o0 = o) (e1 : o1 = o + 1) (e2 : o2 = o + 2) (e3 : o3 = o + 3) (e4 : o4 = o + 4) (e5 : o5 = o + 5) (e6 : o6 = o + 6) (e7 : o7 = o + 7) :
    W.cell? ⟨b, o0, none⟩ = some (.int .i64 e.r.id) ∧ W.cell? ⟨b, o1, none⟩ = some (.slice e.A e.n e.c) ∧ W.cell? ⟨b, o2, none⟩ = some (.int .u8 e.r.suffix) ∧ W.cell? ⟨b, o3, none⟩ = some (.int .i64 e.r.lo) ∧
    W.cell? ⟨b, o4, none⟩ = some (.int .i64 e.r.hi) ∧ W.cell? ⟨b, o5, none⟩ = some (.string e.r.number) ∧ W.cell? ⟨b, o6, none⟩ = some (.bool e.r.twin) ∧ W.cell? ⟨b, o7, none⟩ = some (.slice e.B e.m e.d) := by
  subst e0; subst e1; subst e2; subst e3; subst e4; subst e5; subst e6; subst e7
  exact h.all
theorem RdE.take3 {W : World} {A : Option Addr} {e1 e2 e3 e4 e5 : Elt} (h : RdE W A 5 [e1, e2, e3, e4, e5]) : RdE W A 3 [e1, e2, e3] :=
  ⟨rfl, fun _ => by
    obtain ⟨b, off, e, hb, hc⟩ := h.2 (by omega)
    refine ⟨b, off, e, hb, fun j x hx => hc j x ?_⟩
    match j, hx with
    | 0, hx => exact hx
    | 1, hx => exact hx
    | 2, hx => exact hx⟩
theorem five {es : List Elt} (h : es.length = 5) : ∃ e1 e2 e3 e4 e5, es = [e1, e2, e3, e4, e5] := by
  match es, h with
  | [e1, e2, e3, e4, e5], _ => exact ⟨e1, e2, e3, e4, e5, rfl⟩

set_option maxRecDepth 100000 in
set_option maxHeartbeats 16000000 in
theorem alive_any (w : World) : Calls Tryz.prog 4 #[] w fun e w' => e = .returned (.bool true) ∧ Gr w w' := by
  have HED : Hid (∀ W, Calls Tryz.prog 7 #[.string ⟨#[83, 77, 73, 84, 72]⟩, .string ⟨#[83, 77, 89, 84, 72, 69]⟩] W fun e w' => e = .returned (.tuple #[.int .i64 2, .int .i64 0]) ∧ Gr W w') := fun W => by
    have h := editsTop_any ⟨#[83, 77, 73, 84, 72]⟩ ⟨#[83, 77, 89, 84, 72, 69]⟩ W (by show 5 ≤ maxLen; unfold maxLen; omega) (by show 6 ≤ maxLen; unfold maxLen; omega)
    have e1 : edN ⟨#[83, 77, 73, 84, 72]⟩ ⟨#[83, 77, 89, 84, 72, 69]⟩ = 2 := by
      have ho : edOk ⟨#[83, 77, 73, 84, 72]⟩ ⟨#[83, 77, 89, 84, 72, 69]⟩ = true := by kernel_rfl
      unfold edN
      rw [if_pos ho]
      exact congrArg (fun n : Nat => (n : Int)) ex_edits
    have e2 : edE ⟨#[83, 77, 73, 84, 72]⟩ ⟨#[83, 77, 89, 84, 72, 69]⟩ = 0 := by kernel_rfl
    rw [e1, e2] at h
    exact h
  have HRU : Hid (∀ W, Calls Tryz.prog 9 #[] W fun e w' => e = .returned (.agg #[.int .i64 2, .int .i64 1, .int .i64 30, .int .i64 10]) ∧ Gr W w') := fun W => exRules_any W
  have HSP1 : Hid (∀ A c A' c' W, Rd W 2 A 1 [.int .i64 1, .int .i64 3] → Rd W 2 A' 1 [.int .i64 1, .int .i64 3] → Calls Tryz.prog 12 #[.slice A 1 c, .slice A' 1 c'] W fun e w' => e = .returned (.bool true) ∧ Gr W w') := fun A c A' c' W h h' => samePairs_any [(1, 3)] A c A' c' W h h' (by decide)
  have HSP2 : Hid (∀ A c A' c' W, Rd W 2 A 2 [.int .i64 1, .int .i64 2, .int .i64 2, .int .i64 3] → Rd W 2 A' 2 [.int .i64 1, .int .i64 2, .int .i64 2, .int .i64 3] → Calls Tryz.prog 12 #[.slice A 2 c, .slice A' 2 c'] W fun e w' => e = .returned (.bool true) ∧ Gr W w') := fun A c A' c' W h h' => samePairs_any [(1, 2), (2, 3)] A c A' c' W h h' (by decide)
  have HSL : Hid (∀ v v' W, ListsIn W v [[1, 2, 3, 4]] → ListsIn W v' [[1, 2, 3, 4]] → Calls Tryz.prog 13 #[v, v'] W fun e w' => e = .returned (.bool true) ∧ Gr W w') := fun v v' W h h' => sameLists_any _ v v' W h h' (by decide) (by decide)
  go_enter Tryz.func4, Tryz.ntmps4
  go_upto_region 3 with (first
    | (go_at_call 6; refine (people_any _).mono ?_; rintro e wp ⟨b, es, rfl, h1, h2, h3, h4, hbp⟩; have HP := hid (And.intro h1 (And.intro h2 (And.intro h3 h4))); clear h1 h2 h3 h4; have HBP := hid hbp; clear hbp)
    | (go_at_call 7; (with_reducible refine (HED.out _).mono ?_); rotate_right; rintro e w1 ⟨rfl, hbw1⟩; obtain ⟨hcw1, hfw1, hzw1⟩ := hbw1.rules; (try simp at hzw1)))
  obtain ⟨h1, h2, h3, h4⟩ := HP.out
  obtain ⟨e1, e2, e3, e4, e5, rfl⟩ := five h1
  obtain ⟨x1, A1, n1, c1, B1, m1, d1⟩ := e1
  obtain ⟨x2, A2, n2, c2, B2, m2, d2⟩ := e2
  obtain ⟨x3, A3, n3, c3, B3, m3, d3⟩ := e3
  obtain ⟨x4, A4, n4, c4, B4, m4, d4⟩ := e4
  obtain ⟨x5, A5, n5, c5, B5, m5, d5⟩ := e5
  unfold exL at h4
  simp only [List.map_cons, List.map_nil, List.cons.injEq, and_true] at h4
  obtain ⟨rfl, rfl, rfl, rfl, rfl⟩ := h4
  have HE := hid h3
  have HRE := hid h2
  clear HP h1
  have HC2 : Hid (∀ W, Gr wp W → Calls Tryz.prog 8 #[.agg #[.int .i64 2, .int .i64 1, .int .i64 30, .int .i64 10], .agg #[.int .i64 1, .slice A1 n1 c1, .int .u8 0, .int .i64 5000, .int .i64 5000, .string ⟨#[49, 50, 51, 52, 53, 54, 55, 56, 57]⟩, .bool false, .slice B1 m1 d1], .agg #[.int .i64 2, .slice A2 n2 c2, .int .u8 0, .int .i64 5000, .int .i64 5000, .string ⟨#[49, 50, 51, 52, 53, 54, 55, 56, 48]⟩, .bool false, .slice B2 m2 d2]] W fun e w' => e = .returned (.tuple #[.agg #[.int .u8 2, .int .u8 2, .int .u8 3, .int .u8 3, .int .u8 1], .int .i64 0]) ∧ Gr W w') := fun W g => by
    have h := compareTop_any exR ex1 ex2 A1 n1 c1 B1 m1 d1 A2 n2 c2 B2 m2 d2 W ((HE.out ⟨ex1, A1, n1, c1, B1, m1, d1⟩ (by simp)).at_.gr g) ((HE.out ⟨ex2, A2, n2, c2, B2, m2, d2⟩ (by simp)).at_.gr g) (HE.out ⟨ex1, A1, n1, c1, B1, m1, d1⟩ (by simp)).cap (HE.out ⟨ex2, A2, n2, c2, B2, m2, d2⟩ (by simp)).cap (HE.out ⟨ex1, A1, n1, c1, B1, m1, d1⟩ (by simp)).sfx (HE.out ⟨ex2, A2, n2, c2, B2, m2, d2⟩ (by simp)).sfx
    rw [ex_cmp12.1, ex_cmp12.2] at h
    exact h
  have HC3 : Hid (∀ W, Gr wp W → Calls Tryz.prog 8 #[.agg #[.int .i64 2, .int .i64 1, .int .i64 30, .int .i64 10], .agg #[.int .i64 1, .slice A1 n1 c1, .int .u8 0, .int .i64 5000, .int .i64 5000, .string ⟨#[49, 50, 51, 52, 53, 54, 55, 56, 57]⟩, .bool false, .slice B1 m1 d1], .agg #[.int .i64 3, .slice A3 n3 c3, .int .u8 0, .int .i64 5000, .int .i64 5000, .string ⟨#[]⟩, .bool false, .slice B3 m3 d3]] W fun e w' => e = .returned (.tuple #[.agg #[.int .u8 3, .int .u8 1, .int .u8 3, .int .u8 3, .int .u8 2], .int .i64 0]) ∧ Gr W w') := fun W g => by
    have h := compareTop_any exR ex1 ex3 A1 n1 c1 B1 m1 d1 A3 n3 c3 B3 m3 d3 W ((HE.out ⟨ex1, A1, n1, c1, B1, m1, d1⟩ (by simp)).at_.gr g) ((HE.out ⟨ex3, A3, n3, c3, B3, m3, d3⟩ (by simp)).at_.gr g) (HE.out ⟨ex1, A1, n1, c1, B1, m1, d1⟩ (by simp)).cap (HE.out ⟨ex3, A3, n3, c3, B3, m3, d3⟩ (by simp)).cap (HE.out ⟨ex1, A1, n1, c1, B1, m1, d1⟩ (by simp)).sfx (HE.out ⟨ex3, A3, n3, c3, B3, m3, d3⟩ (by simp)).sfx
    rw [ex_cmp13.1, ex_cmp13.2] at h
    exact h
  have HC4 : Hid (∀ W, Gr wp W → Calls Tryz.prog 8 #[.agg #[.int .i64 2, .int .i64 1, .int .i64 30, .int .i64 10], .agg #[.int .i64 1, .slice A1 n1 c1, .int .u8 0, .int .i64 5000, .int .i64 5000, .string ⟨#[49, 50, 51, 52, 53, 54, 55, 56, 57]⟩, .bool false, .slice B1 m1 d1], .agg #[.int .i64 4, .slice A4 n4 c4, .int .u8 2, .int .i64 14000, .int .i64 14100, .string ⟨#[]⟩, .bool false, .slice B4 m4 d4]] W fun e w' => e = .returned (.tuple #[.agg #[.int .u8 3, .int .u8 1, .int .u8 0, .int .u8 3, .int .u8 0], .int .i64 0]) ∧ Gr W w') := fun W g => by
    have h := compareTop_any exR ex1 ex4 A1 n1 c1 B1 m1 d1 A4 n4 c4 B4 m4 d4 W ((HE.out ⟨ex1, A1, n1, c1, B1, m1, d1⟩ (by simp)).at_.gr g) ((HE.out ⟨ex4, A4, n4, c4, B4, m4, d4⟩ (by simp)).at_.gr g) (HE.out ⟨ex1, A1, n1, c1, B1, m1, d1⟩ (by simp)).cap (HE.out ⟨ex4, A4, n4, c4, B4, m4, d4⟩ (by simp)).cap (HE.out ⟨ex1, A1, n1, c1, B1, m1, d1⟩ (by simp)).sfx (HE.out ⟨ex4, A4, n4, c4, B4, m4, d4⟩ (by simp)).sfx
    rw [ex_cmp14.1, ex_cmp14.2] at h
    exact h
  have HPA : Hid (∀ W, Gr wp W → Calls Tryz.prog 10 #[.agg #[.int .i64 2, .int .i64 1, .int .i64 30, .int .i64 10], .slice (some ⟨b, 0, none⟩) 3 5] W fun e w' => ∃ X x Y y, e = .returned (.tuple #[.slice X 1 x, .slice Y 2 y, .int .i64 0]) ∧ Rd w' 2 X 1 [.int .i64 1, .int .i64 3] ∧ Rd w' 2 Y 2 [.int .i64 1, .int .i64 2, .int .i64 2, .int .i64 3] ∧ Gr W w') := fun W g => by
    have h := pairs_any exR [⟨ex1, A1, n1, c1, B1, m1, d1⟩, ⟨ex2, A2, n2, c2, B2, m2, d2⟩, ⟨ex3, A3, n3, c3, B3, m3, d3⟩] (some ⟨b, 0, none⟩) 5 W ((HRE.out.gr g).take3) (fun e he => (HE.out e (by simp at he ⊢; rcases he with h | h | h <;> simp [h])).gr g) (by show 3 ≤ 9223372036854775807; omega)
    have e : [⟨ex1, A1, n1, c1, B1, m1, d1⟩, ⟨ex2, A2, n2, c2, B2, m2, d2⟩, ⟨ex3, A3, n3, c3, B3, m3, d3⟩].map (fun x : Elt => x.r) = [ex1, ex2, ex3] := rfl
    rw [e, ex_pairs.1, ex_pairs.2.1, ex_pairs.2.2] at h
    refine h.mono ?_
    rintro e w' ⟨v1, v2, rfl, ⟨X, x, rfl, k1⟩, ⟨Y, y, rfl, k2⟩, k3⟩
    exact ⟨X, x, Y, y, rfl, k1, k2, k3⟩
  have HHO : Hid (∀ W, Gr wp W → Calls Tryz.prog 11 #[.slice (some ⟨b, 0, none⟩) 5 5, .int .i64 185] W fun e w' => ∃ v, e = .returned (.tuple #[v, .int .i64 0]) ∧ ListsIn w' v [[1, 2, 3, 4]] ∧ Gr W w') := fun W g => by
    have h := homes_any [⟨ex1, A1, n1, c1, B1, m1, d1⟩, ⟨ex2, A2, n2, c2, B2, m2, d2⟩, ⟨ex3, A3, n3, c3, B3, m3, d3⟩, ⟨ex4, A4, n4, c4, B4, m4, d4⟩, ⟨ex5, A5, n5, c5, B5, m5, d5⟩] 185 (some ⟨b, 0, none⟩) 5 W (HRE.out.gr g) (fun e he => (HE.out e he).gr g) (by show 5 ≤ 9223372036854775807; omega)
    have e : [⟨ex1, A1, n1, c1, B1, m1, d1⟩, ⟨ex2, A2, n2, c2, B2, m2, d2⟩, ⟨ex3, A3, n3, c3, B3, m3, d3⟩, ⟨ex4, A4, n4, c4, B4, m4, d4⟩, ⟨ex5, A5, n5, c5, B5, m5, d5⟩].map (fun x : Elt => x.r) = exL := rfl
    rw [e, ex_homes.1, ex_homes.2] at h
    exact h
  have S1 : (wp.cell? ⟨b, 0, none⟩ = some (.int .i64 1) ∧ wp.cell? ⟨b, 1, none⟩ = some (.slice A1 n1 c1) ∧ wp.cell? ⟨b, 2, none⟩ = some (.int .u8 0) ∧ wp.cell? ⟨b, 3, none⟩ = some (.int .i64 5000) ∧ wp.cell? ⟨b, 4, none⟩ = some (.int .i64 5000) ∧ wp.cell? ⟨b, 5, none⟩ = some (.string ⟨#[49, 50, 51, 52, 53, 54, 55, 56, 57]⟩) ∧ wp.cell? ⟨b, 6, none⟩ = some (.bool false) ∧ wp.cell? ⟨b, 7, none⟩ = some (.slice B1 m1 d1)) := by
    obtain ⟨b', off, e, _, hh⟩ := h2.2 (by omega)
    obtain ⟨rfl, rfl⟩ : b = b' ∧ 0 = off := by simpa using e
    exact holds8_at (hh 0 ⟨ex1, A1, n1, c1, B1, m1, d1⟩ rfl) rfl rfl rfl rfl rfl rfl rfl rfl
  have S2 : (wp.cell? ⟨b, 8, none⟩ = some (.int .i64 2) ∧ wp.cell? ⟨b, 9, none⟩ = some (.slice A2 n2 c2) ∧ wp.cell? ⟨b, 10, none⟩ = some (.int .u8 0) ∧ wp.cell? ⟨b, 11, none⟩ = some (.int .i64 5000) ∧ wp.cell? ⟨b, 12, none⟩ = some (.int .i64 5000) ∧ wp.cell? ⟨b, 13, none⟩ = some (.string ⟨#[49, 50, 51, 52, 53, 54, 55, 56, 48]⟩) ∧ wp.cell? ⟨b, 14, none⟩ = some (.bool false) ∧ wp.cell? ⟨b, 15, none⟩ = some (.slice B2 m2 d2)) := by
    obtain ⟨b', off, e, _, hh⟩ := h2.2 (by omega)
    obtain ⟨rfl, rfl⟩ : b = b' ∧ 0 = off := by simpa using e
    exact holds8_at (hh 1 ⟨ex2, A2, n2, c2, B2, m2, d2⟩ rfl) rfl rfl rfl rfl rfl rfl rfl rfl
  have S3 : (wp.cell? ⟨b, 16, none⟩ = some (.int .i64 3) ∧ wp.cell? ⟨b, 17, none⟩ = some (.slice A3 n3 c3) ∧ wp.cell? ⟨b, 18, none⟩ = some (.int .u8 0) ∧ wp.cell? ⟨b, 19, none⟩ = some (.int .i64 5000) ∧ wp.cell? ⟨b, 20, none⟩ = some (.int .i64 5000) ∧ wp.cell? ⟨b, 21, none⟩ = some (.string ⟨#[]⟩) ∧ wp.cell? ⟨b, 22, none⟩ = some (.bool false) ∧ wp.cell? ⟨b, 23, none⟩ = some (.slice B3 m3 d3)) := by
    obtain ⟨b', off, e, _, hh⟩ := h2.2 (by omega)
    obtain ⟨rfl, rfl⟩ : b = b' ∧ 0 = off := by simpa using e
    exact holds8_at (hh 2 ⟨ex3, A3, n3, c3, B3, m3, d3⟩ rfl) rfl rfl rfl rfl rfl rfl rfl rfl
  have S4 : (wp.cell? ⟨b, 24, none⟩ = some (.int .i64 4) ∧ wp.cell? ⟨b, 25, none⟩ = some (.slice A4 n4 c4) ∧ wp.cell? ⟨b, 26, none⟩ = some (.int .u8 2) ∧ wp.cell? ⟨b, 27, none⟩ = some (.int .i64 14000) ∧ wp.cell? ⟨b, 28, none⟩ = some (.int .i64 14100) ∧ wp.cell? ⟨b, 29, none⟩ = some (.string ⟨#[]⟩) ∧ wp.cell? ⟨b, 30, none⟩ = some (.bool false) ∧ wp.cell? ⟨b, 31, none⟩ = some (.slice B4 m4 d4)) := by
    obtain ⟨b', off, e, _, hh⟩ := h2.2 (by omega)
    obtain ⟨rfl, rfl⟩ : b = b' ∧ 0 = off := by simpa using e
    exact holds8_at (hh 3 ⟨ex4, A4, n4, c4, B4, m4, d4⟩ rfl) rfl rfl rfl rfl rfl rfl rfl rfl
  clear h2 h3
  have HG1 := hid hbw1
  clear hcw1 hfw1 hzw1
  go_cut [4, 5] (fun s4 s5 wx => ∃ gm : Nat, s4 = .pointer (some ⟨gm, 0, none⟩) ∧ s5 = .int .i64 0 ∧ Gr w1 wx ∧ wx.heap[gm]? = some (.cells #[.int .u8 2, .int .u8 2, .int .u8 3, .int .u8 3, .int .u8 1] 30 (0, 0)))
  case first => as_aux_lemma =>
    have KS : Hid (∀ W, Gr w1 W → (W.cell? ⟨b, 0, none⟩ = some (.int .i64 1) ∧ W.cell? ⟨b, 1, none⟩ = some (.slice A1 n1 c1) ∧ W.cell? ⟨b, 2, none⟩ = some (.int .u8 0) ∧ W.cell? ⟨b, 3, none⟩ = some (.int .i64 5000) ∧ W.cell? ⟨b, 4, none⟩ = some (.int .i64 5000) ∧ W.cell? ⟨b, 5, none⟩ = some (.string ⟨#[49, 50, 51, 52, 53, 54, 55, 56, 57]⟩) ∧ W.cell? ⟨b, 6, none⟩ = some (.bool false) ∧ W.cell? ⟨b, 7, none⟩ = some (.slice B1 m1 d1)) ∧ (W.cell? ⟨b, 8, none⟩ = some (.int .i64 2) ∧ W.cell? ⟨b, 9, none⟩ = some (.slice A2 n2 c2) ∧ W.cell? ⟨b, 10, none⟩ = some (.int .u8 0) ∧ W.cell? ⟨b, 11, none⟩ = some (.int .i64 5000) ∧ W.cell? ⟨b, 12, none⟩ = some (.int .i64 5000) ∧ W.cell? ⟨b, 13, none⟩ = some (.string ⟨#[49, 50, 51, 52, 53, 54, 55, 56, 48]⟩) ∧ W.cell? ⟨b, 14, none⟩ = some (.bool false) ∧ W.cell? ⟨b, 15, none⟩ = some (.slice B2 m2 d2))) := fun W g => ⟨keep8o S1 (HG1.out.trans g), keep8o S2 (HG1.out.trans g)⟩
    clear HED HSP1 HSP2 HSL HE HRE HPA HHO S1 S2 S3 S4 HBP hbw1 HC3 HC4
    go_region_held3 (fun W => (W.cell? ⟨b, 0, none⟩ = some (.int .i64 1) ∧ W.cell? ⟨b, 1, none⟩ = some (.slice A1 n1 c1) ∧ W.cell? ⟨b, 2, none⟩ = some (.int .u8 0) ∧ W.cell? ⟨b, 3, none⟩ = some (.int .i64 5000) ∧ W.cell? ⟨b, 4, none⟩ = some (.int .i64 5000) ∧ W.cell? ⟨b, 5, none⟩ = some (.string ⟨#[49, 50, 51, 52, 53, 54, 55, 56, 57]⟩) ∧ W.cell? ⟨b, 6, none⟩ = some (.bool false) ∧ W.cell? ⟨b, 7, none⟩ = some (.slice B1 m1 d1)) ∧ (W.cell? ⟨b, 8, none⟩ = some (.int .i64 2) ∧ W.cell? ⟨b, 9, none⟩ = some (.slice A2 n2 c2) ∧ W.cell? ⟨b, 10, none⟩ = some (.int .u8 0) ∧ W.cell? ⟨b, 11, none⟩ = some (.int .i64 5000) ∧ W.cell? ⟨b, 12, none⟩ = some (.int .i64 5000) ∧ W.cell? ⟨b, 13, none⟩ = some (.string ⟨#[49, 50, 51, 52, 53, 54, 55, 56, 48]⟩) ∧ W.cell? ⟨b, 14, none⟩ = some (.bool false) ∧ W.cell? ⟨b, 15, none⟩ = some (.slice B2 m2 d2)))
      (((with_reducible refine KS.out _ ?_); (repeat' (first | with_reducible exact q2 | with_reducible exact q1 | with_reducible exact Gr.refl _ | with_reducible refine Gr.alloc ?_ _ | with_reducible refine Gr.drew ?_ | ((with_reducible refine set5_gr q2 ?_ _ _ _ _ _); first | exact q1.size | exact q2.size | exact Nat.le_refl _)))))
      (first
        | (go_at_call 9; refine (HRU.out _).mono ?_; rintro e u1 ⟨rfl, hk1⟩; have q1 : Gr w1 u1 := Gr.trans (by (repeat (first | with_reducible exact q2 | with_reducible exact q1 | with_reducible exact Gr.refl _ | with_reducible refine Gr.alloc ?_ _ | with_reducible refine Gr.drew ?_))) hk1; obtain ⟨hc1, hf1, hz1⟩ := hk1.rules; (try simp at hz1); (try have y01 : w1.heap.size < u1.heap.size := by omega))
        | (go_at_call 8; refine (HC2.out _ (HG1.out.trans (by (repeat (first | with_reducible exact q2 | with_reducible exact q1 | with_reducible exact Gr.refl _ | with_reducible refine Gr.alloc ?_ _ | with_reducible refine Gr.drew ?_))))).mono ?_; rintro e u2 ⟨rfl, hk2⟩; have q2 : Gr w1 u2 := Gr.trans (by (repeat (first | with_reducible exact q2 | with_reducible exact q1 | with_reducible exact Gr.refl _ | with_reducible refine Gr.alloc ?_ _ | with_reducible refine Gr.drew ?_))) hk2; obtain ⟨hc2, hf2, hz2⟩ := hk2.rules; (try simp at hz2); (try have y02 : w1.heap.size < u2.heap.size := by omega); (try have y12 : u1.heap.size < u2.heap.size := by omega)))
    · go_wp2_with fail
      go_meet
      exact ⟨_, rfl, rfl, Gr.alloc q2 _, heap_alloc_new _ _⟩
    · go_wp2_with fail
      go_meet
      exact ⟨_, rfl, rfl, set5_gr q2 q1.size _ _ _ _ _, set5_row (row_gr (heap_alloc_new u1 _) hk2)⟩
    · go_wp2_with fail
      go_meet
      exact ⟨_, rfl, rfl, set5_gr q2 (Nat.le_refl _) _ _ _ _ _, set5_row (row_gr (row_gr (show (w1.alloc _).drew.heap[w1.heap.size]? = _ from heap_alloc_new w1 _) hk1) hk2)⟩
  case rest =>
    obtain ⟨g2, rfl, rfl, GC2, F2⟩ := hcut
    obtain ⟨W2, rfl⟩ : ∃ W2 : World, W2 = wc := ⟨_, rfl⟩
    have HG2 := hid (HG1.out.trans GC2)
    have HF2 := hid F2
    have HX2 := hid GC2
    clear F2 GC2
    go_upto_region 4 with fail
    go_cut [6, 7] (fun s6 s7 wx => ∃ gm : Nat, s6 = .pointer (some ⟨gm, 0, none⟩) ∧ s7 = .int .i64 0 ∧ Gr W2 wx ∧ wx.heap[gm]? = some (.cells #[.int .u8 3, .int .u8 1, .int .u8 3, .int .u8 3, .int .u8 2] 30 (0, 0)))
    case first => as_aux_lemma =>
      have KS : Hid (∀ W, Gr W2 W → (W.cell? ⟨b, 0, none⟩ = some (.int .i64 1) ∧ W.cell? ⟨b, 1, none⟩ = some (.slice A1 n1 c1) ∧ W.cell? ⟨b, 2, none⟩ = some (.int .u8 0) ∧ W.cell? ⟨b, 3, none⟩ = some (.int .i64 5000) ∧ W.cell? ⟨b, 4, none⟩ = some (.int .i64 5000) ∧ W.cell? ⟨b, 5, none⟩ = some (.string ⟨#[49, 50, 51, 52, 53, 54, 55, 56, 57]⟩) ∧ W.cell? ⟨b, 6, none⟩ = some (.bool false) ∧ W.cell? ⟨b, 7, none⟩ = some (.slice B1 m1 d1)) ∧ (W.cell? ⟨b, 16, none⟩ = some (.int .i64 3) ∧ W.cell? ⟨b, 17, none⟩ = some (.slice A3 n3 c3) ∧ W.cell? ⟨b, 18, none⟩ = some (.int .u8 0) ∧ W.cell? ⟨b, 19, none⟩ = some (.int .i64 5000) ∧ W.cell? ⟨b, 20, none⟩ = some (.int .i64 5000) ∧ W.cell? ⟨b, 21, none⟩ = some (.string ⟨#[]⟩) ∧ W.cell? ⟨b, 22, none⟩ = some (.bool false) ∧ W.cell? ⟨b, 23, none⟩ = some (.slice B3 m3 d3))) := fun W g => ⟨keep8o S1 (HG2.out.trans g), keep8o S3 (HG2.out.trans g)⟩
      clear HED HSP1 HSP2 HSL HE HRE HPA HHO S1 S2 S3 S4 HBP hbw1 HC2 HC4 HF2 HX2 HG1
      go_region_held3 (fun W => (W.cell? ⟨b, 0, none⟩ = some (.int .i64 1) ∧ W.cell? ⟨b, 1, none⟩ = some (.slice A1 n1 c1) ∧ W.cell? ⟨b, 2, none⟩ = some (.int .u8 0) ∧ W.cell? ⟨b, 3, none⟩ = some (.int .i64 5000) ∧ W.cell? ⟨b, 4, none⟩ = some (.int .i64 5000) ∧ W.cell? ⟨b, 5, none⟩ = some (.string ⟨#[49, 50, 51, 52, 53, 54, 55, 56, 57]⟩) ∧ W.cell? ⟨b, 6, none⟩ = some (.bool false) ∧ W.cell? ⟨b, 7, none⟩ = some (.slice B1 m1 d1)) ∧ (W.cell? ⟨b, 16, none⟩ = some (.int .i64 3) ∧ W.cell? ⟨b, 17, none⟩ = some (.slice A3 n3 c3) ∧ W.cell? ⟨b, 18, none⟩ = some (.int .u8 0) ∧ W.cell? ⟨b, 19, none⟩ = some (.int .i64 5000) ∧ W.cell? ⟨b, 20, none⟩ = some (.int .i64 5000) ∧ W.cell? ⟨b, 21, none⟩ = some (.string ⟨#[]⟩) ∧ W.cell? ⟨b, 22, none⟩ = some (.bool false) ∧ W.cell? ⟨b, 23, none⟩ = some (.slice B3 m3 d3)))
        (((with_reducible refine KS.out _ ?_); (repeat' (first | with_reducible exact q2 | with_reducible exact q1 | with_reducible exact Gr.refl _ | with_reducible refine Gr.alloc ?_ _ | with_reducible refine Gr.drew ?_ | ((with_reducible refine set5_gr q2 ?_ _ _ _ _ _); first | exact q1.size | exact q2.size | exact Nat.le_refl _)))))
        (first
          | (go_at_call 9; refine (HRU.out _).mono ?_; rintro e u1 ⟨rfl, hk1⟩; have q1 : Gr W2 u1 := Gr.trans (by (repeat (first | with_reducible exact q2 | with_reducible exact q1 | with_reducible exact Gr.refl _ | with_reducible refine Gr.alloc ?_ _ | with_reducible refine Gr.drew ?_))) hk1; obtain ⟨hc1, hf1, hz1⟩ := hk1.rules; (try simp at hz1); (try have y01 : W2.heap.size < u1.heap.size := by omega))
          | (go_at_call 8; refine (HC3.out _ (HG2.out.trans (by (repeat (first | with_reducible exact q2 | with_reducible exact q1 | with_reducible exact Gr.refl _ | with_reducible refine Gr.alloc ?_ _ | with_reducible refine Gr.drew ?_))))).mono ?_; rintro e u2 ⟨rfl, hk2⟩; have q2 : Gr W2 u2 := Gr.trans (by (repeat (first | with_reducible exact q2 | with_reducible exact q1 | with_reducible exact Gr.refl _ | with_reducible refine Gr.alloc ?_ _ | with_reducible refine Gr.drew ?_))) hk2; obtain ⟨hc2, hf2, hz2⟩ := hk2.rules; (try simp at hz2); (try have y02 : W2.heap.size < u2.heap.size := by omega); (try have y12 : u1.heap.size < u2.heap.size := by omega)))
      · go_wp2_with fail
        go_meet
        exact ⟨_, rfl, rfl, Gr.alloc q2 _, heap_alloc_new _ _⟩
      · go_wp2_with fail
        go_meet
        exact ⟨_, rfl, rfl, set5_gr q2 q1.size _ _ _ _ _, set5_row (row_gr (heap_alloc_new u1 _) hk2)⟩
      · go_wp2_with fail
        go_meet
        exact ⟨_, rfl, rfl, set5_gr q2 (Nat.le_refl _) _ _ _ _ _, set5_row (row_gr (row_gr (show (W2.alloc _).drew.heap[W2.heap.size]? = _ from heap_alloc_new W2 _) hk1) hk2)⟩
    case rest =>
      obtain ⟨g3, rfl, rfl, GC3, F3⟩ := hcut
      obtain ⟨W3, rfl⟩ : ∃ W3 : World, W3 = wc := ⟨_, rfl⟩
      have HG3 := hid (HG2.out.trans GC3)
      have HF3 := hid F3
      have HX3 := hid GC3
      clear F3 GC3
      go_upto_region 5 with fail
      go_cut [8, 9] (fun s8 s9 wx => ∃ gm : Nat, s8 = .pointer (some ⟨gm, 0, none⟩) ∧ s9 = .int .i64 0 ∧ Gr W3 wx ∧ wx.heap[gm]? = some (.cells #[.int .u8 3, .int .u8 1, .int .u8 0, .int .u8 3, .int .u8 0] 30 (0, 0)))
      case first => as_aux_lemma =>
        have KS : Hid (∀ W, Gr W3 W → (W.cell? ⟨b, 0, none⟩ = some (.int .i64 1) ∧ W.cell? ⟨b, 1, none⟩ = some (.slice A1 n1 c1) ∧ W.cell? ⟨b, 2, none⟩ = some (.int .u8 0) ∧ W.cell? ⟨b, 3, none⟩ = some (.int .i64 5000) ∧ W.cell? ⟨b, 4, none⟩ = some (.int .i64 5000) ∧ W.cell? ⟨b, 5, none⟩ = some (.string ⟨#[49, 50, 51, 52, 53, 54, 55, 56, 57]⟩) ∧ W.cell? ⟨b, 6, none⟩ = some (.bool false) ∧ W.cell? ⟨b, 7, none⟩ = some (.slice B1 m1 d1)) ∧ (W.cell? ⟨b, 24, none⟩ = some (.int .i64 4) ∧ W.cell? ⟨b, 25, none⟩ = some (.slice A4 n4 c4) ∧ W.cell? ⟨b, 26, none⟩ = some (.int .u8 2) ∧ W.cell? ⟨b, 27, none⟩ = some (.int .i64 14000) ∧ W.cell? ⟨b, 28, none⟩ = some (.int .i64 14100) ∧ W.cell? ⟨b, 29, none⟩ = some (.string ⟨#[]⟩) ∧ W.cell? ⟨b, 30, none⟩ = some (.bool false) ∧ W.cell? ⟨b, 31, none⟩ = some (.slice B4 m4 d4))) := fun W g => ⟨keep8o S1 (HG3.out.trans g), keep8o S4 (HG3.out.trans g)⟩
        clear HED HSP1 HSP2 HSL HE HRE HPA HHO S1 S2 S3 S4 HBP hbw1 HC2 HC3 HF2 HX2 HF3 HX3 HG1 HG2
        go_region_held3 (fun W => (W.cell? ⟨b, 0, none⟩ = some (.int .i64 1) ∧ W.cell? ⟨b, 1, none⟩ = some (.slice A1 n1 c1) ∧ W.cell? ⟨b, 2, none⟩ = some (.int .u8 0) ∧ W.cell? ⟨b, 3, none⟩ = some (.int .i64 5000) ∧ W.cell? ⟨b, 4, none⟩ = some (.int .i64 5000) ∧ W.cell? ⟨b, 5, none⟩ = some (.string ⟨#[49, 50, 51, 52, 53, 54, 55, 56, 57]⟩) ∧ W.cell? ⟨b, 6, none⟩ = some (.bool false) ∧ W.cell? ⟨b, 7, none⟩ = some (.slice B1 m1 d1)) ∧ (W.cell? ⟨b, 24, none⟩ = some (.int .i64 4) ∧ W.cell? ⟨b, 25, none⟩ = some (.slice A4 n4 c4) ∧ W.cell? ⟨b, 26, none⟩ = some (.int .u8 2) ∧ W.cell? ⟨b, 27, none⟩ = some (.int .i64 14000) ∧ W.cell? ⟨b, 28, none⟩ = some (.int .i64 14100) ∧ W.cell? ⟨b, 29, none⟩ = some (.string ⟨#[]⟩) ∧ W.cell? ⟨b, 30, none⟩ = some (.bool false) ∧ W.cell? ⟨b, 31, none⟩ = some (.slice B4 m4 d4)))
          (((with_reducible refine KS.out _ ?_); (repeat' (first | with_reducible exact q2 | with_reducible exact q1 | with_reducible exact Gr.refl _ | with_reducible refine Gr.alloc ?_ _ | with_reducible refine Gr.drew ?_ | ((with_reducible refine set5_gr q2 ?_ _ _ _ _ _); first | exact q1.size | exact q2.size | exact Nat.le_refl _)))))
          (first
            | (go_at_call 9; refine (HRU.out _).mono ?_; rintro e u1 ⟨rfl, hk1⟩; have q1 : Gr W3 u1 := Gr.trans (by (repeat (first | with_reducible exact q2 | with_reducible exact q1 | with_reducible exact Gr.refl _ | with_reducible refine Gr.alloc ?_ _ | with_reducible refine Gr.drew ?_))) hk1; obtain ⟨hc1, hf1, hz1⟩ := hk1.rules; (try simp at hz1); (try have y01 : W3.heap.size < u1.heap.size := by omega))
            | (go_at_call 8; refine (HC4.out _ (HG3.out.trans (by (repeat (first | with_reducible exact q2 | with_reducible exact q1 | with_reducible exact Gr.refl _ | with_reducible refine Gr.alloc ?_ _ | with_reducible refine Gr.drew ?_))))).mono ?_; rintro e u2 ⟨rfl, hk2⟩; have q2 : Gr W3 u2 := Gr.trans (by (repeat (first | with_reducible exact q2 | with_reducible exact q1 | with_reducible exact Gr.refl _ | with_reducible refine Gr.alloc ?_ _ | with_reducible refine Gr.drew ?_))) hk2; obtain ⟨hc2, hf2, hz2⟩ := hk2.rules; (try simp at hz2); (try have y02 : W3.heap.size < u2.heap.size := by omega); (try have y12 : u1.heap.size < u2.heap.size := by omega)))
        · go_wp2_with fail
          go_meet
          exact ⟨_, rfl, rfl, Gr.alloc q2 _, heap_alloc_new _ _⟩
        · go_wp2_with fail
          go_meet
          exact ⟨_, rfl, rfl, set5_gr q2 q1.size _ _ _ _ _, set5_row (row_gr (heap_alloc_new u1 _) hk2)⟩
        · go_wp2_with fail
          go_meet
          exact ⟨_, rfl, rfl, set5_gr q2 (Nat.le_refl _) _ _ _ _ _, set5_row (row_gr (row_gr (show (W3.alloc _).drew.heap[W3.heap.size]? = _ from heap_alloc_new W3 _) hk1) hk2)⟩
      case rest =>
        obtain ⟨g4, rfl, rfl, GC4, F4⟩ := hcut
        obtain ⟨W4, rfl⟩ : ∃ W4 : World, W4 = wc := ⟨_, rfl⟩
        have HG4 := hid (HG3.out.trans GC4)
        have HF4 := hid F4
        have HX4 := hid GC4
        clear F4 GC4
        go_upto_region 6 with fail
        go_cut [10, 11, 12] (fun s10 s11 s12 wx => ∃ X x Y y, s10 = .slice X 1 x ∧ s11 = .slice Y 2 y ∧ s12 = .int .i64 0 ∧ Gr W4 wx ∧ Rd wx 2 X 1 [.int .i64 1, .int .i64 3] ∧ Rd wx 2 Y 2 [.int .i64 1, .int .i64 2, .int .i64 2, .int .i64 3])
        case first => as_aux_lemma =>
          go_region_held3 (fun _ => True) (trivial)
            (first
              | (go_at_call 9; refine (HRU.out _).mono ?_; rintro e u1 ⟨rfl, hk1⟩; have q1 : Gr W4 u1 := Gr.trans (by (repeat (first | with_reducible exact Gr.refl _ | with_reducible refine Gr.drew ?_))) hk1)
              | (go_at_call 10; refine (HPA.out _ (HG4.out.trans (by first | with_reducible exact q1))).mono ?_; rintro e u2 ⟨X, x, Y, y, rfl, k1, k2, hk2⟩; have HK1 := hid k1; have HK2 := hid k2; clear k1 k2))
          all_goals
            go_wp2_with fail
            go_meet
            exact ⟨X, x, Y, y, rfl, rfl, rfl, q1.trans hk2, HK1.out, HK2.out⟩
        case rest =>
          obtain ⟨X, x, Y, y, rfl, rfl, rfl, GC5, k1, k2⟩ := hcut
          obtain ⟨W5, rfl⟩ : ∃ W5 : World, W5 = wc := ⟨_, rfl⟩
          have HG5 := hid (HG4.out.trans GC5)
          have HK1 := hid k1
          have HK2 := hid k2
          have HM2 := hid (row_gr HF2.out (HX3.out.trans (HX4.out.trans GC5)))
          have HM3 := hid (row_gr HF3.out (HX4.out.trans GC5))
          have HM4 := hid (row_gr HF4.out GC5)
          have z2 : g2 < W5.heap.size := (Array.getElem?_eq_some_iff.1 HM2.out).1
          have z3 : g3 < W5.heap.size := (Array.getElem?_eq_some_iff.1 HM3.out).1
          have z4 : g4 < W5.heap.size := (Array.getElem?_eq_some_iff.1 HM4.out).1
          have a2 := cellsat5 HM2.out
          have a3 := cellsat5 HM3.out
          have a4 := cellsat5 HM4.out
          obtain ⟨a20, a21, a22, a23, a24⟩ := a2
          obtain ⟨a30, a31, a32, a33, a34⟩ := a3
          obtain ⟨a40, a41, a42, a43, a44⟩ := a4
          clear k1 k2 GC5 S1 S2 S3 S4
          go_wp2_with (first
            | (go_at_call 11; refine (HHO.out _ HG5.out).mono ?_; rintro e w6 ⟨v6, rfl, k6, hbw6⟩; have HK6 := hid k6; clear k6; obtain ⟨hcw6, hfw6, hzw6⟩ := hbw6.rules; have z26 : g2 < w6.heap.size := (by omega); have z36 : g3 < w6.heap.size := (by omega); have z46 : g4 < w6.heap.size := (by omega))
            | (go_at_call 12; (with_reducible refine (HSP1.out X x _ _ _ (HK1.out.gr ?_) ?_).mono ?_); rotate_right; rintro e w7 ⟨rfl, hbw7⟩; obtain ⟨hcw7, hfw7, hzw7⟩ := hbw7.rules; (try simp at hzw7))
            | (go_at_call 12; (with_reducible refine (HSP2.out Y y _ _ _ (HK2.out.gr ?_) ?_).mono ?_); rotate_right; rintro e w8 ⟨rfl, hbw8⟩; obtain ⟨hcw8, hfw8, hzw8⟩ := hbw8.rules; (try simp at hzw8))
            | (go_at_call 13; (with_reducible refine (HSL.out v6 _ _ (HK6.out.gr ?_) ?_).mono ?_); rotate_right; rintro e w9 ⟨rfl, hbw9⟩; obtain ⟨hcw9, hfw9, hzw9⟩ := hbw9.rules; (try simp at hzw9)))
          · go_ret
            refine ⟨rfl, HBP.out.trans (HG5.out.trans ?_)⟩
            (repeat (first | with_reducible exact Gr.refl _ | with_reducible refine Gr.trans ?_ hbw9 | with_reducible refine Gr.trans ?_ hbw8 | with_reducible refine Gr.trans ?_ hbw7 | with_reducible refine Gr.trans ?_ hbw6 | with_reducible refine Gr.alloc ?_ _ | with_reducible refine Gr.setCell ?_ (by simp) _ | with_reducible refine Gr.setCell ?_ (by simp; omega) _ | with_reducible refine Gr.drew ?_ | with_reducible refine Gr.drewN ?_ _))
          · (repeat (first | with_reducible exact Gr.refl _ | with_reducible refine Gr.trans ?_ hbw8 | with_reducible refine Gr.trans ?_ hbw7 | with_reducible refine Gr.alloc ?_ _ | with_reducible refine Gr.setCell ?_ (by simp) _ | with_reducible refine Gr.setCell ?_ (by simp; omega) _ | with_reducible refine Gr.drew ?_ | with_reducible refine Gr.drewN ?_ _))
          · exact ⟨_, _, [.slice (some ⟨w8.heap.size, 0, none⟩) 4 4], rfl, Rd.of_row (cs := #[.slice (some ⟨w8.heap.size, 0, none⟩) 4 4]) (t := 51) (al_new (by simp)) rfl rfl, fun j hj => by
              obtain rfl : j = 0 := by simpa using hj
              exact ⟨_, _, rfl, Rd.of_row (cs := #[.int .i64 1, .int .i64 2, .int .i64 3, .int .i64 4]) (t := 3) (al_keep (al_new rfl) _) rfl rfl⟩⟩
          · (repeat (first | with_reducible exact Gr.refl _ | with_reducible refine Gr.trans ?_ hbw7 | with_reducible refine Gr.trans ?_ hbw6 | with_reducible refine Gr.alloc ?_ _ | with_reducible refine Gr.setCell ?_ (by simp) _ | with_reducible refine Gr.setCell ?_ (by simp; omega) _ | with_reducible refine Gr.drew ?_ | with_reducible refine Gr.drewN ?_ _))
          · exact Rd.of_row (cs := #[.int .i64 1, .int .i64 2, .int .i64 2, .int .i64 3]) (t := 49) (al_new rfl) rfl rfl
          · (repeat (first | with_reducible exact Gr.refl _ | with_reducible refine Gr.trans ?_ hbw6 | with_reducible refine Gr.alloc ?_ _ | with_reducible refine Gr.setCell ?_ (by simp) _ | with_reducible refine Gr.setCell ?_ (by simp; omega) _ | with_reducible refine Gr.drew ?_ | with_reducible refine Gr.drewN ?_ _))
          · exact Rd.of_row (cs := #[.int .i64 1, .int .i64 3]) (t := 49) (al_new rfl) rfl rfl
end Go.Proofs.YtlkjimfkapcenaaGreatDoor
