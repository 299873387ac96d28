/- InquiryExamples is true: the chapter's examples, limits and numbers. No condition. (Printed by gen_lawexamples9.py.) -/
import Derived.Test.YtliehlefpodhaaaDoorOAlive9
import Derived.Laws.AppendOwn
namespace Go.Proofs.YtliehlefpodhaaaDoor
open Go.RowKit Go.Shelf Go.Sort

def wLs : List Lic := [⟨900, 5, 0, 5000⟩, ⟨901, 2, 0, 5000⟩]
def wSs : List Sig := [⟨1, 1, 5, 100, 1, 5⟩, ⟨1, 2, 5, 120, 3, 130⟩, ⟨1, 3, 5, 300, 4, 400⟩, ⟨2, 1, 5, 200, 2, 0⟩]
def oSs : List Sig := [⟨1, 1, 5, 101, 1, 0⟩, ⟨1, 2, 5, 120, 3, 130⟩, ⟨1, 3, 5, 300, 4, 400⟩, ⟨2, 1, 5, 200, 2, 0⟩]
def mSs (n : Nat) : List Sig := (List.range n).map fun i : Nat => (⟨3, (i : Int), 0, 0, 2, 0⟩ : Sig)
theorem exA : mergeN gSs oSs = 91 := by decide
theorem exB : mergeN gSs (mSs 37) = 4 := by decide +kernel
theorem exC : stN gSs 5 (-1) = 2 := by decide
theorem exD : gateN gLs gSs = 0 ∧ inqB ⟨0, 0, 0, 0, 7, false⟩ = false := by decide
theorem exE : tracesN gLs gSs [crd 2 1, crd 1 1] 5 5 1 = 92 := by decide
theorem exF : tracesN gLs gSs [] 5 5 0 = 2 := by decide
theorem exG : tracesN gLs gSs [] (-1) 5 1 = 2 := by decide
theorem exH : gateN wLs gSs = 90 := by decide
theorem exI : gateN gLs wSs = 91 := by decide
theorem mSs_snoc (n : Nat) : mSs (n + 1) = mSs n ++ [⟨3, n, 0, 0, 2, 0⟩] := by
  unfold mSs
  rw [List.range_succ, List.map_append]
  rfl
theorem mSs_len (n : Nat) : (mSs n).length = n := by simp [mSs]

set_option maxRecDepth 100000 in
set_option maxHeartbeats 2000000 in
/-- The gate of the examples, its rows told whole. -/
theorem gateRows_any (w : World) :
    Calls Tryd.prog 32 #[] w fun e w' => ∃ b1 b2, e = .returned (.agg #[.slice (some ⟨b1, 0, none⟩) 2 2, .slice (some ⟨b2, 0, none⟩) 4 4]) ∧ (w'.heap[b1]? = some (.cells #[.int .i64 900, .int .u8 1, .int .i64 0, .int .i64 5000, .int .i64 901, .int .u8 2, .int .i64 0, .int .i64 5000] 65 (0, 0)) ∧ w'.heap[b2]? = some (.cells #[.int .i64 1, .int .i64 1, .int .i64 5, .int .i64 100, .int .u8 1, .int .i64 0, .int .i64 1, .int .i64 2, .int .i64 5, .int .i64 120, .int .u8 3, .int .i64 130, .int .i64 1, .int .i64 3, .int .i64 5, .int .i64 300, .int .u8 4, .int .i64 400, .int .i64 2, .int .i64 1, .int .i64 5, .int .i64 200, .int .u8 2, .int .i64 0] 67 (0, 0)) ∧ (w.heap.size ≤ b1 ∧ w.heap.size ≤ b2 ∧ b1 ≠ b2) ∧ Gr w w') := by
  go_enter Tryd.func32, Tryd.ntmps32
  go_wp2
  refine bodyPost_ret (v := .agg #[.slice (some ⟨w.heap.size + 1, 0, none⟩) 2 2, .slice (some ⟨w.heap.size + 1 + 1, 0, none⟩) 4 4]) ?_ rfl ⟨w.heap.size + 1, w.heap.size + 1 + 1, rfl, ?_, ?_, by omega, ?_⟩
  · refine results_cell_row (p := 0) (ty := 25) Tryd.results32 _ _ w.heap.size 25 _ (0, 0) _ rfl ?_ Tryd.underlying25 rfl (by kernel_rfl)
    rw [Below.heap_alloc _ _ _ (by simp; omega), Below.heap_alloc _ _ _ (by simp)]
    exact heap_alloc_new w _
  · rw [Below.heap_alloc _ _ _ (by simp)]
    exact heap_alloc2_new w _ _
  · have := heap_alloc_new ((w.alloc (.cells #[.slice (some ⟨w.heap.size + 1, 0, none⟩) 2 2, .slice (some ⟨w.heap.size + 1 + 1, 0, none⟩) 4 4] 25)).alloc (.cells #[.int .i64 900, .int .u8 1, .int .i64 0, .int .i64 5000, .int .i64 901, .int .u8 2, .int .i64 0, .int .i64 5000] 65)) (.cells #[.int .i64 1, .int .i64 1, .int .i64 5, .int .i64 100, .int .u8 1, .int .i64 0, .int .i64 1, .int .i64 2, .int .i64 5, .int .i64 120, .int .u8 3, .int .i64 130, .int .i64 1, .int .i64 3, .int .i64 5, .int .i64 300, .int .u8 4, .int .i64 400, .int .i64 2, .int .i64 1, .int .i64 5, .int .i64 200, .int .u8 2, .int .i64 0] 67)
    simpa using this
  · (repeat (first | with_reducible exact Gr.refl _ | with_reducible refine Gr.alloc ?_ _ | with_reducible refine Gr.setCell ?_ (by simp) _ | with_reducible refine Gr.setCell ?_ (by simp; omega) _ | with_reducible refine Gr.drew ?_ | with_reducible refine Gr.drewN ?_ _))
theorem gateIn_rows {W : World} {b1 b2 : Nat} (h1 : W.heap[b1]? = some (.cells #[.int .i64 900, .int .u8 1, .int .i64 0, .int .i64 5000, .int .i64 901, .int .u8 2, .int .i64 0, .int .i64 5000] 65 (0, 0))) (h2 : W.heap[b2]? = some (.cells #[.int .i64 1, .int .i64 1, .int .i64 5, .int .i64 100, .int .u8 1, .int .i64 0, .int .i64 1, .int .i64 2, .int .i64 5, .int .i64 120, .int .u8 3, .int .i64 130, .int .i64 1, .int .i64 3, .int .i64 5, .int .i64 300, .int .u8 4, .int .i64 400, .int .i64 2, .int .i64 1, .int .i64 5, .int .i64 200, .int .u8 2, .int .i64 0] 67 (0, 0))) : GatIn W ⟨some ⟨b1, 0, none⟩, 2, 2, some ⟨b2, 0, none⟩, 4, 4⟩ gLs gSs :=
  ⟨⟨rd_row h1 4 2 rfl, by show 2 ≤ 9223372036854775807; decide, by decide⟩, ⟨rd_row h2 6 4 rfl, by show 4 ≤ 9223372036854775807; decide, by decide⟩⟩

set_option maxRecDepth 100000 in
set_option maxHeartbeats 8000000 in
theorem inquiryExamples_any (b off cap : Nat) (w : World) (hR : LaidR w b off cap) (hG : LaidL w) :
    Calls Tryd.prog 5 #[] w fun e w' => e = .returned (.bool true) ∧ Gr w w' := by
  have HAl := hid (fun W (k : Gr w W) => alive9_any b off cap W (hR.gr k) (hG.gr k))
  have HI0 := hid (fun W (k : Gr w W) => show Calls Tryd.prog 30 #[.int .i64 200, .bool false, .bool false] W fun e w' => e = .returned (.bool true) ∧ Gr W w' from by
    have h := is_any 200 false false W (hG.gr k)
    rwa [show (stN gSs 5 200 == 0 && (stFz gSs 5 200 == false && stAl gSs 5 200 == false)) = true by decide] at h)
  have HJ0 := hid (fun W (k : Gr w W) => show Calls Tryd.prog 31 #[.int .i64 900, .int .i64 125, .int .u8 1, .bool false, .int .u8 0] W fun e w' => e = .returned (.bool true) ∧ Gr W w' from by
    have h := becomes_any 900 125 1 0 false b off cap W (hR.gr k) (hG.gr k) (by omega) (by decide)
    rwa [show (askN gLs gSs ⟨0, 125, 900, 5, 1, false⟩ == 0) = true by decide] at h)
  have HJ1 := hid (fun W (k : Gr w W) => show Calls Tryd.prog 31 #[.int .i64 5, .int .i64 110, .int .u8 5, .bool false, .int .u8 0] W fun e w' => e = .returned (.bool true) ∧ Gr W w' from by
    have h := becomes_any 5 110 5 0 false b off cap W (hR.gr k) (hG.gr k) (by omega) (by decide)
    rwa [show (askN gLs gSs ⟨0, 110, 5, 5, 5, false⟩ == 0) = true by decide] at h)
  have HJ2 := hid (fun W (k : Gr w W) => show Calls Tryd.prog 31 #[.int .i64 6, .int .i64 110, .int .u8 5, .bool false, .int .u8 1] W fun e w' => e = .returned (.bool true) ∧ Gr W w' from by
    have h := becomes_any 6 110 5 1 false b off cap W (hR.gr k) (hG.gr k) (by omega) (by decide)
    rwa [show (askN gLs gSs ⟨0, 110, 6, 5, 5, false⟩ == 1) = true by decide] at h)
  have HRL := hid (And.intro hR hG)
  have HCr := hid (fun id day W => credit_any id day W)
  have HGt := hid (fun W => gate_any W)
  have HGr := hid (fun W => gateRows_any W)
  unfold Inq.val crd at HCr
  unfold Gat.val at HGt
  dsimp only at HCr HGt
  have hfl := field_sigs
  clear hR hG
  go_enter Tryd.func5, Tryd.ntmps5
  go_wp2_with (first
    | (go_at_call 29; (with_reducible refine (HAl.out _ (Gr.refl w)).mono ?_); rintro e w1 ⟨rfl, g1⟩)
    | (go_at_call 30; (with_reducible refine (HI0.out _ g1).mono ?_); rintro e w2 ⟨rfl, g2⟩)
    | (go_at_call 31; (with_reducible refine (HJ0.out _ (g1.trans g2)).mono ?_); rintro e w3 ⟨rfl, g3⟩)
    | (go_at_call 31; (with_reducible refine (HJ1.out _ ((g1.trans g2).trans g3)).mono ?_); rintro e w4 ⟨rfl, g4⟩)
    | (go_at_call 31; (with_reducible refine (HJ2.out _ (((g1.trans g2).trans g3).trans g4)).mono ?_); rintro e w5 ⟨rfl, g5⟩))
  have G5 : Hid (Gr w w5) := (((g1.trans g2).trans g3).trans g4).trans g5
  clear g1 g2 g3 g4 g5 HAl HI0 HJ0 HJ1 HJ2
  refine (HGr.out _).mono ?_
  rintro e w6 ⟨b1, b2, rfl, k1, k2, k3, g6⟩
  have K6 := hid (And.intro k1 (And.intro k2 k3))
  have G6 : Hid (Gr w5 w6) := g6
  clear k1 k2 k3 g6
  go_wp2_with fail
  refine (HGr.out _).mono ?_
  rintro e w7 ⟨b3, b4, rfl, k1, k2, k3, g7⟩
  have K7 := hid (And.intro k1 (And.intro k2 k3))
  have G7 : Hid (Gr w6 w7) := g7
  clear k1 k2 k3 g7
  go_upto_region 4 with fail
  have RW := rows2 w7 (.cells #[.slice (some ⟨b1, 0, none⟩) 2 2, .slice (some ⟨b2, 0, none⟩) 4 4] 25) (.cells #[.slice (some ⟨b3, 0, none⟩) 2 2, .slice (some ⟨b4, 0, none⟩) 4 4] 25)
  have g78 : Gr w7 ((w7.alloc (.cells #[.slice (some ⟨b1, 0, none⟩) 2 2, .slice (some ⟨b2, 0, none⟩) 4 4] 25)).alloc (.cells #[.slice (some ⟨b3, 0, none⟩) 2 2, .slice (some ⟨b4, 0, none⟩) 4 4] 25)) := ((Gr.refl w7).alloc _).alloc _
  obtain ⟨x1, hx1⟩ : ∃ x, w7.heap.size = x := ⟨_, rfl⟩
  rw [hx1] at RW ⊢
  generalize (w7.alloc (.cells #[.slice (some ⟨b1, 0, none⟩) 2 2, .slice (some ⟨b2, 0, none⟩) 4 4] 25)).alloc (.cells #[.slice (some ⟨b3, 0, none⟩) 2 2, .slice (some ⟨b4, 0, none⟩) 4 4] 25) = w8 at RW g78 ⊢
  obtain ⟨RX1, RX2⟩ := RW
  have RB1 := row_gr K6.out.1 (G7.out.trans g78)
  have RB2 := row_gr K6.out.2.1 (G7.out.trans g78)
  have RB3 := row_gr K7.out.1 g78
  have RB4 := row_gr K7.out.2.1 g78
  have hb1 : b1 < w6.heap.size := (Array.getElem?_eq_some_iff.1 K6.out.1).1
  have hb2 : b2 < w6.heap.size := (Array.getElem?_eq_some_iff.1 K6.out.2.1).1
  have hb3 : b3 < w7.heap.size := (Array.getElem?_eq_some_iff.1 K7.out.1).1
  have hb4 : b4 < w7.heap.size := (Array.getElem?_eq_some_iff.1 K7.out.2.1).1
  obtain ⟨hk1, hk2, hk3⟩ := K6.out.2.2
  obtain ⟨hk4, hk5, hk6⟩ := K7.out.2.2
  have hs67 := G7.out.size
  have hs05 := G5.out.size
  have hs56 := G6.out.size
  have n1 : b1 ≠ b4 := by omega
  have n2 : b4 ≠ b1 := by omega
  have n3 : x1 + 1 ≠ b1 := by omega
  have n4 : b1 ≠ x1 + 1 := by omega
  have n5 : x1 ≠ b1 := by omega
  have n6 : b4 ≠ x1 := by omega
  have n7 : b4 ≠ x1 + 1 := by omega
  have n8 : b2 ≠ b1 := by omega
  have n9 : b2 ≠ b4 := by omega
  have n10 : b3 ≠ b1 := by omega
  have n11 : b3 ≠ b4 := by omega
  have n12 : x1 ≠ b4 := by omega
  have n13 : x1 + 1 ≠ b4 := by omega
  have hwb1 : w.heap.size ≤ b1 := by omega
  have hwb4 : w.heap.size ≤ b4 := by omega
  have G8 : Hid (Gr w w8) := ((G5.out.trans G6.out).trans G7.out).trans g78
  have y0 := row_cell_at (v := .slice (some ⟨b1, 0, none⟩) 2 2) RX1 0 rfl
  have y1 := row_cell_at (v := .slice (some ⟨b2, 0, none⟩) 4 4) RX1 1 rfl
  have y2 := row_cell_at (v := .slice (some ⟨b3, 0, none⟩) 2 2) RX2 0 rfl
  have y3 := row_cell_at (v := .slice (some ⟨b4, 0, none⟩) 4 4) RX2 1 rfl
  have y4 := row_cell_at (v := .int .u8 1) RB1 1 rfl
  have y5 := row_cell_at (v := .int .i64 0) RB4 5 rfl
  have z4 := frozen_of_row w8 b1 1 _ _ RB1
  have z5 := frozen_of_row w8 b4 5 _ _ RB4
  have HRows := hid (And.intro RX1 (And.intro RX2 (And.intro RB1 (And.intro RB2 (And.intro RB3 RB4)))))
  clear RX1 RX2 RB1 RB2 RB3 RB4 g78 K6 K7 G6 G7 hb1 hb2 hb3 hb4 hk1 hk2 hk3 hk4 hk5 hk6 hs67 hs05 hs56 hx1
  go_wp2_with fail
  have G9 : Hid (Gr w ((w8.setCell ⟨b1, 1, none⟩ (.int .u8 5)).setCell ⟨b4, 5, none⟩ (.int .i64 5))) := (G8.out.setCell hwb1 _).setCell hwb4 _
  have hfar : ∀ k, k ≠ b1 → k ≠ b4 → ((w8.setCell ⟨b1, 1, none⟩ (.int .u8 5)).setCell ⟨b4, 5, none⟩ (.int .i64 5)).heap[k]? = w8.heap[k]? := fun k h1 h2 => (Below.heap_setCell _ _ _ _ h2).trans (Below.heap_setCell _ _ _ _ h1)
  have RX1 := (hfar x1 n5 n12).trans HRows.out.1
  have RX2 := (hfar (x1 + 1) n3 n13).trans HRows.out.2.1
  have RB1 : ((w8.setCell ⟨b1, 1, none⟩ (.int .u8 5)).setCell ⟨b4, 5, none⟩ (.int .i64 5)).heap[b1]? = some (.cells #[.int .i64 900, .int .u8 5, .int .i64 0, .int .i64 5000, .int .i64 901, .int .u8 2, .int .i64 0, .int .i64 5000] 65 (0, 0)) := (Below.heap_setCell _ _ _ _ n1).trans ((heap_setCell_same w8 b1 1 _ _ (.int .u8 5) HRows.out.2.2.1).trans rfl)
  have RB2 := (hfar b2 n8 n9).trans HRows.out.2.2.2.1
  have RB3 := (hfar b3 n10 n11).trans HRows.out.2.2.2.2.1
  have RB4 : ((w8.setCell ⟨b1, 1, none⟩ (.int .u8 5)).setCell ⟨b4, 5, none⟩ (.int .i64 5)).heap[b4]? = some (.cells #[.int .i64 1, .int .i64 1, .int .i64 5, .int .i64 100, .int .u8 1, .int .i64 5, .int .i64 1, .int .i64 2, .int .i64 5, .int .i64 120, .int .u8 3, .int .i64 130, .int .i64 1, .int .i64 3, .int .i64 5, .int .i64 300, .int .u8 4, .int .i64 400, .int .i64 2, .int .i64 1, .int .i64 5, .int .i64 200, .int .u8 2, .int .i64 0] 67 (0, 0)) := (heap_setCell_same (w8.setCell ⟨b1, 1, none⟩ (.int .u8 5)) b4 5 _ _ (.int .i64 5) ((Below.heap_setCell _ _ _ _ n2).trans HRows.out.2.2.2.2.2)).trans rfl
  generalize (w8.setCell ⟨b1, 1, none⟩ (.int .u8 5)).setCell ⟨b4, 5, none⟩ (.int .i64 5) = w9 at G9 RX1 RX2 RB1 RB2 RB3 RB4 ⊢
  have HRow9 := hid (And.intro RX1 (And.intro RX2 (And.intro RB1 (And.intro RB2 (And.intro RB3 RB4)))))
  clear RX1 RX2 RB1 RB2 RB3 RB4 hfar HRows n1 n2 n3 n4 n5 n6 n7 n8 n9 n10 n11 n12 n13 hwb1 hwb4 y0 y1 y2 y3 y4 y5 z4 z5 G8
  refine (HGr.out _).mono ?_
  rintro e w10 ⟨b5, b6, rfl, k1, k2, k3, g10⟩
  have hb6 : w9.heap.size ≤ b6 := k3.2.1
  have hb6' : b6 < w10.heap.size := (Array.getElem?_eq_some_iff.1 k2).1
  have y0 := row_cell_at (v := .int .i64 100) k2 3 rfl
  have z0 := frozen_of_row w10 b6 3 _ _ k2
  have K10 := hid (And.intro k2 g10)
  clear k1 k2 k3 g10
  go_wp2_with fail
  have G11 : Hid (Gr w9 (w10.setCell ⟨b6, 3, none⟩ (.int .i64 101))) := K10.out.2.setCell hb6 _
  have RO : Hid ((w10.setCell ⟨b6, 3, none⟩ (.int .i64 101)).heap[b6]? = some (.cells #[.int .i64 1, .int .i64 1, .int .i64 5, .int .i64 101, .int .u8 1, .int .i64 0, .int .i64 1, .int .i64 2, .int .i64 5, .int .i64 120, .int .u8 3, .int .i64 130, .int .i64 1, .int .i64 3, .int .i64 5, .int .i64 300, .int .u8 4, .int .i64 400, .int .i64 2, .int .i64 1, .int .i64 5, .int .i64 200, .int .u8 2, .int .i64 0] 67 (0, 0))) := (heap_setCell_same w10 b6 3 _ _ (.int .i64 101) K10.out.1).trans rfl
  clear y0 z0 hb6' K10
  generalize w10.setCell ⟨b6, 3, none⟩ (.int .i64 101) = w11 at G11 RO ⊢
  obtain ⟨i0, hi0, hz0, hs0, hy0⟩ := info_parts info_sig
  have HI0 := hid hi0
  have HZ0 := hid hz0
  have HS0 := hid hs0
  have HY0 := hid hy0
  clear hi0 hz0 hs0 hy0 hb6
  go_loopg [4, 56] 37 (fun gg s4 s56 wr => ∃ k : Nat, k ≤ 37 ∧ 37 - k ≤ gg ∧ s56 = .int .i64 k ∧ Gr w11 wr ∧ Hid (wr.ownsRow w11.heap.size 67 6 s4 (mSs k).length ((mSs k).flatMap Sig.cells)))
  case atStart => exact ⟨0, by omega, by omega, rfl, Gr.refl w11, ⟨rfl, .inl ⟨rfl, rfl⟩⟩⟩
  case round =>
    obtain ⟨k, hk, hgk, rfl, BW, HO⟩ := hrel
    by_cases hkl : k < 37
    · have hkn : (k : Int) < 37 := by omega
      have hk0 : (0 : Int) ≤ (k : Int) := by omega
      have hml := mSs_len k
      have HSn := hid (mSs_snoc k)
      have hol : (mSs k).length ≤ 37 := by omega
      clear hml
      generalize mSs k = o at HO HSn hol
      go_wp2_with ((refine wpList_append_own _ rfl (.tmp 59) (.tmp 62) 23 rfl w11.heap.size 67 i0 (.agg #[.int .i64 0, .int .i64 0, .int .i64 0, .int .i64 0, .int .u8 0, .int .i64 0]) 6 48 Tryd.underlying23 HI0.out HZ0.out HS0.out HY0.out rfl (by decide) _ _ _ rfl (ownT_gr HO.out ((Gr.refl wr).alloc _)) ⟨wr.heap.size, 0, none⟩ 1 1 [.int .i64 3, .int .i64 k, .int .i64 0, .int .i64 0, .int .u8 2, .int .i64 0] rfl rfl (cellsT_new wr _ _ _ rfl) (by intro u hu; simp at hu; rcases hu with rfl | rfl | rfl | rfl | rfl | rfl <;> rfl) (by have : maxLen = 9223372036854775807 := rfl; omega) (by omega) (by have h1 := BW.size; simp; omega) ?_; intro v' wz hown' hgrow hnil; have HWz := hid (And.intro hown' hgrow); clear hown' hgrow hnil))
      go_roundg (37 - (k + 1))
      case measure => omega
      case rel =>
        refine ⟨k + 1, by omega, by omega, by go_num, ?_, ?_⟩
        · refine (show Below w11.heap.size w11 _ from BW.alloc _).grown HWz.out.2 ?_ (fun q e => (HO.out.lt q e).1)
          have h1 := BW.size; simp; omega
        · unfold Hid
          rw [HSn.out]
          have h := HWz.out.1
          simpa [Sig.cells] using h
    · obtain rfl : k = 37 := by omega
      obtain ⟨Am, cm, rfl⟩ := own_slice HO.out
      have hm37 : (mSs 37).length = 37 := mSs_len 37
      have HOm := HO.out
      rw [hm37] at HOm ⊢
      have HMs : Hid (SigsIn wr Am 37 (mSs 37)) := ⟨Rd.of_own HOm, by omega, by decide +kernel⟩
      clear HOm HO hm37
      have GT := G11.out.trans BW
      have R1 := row_gr HRow9.out.1 GT
      have R2 := row_gr HRow9.out.2.1 GT
      have HGW : Hid (GatIn wr ⟨some ⟨b1, 0, none⟩, 2, 2, some ⟨b2, 0, none⟩, 4, 4⟩ wLs gSs) := ⟨⟨rd_row (row_gr HRow9.out.2.2.1 GT) 4 2 rfl, by show 2 ≤ 9223372036854775807; decide, by decide⟩, ⟨rd_row (row_gr HRow9.out.2.2.2.1 GT) 6 4 rfl, by show 4 ≤ 9223372036854775807; decide, by decide⟩⟩
      have HGT2 : Hid (GatIn wr ⟨some ⟨b3, 0, none⟩, 2, 2, some ⟨b4, 0, none⟩, 4, 4⟩ gLs wSs) := ⟨⟨rd_row (row_gr HRow9.out.2.2.2.2.1 GT) 4 2 rfl, by show 2 ≤ 9223372036854775807; decide, by decide⟩, ⟨rd_row (row_gr HRow9.out.2.2.2.2.2 GT) 6 4 rfl, by show 4 ≤ 9223372036854775807; decide, by decide⟩⟩
      have HOs : Hid (SigsIn wr (some ⟨b6, 0, none⟩) 4 oSs) := ⟨rd_row (row_gr RO.out BW) 6 4 rfl, by omega, by decide⟩
      have HR12 := hid (And.intro R1 R2)
      have GR : Hid (Gr w wr) := (G9.out.trans G11.out).trans BW
      clear R1 R2 GT HRow9 RO G9 G11 G5
      go_wp2_with fail
      have V0 : Hid (Gr wr wr) := Gr.refl wr
      refine (HGt.out _).mono ?_
      rintro e v1 ⟨p1, q1, rfl, kg1, kb1, h1⟩
      have V1 : Hid (Gr wr v1) := V0.out.trans h1
      have KG1 := hid (And.intro kg1 kb1)
      clear kg1 kb1 h1
      go_wp2_with fail
      refine (merge_any (some ⟨q1, 0, none⟩) 4 4 (some ⟨b6, 0, none⟩) 4 4 gSs oSs v1 KG1.out.1.sigs (HOs.out.gr V1.out) (HRL.out.2.gr (GR.out.trans V1.out))).mono ?_
      rw [exA]
      rintro e v2 ⟨R2, r2, c2, rfl, h2, _⟩
      have V2 : Hid (Gr wr v2) := V1.out.trans h2
      clear h2
      go_wp2_with fail
      refine (HGt.out _).mono ?_
      rintro e v3 ⟨p3, q3, rfl, kg3, kb3, h3⟩
      have V3 : Hid (Gr wr v3) := V2.out.trans h3
      have KG3 := hid (And.intro kg3 kb3)
      clear kg3 kb3 h3
      go_wp2_with fail
      refine (merge_any (some ⟨q3, 0, none⟩) 4 4 Am 37 cm gSs (mSs 37) v3 KG3.out.1.sigs (HMs.out.gr V3.out) (HRL.out.2.gr (GR.out.trans V3.out))).mono ?_
      rw [exB]
      rintro e v4 ⟨R4, r4, c4, rfl, h4, _⟩
      have V4 : Hid (Gr wr v4) := V3.out.trans h4
      clear h4
      go_wp2_with fail
      refine (HGt.out _).mono ?_
      rintro e v5 ⟨p5, q5, rfl, kg5, kb5, h5⟩
      have V5 : Hid (Gr wr v5) := V4.out.trans h5
      have KG5 := hid (And.intro kg5 kb5)
      clear kg5 kb5 h5
      go_wp2_with fail
      refine (stateTop_any (some ⟨q5, 0, none⟩) 4 4 gSs 5 (-1) v5 KG5.out.1.sigs (fun b o e => by cases e; exact KG5.out.2) (HRL.out.2.gr (GR.out.trans V5.out)) (fun _ => by omega)).mono ?_
      rw [exC]
      rintro e v6 ⟨rfl, h6⟩
      have V6 : Hid (Gr wr v6) := V5.out.trans h6
      clear h6
      generalize stFz gSs 5 (-1) = sf
      generalize stAl gSs 5 (-1) = sa
      go_wp2_with fail
      refine (HGt.out _).mono ?_
      rintro e v7 ⟨p7, q7, rfl, kg7, kb7, h7⟩
      have V7 : Hid (Gr wr v7) := V6.out.trans h7
      have KG7 := hid (And.intro kg7 kb7)
      clear kg7 kb7 h7
      go_wp2_with fail
      have hask := askTop_any ⟨some ⟨p7, 0, none⟩, 2, 2, some ⟨q7, 0, none⟩, 4, 4⟩ gLs gSs ⟨0, 0, 0, 0, 7, false⟩ b off cap v7 KG7.out.1 (fun b o e => by cases e; exact KG7.out.2) (show 4 < 1000 by omega) (HRL.out.1.gr (GR.out.trans V7.out)) (HRL.out.2.gr (GR.out.trans V7.out)) (show (0 : Int) ≤ 7 ∧ (7 : Int) ≤ 255 by omega)
      rw [exD.1, exD.2] at hask
      simp only [Bool.false_eq_true, and_false, if_false, if_true] at hask
      refine hask.mono ?_
      clear hask
      rintro e v8 ⟨rfl, h8⟩
      have V8 : Hid (Gr wr v8) := V7.out.trans h8
      clear h8
      go_wp2_with fail
      refine (HGt.out _).mono ?_
      rintro e v9 ⟨p9, q9, rfl, kg9, kb9, h9⟩
      have V9 : Hid (Gr wr v9) := V8.out.trans h9
      have KG9 := hid (And.intro kg9 kb9)
      clear kg9 kb9 h9
      go_wp2_with fail
      refine (HCr.out _ _ _).mono ?_
      rintro e v10 ⟨rfl, h10⟩
      go_wp2_with fail
      refine (HCr.out _ _ _).mono ?_
      rintro e v11 ⟨rfl, h11⟩
      have V11 : Hid (Gr v9 v11) := h10.trans h11
      clear h10 h11
      go_wp2_with fail
      have RC := hid (heap_alloc_new v11 (.cells #[.int .i64 2, .int .i64 1, .int .i64 900, .int .i64 5, .int .u8 1, .bool false, .int .i64 1, .int .i64 1, .int .i64 900, .int .i64 5, .int .u8 1, .bool false] 27))
      have VC : Hid (Gr v9 (v11.alloc (.cells #[.int .i64 2, .int .i64 1, .int .i64 900, .int .i64 5, .int .u8 1, .bool false, .int .i64 1, .int .i64 1, .int .i64 900, .int .i64 5, .int .u8 1, .bool false] 27))) := V11.out.alloc _
      generalize v11.alloc (.cells #[.int .i64 2, .int .i64 1, .int .i64 900, .int .i64 5, .int .u8 1, .bool false, .int .i64 1, .int .i64 1, .int .i64 900, .int .i64 5, .int .u8 1, .bool false] 27) = vC at RC VC ⊢
      generalize v11.heap.size = bC at RC ⊢
      have VC' : Hid (Gr wr vC) := V9.out.trans VC.out
      refine (traces_any ⟨some ⟨p9, 0, none⟩, 2, 2, some ⟨q9, 0, none⟩, 4, 4⟩ gLs gSs (some ⟨bC, 0, none⟩) 2 2 [crd 2 1, crd 1 1] 5 5 1 b off cap vC (KG9.out.1.gr VC.out) (fun b o e => by cases e; exact Nat.lt_of_lt_of_le KG9.out.2 VC.out.size) (show 4 < 1000 by omega) (HRL.out.1.gr (GR.out.trans VC'.out)) (HRL.out.2.gr (GR.out.trans VC'.out)) ⟨rd_row RC.out 6 2 rfl, by omega, by decide⟩ (by omega)).mono ?_
      rw [exE]
      rintro e v12 ⟨R12, r12, c12, rfl, h12, _⟩
      have V12 : Hid (Gr wr v12) := VC'.out.trans h12
      clear h12 VC RC V11
      go_wp2_with fail
      refine (HGt.out _).mono ?_
      rintro e v13 ⟨p13, q13, rfl, kg13, kb13, h13⟩
      have V13 : Hid (Gr wr v13) := V12.out.trans h13
      have KG13 := hid (And.intro kg13 kb13)
      clear kg13 kb13 h13
      go_wp2_with fail
      refine (traces_any ⟨some ⟨p13, 0, none⟩, 2, 2, some ⟨q13, 0, none⟩, 4, 4⟩ gLs gSs none 0 0 [] 5 5 0 b off cap v13 KG13.out.1 (fun b o e => by cases e; exact KG13.out.2) (show 4 < 1000 by omega) (HRL.out.1.gr (GR.out.trans V13.out)) (HRL.out.2.gr (GR.out.trans V13.out)) ⟨Rd.nil_, by omega, by simp⟩ (by omega)).mono ?_
      rw [exF]
      rintro e v14 ⟨R14, r14, c14, rfl, h14, _⟩
      have V14 : Hid (Gr wr v14) := V13.out.trans h14
      clear h14
      go_wp2_with fail
      refine (HGt.out _).mono ?_
      rintro e v15 ⟨p15, q15, rfl, kg15, kb15, h15⟩
      have V15 : Hid (Gr wr v15) := V14.out.trans h15
      have KG15 := hid (And.intro kg15 kb15)
      clear kg15 kb15 h15
      go_wp2_with fail
      refine (count_any ⟨some ⟨p15, 0, none⟩, 2, 2, some ⟨q15, 0, none⟩, 4, 4⟩ gLs gSs none 0 0 [] (-1) 5 b off cap v15 KG15.out.1 (fun b o e => by cases e; exact KG15.out.2) (show 4 < 1000 by omega) (HRL.out.1.gr (GR.out.trans V15.out)) (HRL.out.2.gr (GR.out.trans V15.out)) ⟨Rd.nil_, by omega, by simp⟩).mono ?_
      rw [exG]
      rintro e v16 ⟨rfl, h16⟩
      have V16 : Hid (Gr wr v16) := V15.out.trans h16
      clear h16
      generalize countN (tracesR gLs gSs [] (-1) 5 1) = cn
      have S1 := row_gr HR12.out.1 V16.out
      have S2 := row_gr HR12.out.2 V16.out
      have y0 := row_cell_at (v := .slice (some ⟨b1, 0, none⟩) 2 2) S1 0 rfl
      have y1 := row_cell_at (v := .slice (some ⟨b2, 0, none⟩) 4 4) S1 1 rfl
      have y2 := row_cell_at (v := .slice (some ⟨b3, 0, none⟩) 2 2) S2 0 rfl
      have y3 := row_cell_at (v := .slice (some ⟨b4, 0, none⟩) 4 4) S2 1 rfl
      have hz1 : x1 < v16.heap.size := block_lt_of_cell y0
      have hz2 : x1 + 1 < v16.heap.size := block_lt_of_cell y2
      have HCa := gateCheck_any ⟨some ⟨b1, 0, none⟩, 2, 2, some ⟨b2, 0, none⟩, 4, 4⟩ wLs gSs v16 (HGW.out.gr V16.out) (HRL.out.2.gr (GR.out.trans V16.out))
      have HCb := hid (fun W (k : Gr v16 W) => gateCheck_any ⟨some ⟨b3, 0, none⟩, 2, 2, some ⟨b4, 0, none⟩, 4, 4⟩ gLs wSs W (HGT2.out.gr (V16.out.trans k)) (HRL.out.2.gr (GR.out.trans (V16.out.trans k))))
      rw [exH] at HCa
      rw [exI] at HCb
      have HCa2 := hid HCa
      unfold Gat.val at HCa2 HCb
      dsimp only at HCa2 HCb
      clear HCa S1 S2
      go_wp2_with (first
        | (go_at_call 26; (with_reducible refine HCa2.out.mono ?_); rintro e v17 ⟨rfl, h17⟩; obtain ⟨hc17, hf17, hz17⟩ := h17.rules)
        | (go_at_call 26; (with_reducible refine (HCb.out _ h17).mono ?_); rintro e v18 ⟨rfl, h18⟩))
      go_ret
      exact ⟨rfl, GR.out.trans ((V16.out.trans h17).trans h18)⟩
end Go.Proofs.YtliehlefpodhaaaDoor
