/- alive of the inquiry laws: the chapter's examples are as they are. No condition. (Printed by gen_alive9.py.) -/
import Derived.Deep.RegionWith
import Derived.Test.YtliehlefpodhaaaDoorOGate
import Derived.Test.YtliehlefpodhaaaDoorOGate9
import Derived.Test.YtliehlefpodhaaaDoorOMerge
import Derived.Test.YtliehlefpodhaaaDoorOCount
namespace Go.Proofs.YtliehlefpodhaaaDoor
open Go.RowKit Go.Shelf Go.Sort

def aL : List Inq := [crd 1 110, crd 2 125]
def aC : List Inq := [crd 1 1, crd 2 10, crd 3 15, crd 4 16, crd 5 40]
def aT1 : List Trc := [⟨1, 900, 110, 1, 2⟩, ⟨2, 900, 125, 1, 0⟩]
def aT2 : List Trc := [⟨2, 900, 125, 1, 0⟩]
theorem aTr1 : tracesN gLs gSs aL 5 200 5 = 0 ∧ tracesR gLs gSs aL 5 200 5 = aT1 := by decide
theorem aTr2 : tracesN gLs gSs aL 5 200 1 = 0 ∧ tracesR gLs gSs aL 5 200 1 = aT2 := by decide
theorem aCn : tracesN gLs gSs aC 5 50 1 = 0 ∧ countN (tracesR gLs gSs aC 5 50 1) = 3 := by decide
theorem aMg : mergeN (gSs.take 2) (gSs.drop 1) = 0 ∧ mergeL (gSs.take 2) (gSs.drop 1) = gSs := by decide
theorem Rd.part {w : World} {size b off n : Nat} {xs : List Value} (h : Rd w size (some ⟨b, off, none⟩) n xs) (i m : Nat) (hm : i + m ≤ n) : Rd w size (some ⟨b, off + i * size, none⟩) m ((xs.drop (i * size)).take (m * size)) := by
  have hl := h.len
  have h1 : (i + m) * size ≤ n * size := Nat.mul_le_mul_right size hm
  rw [Nat.add_mul] at h1
  refine ⟨by rw [List.length_take, List.length_drop]; omega, fun h0 => ?_⟩
  obtain ⟨b', o', e, hb, hc⟩ := h.at_ (by omega)
  cases e
  refine ⟨b, off + i * size, rfl, hb, fun j u hu => ?_⟩
  rw [List.getElem?_take] at hu
  split at hu
  · rw [List.getElem?_drop] at hu
    have := hc _ _ hu
    rwa [← Nat.add_assoc] at this
  · cases hu
set_option maxRecDepth 100000 in
theorem mergeEx_any (b1 b2 : Nat) (w : World) (h1 : Rd w 6 (some ⟨b1, 0, none⟩) 4 (gSs.flatMap Sig.cells)) (h2 : Rd w 6 (some ⟨b2, 0, none⟩) 4 (gSs.flatMap Sig.cells)) (hG : LaidL w) :
    Calls Tryd.prog 22 #[.slice (some ⟨b1, 0, none⟩) 2 4, .slice (some ⟨b2, 6, none⟩) 3 3] w fun e w' => ∃ R r q, e = .returned (.tuple #[.slice R r q, .int .i64 0]) ∧ (Gr w w' ∧ OwnK Sig.cells 6 w w' R r q gSs) := by
  have p1 : SigsIn w (some ⟨b1, 0, none⟩) 2 (gSs.take 2) := ⟨h1.part 0 2 (by omega), by omega, by decide⟩
  have p2 : SigsIn w (some ⟨b2, 6, none⟩) 3 (gSs.drop 1) := ⟨show Rd w 6 (some ⟨b2, 0 + 1 * 6, none⟩) 3 (((gSs.flatMap Sig.cells).drop (1 * 6)).take (3 * 6)) from h2.part 1 3 (by omega), by omega, by decide⟩
  have h := merge_any (some ⟨b1, 0, none⟩) 2 4 (some ⟨b2, 6, none⟩) 3 3 (gSs.take 2) (gSs.drop 1) w p1 p2 hG
  rwa [aMg.1, aMg.2] at h

set_option maxRecDepth 100000 in
set_option maxHeartbeats 8000000 in
theorem alive9_any (b off cap : Nat) (w : World) (hR : LaidR w b off cap) (hG : LaidL w) :
    Calls Tryd.prog 29 #[] w fun e w' => e = .returned (.bool true) ∧ Gr w w' := by
  have HI0 := hid (fun W (k : Gr w W) => show Calls Tryd.prog 30 #[.int .i64 99, .bool false, .bool false] W fun e w' => e = .returned (.bool true) ∧ Gr W w' from by
    have h := is_any 99 false false W (hG.gr k)
    rwa [show (stN gSs 5 99 == 0 && (stFz gSs 5 99 == false && stAl gSs 5 99 == false)) = true by decide] at h)
  have HI1 := hid (fun W (k : Gr w W) => show Calls Tryd.prog 30 #[.int .i64 110, .bool true, .bool false] W fun e w' => e = .returned (.bool true) ∧ Gr W w' from by
    have h := is_any 110 true false W (hG.gr k)
    rwa [show (stN gSs 5 110 == 0 && (stFz gSs 5 110 == true && stAl gSs 5 110 == false)) = true by decide] at h)
  have HI2 := hid (fun W (k : Gr w W) => show Calls Tryd.prog 30 #[.int .i64 125, .bool false, .bool false] W fun e w' => e = .returned (.bool true) ∧ Gr W w' from by
    have h := is_any 125 false false W (hG.gr k)
    rwa [show (stN gSs 5 125 == 0 && (stFz gSs 5 125 == false && stAl gSs 5 125 == false)) = true by decide] at h)
  have HI3 := hid (fun W (k : Gr w W) => show Calls Tryd.prog 30 #[.int .i64 131, .bool true, .bool false] W fun e w' => e = .returned (.bool true) ∧ Gr W w' from by
    have h := is_any 131 true false W (hG.gr k)
    rwa [show (stN gSs 5 131 == 0 && (stFz gSs 5 131 == true && stAl gSs 5 131 == false)) = true by decide] at h)
  have HI4 := hid (fun W (k : Gr w W) => show Calls Tryd.prog 30 #[.int .i64 300, .bool false, .bool true] W fun e w' => e = .returned (.bool true) ∧ Gr W w' from by
    have h := is_any 300 false true W (hG.gr k)
    rwa [show (stN gSs 5 300 == 0 && (stFz gSs 5 300 == false && stAl gSs 5 300 == true)) = true by decide] at h)
  have HJ0 := hid (fun W (k : Gr w W) => show Calls Tryd.prog 31 #[.int .i64 900, .int .i64 110, .int .u8 1, .bool false, .int .u8 2] W fun e w' => e = .returned (.bool true) ∧ Gr W w' from by
    have h := becomes_any 900 110 1 2 false b off cap W (hR.gr k) (hG.gr k) (by omega) (by decide)
    rwa [show (askN gLs gSs ⟨0, 110, 900, 5, 1, false⟩ == 2) = true by decide] at h)
  have HJ1 := hid (fun W (k : Gr w W) => show Calls Tryd.prog 31 #[.int .i64 900, .int .i64 300, .int .u8 1, .bool false, .int .u8 3] W fun e w' => e = .returned (.bool true) ∧ Gr W w' from by
    have h := becomes_any 900 300 1 3 false b off cap W (hR.gr k) (hG.gr k) (by omega) (by decide)
    rwa [show (askN gLs gSs ⟨0, 300, 900, 5, 1, false⟩ == 3) = true by decide] at h)
  have HJ2 := hid (fun W (k : Gr w W) => show Calls Tryd.prog 31 #[.int .i64 900, .int .i64 300, .int .u8 1, .bool true, .int .u8 0] W fun e w' => e = .returned (.bool true) ∧ Gr W w' from by
    have h := becomes_any 900 300 1 0 true b off cap W (hR.gr k) (hG.gr k) (by omega) (by decide)
    rwa [show (askN gLs gSs ⟨0, 300, 900, 5, 1, true⟩ == 0) = true by decide] at h)
  have HJ3 := hid (fun W (k : Gr w W) => show Calls Tryd.prog 31 #[.int .i64 901, .int .i64 110, .int .u8 2, .bool false, .int .u8 0] W fun e w' => e = .returned (.bool true) ∧ Gr W w' from by
    have h := becomes_any 901 110 2 0 false b off cap W (hR.gr k) (hG.gr k) (by omega) (by decide)
    rwa [show (askN gLs gSs ⟨0, 110, 901, 5, 2, false⟩ == 0) = true by decide] at h)
  have HJ4 := hid (fun W (k : Gr w W) => show Calls Tryd.prog 31 #[.int .i64 901, .int .i64 110, .int .u8 1, .bool false, .int .u8 1] W fun e w' => e = .returned (.bool true) ∧ Gr W w' from by
    have h := becomes_any 901 110 1 1 false b off cap W (hR.gr k) (hG.gr k) (by omega) (by decide)
    rwa [show (askN gLs gSs ⟨0, 110, 901, 5, 1, false⟩ == 1) = true by decide] at h)
  have HRL := hid (And.intro hR hG)
  have HCr := hid (fun id day W => credit_any id day W)
  have HGt := hid (fun W => gate_any W)
  unfold Inq.val crd at HCr
  unfold Gat.val at HGt
  dsimp only at HCr HGt
  have hfl := field_sigs
  clear hR hG
  go_enter Tryd.func29, Tryd.ntmps29
  go_wp2_with fail
  refine (HCr.out _ _ _).mono ?_
  rintro e w1 ⟨rfl, g1⟩
  have G1 := hid g1
  clear g1
  go_wp2_with fail
  refine (HCr.out _ _ _).mono ?_
  rintro e w2 ⟨rfl, g2⟩
  have G2 : Hid (Gr w w2) := G1.out.trans g2
  clear g2
  go_wp2_with fail
  have RL := hid (heap_alloc_new w2 (.cells #[.int .i64 1, .int .i64 110, .int .i64 900, .int .i64 5, .int .u8 1, .bool false, .int .i64 2, .int .i64 125, .int .i64 900, .int .i64 5, .int .u8 1, .bool false] 27))
  have G2' : Hid (Gr w (w2.alloc (.cells #[.int .i64 1, .int .i64 110, .int .i64 900, .int .i64 5, .int .u8 1, .bool false, .int .i64 2, .int .i64 125, .int .i64 900, .int .i64 5, .int .u8 1, .bool false] 27))) := G2.out.alloc _
  generalize w2.alloc (.cells #[.int .i64 1, .int .i64 110, .int .i64 900, .int .i64 5, .int .u8 1, .bool false, .int .i64 2, .int .i64 125, .int .i64 900, .int .i64 5, .int .u8 1, .bool false] 27) = wL at RL G2' ⊢
  generalize w2.heap.size = bL at RL ⊢
  refine (HGt.out _).mono ?_
  rintro e w3 ⟨b1, b2, rfl, kg, kb, g3⟩
  have G3 : Hid (Gr w w3) := G2'.out.trans g3
  have K3 : Hid (GatIn w3 ⟨some ⟨b1, 0, none⟩, 2, 2, some ⟨b2, 0, none⟩, 4, 4⟩ gLs gSs ∧ b2 < w3.heap.size ∧ InqsIn w3 (some ⟨bL, 0, none⟩) 2 aL) := ⟨kg, kb, (rd_row (row_gr RL.out g3) 6 2 rfl), by omega, by decide⟩
  have GL := hid g3
  clear kg kb g3
  go_wp2_with fail
  refine (traces_any ⟨some ⟨b1, 0, none⟩, 2, 2, some ⟨b2, 0, none⟩, 4, 4⟩ gLs gSs (some ⟨bL, 0, none⟩) 2 2 aL 5 200 5 b off cap w3 K3.out.1 (fun b o e => by cases e; exact K3.out.2.1) (show 4 < 1000 by omega) (HRL.out.1.gr G3.out) (HRL.out.2.gr G3.out) K3.out.2.2 (by omega)).mono ?_
  rw [aTr1.1, aTr1.2]
  rintro e w4 ⟨B1, m1, d1, rfl, g4, T1⟩
  have HT1 := hid T1
  have G4 : Hid (Gr w w4) := G3.out.trans g4
  have GL4 : Hid (Gr wL w4) := GL.out.trans g4
  have hm1 : m1 = 2 := T1.len
  subst hm1
  clear g4 T1 K3
  go_wp2_with fail
  refine (HGt.out _).mono ?_
  rintro e w5 ⟨b3, b4, rfl, kg, kb, g5⟩
  have G5 : Hid (Gr w w5) := G4.out.trans g5
  have K5 : Hid (GatIn w5 ⟨some ⟨b3, 0, none⟩, 2, 2, some ⟨b4, 0, none⟩, 4, 4⟩ gLs gSs ∧ b4 < w5.heap.size ∧ InqsIn w5 (some ⟨bL, 0, none⟩) 2 aL) := ⟨kg, kb, (rd_row (row_gr RL.out (GL4.out.trans g5)) 6 2 rfl), by omega, by decide⟩
  have T15 : Hid (Gr w4 w5) := g5
  clear kg kb g5
  go_wp2_with fail
  refine (traces_any ⟨some ⟨b3, 0, none⟩, 2, 2, some ⟨b4, 0, none⟩, 4, 4⟩ gLs gSs (some ⟨bL, 0, none⟩) 2 2 aL 5 200 1 b off cap w5 K5.out.1 (fun b o e => by cases e; exact K5.out.2.1) (show 4 < 1000 by omega) (HRL.out.1.gr G5.out) (HRL.out.2.gr G5.out) K5.out.2.2 (by omega)).mono ?_
  rw [aTr2.1, aTr2.2]
  rintro e w6 ⟨B2, m2, d2, rfl, g6, T2⟩
  have HT2 := hid T2
  have G6 : Hid (Gr w w6) := G5.out.trans g6
  have T16 : Hid (Gr w4 w6) := T15.out.trans g6
  have hm2 : m2 = 1 := T2.len
  subst hm2
  clear g6 T2 K5
  go_wp2_with fail
  have RT := hid (heap_alloc_new w6 (.cells #[.int .i64 2, .int .i64 900, .int .i64 125, .int .u8 1, .int .u8 0] 72))
  have G6' : Hid (Gr w (w6.alloc (.cells #[.int .i64 2, .int .i64 900, .int .i64 125, .int .u8 1, .int .u8 0] 72))) := G6.out.alloc _
  have T16' : Hid (Gr w6 (w6.alloc (.cells #[.int .i64 2, .int .i64 900, .int .i64 125, .int .u8 1, .int .u8 0] 72))) := (Gr.refl w6).alloc _
  generalize w6.alloc (.cells #[.int .i64 2, .int .i64 900, .int .i64 125, .int .u8 1, .int .u8 0] 72) = wT at RT G6' T16' ⊢
  generalize w6.heap.size = bT at RT ⊢
  refine (HGt.out _).mono ?_
  rintro e w7 ⟨b5, b6, rfl, kg, kb, g7⟩
  have G7 : Hid (Gr w w7) := G6'.out.trans g7
  have K7 : Hid (GatIn w7 ⟨some ⟨b5, 0, none⟩, 2, 2, some ⟨b6, 0, none⟩, 4, 4⟩ gLs gSs ∧ b6 < w7.heap.size) := ⟨kg, kb⟩
  have TT7 : Hid (Gr wT w7) := g7
  clear kg kb g7
  go_wp2_with fail
  refine (HCr.out _ _ _).mono ?_
  rintro e v0 ⟨rfl, q0⟩
  have Q0 : Hid (Gr w7 v0) := q0
  clear q0
  go_wp2_with fail
  refine (HCr.out _ _ _).mono ?_
  rintro e v1 ⟨rfl, q1⟩
  have Q1 : Hid (Gr w7 v1) := Q0.out.trans q1
  clear q1
  go_wp2_with fail
  refine (HCr.out _ _ _).mono ?_
  rintro e v2 ⟨rfl, q2⟩
  have Q2 : Hid (Gr w7 v2) := Q1.out.trans q2
  clear q2
  go_wp2_with fail
  refine (HCr.out _ _ _).mono ?_
  rintro e v3 ⟨rfl, q3⟩
  have Q3 : Hid (Gr w7 v3) := Q2.out.trans q3
  clear q3
  go_wp2_with fail
  refine (HCr.out _ _ _).mono ?_
  rintro e v4 ⟨rfl, q4⟩
  have Q4 : Hid (Gr w7 v4) := Q3.out.trans q4
  clear q4
  go_wp2_with fail
  have RC := hid (heap_alloc_new v4 (.cells #[.int .i64 1, .int .i64 1, .int .i64 900, .int .i64 5, .int .u8 1, .bool false, .int .i64 2, .int .i64 10, .int .i64 900, .int .i64 5, .int .u8 1, .bool false, .int .i64 3, .int .i64 15, .int .i64 900, .int .i64 5, .int .u8 1, .bool false, .int .i64 4, .int .i64 16, .int .i64 900, .int .i64 5, .int .u8 1, .bool false, .int .i64 5, .int .i64 40, .int .i64 900, .int .i64 5, .int .u8 1, .bool false] 27))
  have QL : Hid (Gr w7 (v4.alloc (.cells #[.int .i64 1, .int .i64 1, .int .i64 900, .int .i64 5, .int .u8 1, .bool false, .int .i64 2, .int .i64 10, .int .i64 900, .int .i64 5, .int .u8 1, .bool false, .int .i64 3, .int .i64 15, .int .i64 900, .int .i64 5, .int .u8 1, .bool false, .int .i64 4, .int .i64 16, .int .i64 900, .int .i64 5, .int .u8 1, .bool false, .int .i64 5, .int .i64 40, .int .i64 900, .int .i64 5, .int .u8 1, .bool false] 27))) := Q4.out.alloc _
  generalize v4.alloc (.cells #[.int .i64 1, .int .i64 1, .int .i64 900, .int .i64 5, .int .u8 1, .bool false, .int .i64 2, .int .i64 10, .int .i64 900, .int .i64 5, .int .u8 1, .bool false, .int .i64 3, .int .i64 15, .int .i64 900, .int .i64 5, .int .u8 1, .bool false, .int .i64 4, .int .i64 16, .int .i64 900, .int .i64 5, .int .u8 1, .bool false, .int .i64 5, .int .i64 40, .int .i64 900, .int .i64 5, .int .u8 1, .bool false] 27) = wC at RC QL ⊢
  generalize v4.heap.size = bC at RC ⊢
  have GC : Hid (Gr w wC) := G7.out.trans QL.out
  refine (count_any ⟨some ⟨b5, 0, none⟩, 2, 2, some ⟨b6, 0, none⟩, 4, 4⟩ gLs gSs (some ⟨bC, 0, none⟩) 5 5 aC 5 50 b off cap wC (K7.out.1.gr QL.out) (fun b o e => by cases e; exact Nat.lt_of_lt_of_le K7.out.2 QL.out.size) (show 4 < 1000 by omega) (HRL.out.1.gr GC.out) (HRL.out.2.gr GC.out) ⟨rd_row RC.out 6 5 rfl, by omega, by decide⟩).mono ?_
  rw [aCn.1, aCn.2]
  rintro e w8 ⟨rfl, g8⟩
  have G8 : Hid (Gr w w8) := GC.out.trans g8
  have TT8 : Hid (Gr wT w8) := (TT7.out.trans QL.out).trans g8
  clear g8 Q0 Q1 Q2 Q3 Q4 QL GC RC K7
  go_wp2_with fail
  have tok1 : True := trivial
  have tok2 : True := trivial
  go_region_with (first
    | (go_at_call 32; have _t := tok1; refine (HGt.out _).mono ?_; rintro e w9 ⟨b7, b8, rfl, kg, kb, g9⟩; have G9 := hid g9; have K9 := hid (And.intro kg kb); clear tok1 _t kg kb g9)
    | (go_at_call 32; have _t := tok2; refine (HGt.out _).mono ?_; rintro e wa ⟨b9, ba, rfl, kg, kb, ga⟩; have GA := hid ga; have KA := hid (And.intro kg kb); clear tok2 _t kg kb ga)
    | (go_at_call 22; refine (mergeEx_any b8 ba wa (K9.out.1.sigs.rd.gr GA.out) KA.out.1.sigs.rd (HRL.out.2.gr ((G8.out.drew.trans G9.out).trans GA.out))).mono ?_; rintro e wb ⟨R3, r3, q3, rfl, gb, T3⟩; have GB := hid gb; have HT3 := hid T3; have hr3 : r3 = 4 := T3.len; subst hr3; clear gb T3))
  all_goals
    have X0 : Hid (Gr w wb) := ((G8.out.drew.trans G9.out).trans GA.out).trans GB.out
    have TTb : Hid (Gr wT wb) := ((TT8.out.drew.trans G9.out).trans GA.out).trans GB.out
    have GB0 : Hid (Gr wb wb) := Gr.refl wb
    clear G1 G2 G2' G3 G4 G5 G6 G7 RL GL GL4
    have tok3 : True := trivial
    have tok4 : True := trivial
    go_wp2_with (first
      | (go_at_call 30; (with_reducible refine (HI0.out _ X0.out).mono ?_); rintro e y0 ⟨rfl, h0⟩; have Y0 : Hid (Gr w y0) := X0.out.trans h0; have Z0 : Hid (Gr wb y0) := GB0.out.trans h0; clear h0)
      | (go_at_call 30; (with_reducible refine (HI1.out _ Y0.out).mono ?_); rintro e y1 ⟨rfl, h1⟩; have Y1 : Hid (Gr w y1) := Y0.out.trans h1; have Z1 : Hid (Gr wb y1) := Z0.out.trans h1; clear h1)
      | (go_at_call 30; (with_reducible refine (HI2.out _ Y1.out).mono ?_); rintro e y2 ⟨rfl, h2⟩; have Y2 : Hid (Gr w y2) := Y1.out.trans h2; have Z2 : Hid (Gr wb y2) := Z1.out.trans h2; clear h2)
      | (go_at_call 30; (with_reducible refine (HI3.out _ Y2.out).mono ?_); rintro e y3 ⟨rfl, h3⟩; have Y3 : Hid (Gr w y3) := Y2.out.trans h3; have Z3 : Hid (Gr wb y3) := Z2.out.trans h3; clear h3)
      | (go_at_call 30; (with_reducible refine (HI4.out _ Y3.out).mono ?_); rintro e y4 ⟨rfl, h4⟩; have Y4 : Hid (Gr w y4) := Y3.out.trans h4; have Z4 : Hid (Gr wb y4) := Z3.out.trans h4; clear h4)
      | (go_at_call 31; (with_reducible refine (HJ0.out _ Y4.out).mono ?_); rintro e z0 ⟨rfl, j0⟩; have V0 : Hid (Gr w z0) := Y4.out.trans j0; have U0 : Hid (Gr wb z0) := Z4.out.trans j0; clear j0)
      | (go_at_call 31; (with_reducible refine (HJ1.out _ V0.out).mono ?_); rintro e z1 ⟨rfl, j1⟩; have V1 : Hid (Gr w z1) := V0.out.trans j1; have U1 : Hid (Gr wb z1) := U0.out.trans j1; clear j1)
      | (go_at_call 31; (with_reducible refine (HJ2.out _ V1.out).mono ?_); rintro e z2 ⟨rfl, j2⟩; have V2 : Hid (Gr w z2) := V1.out.trans j2; have U2 : Hid (Gr wb z2) := U1.out.trans j2; clear j2)
      | (go_at_call 31; (with_reducible refine (HJ3.out _ V2.out).mono ?_); rintro e z3 ⟨rfl, j3⟩; have V3 : Hid (Gr w z3) := V2.out.trans j3; have U3 : Hid (Gr wb z3) := U2.out.trans j3; clear j3)
      | (go_at_call 31; (with_reducible refine (HJ4.out _ V3.out).mono ?_); rintro e z4 ⟨rfl, j4⟩; have V4 : Hid (Gr w z4) := V3.out.trans j4; have U4 : Hid (Gr wb z4) := U3.out.trans j4; clear j4; have RTz := row_gr RT.out (TTb.out.trans U4.out); have t0 := row_cell_at (v := .int .i64 2) RTz 0 rfl; have t1 := row_cell_at (v := .int .i64 900) RTz 1 rfl; have t2 := row_cell_at (v := .int .i64 125) RTz 2 rfl; have t3 := row_cell_at (v := .int .u8 1) RTz 3 rfl; have t4 := row_cell_at (v := .int .u8 0) RTz 4 rfl; have hzz : bT < z4.heap.size := block_lt_of_cell t0; clear RTz)
      | (go_at_call 20; have _t := tok3; go_loud (refine (sameTraces_any B1 2 d1 (some ⟨z4.heap.size, 0, none⟩) 2 aT1 _ ((HT1.out.rd.gr (T16.out.trans (T16'.out.trans (TTb.out.trans U4.out)))).gr ((Gr.refl z4).alloc _)) (rd_row (heap_alloc_new z4 _) 5 2 rfl) (by omega)).mono ?_); rintro e k0 ⟨rfl, n0⟩; obtain ⟨hck, hfk, hzk⟩ := n0.rules; (try simp at hzk); have hzk0 : bT < k0.heap.size := (by omega); have N0 : Hid (Gr z4 k0) := ((Gr.refl z4).alloc _).trans n0; clear n0 _t tok3)
      | (go_at_call 20; have _t := tok4; refine (sameTraces_any B2 1 d2 (some ⟨k0.heap.size, 0, none⟩) 1 aT2 _ ((HT2.out.rd.gr (T16'.out.trans ((TTb.out.trans U4.out).trans N0.out))).gr ((Gr.refl k0).alloc _)) (rd_row (heap_alloc_new k0 _) 5 1 rfl) (by omega)).mono ?_; rintro e k1 ⟨rfl, n1⟩; have N1 : Hid (Gr k0 k1) := ((Gr.refl k0).alloc _).trans n1; clear n1 _t tok4)
      | (go_at_call 32; refine (HGt.out _).mono ?_; rintro e k2 ⟨bb, bc, rfl, kg, kb, n2⟩; have N2 : Hid (Gr k1 k2) := n2; have KB := hid (And.intro kg kb); clear kg kb n2)
      | (go_at_call 28; refine (sameSignals_any R3 4 q3 (some ⟨bc, 0, none⟩) 4 gSs _ ((HT3.out.rd Sig.len).gr (((U4.out.trans N0.out).trans N1.out).trans N2.out)) KB.out.1.sigs.rd (by omega)).mono ?_; rintro e k3 ⟨rfl, n3⟩; have N3 := hid n3; clear n3))
    go_ret
    exact ⟨rfl, (((V4.out.trans N0.out).trans N1.out).trans N2.out).trans N3.out⟩
end Go.Proofs.YtliehlefpodhaaaDoor
