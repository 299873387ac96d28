/- SumExamples of the statements on sums: the walk: it answers true. (Printed by gen_examples10.py.) -/
import Derived.Test.YtimhkkijoelmhaaQAlive10
import Derived.Test.YtimhkkijoelmhaaQLine10
namespace Go.Proofs.Ytimhkkijoelmhaa
open Go.RowKit

def genX (lo hi clip step : Int) : Qst := ⟨none, 1, 0, [⟨0, lo, hi⟩], 1, clip, step⟩
def genQ (b : Nat) (lo hi clip step : Int) : Qst := ⟨some ⟨b, 0, none⟩, 1, 1, [⟨0, lo, hi⟩], 1, clip, step⟩
theorem gen_bare (b : Nat) (lo hi clip step : Int) : (genQ b lo hi clip step).bare = (genX lo hi clip step).bare := rfl
theorem gen_in {w : World} {b : Nat} {lo hi clip step : Int} (h : QstIn w (agedQ b lo hi)) : QstIn w (genQ b lo hi clip step) := ⟨h.rd, h.big⟩
def othX : List Qst := [genX 30 45 800 100, genX 30 45 700 100]
theorem y1 : sumP 2 tblX (genX 30 60 800 300) = 2100 ∧ sumBd 2 tblX (genX 30 60 800 300) = 900 ∧ askN10 2 tblX (genX 30 60 800 300) = 0 := ⟨by kernel_rfl, by kernel_rfl, by kernel_rfl⟩
theorem y2 : sumP 2 tblX (genX 30 45 800 100) = 1200 ∧ sumBd 2 tblX (genX 30 45 800 100) = 800 ∧ askN10 2 tblX (genX 30 45 800 100) = 0 := ⟨by kernel_rfl, by kernel_rfl, by kernel_rfl⟩
theorem y3 : howT 2 tblX qstsX 2 = ([1, 1, -1], 1, 0) := by kernel_rfl
theorem y4 : sumP 2 tblX (genX 30 45 800 0) = 0 ∧ sumBd 2 tblX (genX 30 45 800 0) = 0 ∧ askN10 2 tblX (genX 30 45 800 0) = 101 := ⟨by kernel_rfl, by kernel_rfl, by kernel_rfl⟩
theorem y5 : deducedT 2 tblX othX = [] ∧ auditN 2 tblX othX = 102 := ⟨by kernel_rfl, by kernel_rfl⟩
theorem y6 : howT 2 tblX qstsX 4 = ([], 0, 6) := by kernel_rfl
theorem y7 : hideT 2 tblX qstsX 1 = ([], 6) := by kernel_rfl
theorem y8 : howT 2 tblX (qstsX.take 2) 1 = ([], 0, 6) := by kernel_rfl
theorem y9 : hideT 2 tblX qstsX 4 = ([], 6) := by kernel_rfl
theorem y10 : meetsT 1 tblX (genX 30 45 800 0) = [] ∧ askN10 1 tblX (genX 30 45 800 0) = 100 := ⟨by kernel_rfl, by kernel_rfl⟩
theorem y11 : tableN 0 [] = 100 := by kernel_rfl

set_option maxRecDepth 100000 in
set_option maxHeartbeats 2000000 in
theorem sumExamples_any (w : World) : Calls Try.prog 6 #[] w fun e w' => e = .returned (.bool true) ∧ Gr w w' := by
  have HAl := hid (fun W => alive10_any W)
  have HTb := hid (fun W => table_any W)
  have HQs := hid (fun W => questions_any W)
  have HAg := hid (fun lo hi W => aged_any lo hi W)
  have HSw := hid (fun (B b1 b2 b3 : Nat) (b : Nat) W (hS : SbjsIn W (some ⟨B, 0, none⟩) 3 (tblQ b1 b2 b3)) (hq : QstIn W (genQ b 30 60 800 300)) => show Calls Try.prog 18 #[.int .i64 2, .slice (some ⟨B, 0, none⟩) 3 3, .agg #[.slice (some ⟨b, 0, none⟩) 1 1, .int .i64 1, .int .i64 800, .int .i64 300]] W (fun e w' => e = .returned (.tuple #[.int .i64 2100, .int .i64 900, .int .i64 0]) ∧ Gr W w') from by
    have h := sum10_any 2 _ 3 3 _ _ W hS hq
    rw [like_sumP (tbl_bare b1 b2 b3) (gen_bare b 30 60 800 300), like_sumBd (tbl_bare b1 b2 b3) (gen_bare b 30 60 800 300), like_ask (tbl_bare b1 b2 b3) (gen_bare b 30 60 800 300), y1.1, y1.2.1, y1.2.2] at h
    exact h)
  have HSa := hid (fun (B b1 b2 b3 : Nat) (b : Nat) W (hS : SbjsIn W (some ⟨B, 0, none⟩) 3 (tblQ b1 b2 b3)) (hq : QstIn W (genQ b 30 45 800 100)) => show Calls Try.prog 18 #[.int .i64 2, .slice (some ⟨B, 0, none⟩) 3 3, .agg #[.slice (some ⟨b, 0, none⟩) 1 1, .int .i64 1, .int .i64 800, .int .i64 100]] W (fun e w' => e = .returned (.tuple #[.int .i64 1200, .int .i64 800, .int .i64 0]) ∧ Gr W w') from by
    have h := sum10_any 2 _ 3 3 _ _ W hS hq
    rw [like_sumP (tbl_bare b1 b2 b3) (gen_bare b 30 45 800 100), like_sumBd (tbl_bare b1 b2 b3) (gen_bare b 30 45 800 100), like_ask (tbl_bare b1 b2 b3) (gen_bare b 30 45 800 100), y2.1, y2.2.1, y2.2.2] at h
    exact h)
  have HSb := hid (fun (B b1 b2 b3 : Nat) (b : Nat) W (hS : SbjsIn W (some ⟨B, 0, none⟩) 3 (tblQ b1 b2 b3)) (hq : QstIn W (genQ b 30 45 800 0)) => show Calls Try.prog 18 #[.int .i64 2, .slice (some ⟨B, 0, none⟩) 3 3, .agg #[.slice (some ⟨b, 0, none⟩) 1 1, .int .i64 1, .int .i64 800, .int .i64 0]] W (fun e w' => e = .returned (.tuple #[.int .i64 0, .int .i64 0, .int .i64 101]) ∧ Gr W w') from by
    have h := sum10_any 2 _ 3 3 _ _ W hS hq
    rw [like_sumP (tbl_bare b1 b2 b3) (gen_bare b 30 45 800 0), like_sumBd (tbl_bare b1 b2 b3) (gen_bare b 30 45 800 0), like_ask (tbl_bare b1 b2 b3) (gen_bare b 30 45 800 0), y4.1, y4.2.1, y4.2.2] at h
    exact h)
  have HH2 := hid (fun (B b1 b2 b3 : Nat) (D d1 d2 d3 : Nat) W (hS : SbjsIn W (some ⟨B, 0, none⟩) 3 (tblQ b1 b2 b3)) (hq : QstsIn W (some ⟨D, 0, none⟩) 3 (qstsQ d1 d2 d3)) => show Calls Try.prog 27 #[.int .i64 2, .slice (some ⟨B, 0, none⟩) 3 3, .slice (some ⟨D, 0, none⟩) 3 3, .int .i64 2] W (HowRet ([1, 1, -1], 1, 0) W) from by
    have h := how_any 2 _ 3 3 _ _ 3 3 _ 2 W hS hq (by omega)
    rw [like_how (tbl_bare b1 b2 b3) (qsts_bare d1 d2 d3), y3] at h
    exact h)
  have HH4 := hid (fun (B b1 b2 b3 : Nat) (D d1 d2 d3 : Nat) W (hS : SbjsIn W (some ⟨B, 0, none⟩) 3 (tblQ b1 b2 b3)) (hq : QstsIn W (some ⟨D, 0, none⟩) 3 (qstsQ d1 d2 d3)) => show Calls Try.prog 27 #[.int .i64 2, .slice (some ⟨B, 0, none⟩) 3 3, .slice (some ⟨D, 0, none⟩) 3 3, .int .i64 4] W (HowRet ([], 0, 6) W) from by
    have h := how_any 2 _ 3 3 _ _ 3 3 _ 4 W hS hq (by omega)
    rw [like_how (tbl_bare b1 b2 b3) (qsts_bare d1 d2 d3), y6] at h
    exact h)
  have HH1 := hid (fun (B b1 b2 b3 : Nat) (D d1 d2 d3 : Nat) W (hS : SbjsIn W (some ⟨B, 0, none⟩) 3 (tblQ b1 b2 b3)) (hq : QstsIn W (some ⟨D, 0, none⟩) 2 ((qstsQ d1 d2 d3).take 2)) => show Calls Try.prog 27 #[.int .i64 2, .slice (some ⟨B, 0, none⟩) 3 3, .slice (some ⟨D, 0, none⟩) 2 3, .int .i64 1] W (HowRet ([], 0, 6) W) from by
    have h := how_any 2 _ 3 3 _ _ 2 3 _ 1 W hS hq (by omega)
    rw [like_how (tbl_bare b1 b2 b3) (qsts2_bare d1 d2 d3), y8] at h
    exact h)
  have HD1 := hid (fun (B b1 b2 b3 : Nat) (D d1 d2 d3 : Nat) W (hS : SbjsIn W (some ⟨B, 0, none⟩) 3 (tblQ b1 b2 b3)) (hq : QstsIn W (some ⟨D, 0, none⟩) 3 (qstsQ d1 d2 d3)) => show Calls Try.prog 29 #[.int .i64 2, .slice (some ⟨B, 0, none⟩) 3 3, .slice (some ⟨D, 0, none⟩) 3 3, .int .i64 1] W (MeetsRet [] 6 W) from by
    have h := hide_any 2 _ 3 3 _ _ 3 3 _ 1 W hS hq (by omega)
    rw [like_hide (tbl_bare b1 b2 b3) (qsts_bare d1 d2 d3), y7] at h
    exact h)
  have HD4 := hid (fun (B b1 b2 b3 : Nat) (D d1 d2 d3 : Nat) W (hS : SbjsIn W (some ⟨B, 0, none⟩) 3 (tblQ b1 b2 b3)) (hq : QstsIn W (some ⟨D, 0, none⟩) 3 (qstsQ d1 d2 d3)) => show Calls Try.prog 29 #[.int .i64 2, .slice (some ⟨B, 0, none⟩) 3 3, .slice (some ⟨D, 0, none⟩) 3 3, .int .i64 4] W (MeetsRet [] 6 W) from by
    have h := hide_any 2 _ 3 3 _ _ 3 3 _ 4 W hS hq (by omega)
    rw [like_hide (tbl_bare b1 b2 b3) (qsts_bare d1 d2 d3), y9] at h
    exact h)
  have HMt := hid (fun (B b1 b2 b3 : Nat) (b : Nat) W (hS : SbjsIn W (some ⟨B, 0, none⟩) 3 (tblQ b1 b2 b3)) (hq : QstIn W (genQ b 30 45 800 0)) => show Calls Try.prog 16 #[.int .i64 1, .slice (some ⟨B, 0, none⟩) 3 3, .agg #[.slice (some ⟨b, 0, none⟩) 1 1, .int .i64 1, .int .i64 800, .int .i64 0]] W (MeetsRet [] 100 W) from by
    have h := meets10_any 1 _ 3 3 _ _ W hS hq
    rw [like_meets (tbl_bare b1 b2 b3) (gen_bare b 30 45 800 0), like_ask (tbl_bare b1 b2 b3) (gen_bare b 30 45 800 0), y10.1, y10.2] at h
    exact h)
  have HDo := hid (fun (B b1 b2 b3 : Nat) (D d1 d2 : Nat) W (hS : SbjsIn W (some ⟨B, 0, none⟩) 3 (tblQ b1 b2 b3)) (hq : QstsIn W (some ⟨D, 0, none⟩) 2 [genQ d1 30 45 800 100, genQ d2 30 45 700 100]) => show Calls Try.prog 25 #[.int .i64 2, .slice (some ⟨B, 0, none⟩) 3 3, .slice (some ⟨D, 0, none⟩) 2 2] W (MeetsRet [] 102 W) from by
    have h := deduced_any 2 _ 3 3 _ _ 2 2 _ W hS hq
    rw [like_deduced (tbl_bare b1 b2 b3) (show [genQ d1 30 45 800 100, genQ d2 30 45 700 100].map Qst.bare = othX.map Qst.bare from rfl), like_audit (tbl_bare b1 b2 b3) (show [genQ d1 30 45 800 100, genQ d2 30 45 700 100].map Qst.bare = othX.map Qst.bare from rfl), y5.1, y5.2] at h
    exact h)
  have HCk := hid (fun W => show Calls Try.prog 20 #[.int .i64 0, .slice none 0 0] W (fun e w' => e = .returned (.int .i64 100) ∧ Gr W w') from by
    have h := check10_any 0 none 0 0 [] W ⟨Rd.nil_, by omega, fun s hs => by simp at hs, fun s hs => by simp at hs⟩
    rwa [y11] at h)
  have HLP := hid (fun (W : World) => show Rd (W.alloc (.cells #[.int .i64 1, .int .i64 1, .int .i64 (-1)] 3)) 1 (some ⟨W.heap.size, 0, none⟩) 3 (([1, 1, -1] : List Int).map (Value.int .i64)) from rd_row10 (heap_alloc_new W _) 1 3 rfl)
  unfold MeetsRet at HD1 HD4 HMt HDo
  unfold HowRet at HH2 HH4 HH1
  dsimp only at HH2 HH4 HH1
  have G := hid (Gr.refl w)
  go_enter Try.func6, Try.ntmps6
  go_upto_region 5 with (first
    | (go_at_call 31; (with_reducible refine (HAl.out _).mono ?_); rintro e wv ⟨rfl, hb⟩; have G := hid (G.out.trans hb); (try have HX1 := hid (row_gr HX1.out hb)); (try have HX2 := hid (row_gr HX2.out hb)); (try have HY1 := hid (HY1.out.gr hb)); (try have HY2 := hid (HY2.out.gr hb)); (try have HS := hid (HS.out.gr hb)); (try have GP := hid (GP.out.trans hb)); clear hb)
    | (go_at_call 32; (with_reducible refine (HAg.out _ _ _).mono ?_); rintro e wv ⟨b, rfl, hb, hq⟩; have G := hid (G.out.trans hb); (try have HX1 := hid (row_gr HX1.out hb)); (try have HX2 := hid (row_gr HX2.out hb)); (try have HY1 := hid (HY1.out.gr hb)); (try have HY2 := hid (HY2.out.gr hb)); (try have HS := hid (HS.out.gr hb)); (try have GP := hid (GP.out.trans hb)); have HQ1 := hid hq; clear hb hq))
  have HX1 := hid (heap_alloc_new wv (.cells #[.slice (some ⟨b, 0, none⟩) 1 1, .int .i64 1, .int .i64 800, .int .i64 300] 25))
  have hb : Gr wv (wv.alloc (.cells #[.slice (some ⟨b, 0, none⟩) 1 1, .int .i64 1, .int .i64 800, .int .i64 300] 25)) := (Gr.refl wv).alloc _
  have HY1 := hid (HQ1.out.gr hb)
  have G := hid (G.out.trans hb)
  obtain ⟨X1, hX1⟩ : ∃ X, wv.heap.size = X := ⟨_, rfl⟩
  rw [hX1] at HX1 ⊢
  clear hX1 hb
  generalize wv.alloc (.cells #[.slice (some ⟨b, 0, none⟩) 1 1, .int .i64 1, .int .i64 800, .int .i64 300] 25) = wa at *
  obtain ⟨q0, q1, q2, q3⟩ := row4 HX1.out
  refine wp_region_ord (C := fun w' => ∃ p : GrW wa, w' = p.W) [(1, false), (0, true), (2, true), (3, false), (4, false), (5, false), (6, false), (7, false), (8, false), (9, false)] (by rfl) (by kernel_rfl) (by kernel_rfl) ⟨⟨_, (Gr.refl wa).drew⟩, rfl⟩ ?_
  (repeat (first | ((refine ord_read0 rfl rfl rfl (fun K hK => ?_)); go_big_quiet_op; (with_reducible refine hK _ ?_); clear hK K) | ((refine ord_skipG rfl rfl rfl rfl rfl ?_); simp only [Act.put, List.setIfInBounds_toArray, List.set_cons_zero, List.set_cons_succ]) | ((refine ord_readG rfl rfl rfl rfl rfl rfl (fun K hK => ?_)); go_big_quiet_op; (with_reducible refine hK _ ?_); clear hK K) | ((refine ord_nilc rfl rfl rfl rfl ?_); simp only [Act.put, List.setIfInBounds_toArray, List.set_cons_zero, List.set_cons_succ])))
  (first | (refine ord_mem0 rfl rfl (fun K hK => ?_)) | (refine ord_memG rfl rfl rfl rfl rfl (fun K hK => ?_)))
  go_simp
  refine (HTb.out _).mono ?_
  rintro e wb ⟨B, b1, b2, b3, rfl, hb, hS⟩
  have Gt := hid ((Gr.refl wa).drew.trans hb)
  have HS := hid hS
  refine hK.out _ _ ⟨⟨wb, Gt.out⟩, rfl⟩ ?_
  clear hK K hb hS
  (first | (refine ord_mem0 rfl rfl (fun K hK => ?_)) | (refine ord_memG rfl rfl rfl rfl rfl (fun K hK => ?_)))
  go_simp
  refine (HSw.out _ _ _ _ _ _ HS.out (gen_in (HY1.out.gr Gt.out))).mono ?_
  rintro e wc ⟨rfl, hb⟩
  have Gt := hid (Gt.out.trans hb)
  refine hK.out _ _ ⟨⟨wc, Gt.out⟩, rfl⟩ ?_
  clear hK K hb HS q0 q1 q2 q3
  (repeat (first | ((refine ord_read0 rfl rfl rfl (fun K hK => ?_)); go_big_quiet_op; (with_reducible refine hK _ ?_); clear hK K) | ((refine ord_skipG rfl rfl rfl rfl rfl ?_); simp only [Act.put, List.setIfInBounds_toArray, List.set_cons_zero, List.set_cons_succ]) | ((refine ord_readG rfl rfl rfl rfl rfl rfl (fun K hK => ?_)); go_big_quiet_op; (with_reducible refine hK _ ?_); clear hK K) | ((refine ord_nilc rfl rfl rfl rfl ?_); simp only [Act.put, List.setIfInBounds_toArray, List.set_cons_zero, List.set_cons_succ])))
  (with_reducible refine ord_nil ?_)
  have hb := Gt.out
  have G := hid (G.out.trans hb)
  (try have HX1 := hid (row_gr HX1.out hb))
  (try have HX2 := hid (row_gr HX2.out hb))
  (try have HY1 := hid (HY1.out.gr hb))
  (try have HY2 := hid (HY2.out.gr hb))
  (try have HS := hid (HS.out.gr hb))
  (try have GP := hid (GP.out.trans hb))
  clear hb Gt
  go_upto_region 10 with (first
    | (go_at_call 33; (with_reducible refine (HTb.out _).mono ?_); rintro e wv ⟨B, b1, b2, b3, rfl, hb, hS⟩; have G := hid (G.out.trans hb); (try have HX1 := hid (row_gr HX1.out hb)); (try have HX2 := hid (row_gr HX2.out hb)); (try have HY1 := hid (HY1.out.gr hb)); (try have HY2 := hid (HY2.out.gr hb)); (try have HS := hid (HS.out.gr hb)); (try have GP := hid (GP.out.trans hb)); have HS := hid hS; clear hb hS)
    | (go_at_call 32; (with_reducible refine (HAg.out _ _ _).mono ?_); rintro e wv ⟨b, rfl, hb, hq⟩; have G := hid (G.out.trans hb); (try have HX1 := hid (row_gr HX1.out hb)); (try have HX2 := hid (row_gr HX2.out hb)); (try have HY1 := hid (HY1.out.gr hb)); (try have HY2 := hid (HY2.out.gr hb)); (try have HS := hid (HS.out.gr hb)); (try have GP := hid (GP.out.trans hb)); have HQ1 := hid hq; clear hb hq)
    | (go_at_call 34; (with_reducible refine (HQs.out _).mono ?_); rintro e wv ⟨D, d1, d2, d3, rfl, hb, hQ⟩; have HQ := hid hQ; have HQ2 := hid (hQ.first (k := 2) (by omega)); have G := hid (G.out.trans hb); (try have HX1 := hid (row_gr HX1.out hb)); (try have HX2 := hid (row_gr HX2.out hb)); (try have HY1 := hid (HY1.out.gr hb)); (try have HY2 := hid (HY2.out.gr hb)); (try have HS := hid (HS.out.gr hb)); (try have GP := hid (GP.out.trans hb)); clear hb hQ)
    | (go_at_call 18; (with_reducible refine (HSa.out _ _ _ _ _ _ HS.out (gen_in HQ1.out)).mono ?_); rintro e wv ⟨rfl, hb⟩; have G := hid (G.out.trans hb); (try have HX1 := hid (row_gr HX1.out hb)); (try have HX2 := hid (row_gr HX2.out hb)); (try have HY1 := hid (HY1.out.gr hb)); (try have HY2 := hid (HY2.out.gr hb)); (try have HS := hid (HS.out.gr hb)); (try have GP := hid (GP.out.trans hb)); clear hb)
    | (go_at_call 27; (with_reducible refine (HH2.out _ _ _ _ _ _ _ _ _ HS.out HQ.out).mono ?_); rintro e wv ⟨AP, nP, cP, rfl, hb, hr, _⟩; have RP := hid hr; have G := hid (G.out.trans hb); (try have HX1 := hid (row_gr HX1.out hb)); (try have HX2 := hid (row_gr HX2.out hb)); (try have HY1 := hid (HY1.out.gr hb)); (try have HY2 := hid (HY2.out.gr hb)); (try have HS := hid (HS.out.gr hb)); (try have GP := hid (GP.out.trans hb)); have GP := hid (Gr.refl wv); clear hb; obtain rfl : nP = 3 := (by have h := hr.len; simpa [intsC] using h.symm); clear hr)
    | (go_at_call 22; (with_reducible refine (sameInts_any [1, 1, -1] 3 AP cP _ 3 _ (RP.out.gr (GP.out.alloc _)) (HLP.out _) (by omega)).mono ?_); rintro e wv ⟨rfl, hb⟩; replace hb := ((Gr.refl _).alloc _).trans hb; have G := hid (G.out.trans hb); (try have HX1 := hid (row_gr HX1.out hb)); (try have HX2 := hid (row_gr HX2.out hb)); (try have HY1 := hid (HY1.out.gr hb)); (try have HY2 := hid (HY2.out.gr hb)); (try have HS := hid (HS.out.gr hb)); (try have GP := hid (GP.out.trans hb)); clear hb))
  clear RP GP HX1 HY1
  go_wp2_with fail
  refine (HAg.out _ _ _).mono ?_
  rintro e wv ⟨ba, rfl, hb, hqa⟩
  have G := hid (G.out.trans hb)
  (try have HX1 := hid (row_gr HX1.out hb))
  (try have HX2 := hid (row_gr HX2.out hb))
  (try have HY1 := hid (HY1.out.gr hb))
  (try have HY2 := hid (HY2.out.gr hb))
  (try have HS := hid (HS.out.gr hb))
  (try have GP := hid (GP.out.trans hb))
  have HY1 := hid hqa
  clear hb hqa
  go_wp2_with fail
  refine (HAg.out _ _ _).mono ?_
  rintro e wv ⟨bb, rfl, hb, hqb⟩
  have G := hid (G.out.trans hb)
  (try have HX1 := hid (row_gr HX1.out hb))
  (try have HX2 := hid (row_gr HX2.out hb))
  (try have HY1 := hid (HY1.out.gr hb))
  (try have HY2 := hid (HY2.out.gr hb))
  (try have HS := hid (HS.out.gr hb))
  (try have GP := hid (GP.out.trans hb))
  have HY2 := hid hqb
  clear hb hqb
  go_upto_region 13 with fail
  obtain ⟨r1, r2⟩ := rows2 wv (.cells #[.slice (some ⟨ba, 0, none⟩) 1 1, .int .i64 1, .int .i64 800, .int .i64 0] 25) (.cells #[.slice (some ⟨bb, 0, none⟩) 1 1, .int .i64 1, .int .i64 700, .int .i64 100] 25)
  have hb : Gr wv ((wv.alloc (.cells #[.slice (some ⟨ba, 0, none⟩) 1 1, .int .i64 1, .int .i64 800, .int .i64 0] 25)).alloc (.cells #[.slice (some ⟨bb, 0, none⟩) 1 1, .int .i64 1, .int .i64 700, .int .i64 100] 25)) := ((Gr.refl wv).alloc _).alloc _
  have HX1 := hid r1
  have HX2 := hid r2
  have HY1 := hid (HY1.out.gr hb)
  have HY2 := hid (HY2.out.gr hb)
  have G := hid (G.out.trans hb)
  clear r1 r2 hb
  obtain ⟨X2, hX2⟩ : ∃ X, wv.heap.size + 1 = X := ⟨_, rfl⟩
  rw [hX2] at HX2 ⊢
  obtain ⟨X1, hX1⟩ : ∃ X, wv.heap.size = X := ⟨_, rfl⟩
  rw [hX1] at HX1 ⊢
  clear hX1 hX2
  generalize (wv.alloc (.cells #[.slice (some ⟨ba, 0, none⟩) 1 1, .int .i64 1, .int .i64 800, .int .i64 0] 25)).alloc (.cells #[.slice (some ⟨bb, 0, none⟩) 1 1, .int .i64 1, .int .i64 700, .int .i64 100] 25) = wa at *
  obtain ⟨q0, q1, q2, q3⟩ := row4 HX1.out
  refine wp_region_ord (C := fun w' => ∃ p : GrW wa, w' = p.W) [(1, false), (0, true), (2, true), (3, false), (4, false), (5, false), (6, false), (7, false)] (by rfl) (by kernel_rfl) (by kernel_rfl) ⟨⟨_, (Gr.refl wa).drew⟩, rfl⟩ ?_
  (repeat (first | ((refine ord_read0 rfl rfl rfl (fun K hK => ?_)); go_big_quiet_op; (with_reducible refine hK _ ?_); clear hK K) | ((refine ord_skipG rfl rfl rfl rfl rfl ?_); simp only [Act.put, List.setIfInBounds_toArray, List.set_cons_zero, List.set_cons_succ]) | ((refine ord_readG rfl rfl rfl rfl rfl rfl (fun K hK => ?_)); go_big_quiet_op; (with_reducible refine hK _ ?_); clear hK K) | ((refine ord_nilc rfl rfl rfl rfl ?_); simp only [Act.put, List.setIfInBounds_toArray, List.set_cons_zero, List.set_cons_succ])))
  (first | (refine ord_mem0 rfl rfl (fun K hK => ?_)) | (refine ord_memG rfl rfl rfl rfl rfl (fun K hK => ?_)))
  go_simp
  refine (HTb.out _).mono ?_
  rintro e wb ⟨B, b1, b2, b3, rfl, hb, hS⟩
  have Gt := hid ((Gr.refl wa).drew.trans hb)
  have HS := hid hS
  refine hK.out _ _ ⟨⟨wb, Gt.out⟩, rfl⟩ ?_
  clear hK K hb hS
  (first | (refine ord_mem0 rfl rfl (fun K hK => ?_)) | (refine ord_memG rfl rfl rfl rfl rfl (fun K hK => ?_)))
  go_simp
  refine (HSb.out _ _ _ _ _ _ HS.out (gen_in (HY1.out.gr Gt.out))).mono ?_
  rintro e wc ⟨rfl, hb⟩
  have Gt := hid (Gt.out.trans hb)
  refine hK.out _ _ ⟨⟨wc, Gt.out⟩, rfl⟩ ?_
  clear hK K hb HS q0 q1 q2 q3
  (repeat (first | ((refine ord_read0 rfl rfl rfl (fun K hK => ?_)); go_big_quiet_op; (with_reducible refine hK _ ?_); clear hK K) | ((refine ord_skipG rfl rfl rfl rfl rfl ?_); simp only [Act.put, List.setIfInBounds_toArray, List.set_cons_zero, List.set_cons_succ]) | ((refine ord_readG rfl rfl rfl rfl rfl rfl (fun K hK => ?_)); go_big_quiet_op; (with_reducible refine hK _ ?_); clear hK K) | ((refine ord_nilc rfl rfl rfl rfl ?_); simp only [Act.put, List.setIfInBounds_toArray, List.set_cons_zero, List.set_cons_succ])))
  (with_reducible refine ord_nil ?_)
  have hb := Gt.out
  have G := hid (G.out.trans hb)
  (try have HX1 := hid (row_gr HX1.out hb))
  (try have HX2 := hid (row_gr HX2.out hb))
  (try have HY1 := hid (HY1.out.gr hb))
  (try have HY2 := hid (HY2.out.gr hb))
  (try have HS := hid (HS.out.gr hb))
  (try have GP := hid (GP.out.trans hb))
  clear hb Gt
  go_upto_region 14 with fail
  obtain ⟨q0, q1, q2, q3⟩ := row4 HX2.out
  refine wp_region_ord (C := fun w' => ∃ p : GrW wc, w' = p.W) [(2, false), (0, true), (1, true), (3, true), (4, true), (5, false), (6, false), (7, false), (8, false)] (by rfl) (by kernel_rfl) (by kernel_rfl) ⟨⟨_, (Gr.refl wc).drew⟩, rfl⟩ ?_
  (repeat (first | ((refine ord_read0 rfl rfl rfl (fun K hK => ?_)); go_big_quiet_op; (with_reducible refine hK _ ?_); clear hK K) | ((refine ord_skipG rfl rfl rfl rfl rfl ?_); simp only [Act.put, List.setIfInBounds_toArray, List.set_cons_zero, List.set_cons_succ]) | ((refine ord_readG rfl rfl rfl rfl rfl rfl (fun K hK => ?_)); go_big_quiet_op; (with_reducible refine hK _ ?_); clear hK K) | ((refine ord_nilc rfl rfl rfl rfl ?_); simp only [Act.put, List.setIfInBounds_toArray, List.set_cons_zero, List.set_cons_succ])))
  (first | (refine ord_mem0 rfl rfl (fun K hK => ?_)) | (refine ord_memG rfl rfl rfl rfl rfl (fun K hK => ?_)))
  go_simp
  refine (HTb.out _).mono ?_
  rintro e wd ⟨B, b1, b2, b3, rfl, hb, hS⟩
  have Gt := hid ((Gr.refl wc).drew.trans hb)
  have HS := hid hS
  refine hK.out _ _ ⟨⟨wd, Gt.out⟩, rfl⟩ ?_
  clear hK K hb hS
  (first | (refine ord_mem0 rfl rfl (fun K hK => ?_)) | (refine ord_memG rfl rfl rfl rfl rfl (fun K hK => ?_)))
  go_simp
  refine (HAg.out _ _ _).mono ?_
  rintro e we ⟨b, rfl, hb, hq⟩
  have Gt := hid (Gt.out.trans hb)
  have HS := hid (HS.out.gr hb)
  have HQ1 := hid hq
  refine hK.out _ _ ⟨⟨we, Gt.out⟩, rfl⟩ ?_
  clear hK K hb hq
  (first | (refine ord_mem0 rfl rfl (fun K hK => ?_)) | (refine ord_memG rfl rfl rfl rfl rfl (fun K hK => ?_)))
  go_simp
  have HR := hid (heap_alloc_new we (.cells #[.slice (some ⟨b, 0, none⟩) 1 1, .int .i64 1, .int .i64 800, .int .i64 100, .slice (some ⟨bb, 0, none⟩) 1 1, .int .i64 1, .int .i64 700, .int .i64 100] 25))
  have hb : Gr we (we.alloc (.cells #[.slice (some ⟨b, 0, none⟩) 1 1, .int .i64 1, .int .i64 800, .int .i64 100, .slice (some ⟨bb, 0, none⟩) 1 1, .int .i64 1, .int .i64 700, .int .i64 100] 25)) := (Gr.refl we).alloc _
  have Gt := hid (Gt.out.trans hb)
  have HS := hid (HS.out.gr hb)
  have HQ1 := hid (HQ1.out.gr hb)
  refine hK.out _ _ ⟨⟨_, Gt.out⟩, rfl⟩ ?_
  clear hK K hb
  (first | (refine ord_mem0 rfl rfl (fun K hK => ?_)) | (refine ord_memG rfl rfl rfl rfl rfl (fun K hK => ?_)))
  go_simp
  refine (HDo.out _ _ _ _ we.heap.size b bb _ HS.out ⟨rd_row10 HR.out 4 2 rfl, by omega, fun s hs => by simp only [List.mem_cons, List.not_mem_nil, or_false] at hs; rcases hs with rfl | rfl; exact gen_in HQ1.out; exact gen_in (HY2.out.gr Gt.out)⟩).mono ?_
  rintro e wf ⟨AD, nD, cD, rfl, hb, _, _⟩
  have Gt := hid (Gt.out.trans hb)
  refine hK.out _ _ ⟨⟨wf, Gt.out⟩, rfl⟩ ?_
  clear hK K hb HS HQ1 HR q0 q1 q2 q3
  (repeat (first | ((refine ord_read0 rfl rfl rfl (fun K hK => ?_)); go_big_quiet_op; (with_reducible refine hK _ ?_); clear hK K) | ((refine ord_skipG rfl rfl rfl rfl rfl ?_); simp only [Act.put, List.setIfInBounds_toArray, List.set_cons_zero, List.set_cons_succ]) | ((refine ord_readG rfl rfl rfl rfl rfl rfl (fun K hK => ?_)); go_big_quiet_op; (with_reducible refine hK _ ?_); clear hK K) | ((refine ord_nilc rfl rfl rfl rfl ?_); simp only [Act.put, List.setIfInBounds_toArray, List.set_cons_zero, List.set_cons_succ])))
  (with_reducible refine ord_nil ?_)
  have hb := Gt.out
  have G := hid (G.out.trans hb)
  (try have HX1 := hid (row_gr HX1.out hb))
  (try have HX2 := hid (row_gr HX2.out hb))
  (try have HY1 := hid (HY1.out.gr hb))
  (try have HY2 := hid (HY2.out.gr hb))
  (try have HS := hid (HS.out.gr hb))
  (try have GP := hid (GP.out.trans hb))
  clear hb Gt
  go_upto_region 19 with (first
    | (go_at_call 33; (with_reducible refine (HTb.out _).mono ?_); rintro e wv ⟨B, b1, b2, b3, rfl, hb, hS⟩; have G := hid (G.out.trans hb); (try have HX1 := hid (row_gr HX1.out hb)); (try have HX2 := hid (row_gr HX2.out hb)); (try have HY1 := hid (HY1.out.gr hb)); (try have HY2 := hid (HY2.out.gr hb)); (try have HS := hid (HS.out.gr hb)); (try have GP := hid (GP.out.trans hb)); have HS := hid hS; clear hb hS)
    | (go_at_call 34; (with_reducible refine (HQs.out _).mono ?_); rintro e wv ⟨D, d1, d2, d3, rfl, hb, hQ⟩; have HQ := hid hQ; have HQ2 := hid (hQ.first (k := 2) (by omega)); have G := hid (G.out.trans hb); (try have HX1 := hid (row_gr HX1.out hb)); (try have HX2 := hid (row_gr HX2.out hb)); (try have HY1 := hid (HY1.out.gr hb)); (try have HY2 := hid (HY2.out.gr hb)); (try have HS := hid (HS.out.gr hb)); (try have GP := hid (GP.out.trans hb)); clear hb hQ)
    | (go_at_call 27; (with_reducible refine (HH4.out _ _ _ _ _ _ _ _ _ HS.out HQ.out).mono ?_); rintro e wv ⟨AP, nP, cP, rfl, hb, _, _⟩; have G := hid (G.out.trans hb); (try have HX1 := hid (row_gr HX1.out hb)); (try have HX2 := hid (row_gr HX2.out hb)); (try have HY1 := hid (HY1.out.gr hb)); (try have HY2 := hid (HY2.out.gr hb)); (try have HS := hid (HS.out.gr hb)); (try have GP := hid (GP.out.trans hb)); clear hb)
    | (go_at_call 27; (with_reducible refine (HH1.out _ _ _ _ _ _ _ _ _ HS.out HQ2.out).mono ?_); rintro e wv ⟨AP, nP, cP, rfl, hb, _, _⟩; have G := hid (G.out.trans hb); (try have HX1 := hid (row_gr HX1.out hb)); (try have HX2 := hid (row_gr HX2.out hb)); (try have HY1 := hid (HY1.out.gr hb)); (try have HY2 := hid (HY2.out.gr hb)); (try have HS := hid (HS.out.gr hb)); (try have GP := hid (GP.out.trans hb)); clear hb)
    | (go_at_call 29; (with_reducible refine (HD1.out _ _ _ _ _ _ _ _ _ HS.out HQ.out).mono ?_); rintro e wv ⟨AP, nP, cP, rfl, hb, _, _⟩; have G := hid (G.out.trans hb); (try have HX1 := hid (row_gr HX1.out hb)); (try have HX2 := hid (row_gr HX2.out hb)); (try have HY1 := hid (HY1.out.gr hb)); (try have HY2 := hid (HY2.out.gr hb)); (try have HS := hid (HS.out.gr hb)); (try have GP := hid (GP.out.trans hb)); clear hb)
    | (go_at_call 29; (with_reducible refine (HD4.out _ _ _ _ _ _ _ _ _ HS.out HQ.out).mono ?_); rintro e wv ⟨AP, nP, cP, rfl, hb, _, _⟩; have G := hid (G.out.trans hb); (try have HX1 := hid (row_gr HX1.out hb)); (try have HX2 := hid (row_gr HX2.out hb)); (try have HY1 := hid (HY1.out.gr hb)); (try have HY2 := hid (HY2.out.gr hb)); (try have HS := hid (HS.out.gr hb)); (try have GP := hid (GP.out.trans hb)); clear hb))
  obtain ⟨q0, q1, q2, q3⟩ := row4 HX1.out
  refine wp_region_ord (C := fun w' => ∃ p : GrW wv, w' = p.W) [(1, false), (0, true), (2, true), (3, false), (4, false), (5, false), (6, false), (7, false)] (by rfl) (by kernel_rfl) (by kernel_rfl) ⟨⟨_, (Gr.refl wv).drew⟩, rfl⟩ ?_
  (repeat (first | ((refine ord_read0 rfl rfl rfl (fun K hK => ?_)); go_big_quiet_op; (with_reducible refine hK _ ?_); clear hK K) | ((refine ord_skipG rfl rfl rfl rfl rfl ?_); simp only [Act.put, List.setIfInBounds_toArray, List.set_cons_zero, List.set_cons_succ]) | ((refine ord_readG rfl rfl rfl rfl rfl rfl (fun K hK => ?_)); go_big_quiet_op; (with_reducible refine hK _ ?_); clear hK K) | ((refine ord_nilc rfl rfl rfl rfl ?_); simp only [Act.put, List.setIfInBounds_toArray, List.set_cons_zero, List.set_cons_succ])))
  (first | (refine ord_mem0 rfl rfl (fun K hK => ?_)) | (refine ord_memG rfl rfl rfl rfl rfl (fun K hK => ?_)))
  go_simp
  refine (HTb.out _).mono ?_
  rintro e wg ⟨B, b1, b2, b3, rfl, hb, hS⟩
  have Gt := hid ((Gr.refl wv).drew.trans hb)
  have HS := hid hS
  refine hK.out _ _ ⟨⟨wg, Gt.out⟩, rfl⟩ ?_
  clear hK K hb hS
  (first | (refine ord_mem0 rfl rfl (fun K hK => ?_)) | (refine ord_memG rfl rfl rfl rfl rfl (fun K hK => ?_)))
  go_simp
  refine (HMt.out _ _ _ _ _ _ HS.out (gen_in (HY1.out.gr Gt.out))).mono ?_
  rintro e wh ⟨AM, nM, cM, rfl, hb, _, _⟩
  have Gt := hid (Gt.out.trans hb)
  refine hK.out _ _ ⟨⟨wh, Gt.out⟩, rfl⟩ ?_
  clear hK K hb HS q0 q1 q2 q3
  (repeat (first | ((refine ord_read0 rfl rfl rfl (fun K hK => ?_)); go_big_quiet_op; (with_reducible refine hK _ ?_); clear hK K) | ((refine ord_skipG rfl rfl rfl rfl rfl ?_); simp only [Act.put, List.setIfInBounds_toArray, List.set_cons_zero, List.set_cons_succ]) | ((refine ord_readG rfl rfl rfl rfl rfl rfl (fun K hK => ?_)); go_big_quiet_op; (with_reducible refine hK _ ?_); clear hK K) | ((refine ord_nilc rfl rfl rfl rfl ?_); simp only [Act.put, List.setIfInBounds_toArray, List.set_cons_zero, List.set_cons_succ])))
  (with_reducible refine ord_nil ?_)
  have hb := Gt.out
  have G := hid (G.out.trans hb)
  (try have HX1 := hid (row_gr HX1.out hb))
  (try have HX2 := hid (row_gr HX2.out hb))
  (try have HY1 := hid (HY1.out.gr hb))
  (try have HY2 := hid (HY2.out.gr hb))
  (try have HS := hid (HS.out.gr hb))
  (try have GP := hid (GP.out.trans hb))
  clear hb Gt
  go_wp2_with (go_at_call 20; (with_reducible refine (HCk.out _).mono ?_); rintro e wz ⟨rfl, hb⟩; have G := hid (G.out.trans hb); clear hb)
  go_ret
  exact ⟨rfl, G.out⟩

end Go.Proofs.Ytimhkkijoelmhaa
