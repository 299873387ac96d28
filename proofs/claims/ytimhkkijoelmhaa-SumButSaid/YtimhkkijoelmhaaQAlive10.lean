/- alive of the statements on sums: the chapter's examples are as they are. No condition. (Printed by gen_alive10.py.) -/
import Derived.Test.YtimhkkijoelmhaaQAliveKit10
namespace Go.Proofs.Ytimhkkijoelmhaa
open Go.RowKit

theorem x1 : meetsT 2 tblX (agedX 30 45) = [1, 2] ∧ askN10 2 tblX (agedX 30 45) = 0 := ⟨by kernel_rfl, by kernel_rfl⟩
theorem x2 : sumP 2 tblX (agedX 40 60) = 1500 ∧ sumBd 2 tblX (agedX 40 60) = 800 ∧ askN10 2 tblX (agedX 40 60) = 0 := ⟨by kernel_rfl, by kernel_rfl, by kernel_rfl⟩
theorem x3 : deducedT 2 tblX (qstsX.take 2) = [] ∧ auditN 2 tblX (qstsX.take 2) = 0 := ⟨by kernel_rfl, by kernel_rfl⟩
theorem x4 : deducedT 2 tblX qstsX = [1, 2, 3] ∧ auditN 2 tblX qstsX = 0 := ⟨by kernel_rfl, by kernel_rfl⟩
theorem x5 : howT 2 tblX qstsX 1 = ([0, -1, 1], 1, 0) := by kernel_rfl
theorem x6 : hideT 2 tblX (qstsX.take 2) 1 = ([1, -1, 1], 0) := by kernel_rfl
theorem tbl_bare (b1 b2 b3 : Nat) : (tblQ b1 b2 b3).map Sbj.bare = tblX.map Sbj.bare := rfl
theorem qsts_bare (b1 b2 b3 : Nat) : (qstsQ b1 b2 b3).map Qst.bare = qstsX.map Qst.bare := rfl
theorem qsts2_bare (b1 b2 b3 : Nat) : ((qstsQ b1 b2 b3).take 2).map Qst.bare = (qstsX.take 2).map Qst.bare := rfl
theorem aged_bare (b : Nat) (lo hi : Int) : (agedQ b lo hi).bare = (agedX lo hi).bare := rfl

set_option maxRecDepth 100000 in
set_option maxHeartbeats 1000000 in
theorem alive10_any (w : World) : Calls Try.prog 31 #[] w fun e w' => e = .returned (.bool true) ∧ Gr w w' := by
  have HTb := hid (fun W => table_any W)
  have HQs := hid (fun W => questions_any W)
  have HAg := hid (fun lo hi W => aged_any lo hi W)
  have HMt := hid (fun B b1 b2 b3 b W (hS : SbjsIn W (some ⟨B, 0, none⟩) 3 (tblQ b1 b2 b3)) (hq : QstIn W (agedQ b 30 45)) => show Calls Try.prog 16 #[.int .i64 2, .slice (some ⟨B, 0, none⟩) 3 3, .agg #[.slice (some ⟨b, 0, none⟩) 1 1, .int .i64 1, .int .i64 800, .int .i64 100]] W (MeetsRet [1, 2] 0 W) from by
    have h := meets10_any 2 _ 3 3 _ _ W hS hq
    rw [like_meets (tbl_bare b1 b2 b3) (aged_bare b 30 45), like_ask (tbl_bare b1 b2 b3) (aged_bare b 30 45), x1.1, x1.2] at h
    exact h)
  have HSm := hid (fun B b1 b2 b3 b W (hS : SbjsIn W (some ⟨B, 0, none⟩) 3 (tblQ b1 b2 b3)) (hq : QstIn W (agedQ b 40 60)) => show Calls Try.prog 18 #[.int .i64 2, .slice (some ⟨B, 0, none⟩) 3 3, .agg #[.slice (some ⟨b, 0, none⟩) 1 1, .int .i64 1, .int .i64 800, .int .i64 100]] W (fun e w' => e = .returned (.tuple #[.int .i64 1500, .int .i64 800, .int .i64 0]) ∧ Gr W w') from by
    have h := sum10_any 2 _ 3 3 _ _ W hS hq
    rw [like_sumP (tbl_bare b1 b2 b3) (aged_bare b 40 60), like_sumBd (tbl_bare b1 b2 b3) (aged_bare b 40 60), like_ask (tbl_bare b1 b2 b3) (aged_bare b 40 60), x2.1, x2.2.1, x2.2.2] at h
    exact h)
  have HD2 := hid (fun B b1 b2 b3 D d1 d2 d3 W (hS : SbjsIn W (some ⟨B, 0, none⟩) 3 (tblQ b1 b2 b3)) (hq : QstsIn W (some ⟨D, 0, none⟩) 2 ((qstsQ d1 d2 d3).take 2)) => show Calls Try.prog 25 #[.int .i64 2, .slice (some ⟨B, 0, none⟩) 3 3, .slice (some ⟨D, 0, none⟩) 2 3] W (MeetsRet [] 0 W) from by
    have h := deduced_any 2 _ 3 3 _ _ 2 3 _ W hS hq
    rw [like_deduced (tbl_bare b1 b2 b3) (qsts2_bare d1 d2 d3), like_audit (tbl_bare b1 b2 b3) (qsts2_bare d1 d2 d3), x3.1, x3.2] at h
    exact h)
  have HD3 := hid (fun B b1 b2 b3 D d1 d2 d3 W (hS : SbjsIn W (some ⟨B, 0, none⟩) 3 (tblQ b1 b2 b3)) (hq : QstsIn W (some ⟨D, 0, none⟩) 3 (qstsQ d1 d2 d3)) => show Calls Try.prog 25 #[.int .i64 2, .slice (some ⟨B, 0, none⟩) 3 3, .slice (some ⟨D, 0, none⟩) 3 3] W (MeetsRet [1, 2, 3] 0 W) from by
    have h := deduced_any 2 _ 3 3 _ _ 3 3 _ W hS hq
    rw [like_deduced (tbl_bare b1 b2 b3) (qsts_bare d1 d2 d3), like_audit (tbl_bare b1 b2 b3) (qsts_bare d1 d2 d3), x4.1, x4.2] at h
    exact h)
  have HHw := hid (fun B b1 b2 b3 D d1 d2 d3 W (hS : SbjsIn W (some ⟨B, 0, none⟩) 3 (tblQ b1 b2 b3)) (hq : QstsIn W (some ⟨D, 0, none⟩) 3 (qstsQ d1 d2 d3)) => show Calls Try.prog 27 #[.int .i64 2, .slice (some ⟨B, 0, none⟩) 3 3, .slice (some ⟨D, 0, none⟩) 3 3, .int .i64 1] W (HowRet ([0, -1, 1], 1, 0) W) from by
    have h := how_any 2 _ 3 3 _ _ 3 3 _ 1 W hS hq (by omega)
    rw [like_how (tbl_bare b1 b2 b3) (qsts_bare d1 d2 d3), x5] at h
    exact h)
  have HHd := hid (fun B b1 b2 b3 D d1 d2 d3 W (hS : SbjsIn W (some ⟨B, 0, none⟩) 3 (tblQ b1 b2 b3)) (hq : QstsIn W (some ⟨D, 0, none⟩) 2 ((qstsQ d1 d2 d3).take 2)) => show Calls Try.prog 29 #[.int .i64 2, .slice (some ⟨B, 0, none⟩) 3 3, .slice (some ⟨D, 0, none⟩) 2 3, .int .i64 1] W (MeetsRet [1, -1, 1] 0 W) from by
    have h := hide_any 2 _ 3 3 _ _ 2 3 _ 1 W hS hq (by omega)
    rw [like_hide (tbl_bare b1 b2 b3) (qsts2_bare d1 d2 d3), x6] at h
    exact h)
  have HLAM := hid (fun (W : World) => show Rd (W.alloc (.cells #[.int .i64 1, .int .i64 2] 3)) 1 (some ⟨W.heap.size, 0, none⟩) 2 (([1, 2] : List Int).map (Value.int .i64)) from rd_row10 (heap_alloc_new W _) 1 2 rfl)
  have HLAB := hid (fun (W : World) => show Rd (W.alloc (.cells #[.int .i64 1, .int .i64 2, .int .i64 3] 3)) 1 (some ⟨W.heap.size, 0, none⟩) 3 (([1, 2, 3] : List Int).map (Value.int .i64)) from rd_row10 (heap_alloc_new W _) 1 3 rfl)
  have HLAP := hid (fun (W : World) => show Rd (W.alloc (.cells #[.int .i64 0, .int .i64 (-1), .int .i64 1] 3)) 1 (some ⟨W.heap.size, 0, none⟩) 3 (([0, -1, 1] : List Int).map (Value.int .i64)) from rd_row10 (heap_alloc_new W _) 1 3 rfl)
  have HLAC := hid (fun (W : World) => show Rd (W.alloc (.cells #[.int .i64 1, .int .i64 (-1), .int .i64 1] 3)) 1 (some ⟨W.heap.size, 0, none⟩) 3 (([1, -1, 1] : List Int).map (Value.int .i64)) from rd_row10 (heap_alloc_new W _) 1 3 rfl)
  unfold MeetsRet at HMt HD2 HD3 HHd
  unfold HowRet at HHw
  dsimp only at HHw
  have G := hid (Gr.refl w)
  go_enter Try.func31, Try.ntmps31
  go_wp2_with (first
    | (go_at_call 33; (with_reducible refine (HTb.out _).mono ?_); rintro e wv ⟨B, b1, b2, b3, rfl, hb, hS⟩; have HS := hid hS; have G := hid (G.out.trans hb); (try have GM := hid (GM.out.trans hb)); (try have GD := hid (GD.out.trans hb)); (try have GB := hid (GB.out.trans hb)); (try have GP := hid (GP.out.trans hb)); (try have GC := hid (GC.out.trans hb)); clear hb hS)
    | (go_at_call 34; (with_reducible refine (HQs.out _).mono ?_); rintro e wv ⟨D, d1, d2, d3, rfl, hb, hQ⟩; have HQ := hid hQ; have HQ2 := hid (hQ.first (k := 2) (by omega)); have HS := hid (HS.out.gr hb); have G := hid (G.out.trans hb); (try have GM := hid (GM.out.trans hb)); (try have GD := hid (GD.out.trans hb)); (try have GB := hid (GB.out.trans hb)); (try have GP := hid (GP.out.trans hb)); (try have GC := hid (GC.out.trans hb)); clear hb hQ)
    | (go_at_call 32; (with_reducible refine (HAg.out _ _ _).mono ?_); rintro e wv ⟨b, rfl, hb, hq⟩; have HQ1 := hid hq; have HS := hid (HS.out.gr hb); have G := hid (G.out.trans hb); (try have GM := hid (GM.out.trans hb)); (try have GD := hid (GD.out.trans hb)); (try have GB := hid (GB.out.trans hb)); (try have GP := hid (GP.out.trans hb)); (try have GC := hid (GC.out.trans hb)); clear hb hq)
    | (go_at_call 16; (with_reducible refine (HMt.out _ _ _ _ _ _ HS.out HQ1.out).mono ?_); rintro e wv ⟨AM, nM, cM, rfl, hb, hr, _⟩; have RM := hid hr; have G := hid (G.out.trans hb); (try have GM := hid (GM.out.trans hb)); (try have GD := hid (GD.out.trans hb)); (try have GB := hid (GB.out.trans hb)); (try have GP := hid (GP.out.trans hb)); (try have GC := hid (GC.out.trans hb)); have GM := hid (Gr.refl wv); clear hb; obtain rfl : nM = 2 := (by have h := hr.len; simpa using h.symm); clear hr)
    | (go_at_call 18; (with_reducible refine (HSm.out _ _ _ _ _ _ HS.out HQ1.out).mono ?_); rintro e wv ⟨rfl, hb⟩; have G := hid (G.out.trans hb); (try have GM := hid (GM.out.trans hb)); (try have GD := hid (GD.out.trans hb)); (try have GB := hid (GB.out.trans hb)); (try have GP := hid (GP.out.trans hb)); (try have GC := hid (GC.out.trans hb)); clear hb)
    | (go_at_call 25; (with_reducible refine (HD2.out _ _ _ _ _ _ _ _ _ HS.out HQ2.out).mono ?_); rintro e wv ⟨AD, nD, cD, rfl, hb, hr, _⟩; have G := hid (G.out.trans hb); (try have GM := hid (GM.out.trans hb)); (try have GD := hid (GD.out.trans hb)); (try have GB := hid (GB.out.trans hb)); (try have GP := hid (GP.out.trans hb)); (try have GC := hid (GC.out.trans hb)); clear hb; obtain rfl : nD = 0 := (by have h := hr.len; simpa using h.symm); clear hr)
    | (go_at_call 25; (with_reducible refine (HD3.out _ _ _ _ _ _ _ _ _ HS.out HQ.out).mono ?_); rintro e wv ⟨AB, nB, cB, rfl, hb, hr, _⟩; have RB := hid hr; have G := hid (G.out.trans hb); (try have GM := hid (GM.out.trans hb)); (try have GD := hid (GD.out.trans hb)); (try have GB := hid (GB.out.trans hb)); (try have GP := hid (GP.out.trans hb)); (try have GC := hid (GC.out.trans hb)); have GB := hid (Gr.refl wv); clear hb; obtain rfl : nB = 3 := (by have h := hr.len; simpa using h.symm); clear hr)
    | (go_at_call 27; (with_reducible refine (HHw.out _ _ _ _ _ _ _ _ _ HS.out HQ.out).mono ?_); rintro e wv ⟨AP, nP, cP, rfl, hb, hr, _⟩; have RP := hid hr; have G := hid (G.out.trans hb); (try have GM := hid (GM.out.trans hb)); (try have GD := hid (GD.out.trans hb)); (try have GB := hid (GB.out.trans hb)); (try have GP := hid (GP.out.trans hb)); (try have GC := hid (GC.out.trans hb)); have GP := hid (Gr.refl wv); clear hb; obtain rfl : nP = 3 := (by have h := hr.len; simpa [intsC] using h.symm); clear hr)
    | (go_at_call 29; (with_reducible refine (HHd.out _ _ _ _ _ _ _ _ _ HS.out HQ2.out).mono ?_); rintro e wv ⟨AC, nC, cC, rfl, hb, hr, _⟩; have RC := hid hr; have G := hid (G.out.trans hb); (try have GM := hid (GM.out.trans hb)); (try have GD := hid (GD.out.trans hb)); (try have GB := hid (GB.out.trans hb)); (try have GP := hid (GP.out.trans hb)); (try have GC := hid (GC.out.trans hb)); have GC := hid (Gr.refl wv); clear hb; obtain rfl : nC = 3 := (by have h := hr.len; simpa using h.symm); clear hr)
    | (go_at_call 22; (with_reducible refine (sameInts_any [1, 2] 2 AM cM _ 2 _ (RM.out.gr (GM.out.alloc _)) (HLAM.out _) (by omega)).mono ?_); rintro e wv ⟨rfl, hb⟩; replace hb := ((Gr.refl _).alloc _).trans hb; have G := hid (G.out.trans hb); (try have GM := hid (GM.out.trans hb)); (try have GD := hid (GD.out.trans hb)); (try have GB := hid (GB.out.trans hb)); (try have GP := hid (GP.out.trans hb)); (try have GC := hid (GC.out.trans hb)); clear hb)
    | (go_at_call 22; (with_reducible refine (sameInts_any [1, 2, 3] 3 AB cB _ 3 _ (RB.out.gr (GB.out.alloc _)) (HLAB.out _) (by omega)).mono ?_); rintro e wv ⟨rfl, hb⟩; replace hb := ((Gr.refl _).alloc _).trans hb; have G := hid (G.out.trans hb); (try have GM := hid (GM.out.trans hb)); (try have GD := hid (GD.out.trans hb)); (try have GB := hid (GB.out.trans hb)); (try have GP := hid (GP.out.trans hb)); (try have GC := hid (GC.out.trans hb)); clear hb)
    | (go_at_call 22; (with_reducible refine (sameInts_any [0, -1, 1] 3 AP cP _ 3 _ (RP.out.gr (GP.out.alloc _)) (HLAP.out _) (by omega)).mono ?_); rintro e wv ⟨rfl, hb⟩; replace hb := ((Gr.refl _).alloc _).trans hb; have G := hid (G.out.trans hb); (try have GM := hid (GM.out.trans hb)); (try have GD := hid (GD.out.trans hb)); (try have GB := hid (GB.out.trans hb)); (try have GP := hid (GP.out.trans hb)); (try have GC := hid (GC.out.trans hb)); clear hb)
    | (go_at_call 22; (with_reducible refine (sameInts_any [1, -1, 1] 3 AC cC _ 3 _ (RC.out.gr (GC.out.alloc _)) (HLAC.out _) (by omega)).mono ?_); rintro e wv ⟨rfl, hb⟩; replace hb := ((Gr.refl _).alloc _).trans hb; have G := hid (G.out.trans hb); (try have GM := hid (GM.out.trans hb)); (try have GD := hid (GD.out.trans hb)); (try have GB := hid (GB.out.trans hb)); (try have GP := hid (GP.out.trans hb)); (try have GC := hid (GC.out.trans hb)); clear hb))
  go_ret
  exact ⟨rfl, G.out⟩
end Go.Proofs.Ytimhkkijoelmhaa
