/- SumSums of the statements on sums: the walk: whatever the input, it answers true. -/
import Derived.Test.YtimhkkijoelmhaaGreat10
import Derived.Test.YtimhkkijoelmhaaTwin10
import Derived.Test.YtimhkkijoelmhaaTwinQst10
import Derived.Test.YtimhkkijoelmhaaSameQst10
import Derived.Test.YtimhkkijoelmhaaRefMeets10
import Derived.Test.YtimhkkijoelmhaaPlan
import Derived.Test.YtimhkkijoelmhaaTwinKit10
import Derived.Test.YtimhkkijoelmhaaCheckT10
import Derived.Deep.DeepCutAuto
import Derived.Deep.CutRange
namespace Go.Proofs.Ytimhkkijoelmhaa
open Go.RowKit

set_option maxRecDepth 100000 in
set_option maxHeartbeats 8000000 in
theorem sumSums_any (columns : Int) (A : Option Addr) (n c : Nat) (zs : List Sbj) (q : Qst) (w : World) (hi : SbjsIn w A n zs) (hq : QstIn w q) :
    Calls Try.prog 3 #[.int .i64 columns, .slice A n c, q.val] w fun e w' => e = .returned (.bool true) ∧ Gr w w' := by
  have HI := hid hi
  have HQ := hid hq
  have hq1 : ∀ (b : Nat) (W : World), Gr w W → W.heap[b]? = some (.cells q.cells.toArray 25 (0, 0)) → QstsIn W (some ⟨b, 0, none⟩) 1 [q] := fun b W g hb =>
    ⟨lies_rd (t := 25) ⟨_, hb, fun j u hu => by simpa using hu⟩ (by simp [Qst.len]), by omega, fun s hs => by
      rw [List.mem_singleton] at hs
      subst hs
      exact hq.gr g⟩
  have HQ1 := hid hq1
  have hr0 := heap_alloc_new w (.cells #[.slice q.a q.n q.c, .int .i64 q.col, .int .i64 q.clip, .int .i64 q.step] 25)
  have HG := hid (fun B W (g : Gr w W) (hB : QstsIn W B 1 [q]) => great10_any A n c zs B 1 1 [q] W (hi.gr g) hB)
  obtain ⟨G, hG⟩ : ∃ G, greatT n 1 zs [q] = G := ⟨_, rfl⟩
  rw [hG] at HG
  have HGd := hid (fun h : G = false => greatT_false (hG.trans h))
  clear hi hq hq1 hG
  unfold Qst.val at *
  unfold Qst.cells at HQ1
  go_enter Try.func3, Try.ntmps3
  go_wp2_with (go_at_call 13; go_loud (refine (HG.out _ _ (((Gr.refl w).alloc _).alloc _) (HQ1.out _ _ (((Gr.refl w).alloc _).alloc _) (rows2 w _ _).2)).mono ?_); rintro e w1 ⟨rfl, hb1⟩; have H1 : Hid (Gr w w1) := (((Gr.refl w).alloc _).alloc _).trans hb1; have R1 : Hid (w1.heap[w.heap.size]? = some (.cells #[.slice q.a q.n q.c, .int .i64 q.col, .int .i64 q.clip, .int .i64 q.step] 25 (0, 0))) := row_gr (rows2 w _ _).1 hb1; clear hb1)
  · go_ret
    exact ⟨rfl, H1.out⟩
  · obtain ⟨hn24, _, hs10, hq10⟩ : n ≤ 24 ∧ 1 ≤ 12 ∧ (∀ s ∈ zs, s.n ≤ 10) ∧ ∀ s ∈ [q], s.n ≤ 10 := HGd.out (by first | assumption | rfl | trivial)
    have HT := hid (fun W (g : Gr w1 W) => twin10_any A n c zs W (HI.out.gr (H1.out.trans g)) (by omega) (fun s hs => by have := hs10 s hs; omega))
    have HTq := hid (fun B W (hB : QstsIn W B 1 [q]) => twinQ10_any B 1 1 [q] W hB (by omega) (fun s hs => by have := hq10 s hs; omega))
    clear HG HGd
    go_upto_region 3 with fail
    go_cut [7, 8] (fun s7 s8 wx => ∃ B cap es D d q', s7 = .slice B n cap ∧ s8 = .slice D 1 d ∧ Gr w1 wx ∧ SbjsIn wx B n es ∧ es.map Sbj.bare = zs.map Sbj.bare ∧ QstsIn wx D 1 [q'] ∧ q'.bare = q.bare)
    case first =>
      have v0 : ∀ p : GrW w1, _ := fun p => row_at R1.out 0 rfl p
      have v1 : ∀ p : GrW w1, _ := fun p => row_at R1.out 1 rfl p
      have v2 : ∀ p : GrW w1, _ := fun p => row_at R1.out 2 rfl p
      have v3 : ∀ p : GrW w1, _ := fun p => row_at R1.out 3 rfl p
      refine wp_region_plan (C := fun w' => ∃ p : GrW w1, w' = p.W) (.take 0 (.take 2 (.two 1 (.one 3 (.one 4 (.take 5 (.take 6 .done)))) 3 (.one 1 (.one 4 (.take 5 (.take 6 .done))))))) (by rfl) (by kernel_rfl) (by kernel_rfl) ⟨⟨_, (Gr.refl w1).drew⟩, rfl⟩ ?_
      (refine plan_read rfl rfl (fun K hK => ?_))
      go_big_quiet_op
      (with_reducible refine hK _ ?_)
      clear hK K
      (refine plan_read rfl rfl (fun K hK => ?_))
      go_big_quiet_op
      (with_reducible refine hK _ ?_)
      clear hK K
      refine plan_two ?_ ?_
      · (refine plan_one rfl (fun K hK => ?_))
        go_simp
        refine (HT.out _ (Gr.refl w1).drew).mono ?_
        rintro e w2 ⟨B, cap, es, rfl, h1, h2, h3⟩
        have S1 : Hid (Gr w1 w2) := (Gr.refl w1).drew.trans h1
        have S2 := hid h2
        have S3 := hid h3
        refine hK.out _ _ ⟨⟨w2, S1.out⟩, rfl⟩ ?_
        clear hK K h1 h2 h3
        try simp only [Act.put, List.setIfInBounds_toArray, List.set_cons_zero, List.set_cons_succ]
        (refine plan_one rfl (fun K hK => ?_))
        go_simp
        refine hK.out _ _ ⟨⟨_, S1.out.alloc _⟩, rfl⟩ ?_
        clear hK K
        (refine plan_one rfl (fun K hK => ?_))
        go_simp
        refine (HTq.out _ _ (HQ1.out _ _ (H1.out.trans (S1.out.alloc _)) (heap_alloc_new _ _))).mono ?_
        rintro e w3 ⟨D, d, qs, rfl, h1, h2, h3⟩
        have T1 : Hid (Gr w1 w3) := (S1.out.alloc _).trans h1
        have HS : Hid (Gr w2 w3) := ((Gr.refl w2).alloc _).trans h1
        have T2 := hid h2
        have T3 := hid h3
        refine hK.out _ _ ⟨⟨w3, T1.out⟩, rfl⟩ ?_
        clear hK K h1 h2 h3
        try simp only [Act.put, List.setIfInBounds_toArray, List.set_cons_zero, List.set_cons_succ]
        (refine plan_read rfl rfl (fun K hK => ?_))
        go_big_quiet_op
        (with_reducible refine hK _ ?_)
        clear hK K
        (refine plan_read rfl rfl (fun K hK => ?_))
        go_big_quiet_op
        (with_reducible refine hK _ ?_)
        clear hK K
        (with_reducible refine plan_done ?_)
        go_wp2
        go_meet
        obtain ⟨q', rfl⟩ : ∃ q', qs = [q'] := by
          have := qlike_len T3.out
          match qs, this with
          | [x], _ => exact ⟨x, rfl⟩
        exact ⟨B, cap, es, D, d, q', rfl, rfl, T1.out, S2.out.gr HS.out, S3.out, T2.out, by have h := T3.out; simpa using h⟩
      · (refine plan_one rfl (fun K hK => ?_))
        go_simp
        refine hK.out _ _ ⟨⟨_, (Gr.refl w1).drew.alloc _⟩, rfl⟩ ?_
        clear hK K
        (refine plan_one rfl (fun K hK => ?_))
        go_simp
        refine (HT.out _ ((Gr.refl w1).drew.alloc _)).mono ?_
        rintro e w2 ⟨B, cap, es, rfl, h1, h2, h3⟩
        have S1 : Hid (Gr w1 w2) := ((Gr.refl w1).drew.alloc _).trans h1
        have S2 := hid h2
        have S3 := hid h3
        have S4 := hid (row_gr (heap_alloc_new w1.drew _) h1)
        refine hK.out _ _ ⟨⟨w2, S1.out⟩, rfl⟩ ?_
        clear hK K h1 h2 h3
        try simp only [Act.put, List.setIfInBounds_toArray, List.set_cons_zero, List.set_cons_succ]
        (refine plan_one rfl (fun K hK => ?_))
        go_simp
        refine (HTq.out _ _ (HQ1.out _ _ (H1.out.trans S1.out) S4.out)).mono ?_
        rintro e w3 ⟨D, d, qs, rfl, h1, h2, h3⟩
        have T1 : Hid (Gr w1 w3) := S1.out.trans h1
        have HS : Hid (Gr w2 w3) := h1
        have T2 := hid h2
        have T3 := hid h3
        refine hK.out _ _ ⟨⟨w3, T1.out⟩, rfl⟩ ?_
        clear hK K h1 h2 h3
        try simp only [Act.put, List.setIfInBounds_toArray, List.set_cons_zero, List.set_cons_succ]
        (refine plan_read rfl rfl (fun K hK => ?_))
        go_big_quiet_op
        (with_reducible refine hK _ ?_)
        clear hK K
        (refine plan_read rfl rfl (fun K hK => ?_))
        go_big_quiet_op
        (with_reducible refine hK _ ?_)
        clear hK K
        (with_reducible refine plan_done ?_)
        go_wp2
        go_meet
        obtain ⟨q', rfl⟩ : ∃ q', qs = [q'] := by
          have := qlike_len T3.out
          match qs, this with
          | [x], _ => exact ⟨x, rfl⟩
        exact ⟨B, cap, es, D, d, q', rfl, rfl, T1.out, S2.out.gr HS.out, S3.out, T2.out, by have h := T3.out; simpa using h⟩
    case rest =>
      obtain ⟨B, cap, es, D, d, q', rfl, rfl, g1, S2, S3, T2, T3⟩ := hcut
      obtain ⟨wx, rfl⟩ : ∃ wx : World, wx = wc := ⟨_, rfl⟩
      have GX : Hid (Gr w wx) := H1.out.trans g1
      have RX : Hid (wx.heap[w.heap.size]? = some (.cells #[.slice q.a q.n q.c, .int .i64 q.col, .int .i64 q.clip, .int .i64 q.step] 25 (0, 0))) := row_gr R1.out g1
      obtain ⟨_, b, off, rfl, hbl, c0, c1, c2, c3⟩ := T2.rd.qst (k := 0) (by omega)
      rw [show off + 0 * 4 = off by omega] at c0 c1 c2 c3
      rw [show [q'][0]! = q' from rfl] at c0 c1 c2 c3
      have hqn := T2.whs q' (by simp)
      have ka := like_ask S3 T3 columns
      have km := like_meets S3 T3 columns
      have kp := like_sumP S3 T3 columns
      have kb := like_sumBd S3 T3 columns
      have kt := like_table S3 columns
      have HM := hid (fun W (g : Gr wx W) => by have h := meets10_any columns B n cap es q' W (S2.gr g) (hqn.gr g); rw [ka, km] at h; exact h)
      have HR := hid (fun W (g : Gr wx W) => refMeets_any columns A n c zs q W (HI.out.gr (GX.out.trans g)) (HQ.out.gr (GX.out.trans g)))
      have HS := hid (fun W (g : Gr wx W) => by have h := sum10_any columns B n cap es q' W (S2.gr g) (hqn.gr g); rw [ka, kp, kb] at h; exact h)
      have HRS := hid (fun W (g : Gr wx W) => refSum_any columns A n c zs q W (HI.out.gr (GX.out.trans g)) (HQ.out.gr (GX.out.trans g)))
      have HCk := hid (fun W (g : Gr wx W) => by have h := check10_any columns B n cap es W (S2.gr g); rw [kt] at h; exact h)
      have HRC := hid (fun W (g : Gr wx W) => refCheck_any columns A n c zs W (HI.out.gr (GX.out.trans g)))
      have HST := hid (fun W (g : Gr wx W) => sameTable_any B cap es A n c zs W (S2.gr g) (HI.out.gr (GX.out.trans g)) S3)
      have HSQ := hid (fun F W (g : Gr wx W) (hF : QstsIn W F 1 [q]) => sameQuestions_any (some ⟨b, off, none⟩) d [q'] F 1 1 [q] W (T2.gr g) hF (by simpa using T3))
      generalize meetsT columns zs q = M at *
      generalize askN10 columns zs q = E at *
      generalize sumP columns zs q = SP at *
      generalize sumBd columns zs q = SB at *
      generalize tableN columns zs = TN at *
      have QX := hid (And.intro c0 (And.intro c1 (And.intro c2 c3)))
      clear ka km kp kb kt S2 S3 T2 T3 hqn H1 R1 HT HTq g1
      obtain ⟨qa', qn', qc', whs', col', clip', step'⟩ := q'
      unfold Qst.val at *
      dsimp only at *
      have d0 := row_cell_at (v := .slice q.a q.n q.c) RX.out 0 rfl
      have d1 := row_cell_at (v := .int .i64 q.col) RX.out 1 rfl
      have d2 := row_cell_at (v := .int .i64 q.clip) RX.out 2 rfl
      have d3 := row_cell_at (v := .int .i64 q.step) RX.out 3 rfl
      go_wp2_with (first
        | (go_at_call 16; (with_reducible refine (HM.out _ ?_).mono ?_); rotate_right; rintro e w2 ⟨A2, n2, k2, rfl, g2, r2, b2⟩; have G2 := hid g2; have R2 := hid r2; replace c0 := row_cell c0 g2; replace c1 := row_cell c1 g2; replace c2 := row_cell c2 g2; replace c3 := row_cell c3 g2; replace d0 := row_cell d0 g2; replace d1 := row_cell d1 g2; replace d2 := row_cell d2 g2; replace d3 := row_cell d3 g2; clear g2 r2)
        | (go_at_call 17; (with_reducible refine (HR.out _ ?_).mono ?_); rotate_right; rintro e w3 ⟨A3, n3, k3, rfl, g3, r3, b3⟩; have G3 : Hid (Gr wx w3) := G2.out.trans g3; have R3 := hid r3; have R2' := hid (R2.out.gr g3); replace c0 := row_cell c0 g3; replace c1 := row_cell c1 g3; replace c2 := row_cell c2 g3; replace c3 := row_cell c3 g3; replace d0 := row_cell d0 g3; replace d1 := row_cell d1 g3; replace d2 := row_cell d2 g3; replace d3 := row_cell d3 g3; clear g3 r3; obtain rfl : n2 = n3 := (by have h1 := R2'.out.len; have h2 := R3.out.len; omega))
        | (go_at_call 18; (with_reducible refine (HS.out _ ?_).mono ?_); rotate_right; rintro e w4 ⟨rfl, g4⟩; have G4 : Hid (Gr w3 w4) := g4; replace c0 := row_cell c0 g4; replace c1 := row_cell c1 g4; replace c2 := row_cell c2 g4; replace c3 := row_cell c3 g4; replace d0 := row_cell d0 g4; replace d1 := row_cell d1 g4; replace d2 := row_cell d2 g4; replace d3 := row_cell d3 g4; clear g4)
        | (go_at_call 19; (with_reducible refine (HRS.out _ ?_).mono ?_); rotate_right; rintro e w5 ⟨rfl, g5⟩; have G5 : Hid (Gr w3 w5) := G4.out.trans g5; replace c0 := row_cell c0 g5; replace c1 := row_cell c1 g5; replace c2 := row_cell c2 g5; replace c3 := row_cell c3 g5; replace d0 := row_cell d0 g5; replace d1 := row_cell d1 g5; replace d2 := row_cell d2 g5; replace d3 := row_cell d3 g5; clear g5)
        | (go_at_call 20; (with_reducible refine (HCk.out _ ?_).mono ?_); rotate_right; rintro e w6 ⟨rfl, g6⟩; have G6 : Hid (Gr w3 w6) := G5.out.trans g6; replace d0 := row_cell d0 g6; replace d1 := row_cell d1 g6; replace d2 := row_cell d2 g6; replace d3 := row_cell d3 g6; clear g6)
        | (go_at_call 21; (with_reducible refine (HRC.out _ ?_).mono ?_); rotate_right; rintro e w7 ⟨rfl, g7⟩; have G7 : Hid (Gr w3 w7) := G6.out.trans g7; replace d0 := row_cell d0 g7; replace d1 := row_cell d1 g7; replace d2 := row_cell d2 g7; replace d3 := row_cell d3 g7; clear g7)
        | (go_at_call 22; (with_reducible refine (sameInts_any M n2 A2 k2 A3 k3 _ (R2'.out.gr G7.out) (R3.out.gr G7.out) b2).mono ?_); rintro e w8 ⟨rfl, g8⟩; have G8 : Hid (Gr w3 w8) := G7.out.trans g8; replace d0 := row_cell d0 g8; replace d1 := row_cell d1 g8; replace d2 := row_cell d2 g8; replace d3 := row_cell d3 g8; clear g8)
        | (go_at_call 23; (with_reducible refine (HST.out _ ?_).mono ?_); rotate_right; rintro e w9 ⟨rfl, g9⟩; have G9 : Hid (Gr w3 w9) := G8.out.trans g9; replace d0 := row_cell d0 g9; replace d1 := row_cell d1 g9; replace d2 := row_cell d2 g9; replace d3 := row_cell d3 g9; clear g9)
        | (go_at_call 24; (refine (HSQ.out _ _ (G3.out.trans (G9.out.alloc _)) (HQ1.out _ _ (GX.out.trans (G3.out.trans (G9.out.alloc _))) (heap_alloc_new _ _))).mono ?_); rintro e w10 ⟨rfl, g10⟩; have G10 : Hid (Gr w3 w10) := (G9.out.alloc _).trans g10; clear g10))
      all_goals try (first | exact Gr.refl _ | exact G2.out | exact G3.out | exact G3.out.trans G4.out | exact G3.out.trans G5.out | exact G3.out.trans G6.out | exact G3.out.trans G8.out; done)
      go_ret
      exact ⟨by first | rfl | simp, GX.out.trans (G3.out.trans G10.out)⟩
end Go.Proofs.Ytimhkkijoelmhaa
