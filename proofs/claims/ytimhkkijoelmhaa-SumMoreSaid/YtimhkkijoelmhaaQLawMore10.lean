/- SumMore of the statements on sums: the walk: whatever the input, it answers true. (Printed by gen_lawmore10.py.) -/
import Derived.Test.YtimhkkijoelmhaaQHideLaw10
import Derived.Test.YtimhkkijoelmhaaQReady10
import Derived.Test.YtimhkkijoelmhaaQAlive10
import Derived.Test.YtimhkkijoelmhaaQAsks10
import Derived.Test.YtimhkkijoelmhaaQHowAll10
import Derived.Test.YtimhkkijoelmhaaQOrd10
import Derived.Test.YtimhkkijoelmhaaQSameInts10
import Derived.Test.YtimhkkijoelmhaaQLine10
import Derived.Deep.DeepCutAuto
import Derived.Deep.CutRange
namespace Go.Proofs.Ytimhkkijoelmhaa
open Go.RowKit

theorem audit_sub {columns : Int} {qs qs' : List Qst} (h : auditB columns qs = true) (hs : ∀ q ∈ qs', q ∈ qs) (hl : qs'.length ≤ 8) : auditB columns qs' = true := by
  have hm : ∀ q ∈ qs, qstB columns q = true ∧ kindB q qs[0]! = true := fun q hq => by
    obtain ⟨j, hj, e⟩ := List.getElem_of_mem hq
    have := audit_qst h hj
    rw [getElem!_pos qs j hj, e] at this
    exact this
  unfold auditB
  simp only [Bool.and_eq_true, decide_eq_true_eq, List.all_eq_true]
  refine ⟨hl, fun q hq => ⟨(hm q (hs q hq)).1, ?_⟩⟩
  have h0 : qs'[0]! ∈ qs' := by
    rw [getElem!_pos qs' 0 (List.length_pos_of_mem hq)]
    exact List.getElem_mem _
  have a := (hm q (hs q hq)).2
  have b := (hm _ (hs _ h0)).2
  unfold kindB at a b ⊢
  simp only [Bool.and_eq_true, beq_iff_eq] at a b ⊢
  exact ⟨a.1.trans b.1.symm, a.2.trans b.2.symm⟩
theorem flat_take4 (l : List Qst) (k : Nat) : (l.flatMap Qst.cells).take (k * 4) = (l.take k).flatMap Qst.cells := by
  induction l generalizing k with
  | nil => simp
  | cons a l ih =>
    cases k with
    | zero => simp
    | succ k =>
      rw [List.take_succ_cons, List.flatMap_cons, List.flatMap_cons, ← ih, show (k + 1) * 4 = (Qst.cells a).length + k * 4 by rw [Qst.len]; omega, List.take_length_add_append]
theorem flat_drop4 (l : List Qst) (k : Nat) : (l.flatMap Qst.cells).drop (k * 4) = (l.drop k).flatMap Qst.cells := by
  induction l generalizing k with
  | nil => simp
  | cons a l ih =>
    cases k with
    | zero => simp
    | succ k =>
      rw [List.drop_succ_cons, List.flatMap_cons, ← ih, show (k + 1) * 4 = (Qst.cells a).length + k * 4 by rw [Qst.len]; omega, List.drop_length_add_append]

set_option maxRecDepth 100000 in
set_option maxHeartbeats 4000000 in
theorem sumMore_any (columns : Int) (A : Option Addr) (n c : Nat) (zs : List Sbj) (QA : Option Addr) (qn qc : Nat) (qs : List Qst) (q : Qst) (x : Int) (w : World) (hi : SbjsIn w A n zs) (hq : QstsIn w QA qn qs) (hcap : qn ≤ qc ∧ qc ≤ 9223372036854775807) (hq1 : QstIn w q) (hx : 0 ≤ x ∧ x ≤ 255) (hbyt : qn * 48 ≤ 140737488351232) :
    Calls Try.prog 11 #[.int .i64 columns, .slice A n c, .slice QA qn qc, q.val, .int .u8 x] w fun e w' => e = .returned (.bool true) ∧ Gr w w' := by
  have HI := hid hi
  have HQ := hid hq
  have hln := hi.len
  have hqn := hq.len
  have HAl := hid (fun W => alive10_any W)
  have HK1 := hid (fun W (g : Gr w W) => ready_any columns A n c zs QA qn qc qs W (hi.gr g) (hq.gr g))
  have HK2 := hid (fun F fc W (g : Gr w W) (hF : QstsIn W F (qn + 1) (qs ++ [q])) => ready_any columns A n c zs F (qn + 1) fc (qs ++ [q]) W (hi.gr g) hF)
  have HX0 := hid (heap_alloc_new w (.cells #[.slice q.a q.n q.c, .int .i64 q.col, .int .i64 q.clip, .int .i64 q.step] 25))
  have G0 := hid (show Gr w (w.alloc (.cells #[.slice q.a q.n q.c, .int .i64 q.col, .int .i64 q.clip, .int .i64 q.step] 25)) from (Gr.refl w).alloc _)
  have hqs : ∀ (F : Option Addr) (W : World), Gr w W → Rd W 4 F (qn + 1) (qs.flatMap Qst.cells ++ [.slice q.a q.n q.c, .int .i64 q.col, .int .i64 q.clip, .int .i64 q.step]) → QstsIn W F (qn + 1) (qs ++ [q]) := fun F W g h => ⟨by rw [List.flatMap_append, List.flatMap_singleton]; exact h, by omega, fun s hs => by
    rcases List.mem_append.1 hs with h1 | h1
    · exact (hq.whs s h1).gr g
    · rw [List.mem_singleton.1 h1]; exact hq1.gr g⟩
  obtain ⟨B1, hB1⟩ : ∃ B, readyB columns n qn zs qs = B := ⟨_, rfl⟩
  obtain ⟨B2, hB2⟩ : ∃ B, readyB columns n (qn + 1) zs (qs ++ [q]) = B := ⟨_, rfl⟩
  rw [hB1] at HK1
  rw [hB2] at HK2
  obtain ⟨hx0, hx1⟩ := hx
  obtain ⟨i0, hi0', hz0, hs0, hy0⟩ := info_parts info_qst10
  have HI0 := hid hi0'
  have HZ0 := hid hz0
  have HS0 := hid hs0
  have HY0 := hid hy0
  clear hi0' hz0 hs0 hy0
  obtain ⟨ua, un, uc, uwhs, ucol, uclip, ust⟩ := q
  unfold Qst.val at *
  dsimp only at *
  go_enter Try.func11, Try.ntmps11
  go_upto_region 4 with (go_at_call 31; (with_reducible refine (HAl.out _).mono ?_); rintro e w1 ⟨rfl, hb1⟩; have GW := hid (G0.out.trans hb1); have HX1 := hid (row_gr HX0.out hb1); clear hb1)
  go_cut [12] (fun s12 wx => ∃ F fc, s12 = .slice F (qn + 1) fc ∧ Gr w1 wx ∧ QstsIn wx F (qn + 1) (qs ++ [⟨ua, un, uc, uwhs, ucol, uclip, ust⟩]))
  case first =>
    obtain ⟨v0, v1, v2, v3⟩ := row4 HX1.out
    have G := hid (show Gr w1 w1.drew from (Gr.refl w1).drew)
    have GP := hid G.out
    refine wp_region_plan (C := fun w' => ∃ p : GrW w1, w' = p.W) (.take 1 (.take 3 (.two 0 (.two 2 (.one 4 (.one 5 (.take 6 .done))) 4 (.one 2 (.one 5 (.take 6 .done)))) 4 (.one 0 (.one 2 (.one 5 (.take 6 .done))))))) (by rfl) (by kernel_rfl) (by kernel_rfl) ⟨⟨_, (Gr.refl w1).drew⟩, rfl⟩ ?_
    (refine plan_read rfl rfl (fun K hK => ?_))
    go_big_quiet_op
    (with_reducible refine hK _ ?_)
    clear hK K
    (refine plan_read rfl rfl (fun K hK => ?_))
    go_big_quiet_op
    (with_reducible refine hK _ ?_)
    clear hK K
    refine plan_two ?_ ?_
    · (refine plan_one rfl (fun K hK => ?_))
      go_simp
      have G := hid (show Gr w1 ((w1.drew).alloc (.cells #[] 25)) from G.out.alloc _)
      have HO := hid (own_mono10 (own_new (w1.drew) (w1.heap.size) 25 4 (by first | rfl | simp)) (show w1.heap.size ≤ w1.heap.size by omega))
      refine hK.out _ _ ⟨⟨_, G.out⟩, rfl⟩ ?_
      clear hK K
      have GP := hid G.out
      refine plan_two ?_ ?_
      · (refine plan_one rfl (fun K hK => ?_))
        refine wp_append_rd (.tmp 29) (.tmp 30) 27 rfl w1.heap.size 25 i0 (.agg #[.slice none 0 0, .int .i64 0, .int .i64 0, .int .i64 0]) 4 48 Try.underlying27 HI0.out HZ0.out HS0.out HY0.out rfl (by decide) (.slice (some ⟨w1.heap.size, 0, none⟩) 0 0) _ _ rfl HO.out QA qn qc (qs.flatMap Qst.cells) rfl (HQ.out.gr (GW.out.trans G.out)).rd (flatQ_one qs) (by have : maxLen = 9223372036854775807 := rfl; omega) (by omega) (by have h := G.out.size; exact h) ?_
        intro A' c' wa hown hgrow hbel
        have G := hid (show Gr w1 wa from Below.trans (show Below w1.heap.size w1 _ from G.out) hbel)
        rw [Nat.zero_add, List.nil_append] at hown
        have HO := hid (show wa.ownsRow w1.heap.size 25 4 (.slice A' qn c') qn (qs.flatMap Qst.cells) from hown)
        refine hK.out _ _ ⟨⟨wa, G.out⟩, rfl⟩ ?_
        clear hK K hown hgrow hbel
        have GP := hid G.out
        try simp only [Act.put, List.setIfInBounds_toArray, List.set_cons_zero, List.set_cons_succ]
        (refine plan_one rfl (fun K hK => ?_))
        go_simp
        have G := hid (show Gr w1 ((wa).alloc (.cells #[.slice ua un uc, .int .i64 ucol, .int .i64 uclip, .int .i64 ust] 25)) from G.out.alloc _)
        have HO := hid (ownT_gf HO.out ((Gr.refl (wa)).alloc (.cells #[.slice ua un uc, .int .i64 ucol, .int .i64 uclip, .int .i64 ust] 25)))
        have HL := hid (show ((wa).alloc (.cells #[.slice ua un uc, .int .i64 ucol, .int .i64 uclip, .int .i64 ust] 25)).heap[wa.heap.size]? = some _ from by have h := heap_alloc_new (wa) (.cells #[.slice ua un uc, .int .i64 ucol, .int .i64 uclip, .int .i64 ust] 25); rw [show (wa).heap.size = wa.heap.size by first | rfl | simp] at h; exact h)
        refine hK.out _ _ ⟨⟨_, G.out⟩, rfl⟩ ?_
        clear hK K
        have GP := hid G.out
        (refine plan_one rfl (fun K hK => ?_))
        refine wp_append_rd (.tmp 31) (.tmp 33) 27 rfl w1.heap.size 25 i0 (.agg #[.slice none 0 0, .int .i64 0, .int .i64 0, .int .i64 0]) 4 48 Try.underlying27 HI0.out HZ0.out HS0.out HY0.out rfl (by decide) (.slice A' qn c') _ _ (by first | rfl | (rw [Nat.zero_add]; rfl)) HO.out (some ⟨wa.heap.size, 0, none⟩) 1 1 [.slice ua un uc, .int .i64 ucol, .int .i64 uclip, .int .i64 ust] rfl (rd_row10 HL.out 4 1 rfl) (by intro u hu; simp at hu; rcases hu with rfl | rfl | rfl | rfl <;> rfl) (by have : maxLen = 9223372036854775807 := rfl; omega) (by omega) (by have h := G.out.size; exact h) ?_
        intro A'' c'' wz hown hgrow hbel
        have G := hid (show Gr w1 wz from Below.trans (show Below w1.heap.size w1 _ from G.out) hbel)
        have HF := hid (show Rd wz 4 A'' (qn + 1) (qs.flatMap Qst.cells ++ [.slice ua un uc, .int .i64 ucol, .int .i64 uclip, .int .i64 ust]) from Rd.of_own hown)
        refine hK.out _ _ ⟨⟨wz, G.out⟩, rfl⟩ ?_
        clear hK K hown hgrow hbel
        try simp only [Act.put, List.setIfInBounds_toArray, List.set_cons_zero, List.set_cons_succ]
        (refine plan_read rfl rfl (fun K hK => ?_))
        go_big_quiet_op
        (with_reducible refine hK _ ?_)
        clear hK K
        (with_reducible refine plan_done ?_)
        go_wp2
        go_meet
        exact ⟨A'', c'', by simp, G.out, (hqs _ _ (GW.out.trans G.out) HF.out)⟩
      · (refine plan_one rfl (fun K hK => ?_))
        go_simp
        have G := hid (show Gr w1 ((w1.drew.alloc (.cells #[] 25)).alloc (.cells #[.slice ua un uc, .int .i64 ucol, .int .i64 uclip, .int .i64 ust] 25)) from G.out.alloc _)
        have HO := hid (ownT_gf HO.out ((Gr.refl (w1.drew.alloc (.cells #[] 25))).alloc (.cells #[.slice ua un uc, .int .i64 ucol, .int .i64 uclip, .int .i64 ust] 25)))
        have HL := hid (show ((w1.drew.alloc (.cells #[] 25)).alloc (.cells #[.slice ua un uc, .int .i64 ucol, .int .i64 uclip, .int .i64 ust] 25)).heap[w1.heap.size + 1]? = some _ from by have h := heap_alloc_new (w1.drew.alloc (.cells #[] 25)) (.cells #[.slice ua un uc, .int .i64 ucol, .int .i64 uclip, .int .i64 ust] 25); rw [show (w1.drew.alloc (.cells #[] 25)).heap.size = w1.heap.size + 1 by first | rfl | simp] at h; exact h)
        refine hK.out _ _ ⟨⟨_, G.out⟩, rfl⟩ ?_
        clear hK K
        have GP := hid G.out
        (refine plan_one rfl (fun K hK => ?_))
        refine wp_append_rd (.tmp 29) (.tmp 30) 27 rfl w1.heap.size 25 i0 (.agg #[.slice none 0 0, .int .i64 0, .int .i64 0, .int .i64 0]) 4 48 Try.underlying27 HI0.out HZ0.out HS0.out HY0.out rfl (by decide) (.slice (some ⟨w1.heap.size, 0, none⟩) 0 0) _ _ rfl HO.out QA qn qc (qs.flatMap Qst.cells) rfl (HQ.out.gr (GW.out.trans G.out)).rd (flatQ_one qs) (by have : maxLen = 9223372036854775807 := rfl; omega) (by omega) (by have h := G.out.size; exact h) ?_
        intro A' c' wa hown hgrow hbel
        have G := hid (show Gr w1 wa from Below.trans (show Below w1.heap.size w1 _ from G.out) hbel)
        rw [Nat.zero_add, List.nil_append] at hown
        have HL := hid ((hgrow.block _ (Array.getElem?_eq_some_iff.1 HL.out).1 (by simp [Value.ownBlock])).trans HL.out)
        have HO := hid (show wa.ownsRow w1.heap.size 25 4 (.slice A' qn c') qn (qs.flatMap Qst.cells) from hown)
        refine hK.out _ _ ⟨⟨wa, G.out⟩, rfl⟩ ?_
        clear hK K hown hgrow hbel
        have GP := hid G.out
        try simp only [Act.put, List.setIfInBounds_toArray, List.set_cons_zero, List.set_cons_succ]
        (refine plan_one rfl (fun K hK => ?_))
        refine wp_append_rd (.tmp 31) (.tmp 33) 27 rfl w1.heap.size 25 i0 (.agg #[.slice none 0 0, .int .i64 0, .int .i64 0, .int .i64 0]) 4 48 Try.underlying27 HI0.out HZ0.out HS0.out HY0.out rfl (by decide) (.slice A' qn c') _ _ (by first | rfl | (rw [Nat.zero_add]; rfl)) HO.out (some ⟨w1.heap.size + 1, 0, none⟩) 1 1 [.slice ua un uc, .int .i64 ucol, .int .i64 uclip, .int .i64 ust] rfl (rd_row10 HL.out 4 1 rfl) (by intro u hu; simp at hu; rcases hu with rfl | rfl | rfl | rfl <;> rfl) (by have : maxLen = 9223372036854775807 := rfl; omega) (by omega) (by have h := G.out.size; exact h) ?_
        intro A'' c'' wz hown hgrow hbel
        have G := hid (show Gr w1 wz from Below.trans (show Below w1.heap.size w1 _ from G.out) hbel)
        have HF := hid (show Rd wz 4 A'' (qn + 1) (qs.flatMap Qst.cells ++ [.slice ua un uc, .int .i64 ucol, .int .i64 uclip, .int .i64 ust]) from Rd.of_own hown)
        refine hK.out _ _ ⟨⟨wz, G.out⟩, rfl⟩ ?_
        clear hK K hown hgrow hbel
        try simp only [Act.put, List.setIfInBounds_toArray, List.set_cons_zero, List.set_cons_succ]
        (refine plan_read rfl rfl (fun K hK => ?_))
        go_big_quiet_op
        (with_reducible refine hK _ ?_)
        clear hK K
        (with_reducible refine plan_done ?_)
        go_wp2
        go_meet
        exact ⟨A'', c'', by simp, G.out, (hqs _ _ (GW.out.trans G.out) HF.out)⟩
    · (refine plan_one rfl (fun K hK => ?_))
      go_simp
      have G := hid (show Gr w1 ((w1.drew).alloc (.cells #[.slice ua un uc, .int .i64 ucol, .int .i64 uclip, .int .i64 ust] 25)) from G.out.alloc _)
      have HL := hid (show ((w1.drew).alloc (.cells #[.slice ua un uc, .int .i64 ucol, .int .i64 uclip, .int .i64 ust] 25)).heap[w1.heap.size]? = some _ from by have h := heap_alloc_new (w1.drew) (.cells #[.slice ua un uc, .int .i64 ucol, .int .i64 uclip, .int .i64 ust] 25); rw [show (w1.drew).heap.size = w1.heap.size by first | rfl | simp] at h; exact h)
      refine hK.out _ _ ⟨⟨_, G.out⟩, rfl⟩ ?_
      clear hK K
      have GP := hid G.out
      (refine plan_one rfl (fun K hK => ?_))
      go_simp
      have G := hid (show Gr w1 ((w1.drew.alloc (.cells #[.slice ua un uc, .int .i64 ucol, .int .i64 uclip, .int .i64 ust] 25)).alloc (.cells #[] 25)) from G.out.alloc _)
      have HL := hid (((Gr.refl _).alloc (.cells #[] 25)).heap (Array.getElem?_eq_some_iff.1 HL.out).1 |>.trans HL.out)
      have HO := hid (own_mono10 (own_new (w1.drew.alloc (.cells #[.slice ua un uc, .int .i64 ucol, .int .i64 uclip, .int .i64 ust] 25)) (w1.heap.size + 1) 25 4 (by first | rfl | simp)) (show w1.heap.size ≤ w1.heap.size + 1 by omega))
      refine hK.out _ _ ⟨⟨_, G.out⟩, rfl⟩ ?_
      clear hK K
      have GP := hid G.out
      (refine plan_one rfl (fun K hK => ?_))
      refine wp_append_rd (.tmp 29) (.tmp 30) 27 rfl w1.heap.size 25 i0 (.agg #[.slice none 0 0, .int .i64 0, .int .i64 0, .int .i64 0]) 4 48 Try.underlying27 HI0.out HZ0.out HS0.out HY0.out rfl (by decide) (.slice (some ⟨w1.heap.size + 1, 0, none⟩) 0 0) _ _ rfl HO.out QA qn qc (qs.flatMap Qst.cells) rfl (HQ.out.gr (GW.out.trans G.out)).rd (flatQ_one qs) (by have : maxLen = 9223372036854775807 := rfl; omega) (by omega) (by have h := G.out.size; exact h) ?_
      intro A' c' wa hown hgrow hbel
      have G := hid (show Gr w1 wa from Below.trans (show Below w1.heap.size w1 _ from G.out) hbel)
      rw [Nat.zero_add, List.nil_append] at hown
      have HL := hid ((hgrow.block _ (Array.getElem?_eq_some_iff.1 HL.out).1 (by simp [Value.ownBlock])).trans HL.out)
      have HO := hid (show wa.ownsRow w1.heap.size 25 4 (.slice A' qn c') qn (qs.flatMap Qst.cells) from hown)
      refine hK.out _ _ ⟨⟨wa, G.out⟩, rfl⟩ ?_
      clear hK K hown hgrow hbel
      have GP := hid G.out
      try simp only [Act.put, List.setIfInBounds_toArray, List.set_cons_zero, List.set_cons_succ]
      (refine plan_one rfl (fun K hK => ?_))
      refine wp_append_rd (.tmp 31) (.tmp 33) 27 rfl w1.heap.size 25 i0 (.agg #[.slice none 0 0, .int .i64 0, .int .i64 0, .int .i64 0]) 4 48 Try.underlying27 HI0.out HZ0.out HS0.out HY0.out rfl (by decide) (.slice A' qn c') _ _ (by first | rfl | (rw [Nat.zero_add]; rfl)) HO.out (some ⟨w1.heap.size, 0, none⟩) 1 1 [.slice ua un uc, .int .i64 ucol, .int .i64 uclip, .int .i64 ust] rfl (rd_row10 HL.out 4 1 rfl) (by intro u hu; simp at hu; rcases hu with rfl | rfl | rfl | rfl <;> rfl) (by have : maxLen = 9223372036854775807 := rfl; omega) (by omega) (by have h := G.out.size; exact h) ?_
      intro A'' c'' wz hown hgrow hbel
      have G := hid (show Gr w1 wz from Below.trans (show Below w1.heap.size w1 _ from G.out) hbel)
      have HF := hid (show Rd wz 4 A'' (qn + 1) (qs.flatMap Qst.cells ++ [.slice ua un uc, .int .i64 ucol, .int .i64 uclip, .int .i64 ust]) from Rd.of_own hown)
      refine hK.out _ _ ⟨⟨wz, G.out⟩, rfl⟩ ?_
      clear hK K hown hgrow hbel
      try simp only [Act.put, List.setIfInBounds_toArray, List.set_cons_zero, List.set_cons_succ]
      (refine plan_read rfl rfl (fun K hK => ?_))
      go_big_quiet_op
      (with_reducible refine hK _ ?_)
      clear hK K
      (with_reducible refine plan_done ?_)
      go_wp2
      go_meet
      exact ⟨A'', c'', by simp, G.out, (hqs _ _ (GW.out.trans G.out) HF.out)⟩
  case rest =>
    obtain ⟨F, fc, rfl, g1, hF⟩ := hcut
    obtain ⟨w2, hw2⟩ : ∃ w2 : World, w2 = wc := ⟨_, rfl⟩
    have G2 := hid (hw2 ▸ GW.out.trans g1 : Gr w w2)
    have HF2 := hid (hw2 ▸ hF : QstsIn w2 F (qn + 1) (qs ++ [⟨ua, un, uc, uwhs, ucol, uclip, ust⟩]))
    rw [← hw2]
    clear hw2 g1 hF GW HX1 HX0 HAl
    cases B1 with
    | false =>
      go_wp2_with (go_at_call 38; (with_reducible refine (HK1.out _ G2.out).mono ?_); rintro e w3 ⟨rfl, hb3⟩)
      go_ret
      exact ⟨rfl, G2.out.trans hb3⟩
    | true =>
      cases B2 with
      | false =>
        go_wp2_with (first
          | (go_at_call 38; (with_reducible refine (HK1.out _ G2.out).mono ?_); rintro e w3 ⟨rfl, hb3⟩)
          | (go_at_call 38; (with_reducible refine (HK2.out _ _ _ (G2.out.trans hb3) (HF2.out.gr hb3)).mono ?_); rintro e w4 ⟨rfl, hb4⟩))
        go_ret
        exact ⟨rfl, (G2.out.trans hb3).trans hb4⟩
      | true =>
        rcases Nat.eq_zero_or_pos qn with h0 | h0
        · subst h0
          go_wp2_with (first
            | (go_at_call 38; (with_reducible refine (HK1.out _ G2.out).mono ?_); rintro e w3 ⟨rfl, hb3⟩)
            | (go_at_call 38; (with_reducible refine (HK2.out _ _ _ (G2.out.trans hb3) (HF2.out.gr hb3)).mono ?_); rintro e w4 ⟨rfl, hb4⟩))
          go_ret
          exact ⟨rfl, (G2.out.trans hb3).trans hb4⟩
        · obtain ⟨hE1, ht, ha1⟩ := ready_audit hB1
          obtain ⟨hE2, _, ha2⟩ := ready_audit hB2
          have hap := table_apart ht
          obtain ⟨hl16, _⟩ := table_mem ht
          have h8 := (audit_16 hE2).2
          rw [List.length_append, List.length_singleton] at h8
          obtain ⟨x, rfl⟩ := Int.eq_ofNat_of_zero_le hx0
          obtain ⟨k, hk⟩ : ∃ k, x % qn = k := ⟨_, rfl⟩
          have hkn : k < qn := by rw [← hk]; exact Nat.mod_lt _ h0
          have hkm : qs[k]! ∈ qs := by rw [getElem!_pos qs k (by omega)]; exact List.getElem_mem _
          have hT1 : ∀ y ∈ qs.drop k ++ qs.take k, y ∈ qs := fun y hy => by rcases List.mem_append.1 hy with h | h; exact List.mem_of_mem_drop h; exact List.mem_of_mem_take h
          have hT2 : ∀ y ∈ qs, y ∈ qs.drop k ++ qs.take k := fun y hy => by
            rw [← List.take_append_drop k qs] at hy
            rcases List.mem_append.1 hy with h | h
            · exact List.mem_append_right _ h
            · exact List.mem_append_left _ h
          have hD1 : ∀ y ∈ qs ++ [qs[k]!], y ∈ qs := fun y hy => by rcases List.mem_append.1 hy with h | h; exact h; rw [List.mem_singleton.1 h]; exact hkm
          have hD2 : ∀ y ∈ qs, y ∈ qs ++ [qs[k]!] := fun y hy => List.mem_append_left _ hy
          have haT := audit_sub ha1 hT1 (by rw [List.length_append, List.length_drop, List.length_take]; omega)
          have haD := audit_sub ha1 hD1 (by rw [List.length_append, List.length_singleton]; omega)
          have hET : auditN columns zs (qs.drop k ++ qs.take k) = 0 := by unfold auditN; rw [if_pos ht, if_pos haT]
          have hED : auditN columns zs (qs ++ [qs[k]!]) = 0 := by unfold auditN; rw [if_pos ht, if_pos haD]
          have hmore := ded_more (zs := zs) (qs := qs) (qs' := qs ++ [⟨ua, un, uc, uwhs, ucol, uclip, ust⟩]) hap (fun y hy => List.mem_append_left _ hy)
          have HD0 := hid (fun W (g : Gr w W) => by have h := deduced_any columns A n c zs QA qn qc qs W (hi.gr g) (hq.gr g); unfold deducedT at h; rw [if_pos hE1, hE1] at h; exact h)
          have HD1 := hid (fun F fc W (g : Gr w W) (hF : QstsIn W F (qn + 1) (qs ++ [⟨ua, un, uc, uwhs, ucol, uclip, ust⟩])) => by have h := deduced_any columns A n c zs F (qn + 1) fc _ W (hi.gr g) hF; unfold deducedT at h; rw [if_pos hE2, hE2] at h; exact h)
          have HD2 := hid (fun F fc W (g : Gr w W) (hF : QstsIn W F qn (qs.drop k ++ qs.take k)) => by have h := deduced_any columns A n c zs F qn fc _ W (hi.gr g) hF; unfold deducedT at h; rw [if_pos hET, hET, ← ded_same hT2 hT1] at h; exact h)
          have HD3 := hid (fun F fc W (g : Gr w W) (hF : QstsIn W F (qn + 1) (qs ++ [qs[k]!])) => by have h := deduced_any columns A n c zs F (qn + 1) fc _ W (hi.gr g) hF; unfold deducedT at h; rw [if_pos hED, hED, ← ded_same hD2 hD1] at h; exact h)
          have hdb0 : ∀ (F : Option Addr) (W : World), Gr w W → Rd W 4 F (qn + 1) (qs.flatMap Qst.cells ++ qs[k]!.cells) → QstsIn W F (qn + 1) (qs ++ [qs[k]!]) := fun F W g h => ⟨by rw [List.flatMap_append, List.flatMap_singleton]; exact h, by omega, fun s hs => (hq.whs s (hD1 s hs)).gr g⟩
          have hbl := dedR_le zs.length (ordI zs) (rowsR zs (qs ++ [⟨ua, un, uc, uwhs, ucol, uclip, ust⟩])) zs.length
          obtain ⟨ia, hia⟩ : ∃ ia, dedR zs.length (ordI zs) (rowsR zs qs) zs.length = ia := ⟨_, rfl⟩
          obtain ⟨ib, hib⟩ : ∃ ib, dedR zs.length (ordI zs) (rowsR zs (qs ++ [⟨ua, un, uc, uwhs, ucol, uclip, ust⟩])) zs.length = ib := ⟨_, rfl⟩
          rw [hia] at HD0 HD2 HD3 hmore
          rw [hib] at HD1 hmore hbl
          have hle : ia.length ≤ ib.length := by conv => lhs; rw [hmore]
                                                 exact List.length_filter_le _ _
          have HMo := hid hmore
          unfold MeetsRet at HD0 HD1 HD2 HD3
          have hm1 : Int.tmod (x : Int) (qn : Int) = (k : Int) := by rw [Int.tmod_eq_emod_of_nonneg (by omega)]; omega
          have hm2 : IntKind.i64.wrap (Int.tmod (x : Int) (qn : Int)) = (k : Int) := by rw [hm1, IntKind.wrap_i64]; omega
          have hm3 : ¬ (qn : Int) = 0 := by omega
          have hm4 : ((qn : Int) == 0) = false := by simpa using hm3
          have hk0 : (0 : Int) ≤ (k : Int) := by omega
          have hkz : (k : Int) < (qn : Int) := by omega
          have hnlt : ¬ (ib.length : Int) < (ia.length : Int) := by omega
          have hib16 : ib.length ≤ 16 := by omega
          clear hi hq hB1 hB2 hE1 ht ha1 hE2 ha2 hap hkm hT1 hT2 hD1 hD2 haT haD hET hED hmore hia hib hqs hl16 hbl
          go_upto_region 8 with (first
            | (go_at_call 38; (with_reducible refine (HK1.out _ G2.out).mono ?_); rintro e wv ⟨rfl, hb3⟩)
            | (go_at_call 38; (with_reducible refine (HK2.out _ _ _ (G2.out.trans hb3) (HF2.out.gr hb3)).mono ?_); rintro e w3 ⟨rfl, hb4⟩))
          have G3 := hid ((G2.out.trans hb3).trans hb4)
          have HF3 := hid ((HF2.out.gr hb3).gr hb4)
          clear hb3 hb4 G2 HF2 HK1 HK2
          refine wp_region_ord (C := fun w' => ∃ p : GrW w3, w' = p.W) [(1, false), (2, false), (3, false), (5, false), (6, false), (7, false), (0, true), (4, true), (8, true), (9, false)] (by rfl) (by kernel_rfl) (by kernel_rfl) ⟨⟨_, (Gr.refl w3).drew⟩, rfl⟩ ?_
          (iterate 2 (first | ((refine ord_read0 rfl rfl rfl (fun K hK => ?_)); go_big_quiet_op; (with_reducible refine hK _ ?_); clear hK K) | ((refine ord_skipG rfl rfl rfl rfl rfl ?_); simp only [Act.put, List.setIfInBounds_toArray, List.set_cons_zero, List.set_cons_succ]) | ((refine ord_readG rfl rfl rfl rfl rfl rfl (fun K hK => ?_)); go_big_quiet_op; (with_reducible refine hK _ ?_); clear hK K) | ((refine ord_nilc rfl rfl rfl rfl ?_); simp only [Act.put, List.setIfInBounds_toArray, List.set_cons_zero, List.set_cons_succ])))
          refine ord_slice_from rfl rfl 27 25 (.tmp 59) (.tmp 60) rfl i0 4 Try.underlying27 HI0.out HS0.out QA qn qc k _ _ rfl rfl rfl (by omega) (by omega) ?_
          intro KZ hKZ
          simp only [Act.put, List.setIfInBounds_toArray, List.set_cons_zero, List.set_cons_succ]
          have HKZ := hid hKZ
          clear hKZ
          (iterate 2 (first | ((refine ord_read0 rfl rfl rfl (fun K hK => ?_)); go_big_quiet_op; (with_reducible refine hK _ ?_); clear hK K) | ((refine ord_skipG rfl rfl rfl rfl rfl ?_); simp only [Act.put, List.setIfInBounds_toArray, List.set_cons_zero, List.set_cons_succ]) | ((refine ord_readG rfl rfl rfl rfl rfl rfl (fun K hK => ?_)); go_big_quiet_op; (with_reducible refine hK _ ?_); clear hK K) | ((refine ord_nilc rfl rfl rfl rfl ?_); simp only [Act.put, List.setIfInBounds_toArray, List.set_cons_zero, List.set_cons_succ])))
          refine ord_slice_to rfl rfl 27 25 (.tmp 63) (.tmp 64) rfl i0 Try.underlying27 HI0.out QA qn qc k _ rfl rfl (by omega) (by omega) ?_
          simp only [Act.put, List.setIfInBounds_toArray, List.set_cons_zero, List.set_cons_succ]
          (first | (refine ord_mem0 rfl rfl (fun K hK => ?_)) | (refine ord_memG rfl rfl rfl rfl rfl (fun K hK => ?_)))
          go_simp
          have Ga := hid (show Gr w3 (w3.drew.alloc (.cells #[] 25)) from (Gr.refl w3).drew.alloc _)
          have HOa := hid (own_new w3.drew w3.drew.heap.size 25 4 rfl)
          refine hK.out _ _ ⟨⟨_, Ga.out⟩, rfl⟩ ?_
          clear hK K
          have HRa : Hid (Rd (w3.drew.alloc (.cells #[] 25)) 4 KZ (qn - k) ((qs.drop k).flatMap Qst.cells)) := by
            have h := HKZ.out _ _ ((HQ.out.gr (G3.out.trans Ga.out)).rd)
            rw [flat_drop4] at h
            exact h
          (first | (refine ord_mem0 rfl rfl (fun K hK => ?_)) | (refine ord_memG rfl rfl rfl rfl rfl (fun K hK => ?_)))
          refine wp_append_rd (.tmp 58) (.tmp 61) 27 rfl w3.drew.heap.size 25 i0 (.agg #[.slice none 0 0, .int .i64 0, .int .i64 0, .int .i64 0]) 4 48 Try.underlying27 HI0.out HZ0.out HS0.out HY0.out rfl (by decide) _ _ _ rfl HOa.out KZ (qn - k) (qc - k) ((qs.drop k).flatMap Qst.cells) rfl HRa.out (flatQ_one (qs.drop k)) (by have : maxLen = 9223372036854775807 := rfl; omega) (by omega) (by simp) ?_
          intro A4 c4 w4 hown hgrow hbel
          rw [Nat.zero_add, List.nil_append] at hown
          have HB4 := hid (show Gr w3 w4 from Below.trans (show Below w3.heap.size w3 (w3.drew.alloc (.cells #[] 25)) from Ga.out) hbel)
          have HO4 := hid hown
          refine hK.out _ _ ⟨⟨w4, HB4.out⟩, rfl⟩ ?_
          clear hK K hown hgrow hbel
          simp only [Act.put, List.setIfInBounds_toArray, List.set_cons_zero, List.set_cons_succ]
          have HRb : Hid (Rd w4 4 QA k ((qs.take k).flatMap Qst.cells)) := by
            have h := Rd.first ((HQ.out.gr (G3.out.trans HB4.out)).rd) (k := k) (by omega)
            rw [flat_take4] at h
            exact h
          have hfl : qn - k + k = qn := by omega
          (first | (refine ord_mem0 rfl rfl (fun K hK => ?_)) | (refine ord_memG rfl rfl rfl rfl rfl (fun K hK => ?_)))
          refine wp_append_rd (.tmp 62) (.tmp 65) 27 rfl w3.drew.heap.size 25 i0 (.agg #[.slice none 0 0, .int .i64 0, .int .i64 0, .int .i64 0]) 4 48 Try.underlying27 HI0.out HZ0.out HS0.out HY0.out rfl (by decide) _ _ _ (by rw [Nat.zero_add]; rfl) HO4.out QA k qc ((qs.take k).flatMap Qst.cells) rfl HRb.out (flatQ_one (qs.take k)) (by have : maxLen = 9223372036854775807 := rfl; omega) (by omega) (by have h1 := HB4.out.size; exact h1) ?_
          intro TA tc w5 hown hgrow hbel
          rw [hfl, ← List.flatMap_append] at hown
          rw [hfl]
          have HB5 := hid (show Gr w3 w5 from Below.trans (show Below w3.heap.size w3 w4 from HB4.out) hbel)
          have HT5 : Hid (QstsIn w5 TA qn (qs.drop k ++ qs.take k)) := ⟨Rd.of_own hown, by omega, fun s hs => HQ.out.whs s (by rcases List.mem_append.1 hs with h | h; exact List.mem_of_mem_drop h; exact List.mem_of_mem_take h) |>.gr (G3.out.trans HB5.out)⟩
          refine hK.out _ _ ⟨⟨w5, HB5.out⟩, rfl⟩ ?_
          clear hK K hown hgrow hbel HRa HRb HO4 HOa HB4 hfl HKZ
          simp only [Act.put, List.setIfInBounds_toArray, List.set_cons_zero, List.set_cons_succ]
          (repeat (first | ((refine ord_read0 rfl rfl rfl (fun K hK => ?_)); go_big_quiet_op; (with_reducible refine hK _ ?_); clear hK K) | ((refine ord_skipG rfl rfl rfl rfl rfl ?_); simp only [Act.put, List.setIfInBounds_toArray, List.set_cons_zero, List.set_cons_succ]) | ((refine ord_readG rfl rfl rfl rfl rfl rfl (fun K hK => ?_)); go_big_quiet_op; (with_reducible refine hK _ ?_); clear hK K) | ((refine ord_nilc rfl rfl rfl rfl ?_); simp only [Act.put, List.setIfInBounds_toArray, List.set_cons_zero, List.set_cons_succ])))
          (with_reducible refine ord_nil ?_)
          have G5 := hid (G3.out.trans HB5.out)
          have HF5 := hid (HF3.out.gr HB5.out)
          have GN := hid G5.out
          clear G5 HB5 G3 HF3
          go_upto_region 12 with (first
            | (go_at_call 25; (with_reducible refine (HD0.out _ GN.out).mono ?_); rintro e w6 ⟨A6, n6, c6, rfl, hb, hr6, b6⟩; have GN := hid (GN.out.trans hb); (try have HF5 := hid (HF5.out.gr hb)); (try have HT5 := hid (HT5.out.gr hb)); (try have R6 := hid (R6.out.gr hb)); (try have R7 := hid (R7.out.gr hb)); (try have R8 := hid (R8.out.gr hb)); have R6 := hid hr6; obtain rfl : ia.length = n6 := (by have h := hr6.len; simp at h; omega); clear hb hr6)
            | (go_at_call 25; (with_reducible refine (HD1.out _ _ _ GN.out HF5.out).mono ?_); rintro e w7 ⟨A7, n7, c7, rfl, hb, hr7, b7⟩; have GN := hid (GN.out.trans hb); (try have HF5 := hid (HF5.out.gr hb)); (try have HT5 := hid (HT5.out.gr hb)); (try have R6 := hid (R6.out.gr hb)); (try have R7 := hid (R7.out.gr hb)); (try have R8 := hid (R8.out.gr hb)); have R7 := hid hr7; obtain rfl : ib.length = n7 := (by have h := hr7.len; simp at h; omega); clear hb hr7)
            | (go_at_call 25; (with_reducible refine (HD2.out _ _ _ GN.out HT5.out).mono ?_); rintro e w8 ⟨A8, n8, c8, rfl, hb, hr8, b8⟩; have GN := hid (GN.out.trans hb); (try have HF5 := hid (HF5.out.gr hb)); (try have HT5 := hid (HT5.out.gr hb)); (try have R6 := hid (R6.out.gr hb)); (try have R7 := hid (R7.out.gr hb)); (try have R8 := hid (R8.out.gr hb)); have R8 := hid hr8; obtain rfl : ia.length = n8 := (by have h := hr8.len; simp at h; omega); clear hb hr8))
          have GW := hid GN.out
          obtain ⟨_, bq, offq, hAq, hbq, d0, d1, d2, d3⟩ := (HQ.out.gr GN.out).rd.qst hkn
          subst hAq
          have HDD := hid hdb0
          clear hdb0 HD0 HD1 HD2 HF5 HT5 GN
          obtain ⟨qv, hqv⟩ : ∃ qv, qs[k]! = qv := ⟨_, rfl⟩
          rw [hqv] at d0 d1 d2 d3 HDD HD3
          clear hqv
          obtain ⟨va, vn, vc, vwhs, vcol, vclip, vst⟩ := qv
          unfold Qst.cells at HDD
          dsimp only at *
          go_cut [21, 22] (fun s21 s22 wx => ∃ A9 n9 c9, s21 = .slice A9 n9 c9 ∧ s22 = .int .i64 0 ∧ Gr w8 wx ∧ Rd wx 1 A9 n9 (ia.map (Value.int .i64)))
          case first =>
            have p0 := GrW.cell d0
            have p1 := GrW.cell d1
            have p2 := GrW.cell d2
            have p3 := GrW.cell d3
            clear d0 d1 d2 d3
            have G := hid (show Gr w8 w8.drew from (Gr.refl w8).drew)
            have GP := hid G.out
            refine wp_region_plan (C := fun w' => ∃ p : GrW w8, w' = p.W) (.take 0 (.take 1 (.take 3 (.take 5 (.take 6 (.take 7 (.take 8 (.two 2 (.two 4 (.one 9 (.one 10 (.one 11 (.take 12 (.take 13 (.take 14 (.take 15 (.take 16 .done)))))))) 9 (.one 4 (.one 10 (.one 11 (.take 12 (.take 13 (.take 14 (.take 15 (.take 16 .done))))))))) 9 (.one 2 (.one 4 (.one 10 (.one 11 (.take 12 (.take 13 (.take 14 (.take 15 (.take 16 .done)))))))))))))))) ) (by rfl) (by kernel_rfl) (by kernel_rfl) ⟨⟨_, (Gr.refl w8).drew⟩, rfl⟩ ?_
            (refine plan_read rfl rfl (fun K hK => ?_))
            go_big_quiet_op
            (with_reducible refine hK _ ?_)
            clear hK K
            (refine plan_read rfl rfl (fun K hK => ?_))
            go_big_quiet_op
            (with_reducible refine hK _ ?_)
            clear hK K
            (refine plan_read rfl rfl (fun K hK => ?_))
            go_big_quiet_op
            (with_reducible refine hK _ ?_)
            clear hK K
            (refine plan_read rfl rfl (fun K hK => ?_))
            go_big_quiet_op
            (with_reducible refine hK _ ?_)
            clear hK K
            (refine plan_read rfl rfl (fun K hK => ?_))
            go_big_quiet_op
            (with_reducible refine hK _ ?_)
            clear hK K
            (refine plan_read rfl rfl (fun K hK => ?_))
            go_big_quiet_op
            (with_reducible refine hK _ ?_)
            clear hK K
            (refine plan_read rfl rfl (fun K hK => ?_))
            go_big_quiet_op
            (with_reducible refine hK _ ?_)
            clear hK K
            refine plan_two ?_ ?_
            · (refine plan_one rfl (fun K hK => ?_))
              go_simp
              have G := hid (show Gr w8 ((w8.drew).alloc (.cells #[] 25)) from G.out.alloc _)
              have HO := hid (own_mono10 (own_new (w8.drew) (w8.heap.size) 25 4 (by first | rfl | simp)) (show w8.heap.size ≤ w8.heap.size by omega))
              refine hK.out _ _ ⟨⟨_, G.out⟩, rfl⟩ ?_
              clear hK K
              have GP := hid G.out
              refine plan_two ?_ ?_
              · (refine plan_one rfl (fun K hK => ?_))
                refine wp_append_rd (.tmp 91) (.tmp 92) 27 rfl w8.heap.size 25 i0 (.agg #[.slice none 0 0, .int .i64 0, .int .i64 0, .int .i64 0]) 4 48 Try.underlying27 HI0.out HZ0.out HS0.out HY0.out rfl (by decide) (.slice (some ⟨w8.heap.size, 0, none⟩) 0 0) _ _ rfl HO.out (some ⟨bq, offq, none⟩) qn qc (qs.flatMap Qst.cells) rfl (HQ.out.gr (GW.out.trans G.out)).rd (flatQ_one qs) (by have : maxLen = 9223372036854775807 := rfl; omega) (by omega) (by have h := G.out.size; exact h) ?_
                intro A' c' wa hown hgrow hbel
                have G := hid (show Gr w8 wa from Below.trans (show Below w8.heap.size w8 _ from G.out) hbel)
                rw [Nat.zero_add, List.nil_append] at hown
                have HO := hid (show wa.ownsRow w8.heap.size 25 4 (.slice A' qn c') qn (qs.flatMap Qst.cells) from hown)
                refine hK.out _ _ ⟨⟨wa, G.out⟩, rfl⟩ ?_
                clear hK K hown hgrow hbel
                have GP := hid G.out
                try simp only [Act.put, List.setIfInBounds_toArray, List.set_cons_zero, List.set_cons_succ]
                (refine plan_one rfl (fun K hK => ?_))
                go_simp
                have G := hid (show Gr w8 ((wa).alloc (.cells #[.slice va vn vc, .int .i64 vcol, .int .i64 vclip, .int .i64 vst] 25)) from G.out.alloc _)
                have HO := hid (ownT_gf HO.out ((Gr.refl (wa)).alloc (.cells #[.slice va vn vc, .int .i64 vcol, .int .i64 vclip, .int .i64 vst] 25)))
                have HL := hid (show ((wa).alloc (.cells #[.slice va vn vc, .int .i64 vcol, .int .i64 vclip, .int .i64 vst] 25)).heap[wa.heap.size]? = some _ from by have h := heap_alloc_new (wa) (.cells #[.slice va vn vc, .int .i64 vcol, .int .i64 vclip, .int .i64 vst] 25); rw [show (wa).heap.size = wa.heap.size by first | rfl | simp] at h; exact h)
                refine hK.out _ _ ⟨⟨_, G.out⟩, rfl⟩ ?_
                clear hK K
                have GP := hid G.out
                (refine plan_one rfl (fun K hK => ?_))
                refine wp_append_rd (.tmp 93) (.tmp 98) 27 rfl w8.heap.size 25 i0 (.agg #[.slice none 0 0, .int .i64 0, .int .i64 0, .int .i64 0]) 4 48 Try.underlying27 HI0.out HZ0.out HS0.out HY0.out rfl (by decide) (.slice A' qn c') _ _ (by first | rfl | (rw [Nat.zero_add]; rfl)) HO.out (some ⟨wa.heap.size, 0, none⟩) 1 1 [.slice va vn vc, .int .i64 vcol, .int .i64 vclip, .int .i64 vst] rfl (rd_row10 HL.out 4 1 rfl) (by intro u hu; simp at hu; rcases hu with rfl | rfl | rfl | rfl <;> rfl) (by have : maxLen = 9223372036854775807 := rfl; omega) (by omega) (by have h := G.out.size; exact h) ?_
                intro A'' c'' wz hown hgrow hbel
                have G := hid (show Gr w8 wz from Below.trans (show Below w8.heap.size w8 _ from G.out) hbel)
                have HF := hid (show Rd wz 4 A'' (qn + 1) (qs.flatMap Qst.cells ++ [.slice va vn vc, .int .i64 vcol, .int .i64 vclip, .int .i64 vst]) from Rd.of_own hown)
                refine hK.out _ _ ⟨⟨wz, G.out⟩, rfl⟩ ?_
                clear hK K hown hgrow hbel
                try simp only [Act.put, List.setIfInBounds_toArray, List.set_cons_zero, List.set_cons_succ]
                (refine plan_one rfl (fun K hK => ?_))
                go_simp
                refine (HD3.out _ _ _ (GW.out.trans G.out) (HDD.out _ _ (GW.out.trans G.out) HF.out)).mono ?_
                rintro e wy ⟨A9, n9, c9, rfl, hb, hr, b9⟩
                have G := hid (G.out.trans hb)
                have HR := hid hr
                refine hK.out _ _ ⟨⟨wy, G.out⟩, rfl⟩ ?_
                clear hK K hb hr
                try simp only [Act.put, List.setIfInBounds_toArray, List.set_cons_zero, List.set_cons_succ]
                (refine plan_read rfl rfl (fun K hK => ?_))
                go_big_quiet_op
                (with_reducible refine hK _ ?_)
                clear hK K
                (refine plan_read rfl rfl (fun K hK => ?_))
                go_big_quiet_op
                (with_reducible refine hK _ ?_)
                clear hK K
                (refine plan_read rfl rfl (fun K hK => ?_))
                go_big_quiet_op
                (with_reducible refine hK _ ?_)
                clear hK K
                (refine plan_read rfl rfl (fun K hK => ?_))
                go_big_quiet_op
                (with_reducible refine hK _ ?_)
                clear hK K
                (refine plan_read rfl rfl (fun K hK => ?_))
                go_big_quiet_op
                (with_reducible refine hK _ ?_)
                clear hK K
                (with_reducible refine plan_done ?_)
                go_wp2
                go_meet
                exact ⟨A9, n9, c9, rfl, rfl, G.out, HR.out⟩
              · (refine plan_one rfl (fun K hK => ?_))
                go_simp
                have G := hid (show Gr w8 ((w8.drew.alloc (.cells #[] 25)).alloc (.cells #[.slice va vn vc, .int .i64 vcol, .int .i64 vclip, .int .i64 vst] 25)) from G.out.alloc _)
                have HO := hid (ownT_gf HO.out ((Gr.refl (w8.drew.alloc (.cells #[] 25))).alloc (.cells #[.slice va vn vc, .int .i64 vcol, .int .i64 vclip, .int .i64 vst] 25)))
                have HL := hid (show ((w8.drew.alloc (.cells #[] 25)).alloc (.cells #[.slice va vn vc, .int .i64 vcol, .int .i64 vclip, .int .i64 vst] 25)).heap[w8.heap.size + 1]? = some _ from by have h := heap_alloc_new (w8.drew.alloc (.cells #[] 25)) (.cells #[.slice va vn vc, .int .i64 vcol, .int .i64 vclip, .int .i64 vst] 25); rw [show (w8.drew.alloc (.cells #[] 25)).heap.size = w8.heap.size + 1 by first | rfl | simp] at h; exact h)
                refine hK.out _ _ ⟨⟨_, G.out⟩, rfl⟩ ?_
                clear hK K
                have GP := hid G.out
                (refine plan_one rfl (fun K hK => ?_))
                refine wp_append_rd (.tmp 91) (.tmp 92) 27 rfl w8.heap.size 25 i0 (.agg #[.slice none 0 0, .int .i64 0, .int .i64 0, .int .i64 0]) 4 48 Try.underlying27 HI0.out HZ0.out HS0.out HY0.out rfl (by decide) (.slice (some ⟨w8.heap.size, 0, none⟩) 0 0) _ _ rfl HO.out (some ⟨bq, offq, none⟩) qn qc (qs.flatMap Qst.cells) rfl (HQ.out.gr (GW.out.trans G.out)).rd (flatQ_one qs) (by have : maxLen = 9223372036854775807 := rfl; omega) (by omega) (by have h := G.out.size; exact h) ?_
                intro A' c' wa hown hgrow hbel
                have G := hid (show Gr w8 wa from Below.trans (show Below w8.heap.size w8 _ from G.out) hbel)
                rw [Nat.zero_add, List.nil_append] at hown
                have HL := hid ((hgrow.block _ (Array.getElem?_eq_some_iff.1 HL.out).1 (by simp [Value.ownBlock])).trans HL.out)
                have HO := hid (show wa.ownsRow w8.heap.size 25 4 (.slice A' qn c') qn (qs.flatMap Qst.cells) from hown)
                refine hK.out _ _ ⟨⟨wa, G.out⟩, rfl⟩ ?_
                clear hK K hown hgrow hbel
                have GP := hid G.out
                try simp only [Act.put, List.setIfInBounds_toArray, List.set_cons_zero, List.set_cons_succ]
                (refine plan_one rfl (fun K hK => ?_))
                refine wp_append_rd (.tmp 93) (.tmp 98) 27 rfl w8.heap.size 25 i0 (.agg #[.slice none 0 0, .int .i64 0, .int .i64 0, .int .i64 0]) 4 48 Try.underlying27 HI0.out HZ0.out HS0.out HY0.out rfl (by decide) (.slice A' qn c') _ _ (by first | rfl | (rw [Nat.zero_add]; rfl)) HO.out (some ⟨w8.heap.size + 1, 0, none⟩) 1 1 [.slice va vn vc, .int .i64 vcol, .int .i64 vclip, .int .i64 vst] rfl (rd_row10 HL.out 4 1 rfl) (by intro u hu; simp at hu; rcases hu with rfl | rfl | rfl | rfl <;> rfl) (by have : maxLen = 9223372036854775807 := rfl; omega) (by omega) (by have h := G.out.size; exact h) ?_
                intro A'' c'' wz hown hgrow hbel
                have G := hid (show Gr w8 wz from Below.trans (show Below w8.heap.size w8 _ from G.out) hbel)
                have HF := hid (show Rd wz 4 A'' (qn + 1) (qs.flatMap Qst.cells ++ [.slice va vn vc, .int .i64 vcol, .int .i64 vclip, .int .i64 vst]) from Rd.of_own hown)
                refine hK.out _ _ ⟨⟨wz, G.out⟩, rfl⟩ ?_
                clear hK K hown hgrow hbel
                try simp only [Act.put, List.setIfInBounds_toArray, List.set_cons_zero, List.set_cons_succ]
                (refine plan_one rfl (fun K hK => ?_))
                go_simp
                refine (HD3.out _ _ _ (GW.out.trans G.out) (HDD.out _ _ (GW.out.trans G.out) HF.out)).mono ?_
                rintro e wy ⟨A9, n9, c9, rfl, hb, hr, b9⟩
                have G := hid (G.out.trans hb)
                have HR := hid hr
                refine hK.out _ _ ⟨⟨wy, G.out⟩, rfl⟩ ?_
                clear hK K hb hr
                try simp only [Act.put, List.setIfInBounds_toArray, List.set_cons_zero, List.set_cons_succ]
                (refine plan_read rfl rfl (fun K hK => ?_))
                go_big_quiet_op
                (with_reducible refine hK _ ?_)
                clear hK K
                (refine plan_read rfl rfl (fun K hK => ?_))
                go_big_quiet_op
                (with_reducible refine hK _ ?_)
                clear hK K
                (refine plan_read rfl rfl (fun K hK => ?_))
                go_big_quiet_op
                (with_reducible refine hK _ ?_)
                clear hK K
                (refine plan_read rfl rfl (fun K hK => ?_))
                go_big_quiet_op
                (with_reducible refine hK _ ?_)
                clear hK K
                (refine plan_read rfl rfl (fun K hK => ?_))
                go_big_quiet_op
                (with_reducible refine hK _ ?_)
                clear hK K
                (with_reducible refine plan_done ?_)
                go_wp2
                go_meet
                exact ⟨A9, n9, c9, rfl, rfl, G.out, HR.out⟩
            · (refine plan_one rfl (fun K hK => ?_))
              go_simp
              have G := hid (show Gr w8 ((w8.drew).alloc (.cells #[.slice va vn vc, .int .i64 vcol, .int .i64 vclip, .int .i64 vst] 25)) from G.out.alloc _)
              have HL := hid (show ((w8.drew).alloc (.cells #[.slice va vn vc, .int .i64 vcol, .int .i64 vclip, .int .i64 vst] 25)).heap[w8.heap.size]? = some _ from by have h := heap_alloc_new (w8.drew) (.cells #[.slice va vn vc, .int .i64 vcol, .int .i64 vclip, .int .i64 vst] 25); rw [show (w8.drew).heap.size = w8.heap.size by first | rfl | simp] at h; exact h)
              refine hK.out _ _ ⟨⟨_, G.out⟩, rfl⟩ ?_
              clear hK K
              have GP := hid G.out
              (refine plan_one rfl (fun K hK => ?_))
              go_simp
              have G := hid (show Gr w8 ((w8.drew.alloc (.cells #[.slice va vn vc, .int .i64 vcol, .int .i64 vclip, .int .i64 vst] 25)).alloc (.cells #[] 25)) from G.out.alloc _)
              have HL := hid (((Gr.refl _).alloc (.cells #[] 25)).heap (Array.getElem?_eq_some_iff.1 HL.out).1 |>.trans HL.out)
              have HO := hid (own_mono10 (own_new (w8.drew.alloc (.cells #[.slice va vn vc, .int .i64 vcol, .int .i64 vclip, .int .i64 vst] 25)) (w8.heap.size + 1) 25 4 (by first | rfl | simp)) (show w8.heap.size ≤ w8.heap.size + 1 by omega))
              refine hK.out _ _ ⟨⟨_, G.out⟩, rfl⟩ ?_
              clear hK K
              have GP := hid G.out
              (refine plan_one rfl (fun K hK => ?_))
              refine wp_append_rd (.tmp 91) (.tmp 92) 27 rfl w8.heap.size 25 i0 (.agg #[.slice none 0 0, .int .i64 0, .int .i64 0, .int .i64 0]) 4 48 Try.underlying27 HI0.out HZ0.out HS0.out HY0.out rfl (by decide) (.slice (some ⟨w8.heap.size + 1, 0, none⟩) 0 0) _ _ rfl HO.out (some ⟨bq, offq, none⟩) qn qc (qs.flatMap Qst.cells) rfl (HQ.out.gr (GW.out.trans G.out)).rd (flatQ_one qs) (by have : maxLen = 9223372036854775807 := rfl; omega) (by omega) (by have h := G.out.size; exact h) ?_
              intro A' c' wa hown hgrow hbel
              have G := hid (show Gr w8 wa from Below.trans (show Below w8.heap.size w8 _ from G.out) hbel)
              rw [Nat.zero_add, List.nil_append] at hown
              have HL := hid ((hgrow.block _ (Array.getElem?_eq_some_iff.1 HL.out).1 (by simp [Value.ownBlock])).trans HL.out)
              have HO := hid (show wa.ownsRow w8.heap.size 25 4 (.slice A' qn c') qn (qs.flatMap Qst.cells) from hown)
              refine hK.out _ _ ⟨⟨wa, G.out⟩, rfl⟩ ?_
              clear hK K hown hgrow hbel
              have GP := hid G.out
              try simp only [Act.put, List.setIfInBounds_toArray, List.set_cons_zero, List.set_cons_succ]
              (refine plan_one rfl (fun K hK => ?_))
              refine wp_append_rd (.tmp 93) (.tmp 98) 27 rfl w8.heap.size 25 i0 (.agg #[.slice none 0 0, .int .i64 0, .int .i64 0, .int .i64 0]) 4 48 Try.underlying27 HI0.out HZ0.out HS0.out HY0.out rfl (by decide) (.slice A' qn c') _ _ (by first | rfl | (rw [Nat.zero_add]; rfl)) HO.out (some ⟨w8.heap.size, 0, none⟩) 1 1 [.slice va vn vc, .int .i64 vcol, .int .i64 vclip, .int .i64 vst] rfl (rd_row10 HL.out 4 1 rfl) (by intro u hu; simp at hu; rcases hu with rfl | rfl | rfl | rfl <;> rfl) (by have : maxLen = 9223372036854775807 := rfl; omega) (by omega) (by have h := G.out.size; exact h) ?_
              intro A'' c'' wz hown hgrow hbel
              have G := hid (show Gr w8 wz from Below.trans (show Below w8.heap.size w8 _ from G.out) hbel)
              have HF := hid (show Rd wz 4 A'' (qn + 1) (qs.flatMap Qst.cells ++ [.slice va vn vc, .int .i64 vcol, .int .i64 vclip, .int .i64 vst]) from Rd.of_own hown)
              refine hK.out _ _ ⟨⟨wz, G.out⟩, rfl⟩ ?_
              clear hK K hown hgrow hbel
              try simp only [Act.put, List.setIfInBounds_toArray, List.set_cons_zero, List.set_cons_succ]
              (refine plan_one rfl (fun K hK => ?_))
              go_simp
              refine (HD3.out _ _ _ (GW.out.trans G.out) (HDD.out _ _ (GW.out.trans G.out) HF.out)).mono ?_
              rintro e wy ⟨A9, n9, c9, rfl, hb, hr, b9⟩
              have G := hid (G.out.trans hb)
              have HR := hid hr
              refine hK.out _ _ ⟨⟨wy, G.out⟩, rfl⟩ ?_
              clear hK K hb hr
              try simp only [Act.put, List.setIfInBounds_toArray, List.set_cons_zero, List.set_cons_succ]
              (refine plan_read rfl rfl (fun K hK => ?_))
              go_big_quiet_op
              (with_reducible refine hK _ ?_)
              clear hK K
              (refine plan_read rfl rfl (fun K hK => ?_))
              go_big_quiet_op
              (with_reducible refine hK _ ?_)
              clear hK K
              (refine plan_read rfl rfl (fun K hK => ?_))
              go_big_quiet_op
              (with_reducible refine hK _ ?_)
              clear hK K
              (refine plan_read rfl rfl (fun K hK => ?_))
              go_big_quiet_op
              (with_reducible refine hK _ ?_)
              clear hK K
              (refine plan_read rfl rfl (fun K hK => ?_))
              go_big_quiet_op
              (with_reducible refine hK _ ?_)
              clear hK K
              (with_reducible refine plan_done ?_)
              go_wp2
              go_meet
              exact ⟨A9, n9, c9, rfl, rfl, G.out, HR.out⟩
          case rest =>
            obtain ⟨A9, n9, c9, rfl, rfl, g9, R9⟩ := hcut
            obtain ⟨w9, hw9⟩ : ∃ w9 : World, w9 = wc := ⟨_, rfl⟩
            have GN := hid (hw9 ▸ GW.out.trans g9 : Gr w w9)
            have R6 := hid (hw9 ▸ R6.out.gr g9 : Rd w9 1 A6 ia.length (ia.map (Value.int .i64)))
            have R7 := hid (hw9 ▸ R7.out.gr g9 : Rd w9 1 A7 ib.length (ib.map (Value.int .i64)))
            have R8 := hid (hw9 ▸ R8.out.gr g9 : Rd w9 1 A8 ia.length (ia.map (Value.int .i64)))
            have R9' := hid (hw9 ▸ R9 : Rd w9 1 A9 n9 (ia.map (Value.int .i64)))
            obtain rfl : ia.length = n9 := (by have h := R9.len; simp at h; omega)
            rw [← hw9]
            clear hw9 g9 R9 GW d0 d1 d2 d3 HD3 HDD
            go_wp2_with (first
              | (go_at_call 22; (with_reducible refine (sameInts_any ia ia.length A6 c6 A8 c8 _ R6.out R8.out (by omega)).mono ?_); rintro e wt ⟨rfl, hb⟩; have GN := hid (GN.out.trans hb); have R6 := hid (R6.out.gr hb); have R7 := hid (R7.out.gr hb); have R9' := hid (R9'.out.gr hb); clear hb R8)
              | (go_at_call 22; (with_reducible refine (sameInts_any ia ia.length A6 c6 A9 c9 _ R6.out R9'.out (by omega)).mono ?_); rintro e wu ⟨rfl, hb⟩; have GN := hid (GN.out.trans hb); have R6 := hid (R6.out.gr hb); have R7 := hid (R7.out.gr hb); clear hb R9'))
            go_loopg [23, 138] ib.length (fun gg s23 s138 wr => ∃ t : Nat, t ≤ ib.length ∧ ib.length - t ≤ gg ∧ s23 = .int .i64 ((ib.take t).filter fun z => decide (z ∈ ia)).length ∧ s138 = .int .i64 t ∧ Gr wu wr)
            case atStart => exact ⟨0, Nat.zero_le _, by omega, rfl, rfl, Gr.refl wu⟩
            case round =>
              obtain ⟨t, ht, hgt, rfl, rfl, BX⟩ := hrel
              by_cases htl : t < ib.length
              · have htn : (t : Int) < (ib.length : Int) := by omega
                have htz : (0 : Int) ≤ (t : Int) := by omega
                obtain ⟨_, bi, offi, hAi, hbi, e0⟩ := (R7.out.gr BX).int_at htl
                subst hAi
                obtain ⟨hgl, hg1, hg2⟩ := greedy HMo.out htl
                obtain ⟨nx, hnx⟩ : ∃ nx, ((ib.take (t + 1)).filter fun z => decide (z ∈ ia)).length = nx := ⟨_, rfl⟩
                rw [hnx] at hg1 hg2
                have HNx := hid hnx
                clear hnx
                generalize ((ib.take t).filter fun z => decide (z ∈ ia)).length = g at *
                by_cases hmem : ib[t]! ∈ ia
                · obtain ⟨h1, h2, h3⟩ := hg1 hmem
                  obtain ⟨_, bj, offj, hAj, hbj, e1⟩ := (R6.out.gr BX).int_at h1
                  cases hAj
                  rw [h2] at e1
                  clear hg1 hg2 hmem h2
                  generalize ib[t]! = z at *
                  have hgz : (g : Int) < (ia.length : Int) := by omega
                  have hg0 : (0 : Int) ≤ (g : Int) := by omega
                  have hg16 : (g : Int) ≤ 16 := by omega
                  have H3 := hid h3
                  clear h3
                  go_wp2_with fail
                  go_roundg (ib.length - (t + 1))
                  case measure => omega
                  case rel => exact ⟨t + 1, by omega, by omega, by rw [HNx.out, H3.out]; go_num, by go_num, BX⟩
                · obtain ⟨h1, h2⟩ := hg2 hmem
                  have H3 := hid h1
                  clear hg1 hg2 hmem h1
                  by_cases hgl2 : g < ia.length
                  · have hne := h2 hgl2
                    obtain ⟨_, bj, offj, hAj, hbj, e1⟩ := (R6.out.gr BX).int_at hgl2
                    cases hAj
                    clear h2
                    generalize ib[t]! = z at *
                    generalize ia[g]! = y at *
                    have hgz : (g : Int) < (ia.length : Int) := by omega
                    have hg0 : (0 : Int) ≤ (g : Int) := by omega
                    have hyz : (y == z) = false := by simpa using hne
                    go_wp2_with fail
                    go_roundg (ib.length - (t + 1))
                    case measure => omega
                    case rel => exact ⟨t + 1, by omega, by omega, by rw [HNx.out, H3.out], by go_num, BX⟩
                  · have hge : g = ia.length := by omega
                    clear h2 hgl2 hgl
                    subst hge
                    generalize ib[t]! = z at *
                    go_wp2_with fail
                    go_roundg (ib.length - (t + 1))
                    case measure => omega
                    case rel => exact ⟨t + 1, by omega, by omega, by rw [HNx.out, H3.out], by go_num, BX⟩
              · have htn : ¬ (t : Int) < (ib.length : Int) := by omega
                rw [show ib.take t = ib from List.take_of_length_le (by omega), ← HMo.out]
                go_wp2
                go_ret
                exact ⟨by first | rfl | simp, GN.out.trans BX⟩
end Go.Proofs.Ytimhkkijoelmhaa
