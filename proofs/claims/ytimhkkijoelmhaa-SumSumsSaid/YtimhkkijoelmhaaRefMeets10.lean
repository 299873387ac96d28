/- Meets of the reference of layer 10. For every table and question. -/
import Derived.Test.YtimhkkijoelmhaaRefOrd10
import Derived.Test.YtimhkkijoelmhaaMeets10
import Derived.Test.YtimhkkijoelmhaaRefSum10
namespace Go.Proofs.Ytimhkkijoelmhaa
open Go.RowKit Go.Shelf Go.Sort

set_option maxRecDepth 100000 in
set_option maxHeartbeats 16000000 in
theorem refMeets_any (columns : Int) (A : Option Addr) (n c : Nat) (zs : List Sbj) (q : Qst) (w : World) (hi : SbjsIn w A n zs) (hq : QstIn w q) :
    Calls Try.prog 17 #[.int .i64 columns, .slice A n c, q.val] w (MeetsRet (meetsT columns zs q) (askN10 columns zs q) w) := by
  have HC := hid (fun W (k : Gr w W) => refCheck_any columns A n c zs W (hi.gr k))
  have HQ := hid (fun W (k : Gr w W) (h : tableB columns zs = true) => refQuestion_any columns q W (hq.gr k) (table_cols h))
  obtain ⟨E, hE⟩ : ∃ E, askN10 columns zs q = E := ⟨_, rfl⟩
  unfold meetsT
  rw [hE]
  have hE0 := hE
  unfold askN10 at hE
  unfold tableN at HC
  have hbig := hi.big
  have hbig' : (n : Int) ≤ 9223372036854775807 := by omega
  obtain ⟨tb, htb⟩ : ∃ tb, tableB columns zs = tb := ⟨_, rfl⟩
  obtain ⟨qb, hqb0⟩ : ∃ qb, qstB columns q = qb := ⟨_, rfl⟩
  rw [htb] at HC HQ hE
  rw [hqb0] at HQ hE
  by_cases h0 : tb = true ∧ qb = true
  case neg =>
    have hne : ¬ E = 0 := by
      rw [← hE]
      cases tb <;> cases qb <;> simp at h0 ⊢
    rw [if_neg hne]
    have HE := hid hE.symm
    clear hi hq hE hE0 htb hqb0 hne
    obtain ⟨qa, qn, qc, whs, col, clip, step⟩ := q
    unfold Qst.val at *
    dsimp only at *
    cases tb
    case' true =>
      have HQ2 := hid (fun W k => HQ.out W k rfl)
      cases qb
      case' true => exact absurd ⟨rfl, rfl⟩ h0
    all_goals
      simp only [Bool.false_eq_true, if_false, if_true] at HC HE
      clear h0
      unfold MeetsRet
      go_enter Try.func17, Try.ntmps17
      go_wp2_with (first
        | (go_at_call 21; (with_reducible refine (HC.out _ ?_).mono ?_); rotate_right; rintro e w1 ⟨rfl, hbw1⟩; obtain ⟨hcw1, hfw1, hzw1⟩ := hbw1.rules; (try simp at hzw1); have hzw1_0 : w.heap.size < w1.heap.size := (by omega); have hyw1_0 : w.heap.size ≤ w1.heap.size := (by omega))
        | (go_at_call 45; (with_reducible refine (HQ2.out _ ?_).mono ?_); rotate_right; rintro e w2 ⟨rfl, hbw2⟩; obtain ⟨hcw2, hfw2, hzw2⟩ := hbw2.rules; (try simp at hzw2)))
      all_goals first
        | ((repeat (first | with_reducible exact Gr.refl _ | with_reducible refine Gr.trans ?_ hbw1 | with_reducible refine Gr.alloc ?_ _ | with_reducible refine Gr.setCell ?_ (by simp) _ | with_reducible refine Gr.setCell ?_ (by simp; omega) _ | with_reducible refine Gr.drew ?_ | with_reducible refine Gr.drewN ?_ _)); done)
        | (go_ret2
           exact ⟨none, 0, 0, by rw [HE.out]; rfl, by (repeat (first | with_reducible exact Gr.refl _ | with_reducible refine Gr.trans ?_ hbw2 | with_reducible refine Gr.trans ?_ hbw1 | with_reducible refine Gr.alloc ?_ _ | with_reducible refine Gr.setCell ?_ (by simp) _ | with_reducible refine Gr.setCell ?_ (by simp; omega) _ | with_reducible refine Gr.drew ?_ | with_reducible refine Gr.drewN ?_ _)), Rd.nil_, by omega⟩)
  case pos =>
    obtain ⟨rfl, rfl⟩ := h0
    have h0 : E = 0 := by rw [← hE]; rfl
    subst h0
    have hqb := hqb0
    have ht := htb
    rw [if_pos rfl]
    obtain ⟨hcol, hstep, hwh⟩ := qst_parts hqb
    obtain ⟨hl16, hmem⟩ := table_mem ht
    have hap := table_apart ht
    have hln := hi.len
    have HQ2 := hid (fun W k => HQ.out W k rfl)
    have HO := hid (fun W (k : Gr w W) => refOrdered_any A n c zs W (hi.gr k) (by omega) hap)
    have HAs := hid (fun s (hs : s ∈ zs) W (k : Gr w W) => refAsked_any s q W ((hi.vals s hs).1.gr k) (hq.gr k) (fun x hx => by have h1 := hwh x hx; have h2 := (hmem s hs).2.1; have h3 := (hi.vals s hs).1.len; simp at h3; omega) (hi.vals s hs).2)
    have HM : Hid (meetsL zs q = ((ordI zs).filter fun s => askedB s q).map Sbj.id) := rfl
    generalize meetsL zs q = ML at HM ⊢
    have HI := hid hi
    have HPe := hid (ordI_perm zs)
    have HL16 := hid hl16
    obtain ⟨es, heq⟩ : ∃ es, ordI zs = es := ⟨_, rfl⟩
    have HEq := hid heq
    rw [heq] at HM HPe
    clear heq
    clear hq hE hE0 hwh hmem hqb ht htb hqb0 HQ hcol hstep hap hi
    obtain ⟨qa, qn, qc, whs, col, clip, step⟩ := q
    unfold Qst.val at *
    dsimp only at *
    simp only [if_true] at HC
    obtain ⟨i0, hi0, hz0, hs0, hy0⟩ := info_parts info_int10
    have HI0 := hid hi0
    have HZ0 := hid hz0
    have HS0 := hid hs0
    have HY0 := hid hy0
    clear hi0 hz0 hs0 hy0
    have hr0 := heap_alloc_new w (.cells #[.slice qa qn qc, .int .i64 col, .int .i64 clip, .int .i64 step] 25)
    go_enter Try.func17, Try.ntmps17
    go_wp2_with (first
      | (go_at_call 21; (with_reducible refine (HC.out _ ?_).mono ?_); rotate_right; rintro e w1 ⟨rfl, hbw1⟩; obtain ⟨hcw1, hfw1, hzw1⟩ := hbw1.rules; (try simp at hzw1); have hzw1_0 : w.heap.size < w1.heap.size := (by omega); have hyw1_0 : w.heap.size ≤ w1.heap.size := (by omega))
      | (go_at_call 45; (with_reducible refine (HQ2.out _ ?_).mono ?_); rotate_right; rintro e w2 ⟨rfl, hbw2⟩; obtain ⟨hcw2, hfw2, hzw2⟩ := hbw2.rules; (try simp at hzw2))
      | (go_at_call 46; (with_reducible refine (HO.out _ ?_).mono ?_); rotate_right; rintro e w3 ⟨B, cap, rfl, hb3, T1⟩; have HT := hid T1; clear T1))
    all_goals try ((repeat (first | with_reducible exact Gr.refl _ | with_reducible refine Gr.trans ?_ hbw1 | with_reducible refine Gr.alloc ?_ _ | with_reducible refine Gr.setCell ?_ (by simp) _ | with_reducible refine Gr.setCell ?_ (by simp; omega) _ | with_reducible refine Gr.drew ?_ | with_reducible refine Gr.drewN ?_ _)); done)
    all_goals try ((repeat (first | with_reducible exact Gr.refl _ | with_reducible refine Gr.trans ?_ hbw2 | with_reducible refine Gr.trans ?_ hbw1 | with_reducible refine Gr.alloc ?_ _ | with_reducible refine Gr.setCell ?_ (by simp) _ | with_reducible refine Gr.setCell ?_ (by simp; omega) _ | with_reducible refine Gr.drew ?_ | with_reducible refine Gr.drewN ?_ _)); done)
    have G3 : Hid (Gr w w3) := by
      show Gr w w3
      refine Gr.trans ?_ hb3
      (repeat (first | with_reducible exact Gr.refl _ | with_reducible refine Gr.trans ?_ hbw2 | with_reducible refine Gr.trans ?_ hbw1 | with_reducible refine Gr.alloc ?_ _ | with_reducible refine Gr.setCell ?_ (by simp) _ | with_reducible refine Gr.setCell ?_ (by simp; omega) _ | with_reducible refine Gr.drew ?_ | with_reducible refine Gr.drewN ?_ _))
    have hln' : zs.length = n := HI.out.len
    have HEs : Hid (SbjsIn w3 B n es) := HI.out.perm G3.out HPe.out (by have h := HT.out; rw [HEq.out] at h; exact h) (by omega)
    have HPm := hid (fun s (hs : s ∈ es) => HPe.out.mem_iff.1 hs)
    have HRQ : Hid (w3.heap[w.heap.size]? = some (.cells #[.slice qa qn qc, .int .i64 col, .int .i64 clip, .int .i64 step] 25 (0, 0))) := row_gr (row_gr (row_gr hr0 hbw1) hbw2) hb3
    clear hr0 hbw1 hcw1 hfw1 hzw1 hzw1_0 hyw1_0 hbw2 hcw2 hfw2 hzw2 HC HQ2 HO hb3 HT
    have hes : es.length = n := HEs.out.len
    go_loopg [9, 10] n (fun gg s9 s10 wr => ∃ k : Nat, k ≤ n ∧ n - k ≤ gg ∧ s10 = .int .i64 k ∧ Gr w3 wr ∧ Hid (wr.ownsRow w3.heap.size 3 1 s9 (((es.take k).filter fun s => askedB s ⟨qa, qn, qc, whs, col, clip, step⟩).map Sbj.id).length ((((es.take k).filter fun s => askedB s ⟨qa, qn, qc, whs, col, clip, step⟩).map Sbj.id).map (Value.int .i64))))
    case atStart => exact ⟨0, Nat.zero_le _, by omega, rfl, Gr.refl w3, ⟨rfl, .inl ⟨rfl, rfl⟩⟩⟩
    case round =>
      obtain ⟨k, hk, hgk, rfl, BW, HOw⟩ := hrel
      have rq := row_gr HRQ.out BW
      have u0 := row_cell_at (v := .slice qa qn qc) rq 0 rfl
      have u1 := row_cell_at (v := .int .i64 col) rq 1 rfl
      have u2 := row_cell_at (v := .int .i64 clip) rq 2 rfl
      have u3 := row_cell_at (v := .int .i64 step) rq 3 rfl
      have hzr : w.heap.size < wr.heap.size := block_lt_of_cell u0
      clear rq
      by_cases hkl : k < n
      · obtain ⟨hk', b, off, hAe, hbl, c0, c1⟩ := (HEs.out.gr BW).rd.sbj hkl
        have hm := mem_get hk'
        have HSn : Hid (((es.take (k + 1)).filter fun s => askedB s ⟨qa, qn, qc, whs, col, clip, step⟩).map Sbj.id = ((es.take k).filter fun s => askedB s ⟨qa, qn, qc, whs, col, clip, step⟩).map Sbj.id ++ if askedB es[k]! ⟨qa, qn, qc, whs, col, clip, step⟩ = true then [es[k]!.id] else []) := by
          show _ = _
          rw [List.take_succ_eq_append_getElem hk', List.filter_append, List.map_append, ← getElem!_pos es k hk']
          congr 1
          generalize es[k]! = y
          cases e : askedB y ⟨qa, qn, qc, whs, col, clip, step⟩ <;> simp [e]
        have HA := hid (fun W kk => HAs.out _ (HPm.out _ hm) W kk)
        have hol : (((es.take k).filter fun s => askedB s ⟨qa, qn, qc, whs, col, clip, step⟩).map Sbj.id).length ≤ 60 := by
          rw [List.length_map]
          have h1 := List.length_filter_le (fun s => askedB s ⟨qa, qn, qc, whs, col, clip, step⟩) (es.take k)
          have h2 := List.length_take_le k es
          have := HL16.out
          omega
        generalize ((es.take k).filter fun s => askedB s ⟨qa, qn, qc, whs, col, clip, step⟩).map Sbj.id = o at *
        generalize es[k]! = s at c0 c1 HSn HA
        obtain ⟨id, a, vn, vc, vals⟩ := s
        unfold Sbj.val at HA
        dsimp only at *
        subst hAe
        obtain ⟨r, hr⟩ : ∃ r, askedB ⟨id, a, vn, vc, vals⟩ ⟨qa, qn, qc, whs, col, clip, step⟩ = r := ⟨_, rfl⟩
        rw [hr] at HA HSn
        have hkn : (k : Int) < (n : Int) := by omega
        have hk0 : (0 : Int) ≤ (k : Int) := by omega
        clear hr hm hk'
        have p0 := GrW.cell c0
        have p1 := GrW.cell c1
        have v0 := GrW.cell u0
        have v1 := GrW.cell u1
        have v2 := GrW.cell u2
        have v3 := GrW.cell u3
        have HC01 := hid (And.intro c0 c1)
        have HGw := hid (G3.out.trans BW)
        go_upto_region 11 with fail
        clear c0 c1 u0 u1 u2 u3
        refine wp_region_mixN (C := fun w' => ∃ p : GrW wr, w' = p.W) [5] (by rfl) (by kernel_rfl) ⟨⟨_, (Gr.refl wr).drew⟩, rfl⟩ ?_
        (repeat (first | ((with_reducible refine mixL_read0 ?_ ?_ (fun K hK => ?_)); rfl; rfl; go_big_quiet_op; (with_reducible refine hK _ ?_); clear hK K) | ((with_reducible refine' mixL_skipG ?_ ?_ ?_ ?_ ?_); rotate_left 4; rfl; rfl; rfl; rfl; simp only [Act.put, List.setIfInBounds_toArray, List.set_cons_zero, List.set_cons_succ]) | ((with_reducible refine' mixL_skipU ?_ ?_ ?_ ?_); rotate_left 3; rfl; rfl; rfl; simp only [Act.put, List.setIfInBounds_toArray, List.set_cons_zero, List.set_cons_succ]) | ((with_reducible refine' mixL_readG ?_ ?_ ?_ ?_ ?_ (fun K hK => ?_)); rotate_left 4; rfl; rfl; rfl; rfl; rfl; go_big_quiet_op; (with_reducible refine hK _ ?_); clear hK K)))
        (first | ((with_reducible refine mixL_mut0 ?_ ?_ (fun K hK => ?_)); rfl; rfl) | ((with_reducible refine' mixL_mutG ?_ ?_ ?_ ?_ ?_ (fun K hK => ?_)); rotate_left 4; rfl; rfl; rfl; rfl; rfl))
        go_simp
        refine (HA.out _ (HGw.out.trans (Gr.refl wr).drew)).mono ?_
        rintro e w6 ⟨rfl, hb6⟩
        have G6 := hid ((Gr.refl wr).drew.trans hb6)
        refine hK.out _ _ ⟨⟨w6, G6.out⟩, rfl⟩ ?_
        clear hK K hb6 p0 p1 v0 v1 v2 v3
        (repeat (first | ((with_reducible refine mixL_read0 ?_ ?_ (fun K hK => ?_)); rfl; rfl; go_big_quiet_op; (with_reducible refine hK _ ?_); clear hK K) | ((with_reducible refine' mixL_skipG ?_ ?_ ?_ ?_ ?_); rotate_left 4; rfl; rfl; rfl; rfl; simp only [Act.put, List.setIfInBounds_toArray, List.set_cons_zero, List.set_cons_succ]) | ((with_reducible refine' mixL_skipU ?_ ?_ ?_ ?_); rotate_left 3; rfl; rfl; rfl; simp only [Act.put, List.setIfInBounds_toArray, List.set_cons_zero, List.set_cons_succ]) | ((with_reducible refine' mixL_readG ?_ ?_ ?_ ?_ ?_ (fun K hK => ?_)); rotate_left 4; rfl; rfl; rfl; rfl; rfl; go_big_quiet_op; (with_reducible refine hK _ ?_); clear hK K)))
        (with_reducible refine mixN_nil ?_)
        cases r with
        | false =>
          simp only [Bool.false_eq_true, if_false, List.append_nil] at HSn
          go_wp2
          go_roundg (n - (k + 1))
          case measure => omega
          case rel => exact ⟨k + 1, by omega, by omega, by go_num, BW.trans G6.out, by unfold Hid; rw [HSn.out]; exact ownT_gr10 HOw.out G6.out⟩
        | true =>
          simp only [if_true] at HSn
          obtain ⟨c0, c1⟩ := HC01.out
          replace c0 := row_cell c0 G6.out
          replace c1 := row_cell c1 G6.out
          go_wp2_with ((with_reducible show wpList _ _ _ (⟨some 42, _, _, _, _, _⟩ :: _) _ _); refine wpList_append_rd _ rfl (.tmp 35) (.tmp 41) 30 rfl w3.heap.size 3 i0 (.int .i64 0) 1 8 Try.underlying30 HI0.out HZ0.out HS0.out HY0.out rfl (by decide) _ _ _ rfl (ownT_gr10 HOw.out ((G6.out).alloc _)) (some ⟨w6.heap.size, 0, none⟩) 1 1 [.int .i64 id] rfl (Rd.one (by simp) (row_cell_at (heap_alloc_new w6 _) 0 rfl)) (by intro u hu; simp at hu; subst hu; rfl) (by have : maxLen = 9223372036854775807 := rfl; omega) (by omega) (by have h1 := BW.size; have h2 := G6.out.size; simp at h2 ⊢; omega) ?_; intro A' c' w9 hown' hbel; have HW9 := hid (And.intro hown' hbel); clear hown' hbel)
          go_roundg (n - (k + 1))
          case measure => omega
          case rel =>
            refine ⟨k + 1, by omega, by omega, by go_num, (show Below w3.heap.size w3 w9 from Below.trans ((BW.trans G6.out).alloc _) HW9.out.2), ?_⟩
            unfold Hid
            rw [HSn.out]
            have h := HW9.out.1
            simpa using h
      · have hkn : ¬ (k : Int) < (n : Int) := by omega
        have htk : es.take k = es := by rw [show k = es.length by omega, List.take_length]
        have hOw := HOw.out
        rw [htk, ← HM.out] at hOw
        obtain ⟨A', c', rfl⟩ := own_slice hOw
        have HF := hid (Rd.of_own hOw)
        have hlm : ML.length ≤ 9223372036854775807 := by
          have h1 : ML.length ≤ es.length := by rw [HM.out, List.length_map]; exact List.length_filter_le _ _
          omega
        generalize ML.length = mm at *
        clear HOw hOw htk
        go_wp2
        go_ret2
        unfold MeetsRet
        exact ⟨A', mm, c', rfl, G3.out.trans BW, HF.out, hlm⟩
end Go.Proofs.Ytimhkkijoelmhaa
