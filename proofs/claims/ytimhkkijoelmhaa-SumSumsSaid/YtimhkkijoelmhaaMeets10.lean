/- Meets of the package sum: who is asked for. For every table and question. -/
import Derived.Test.YtimhkkijoelmhaaOrdered10
import Derived.Test.YtimhkkijoelmhaaOrdPure10
namespace Go.Proofs.Ytimhkkijoelmhaa
open Go.RowKit Go.Shelf Go.Sort

theorem info_int10 : (Try.prog.info? 3).map (fun i => (i.zero, i.size, i.bytes)) = some (some (.int .i64 0), 1, 8) := by kernel_rfl
/-- What Meets hands back. -/
def MeetsRet (zs : List Int) (E : Int) (w : World) (e : Ending) (w' : World) : Prop := ∃ A n c, e = .returned (.tuple #[.slice A n c, .int .i64 E]) ∧ (Gr w w' ∧ Rd w' 1 A n (zs.map (Value.int .i64)) ∧ n ≤ 9223372036854775807)

set_option maxRecDepth 100000 in
set_option maxHeartbeats 16000000 in
theorem meets10_any (columns : Int) (A : Option Addr) (n c : Nat) (zs : List Sbj) (q : Qst) (w : World) (hi : SbjsIn w A n zs) (hq : QstIn w q) :
    Calls Try.prog 16 #[.int .i64 columns, .slice A n c, q.val] w (MeetsRet (meetsT columns zs q) (askN10 columns zs q) w) := by
  have HC := hid (fun W (k : Gr w W) => checked10_any columns A n c zs q W (hi.gr k) (hq.gr k))
  obtain ⟨E, hE⟩ : ∃ E, askN10 columns zs q = E := ⟨_, rfl⟩
  unfold meetsT
  rw [hE] at HC ⊢
  have hbig := hi.big
  have hbig' : (n : Int) ≤ 9223372036854775807 := by omega
  by_cases h0 : E = 0
  case neg =>
    rw [if_neg h0]
    have h0' : ¬ E = 0 := h0
    clear hi hq hE
    obtain ⟨qa, qn, qc, whs, col, clip, step⟩ := q
    unfold Qst.val at *
    dsimp only at *
    unfold MeetsRet
    go_enter Try.func16, Try.ntmps16
    go_wp2_with (first
      | (go_at_call 42; (with_reducible refine (HC.out _ ?_).mono ?_); rotate_right; rintro e w1 ⟨rfl, hbw1⟩; obtain ⟨hcw1, hfw1, hzw1⟩ := hbw1.rules; (try simp at hzw1); have hzw1_0 : w.heap.size < w1.heap.size := (by omega); have hyw1_0 : w.heap.size ≤ w1.heap.size := (by omega)))
    all_goals first
      | ((repeat (first | with_reducible exact Gr.refl _ | with_reducible refine Gr.alloc ?_ _ | with_reducible refine Gr.setCell ?_ (by simp) _ | with_reducible refine Gr.setCell ?_ (by simp; omega) _ | with_reducible refine Gr.drew ?_ | with_reducible refine Gr.drewN ?_ _)); done)
      | (go_ret2
         exact ⟨none, 0, 0, rfl, by (repeat (first | with_reducible exact Gr.refl _ | with_reducible refine Gr.trans ?_ hbw1 | with_reducible refine Gr.alloc ?_ _ | with_reducible refine Gr.setCell ?_ (by simp) _ | with_reducible refine Gr.setCell ?_ (by simp; omega) _ | with_reducible refine Gr.drew ?_ | with_reducible refine Gr.drewN ?_ _)), Rd.nil_, by omega⟩)
  case pos =>
    subst h0
    obtain ⟨ht, hqb⟩ := ask_zero hE
    rw [if_pos rfl]
    obtain ⟨hcol, hstep, hwh⟩ := qst_parts hqb
    obtain ⟨hl16, hmem⟩ := table_mem ht
    have hap := table_apart ht
    have hln := hi.len
    have HO := hid (fun W (k : Gr w W) => by
      have h := ordered10_any zs A c W ((hi.gr k).rdE |> fun x => by rw [hln]; exact x) (by omega) (fun s hs => (hmem s hs).1) hap
      rw [hln] at h
      exact h)
    have HAs := hid (fun s (hs : s ∈ zs) W (k : Gr w W) => asked_any s q W ((hi.vals s hs).1.gr k) (hq.gr k) (fun x hx => by have h1 := hwh x hx; have h2 := (hmem s hs).2.1; have h3 := (hi.vals s hs).1.len; simp at h3; omega) (hi.vals s hs).2)
    have HM : Hid (meetsL zs q = ((ordI zs).filter fun s => askedB s q).map Sbj.id) := rfl
    generalize meetsL zs q = ML at HM ⊢
    have HI := hid hi
    have HAp := hid hap
    have HL16 := hid hl16
    clear hq hE hwh hmem hqb ht hcol hstep hap hi
    obtain ⟨qa, qn, qc, whs, col, clip, step⟩ := q
    unfold Qst.val at *
    dsimp only at *
    obtain ⟨i0, hi0, hz0, hs0, hy0⟩ := info_parts info_int10
    have HI0 := hid hi0
    have HZ0 := hid hz0
    have HS0 := hid hs0
    have HY0 := hid hy0
    clear hi0 hz0 hs0 hy0
    have hr0 := heap_alloc_new w (.cells #[.slice qa qn qc, .int .i64 col, .int .i64 clip, .int .i64 step] 25)
    go_enter Try.func16, Try.ntmps16
    go_wp2_with (first
      | (go_at_call 42; (with_reducible refine (HC.out _ ?_).mono ?_); rotate_right; rintro e w1 ⟨rfl, hbw1⟩; obtain ⟨hcw1, hfw1, hzw1⟩ := hbw1.rules; (try simp at hzw1); have hzw1_0 : w.heap.size < w1.heap.size := (by omega); have hyw1_0 : w.heap.size ≤ w1.heap.size := (by omega))
      | (go_at_call 43; (with_reducible refine (HO.out _ ?_).mono ?_); rotate_right; rintro e w2 ⟨v, rfl, B, cap, es, rfl, T1, T2, T3, hb2⟩; have HT := hid (And.intro T1 (And.intro T2 T3)); clear T1 T2 T3))
    all_goals try ((repeat (first | with_reducible exact Gr.refl _ | with_reducible refine Gr.alloc ?_ _ | with_reducible refine Gr.setCell ?_ (by simp) _ | with_reducible refine Gr.setCell ?_ (by simp; omega) _ | with_reducible refine Gr.drew ?_ | with_reducible refine Gr.drewN ?_ _)); done)
    all_goals try ((repeat (first | with_reducible exact Gr.refl _ | with_reducible refine Gr.trans ?_ hbw1 | with_reducible refine Gr.alloc ?_ _ | with_reducible refine Gr.setCell ?_ (by simp) _ | with_reducible refine Gr.setCell ?_ (by simp; omega) _ | with_reducible refine Gr.drew ?_ | with_reducible refine Gr.drewN ?_ _)); done)
    have G1 : Hid (Gr w w1) := by
      show Gr w w1
      (repeat (first | with_reducible exact Gr.refl _ | with_reducible refine Gr.trans ?_ hbw1 | with_reducible refine Gr.alloc ?_ _ | with_reducible refine Gr.setCell ?_ (by simp) _ | with_reducible refine Gr.setCell ?_ (by simp; omega) _ | with_reducible refine Gr.drew ?_ | with_reducible refine Gr.drewN ?_ _))
    have G2 : Hid (Gr w w2) := G1.out.trans hb2
    have hln' : zs.length = n := HI.out.len
    have HE := hid (ord_eq HAp.out HT.out.1 HT.out.2.1)
    have HEs : Hid (SbjsIn w2 B n es) := HI.out.perm G2.out HT.out.1 (by have := HT.out.2.2; first | exact this | (rw [hln'] at this; exact this)) (by omega)
    have HPm := hid (fun s (hs : s ∈ es) => HT.out.1.mem_iff.1 hs)
    have HRQ : Hid (w2.heap[w.heap.size]? = some (.cells #[.slice qa qn qc, .int .i64 col, .int .i64 clip, .int .i64 step] 25 (0, 0))) := row_gr (row_gr hr0 hbw1) hb2
    rw [← HE.out] at HM
    clear hr0 hbw1 hcw1 hfw1 hzw1 hzw1_0 hyw1_0 HC HO hb2 HT HE G1
    have hes : es.length = n := HEs.out.len
    go_loopg [9, 22] n (fun gg s9 s22 wr => ∃ k : Nat, k ≤ n ∧ n - k ≤ gg ∧ s22 = .int .i64 k ∧ Gr w2 wr ∧ Hid (wr.ownsRow w2.heap.size 3 1 s9 (((es.take k).filter fun s => askedB s ⟨qa, qn, qc, whs, col, clip, step⟩).map Sbj.id).length ((((es.take k).filter fun s => askedB s ⟨qa, qn, qc, whs, col, clip, step⟩).map Sbj.id).map (Value.int .i64))))
    case atStart => exact ⟨0, Nat.zero_le _, by omega, rfl, Gr.refl w2, ⟨rfl, .inl ⟨rfl, rfl⟩⟩⟩
    case round =>
      obtain ⟨k, hk, hgk, rfl, BW, HOw⟩ := hrel
      have rq := row_gr HRQ.out BW
      have u0 := row_cell_at (v := .slice qa qn qc) rq 0 rfl
      have u1 := row_cell_at (v := .int .i64 col) rq 1 rfl
      have u2 := row_cell_at (v := .int .i64 clip) rq 2 rfl
      have u3 := row_cell_at (v := .int .i64 step) rq 3 rfl
      have hzr : w.heap.size < wr.heap.size := block_lt_of_cell u0
      clear rq
      by_cases hkl : k < n
      · obtain ⟨hk', b, off, hAe, hbl, c0, c1⟩ := (HEs.out.gr BW).rd.sbj hkl
        have hm := mem_get hk'
        have HSn : Hid (((es.take (k + 1)).filter fun s => askedB s ⟨qa, qn, qc, whs, col, clip, step⟩).map Sbj.id = ((es.take k).filter fun s => askedB s ⟨qa, qn, qc, whs, col, clip, step⟩).map Sbj.id ++ if askedB es[k]! ⟨qa, qn, qc, whs, col, clip, step⟩ = true then [es[k]!.id] else []) := by
          show _ = _
          rw [List.take_succ_eq_append_getElem hk', List.filter_append, List.map_append, ← getElem!_pos es k hk']
          congr 1
          generalize es[k]! = y
          cases e : askedB y ⟨qa, qn, qc, whs, col, clip, step⟩ <;> simp [e]
        have HA := hid (fun W kk => HAs.out _ (HPm.out _ hm) W kk)
        have hol : (((es.take k).filter fun s => askedB s ⟨qa, qn, qc, whs, col, clip, step⟩).map Sbj.id).length ≤ 60 := by
          rw [List.length_map]
          have h1 := List.length_filter_le (fun s => askedB s ⟨qa, qn, qc, whs, col, clip, step⟩) (es.take k)
          have h2 := List.length_take_le k es
          have := HL16.out
          omega
        generalize ((es.take k).filter fun s => askedB s ⟨qa, qn, qc, whs, col, clip, step⟩).map Sbj.id = o at *
        generalize es[k]! = s at c0 c1 HSn HA
        obtain ⟨id, a, vn, vc, vals⟩ := s
        unfold Sbj.val at HA
        dsimp only at *
        subst hAe
        obtain ⟨r, hr⟩ : ∃ r, askedB ⟨id, a, vn, vc, vals⟩ ⟨qa, qn, qc, whs, col, clip, step⟩ = r := ⟨_, rfl⟩
        rw [hr] at HA HSn
        have hkn : (k : Int) < (n : Int) := by omega
        have hk0 : (0 : Int) ≤ (k : Int) := by omega
        clear hr hm hk'
        cases r with
        | false =>
          simp only [Bool.false_eq_true, if_false, List.append_nil] at HSn
          go_wp2_with (first
            | (go_at_call 44; (with_reducible refine (HA.out _ ?_).mono ?_); rotate_right; rintro e w3 ⟨rfl, hbw3⟩; obtain ⟨hcw3, hfw3, hzw3⟩ := hbw3.rules; (try simp at hzw3); have hzw3_0 : wr.heap.size < w3.heap.size := (by omega); have hyw3_0 : wr.heap.size ≤ w3.heap.size := (by omega)))
          all_goals try (exact (G2.out.trans BW).trans ((Gr.refl _).alloc _); done)
          have gg := ((Gr.refl wr).alloc (.cells #[.int .i64 id, .slice a vn vc] 60)).trans hbw3
          go_roundg (n - (k + 1))
          case measure => omega
          case rel => exact ⟨k + 1, by omega, by omega, by go_num, BW.trans gg, by unfold Hid; rw [HSn.out]; exact ownT_gr10 HOw.out gg⟩
        | true =>
          simp only [if_true] at HSn
          go_wp2_with (first
            | (go_at_call 44; (with_reducible refine (HA.out _ ?_).mono ?_); rotate_right; rintro e w3 ⟨rfl, hbw3⟩; obtain ⟨hcw3, hfw3, hzw3⟩ := hbw3.rules; (try simp at hzw3); have hzw3_0 : wr.heap.size < w3.heap.size := (by omega); have hyw3_0 : wr.heap.size ≤ w3.heap.size := (by omega))
            | ((with_reducible show wpList _ _ _ (⟨some 33, _, _, _, _, _⟩ :: _) _ _); refine wpList_append_rd _ rfl (.tmp 29) (.tmp 32) 30 rfl w2.heap.size 3 i0 (.int .i64 0) 1 8 Try.underlying30 HI0.out HZ0.out HS0.out HY0.out rfl (by decide) _ _ _ rfl (ownT_gr10 HOw.out ((((Gr.refl wr).alloc _).trans hbw3).alloc _)) (some ⟨w3.heap.size, 0, none⟩) 1 1 [.int .i64 id] rfl (Rd.one (by simp) (row_cell_at (heap_alloc_new w3 _) 0 rfl)) (by intro u hu; simp at hu; subst hu; rfl) (by have : maxLen = 9223372036854775807 := rfl; omega) (by omega) (by have h1 := BW.size; have h2 := hbw3.size; simp at h2 ⊢; omega) ?_; intro A' c' w9 hown' hbel; have HW9 := hid (And.intro hown' hbel); clear hown' hbel))
          all_goals try (exact (G2.out.trans BW).trans ((Gr.refl _).alloc _); done)
          have gg := ((Gr.refl wr).alloc (.cells #[.int .i64 id, .slice a vn vc] 60)).trans hbw3
          go_roundg (n - (k + 1))
          case measure => omega
          case rel =>
            refine ⟨k + 1, by omega, by omega, by go_num, (show Below w2.heap.size w2 w9 from Below.trans ((BW.trans gg).alloc _) HW9.out.2), ?_⟩
            unfold Hid
            rw [HSn.out]
            have h := HW9.out.1
            simpa using h
      · have hkn : ¬ (k : Int) < (n : Int) := by omega
        have htk : es.take k = es := by rw [show k = es.length by omega, List.take_length]
        have hOw := HOw.out
        rw [htk, ← HM.out] at hOw
        obtain ⟨A', c', rfl⟩ := own_slice hOw
        have HF := hid (Rd.of_own hOw)
        have hlm : ML.length ≤ 9223372036854775807 := by
          have h1 : ML.length ≤ es.length := by rw [HM.out, List.length_map]; exact List.length_filter_le _ _
          omega
        generalize ML.length = mm at *
        clear HOw hOw htk
        go_wp2
        go_ret2
        unfold MeetsRet
        exact ⟨A', mm, c', rfl, G2.out.trans BW, HF.out, hlm⟩
end Go.Proofs.Ytimhkkijoelmhaa
