/- ordered of the package sum: subjects by their Ids, in new memory. For lists of subjects with Ids in bounds, no two of one Id. Meets of the package sum: who is asked for. For every table and question. Twin of the reference of layer 10: a table in new memory. For lists that are not great. (Printed by gen_twin10.py.) TwinQuestions of the reference of layer 10: questions in new memory. For lists that are not great. (Printed by gen_twin10.py.) -/
import Derived.Shelf.SlSortCmp.NoneTotal
import Derived.Test.YtimhkkijoelmhaaQMix
import Derived.Test.YtimhkkijoelmhaaQCollectS
import Derived.Test.YtimhkkijoelmhaaQOrd10
import Derived.Test.YtimhkkijoelmhaaQPlan
namespace Go.Proofs.Ytimhkkijoelmhaa
open Go.RowKit Go.Shelf Go.Sort Go.Lib

set_option maxHeartbeats 2000000 in
theorem sortS_all (es : List Sbj) (v : Value) (w0 w : World) (hw : Gr w0 w) (base : Nat) (hb : w0.heap.size ≤ base) (hv : w.ownsRow base 60 2 v es.length (flatE es)) (hn : es.length ≤ 1000)
    (hid : ∀ s ∈ es, 0 ≤ s.id ∧ s.id ≤ 999999) (hd : es.Pairwise (fun x y => x.id ≠ y.id)) :
    Calls Try.prog 94 #[v, .func (.func 71) #[] #[]] w fun e w' => e = .returned (.tuple #[]) ∧ Ord10 es w0 w' v := by
  rcases Nat.eq_zero_or_pos es.length with h0 | h0
  · have hes : es = [] := List.length_eq_zero_iff.1 h0
    subst hes
    obtain ⟨A, c, rfl⟩ := own_slice hv
    have H := AnyF.slices_SortFunc_none sortSbj A c (.func (.func 71) #[] #[]) w
    refine H.mono ?_
    rintro e w' ⟨rfl, rfl⟩
    exact ⟨rfl, A, c, [], rfl, List.Perm.refl _, List.Pairwise.nil, Rd.nil_, hw⟩
  · exact sortS_any es v w0 w hw base hb hv hn hid hd h0

theorem collectS_any (es : List Sbj) (A : Option Addr) (cap Bs : Nat) (w0 w : World) (hw : Gr w0 w) (hBs : Bs < w.heap.size) (hc : w.cell? ⟨Bs, 0, none⟩ = some (.slice A es.length cap)) (hI : RdE w0 A es.length es) (hN : es.length ≤ 1000) :
    Calls Try.prog 93 #[.func (.func 95) #[] #[.pointer (some ⟨Bs, 0, none⟩)]] w fun e w' => ∃ v, e = .returned v ∧ w'.ownsRow w.heap.size 60 2 v es.length (flatE es) ∧ Gr w w' := by
  have HC := hid (callsIn_wide.1 (sr_appendSeq es A cap Bs w0 w hw hBs hc hI hN))
  clear hw hBs hc hI hN
  go_enter Try.func93, Try.ntmps93
  go_wp2_with (go_at_call 105; refine HC.out.mono ?_; rintro e w1 ⟨v, rfl, T1, T2⟩; have T := hid (And.intro T1 T2); clear T1 T2)
  go_ret
  exact ⟨v, rfl, T.out.1, T.out.2⟩

set_option maxHeartbeats 2000000 in
theorem sortedS_any (es : List Sbj) (A : Option Addr) (cap Bs : Nat) (w0 w : World) (hw : Gr w0 w) (hBs : Bs < w.heap.size) (hb : w.cell? ⟨Bs, 0, none⟩ = some (.slice A es.length cap)) (hI : RdE w0 A es.length es) (hn : es.length ≤ 1000)
    (hid' : ∀ s ∈ es, 0 ≤ s.id ∧ s.id ≤ 999999) (hd : es.Pairwise (fun x y => x.id ≠ y.id)) :
    Calls Try.prog 69 #[.func (.func 95) #[] #[.pointer (some ⟨Bs, 0, none⟩)], .func (.func 71) #[] #[]] w fun e w' => ∃ v, e = .returned v ∧ Ord10 es w w' v := by
  have H1 := hid (collectS_any es A cap Bs w0 w hw hBs hb hI hn)
  have H2 := hid (fun (v : Value) (W : World) (hv : W.ownsRow w.heap.size 60 2 v es.length (flatE es)) (g : Gr w W) => sortS_all es v w W g w.heap.size (Nat.le_refl _) hv hn hid' hd)
  clear hw hBs hb hI hn hid' hd
  go_enter Try.func69, Try.ntmps69
  go_wp2_with (first
    | (go_at_call 93; refine H1.out.mono ?_; rintro e w1 ⟨v, rfl, T1, T2⟩; have T := hid (And.intro T1 T2); clear T1 T2)
    | (go_at_call 94; refine (H2.out v w1 T.out.1 T.out.2).mono ?_; rintro e w2 ⟨rfl, U0⟩; have U := hid U0; clear U0))
  go_ret
  exact ⟨_, rfl, U.out⟩

set_option maxHeartbeats 2000000 in
theorem ordered10_any (es : List Sbj) (A : Option Addr) (cap : Nat) (w : World) (hI : RdE w A es.length es) (hn : es.length ≤ 1000) (hid' : ∀ s ∈ es, 0 ≤ s.id ∧ s.id ≤ 999999) (hd : es.Pairwise (fun x y => x.id ≠ y.id)) :
    Calls Try.prog 43 #[.slice A es.length cap] w fun e w' => ∃ v, e = .returned v ∧ Ord10 es w w' v := by
  have H1 := hid (fun (W : World) => callsIn_wide.1 (sr_values_in Fence.wide 1 trivial rfl A es.length cap W))
  have H2 := hid (fun (Bs : Nat) (W : World) (g : Gr w W) hBs hb => sortedS_any es A cap Bs w W g hBs hb hI hn hid' hd)
  clear hI hn hid' hd
  go_enter Try.func43, Try.ntmps43
  go_wp2_with (first
    | (go_at_call 70; refine (H1.out _).mono ?_; rintro e w1 ⟨rfl, rfl⟩)
    | (go_at_call 69; refine (H2.out w.heap.size _ ((Gr.refl w).alloc _) ?_ ?_).mono ?_; rotate_right; rintro e w2 ⟨v, rfl, A2, c2, es', rfl, T3, T4, T5, T6⟩; have U := hid (And.intro T3 (And.intro T4 (And.intro T5 T6))); clear T3 T4 T5 T6))
  · go_ret
    exact ⟨_, rfl, A2, c2, es', rfl, U.out.1, U.out.2.1, U.out.2.2.1, ((Gr.refl w).alloc _).trans U.out.2.2.2⟩
  · simp
  · simp
end Go.Proofs.Ytimhkkijoelmhaa
namespace Go.Proofs.Ytimhkkijoelmhaa
open Go.RowKit Go.Shelf Go.Sort

theorem info_int10 : (Try.prog.info? 3).map (fun i => (i.zero, i.size, i.bytes)) = some (some (.int .i64 0), 1, 8) := by kernel_rfl
/-- What Meets hands back. -/
def MeetsRet (zs : List Int) (E : Int) (w : World) (e : Ending) (w' : World) : Prop := ∃ A n c, e = .returned (.tuple #[.slice A n c, .int .i64 E]) ∧ (Gr w w' ∧ Rd w' 1 A n (zs.map (Value.int .i64)) ∧ n ≤ 9223372036854775807)

set_option maxRecDepth 100000 in
set_option maxHeartbeats 16000000 in
theorem meets10_any (columns : Int) (A : Option Addr) (n c : Nat) (zs : List Sbj) (q : Qst) (w : World) (hi : SbjsIn w A n zs) (hq : QstIn w q) :
    Calls Try.prog 16 #[.int .i64 columns, .slice A n c, q.val] w (MeetsRet (meetsT columns zs q) (askN10 columns zs q) w) := by
  have HC := hid (fun W (k : Gr w W) => checked10_any columns A n c zs q W (hi.gr k) (hq.gr k))
  obtain ⟨E, hE⟩ : ∃ E, askN10 columns zs q = E := ⟨_, rfl⟩
  unfold meetsT
  rw [hE] at HC ⊢
  have hbig := hi.big
  have hbig' : (n : Int) ≤ 9223372036854775807 := by omega
  by_cases h0 : E = 0
  case neg =>
    rw [if_neg h0]
    have h0' : ¬ E = 0 := h0
    clear hi hq hE
    obtain ⟨qa, qn, qc, whs, col, clip, step⟩ := q
    unfold Qst.val at *
    dsimp only at *
    unfold MeetsRet
    go_enter Try.func16, Try.ntmps16
    go_wp2_with (first
      | (go_at_call 42; (with_reducible refine (HC.out _ ?_).mono ?_); rotate_right; rintro e w1 ⟨rfl, hbw1⟩; obtain ⟨hcw1, hfw1, hzw1⟩ := hbw1.rules; (try simp at hzw1); have hzw1_0 : w.heap.size < w1.heap.size := (by omega); have hyw1_0 : w.heap.size ≤ w1.heap.size := (by omega)))
    all_goals first
      | ((repeat (first | with_reducible exact Gr.refl _ | with_reducible refine Gr.alloc ?_ _ | with_reducible refine Gr.setCell ?_ (by simp) _ | with_reducible refine Gr.setCell ?_ (by simp; omega) _ | with_reducible refine Gr.drew ?_ | with_reducible refine Gr.drewN ?_ _)); done)
      | (go_ret2
         exact ⟨none, 0, 0, rfl, by (repeat (first | with_reducible exact Gr.refl _ | with_reducible refine Gr.trans ?_ hbw1 | with_reducible refine Gr.alloc ?_ _ | with_reducible refine Gr.setCell ?_ (by simp) _ | with_reducible refine Gr.setCell ?_ (by simp; omega) _ | with_reducible refine Gr.drew ?_ | with_reducible refine Gr.drewN ?_ _)), Rd.nil_, by omega⟩)
  case pos =>
    subst h0
    obtain ⟨ht, hqb⟩ := ask_zero hE
    rw [if_pos rfl]
    obtain ⟨hcol, hstep, hwh⟩ := qst_parts hqb
    obtain ⟨hl16, hmem⟩ := table_mem ht
    have hap := table_apart ht
    have hln := hi.len
    have HO := hid (fun W (k : Gr w W) => by
      have h := ordered10_any zs A c W ((hi.gr k).rdE |> fun x => by rw [hln]; exact x) (by omega) (fun s hs => (hmem s hs).1) hap
      rw [hln] at h
      exact h)
    have HAs := hid (fun s (hs : s ∈ zs) W (k : Gr w W) => asked_any s q W ((hi.vals s hs).1.gr k) (hq.gr k) (fun x hx => by have h1 := hwh x hx; have h2 := (hmem s hs).2.1; have h3 := (hi.vals s hs).1.len; simp at h3; omega) (hi.vals s hs).2)
    have HM : Hid (meetsL zs q = ((ordI zs).filter fun s => askedB s q).map Sbj.id) := rfl
    generalize meetsL zs q = ML at HM ⊢
    have HI := hid hi
    have HAp := hid hap
    have HL16 := hid hl16
    clear hq hE hwh hmem hqb ht hcol hstep hap hi
    obtain ⟨qa, qn, qc, whs, col, clip, step⟩ := q
    unfold Qst.val at *
    dsimp only at *
    obtain ⟨i0, hi0, hz0, hs0, hy0⟩ := info_parts info_int10
    have HI0 := hid hi0
    have HZ0 := hid hz0
    have HS0 := hid hs0
    have HY0 := hid hy0
    clear hi0 hz0 hs0 hy0
    have hr0 := heap_alloc_new w (.cells #[.slice qa qn qc, .int .i64 col, .int .i64 clip, .int .i64 step] 25)
    go_enter Try.func16, Try.ntmps16
    go_wp2_with (first
      | (go_at_call 42; (with_reducible refine (HC.out _ ?_).mono ?_); rotate_right; rintro e w1 ⟨rfl, hbw1⟩; obtain ⟨hcw1, hfw1, hzw1⟩ := hbw1.rules; (try simp at hzw1); have hzw1_0 : w.heap.size < w1.heap.size := (by omega); have hyw1_0 : w.heap.size ≤ w1.heap.size := (by omega))
      | (go_at_call 43; (with_reducible refine (HO.out _ ?_).mono ?_); rotate_right; rintro e w2 ⟨v, rfl, B, cap, es, rfl, T1, T2, T3, hb2⟩; have HT := hid (And.intro T1 (And.intro T2 T3)); clear T1 T2 T3))
    all_goals try ((repeat (first | with_reducible exact Gr.refl _ | with_reducible refine Gr.alloc ?_ _ | with_reducible refine Gr.setCell ?_ (by simp) _ | with_reducible refine Gr.setCell ?_ (by simp; omega) _ | with_reducible refine Gr.drew ?_ | with_reducible refine Gr.drewN ?_ _)); done)
    all_goals try ((repeat (first | with_reducible exact Gr.refl _ | with_reducible refine Gr.trans ?_ hbw1 | with_reducible refine Gr.alloc ?_ _ | with_reducible refine Gr.setCell ?_ (by simp) _ | with_reducible refine Gr.setCell ?_ (by simp; omega) _ | with_reducible refine Gr.drew ?_ | with_reducible refine Gr.drewN ?_ _)); done)
    have G1 : Hid (Gr w w1) := by
      show Gr w w1
      (repeat (first | with_reducible exact Gr.refl _ | with_reducible refine Gr.trans ?_ hbw1 | with_reducible refine Gr.alloc ?_ _ | with_reducible refine Gr.setCell ?_ (by simp) _ | with_reducible refine Gr.setCell ?_ (by simp; omega) _ | with_reducible refine Gr.drew ?_ | with_reducible refine Gr.drewN ?_ _))
    have G2 : Hid (Gr w w2) := G1.out.trans hb2
    have hln' : zs.length = n := HI.out.len
    have HE := hid (ord_eq HAp.out HT.out.1 HT.out.2.1)
    have HEs : Hid (SbjsIn w2 B n es) := HI.out.perm G2.out HT.out.1 (by have := HT.out.2.2; first | exact this | (rw [hln'] at this; exact this)) (by omega)
    have HPm := hid (fun s (hs : s ∈ es) => HT.out.1.mem_iff.1 hs)
    have HRQ : Hid (w2.heap[w.heap.size]? = some (.cells #[.slice qa qn qc, .int .i64 col, .int .i64 clip, .int .i64 step] 25 (0, 0))) := row_gr (row_gr hr0 hbw1) hb2
    rw [← HE.out] at HM
    clear hr0 hbw1 hcw1 hfw1 hzw1 hzw1_0 hyw1_0 HC HO hb2 HT HE G1
    have hes : es.length = n := HEs.out.len
    go_loopg [9, 22] n (fun gg s9 s22 wr => ∃ k : Nat, k ≤ n ∧ n - k ≤ gg ∧ s22 = .int .i64 k ∧ Gr w2 wr ∧ Hid (wr.ownsRow w2.heap.size 3 1 s9 (((es.take k).filter fun s => askedB s ⟨qa, qn, qc, whs, col, clip, step⟩).map Sbj.id).length ((((es.take k).filter fun s => askedB s ⟨qa, qn, qc, whs, col, clip, step⟩).map Sbj.id).map (Value.int .i64))))
    case atStart => exact ⟨0, Nat.zero_le _, by omega, rfl, Gr.refl w2, ⟨rfl, .inl ⟨rfl, rfl⟩⟩⟩
    case round =>
      obtain ⟨k, hk, hgk, rfl, BW, HOw⟩ := hrel
      have rq := row_gr HRQ.out BW
      have u0 := row_cell_at (v := .slice qa qn qc) rq 0 rfl
      have u1 := row_cell_at (v := .int .i64 col) rq 1 rfl
      have u2 := row_cell_at (v := .int .i64 clip) rq 2 rfl
      have u3 := row_cell_at (v := .int .i64 step) rq 3 rfl
      have hzr : w.heap.size < wr.heap.size := block_lt_of_cell u0
      clear rq
      by_cases hkl : k < n
      · obtain ⟨hk', b, off, hAe, hbl, c0, c1⟩ := (HEs.out.gr BW).rd.sbj hkl
        have hm := mem_get hk'
        have HSn : Hid (((es.take (k + 1)).filter fun s => askedB s ⟨qa, qn, qc, whs, col, clip, step⟩).map Sbj.id = ((es.take k).filter fun s => askedB s ⟨qa, qn, qc, whs, col, clip, step⟩).map Sbj.id ++ if askedB es[k]! ⟨qa, qn, qc, whs, col, clip, step⟩ = true then [es[k]!.id] else []) := by
          show _ = _
          rw [List.take_succ_eq_append_getElem hk', List.filter_append, List.map_append, ← getElem!_pos es k hk']
          congr 1
          generalize es[k]! = y
          cases e : askedB y ⟨qa, qn, qc, whs, col, clip, step⟩ <;> simp [e]
        have HA := hid (fun W kk => HAs.out _ (HPm.out _ hm) W kk)
        have hol : (((es.take k).filter fun s => askedB s ⟨qa, qn, qc, whs, col, clip, step⟩).map Sbj.id).length ≤ 60 := by
          rw [List.length_map]
          have h1 := List.length_filter_le (fun s => askedB s ⟨qa, qn, qc, whs, col, clip, step⟩) (es.take k)
          have h2 := List.length_take_le k es
          have := HL16.out
          omega
        generalize ((es.take k).filter fun s => askedB s ⟨qa, qn, qc, whs, col, clip, step⟩).map Sbj.id = o at *
        generalize es[k]! = s at c0 c1 HSn HA
        obtain ⟨id, a, vn, vc, vals⟩ := s
        unfold Sbj.val at HA
        dsimp only at *
        subst hAe
        obtain ⟨r, hr⟩ : ∃ r, askedB ⟨id, a, vn, vc, vals⟩ ⟨qa, qn, qc, whs, col, clip, step⟩ = r := ⟨_, rfl⟩
        rw [hr] at HA HSn
        have hkn : (k : Int) < (n : Int) := by omega
        have hk0 : (0 : Int) ≤ (k : Int) := by omega
        clear hr hm hk'
        cases r with
        | false =>
          simp only [Bool.false_eq_true, if_false, List.append_nil] at HSn
          go_wp2_with (first
            | (go_at_call 44; (with_reducible refine (HA.out _ ?_).mono ?_); rotate_right; rintro e w3 ⟨rfl, hbw3⟩; obtain ⟨hcw3, hfw3, hzw3⟩ := hbw3.rules; (try simp at hzw3); have hzw3_0 : wr.heap.size < w3.heap.size := (by omega); have hyw3_0 : wr.heap.size ≤ w3.heap.size := (by omega)))
          all_goals try (exact (G2.out.trans BW).trans ((Gr.refl _).alloc _); done)
          have gg := ((Gr.refl wr).alloc (.cells #[.int .i64 id, .slice a vn vc] 60)).trans hbw3
          go_roundg (n - (k + 1))
          case measure => omega
          case rel => exact ⟨k + 1, by omega, by omega, by go_num, BW.trans gg, by unfold Hid; rw [HSn.out]; exact ownT_gr10 HOw.out gg⟩
        | true =>
          simp only [if_true] at HSn
          go_wp2_with (first
            | (go_at_call 44; (with_reducible refine (HA.out _ ?_).mono ?_); rotate_right; rintro e w3 ⟨rfl, hbw3⟩; obtain ⟨hcw3, hfw3, hzw3⟩ := hbw3.rules; (try simp at hzw3); have hzw3_0 : wr.heap.size < w3.heap.size := (by omega); have hyw3_0 : wr.heap.size ≤ w3.heap.size := (by omega))
            | ((with_reducible show wpList _ _ _ (⟨some 33, _, _, _, _, _⟩ :: _) _ _); refine wpList_append_rd _ rfl (.tmp 29) (.tmp 32) 30 rfl w2.heap.size 3 i0 (.int .i64 0) 1 8 Try.underlying30 HI0.out HZ0.out HS0.out HY0.out rfl (by decide) _ _ _ rfl (ownT_gr10 HOw.out ((((Gr.refl wr).alloc _).trans hbw3).alloc _)) (some ⟨w3.heap.size, 0, none⟩) 1 1 [.int .i64 id] rfl (Rd.one (by simp) (row_cell_at (heap_alloc_new w3 _) 0 rfl)) (by intro u hu; simp at hu; subst hu; rfl) (by have : maxLen = 9223372036854775807 := rfl; omega) (by omega) (by have h1 := BW.size; have h2 := hbw3.size; simp at h2 ⊢; omega) ?_; intro A' c' w9 hown' hbel; have HW9 := hid (And.intro hown' hbel); clear hown' hbel))
          all_goals try (exact (G2.out.trans BW).trans ((Gr.refl _).alloc _); done)
          have gg := ((Gr.refl wr).alloc (.cells #[.int .i64 id, .slice a vn vc] 60)).trans hbw3
          go_roundg (n - (k + 1))
          case measure => omega
          case rel =>
            refine ⟨k + 1, by omega, by omega, by go_num, (show Below w2.heap.size w2 w9 from Below.trans ((BW.trans gg).alloc _) HW9.out.2), ?_⟩
            unfold Hid
            rw [HSn.out]
            have h := HW9.out.1
            simpa using h
      · have hkn : ¬ (k : Int) < (n : Int) := by omega
        have htk : es.take k = es := by rw [show k = es.length by omega, List.take_length]
        have hOw := HOw.out
        rw [htk, ← HM.out] at hOw
        obtain ⟨A', c', rfl⟩ := own_slice hOw
        have HF := hid (Rd.of_own hOw)
        have hlm : ML.length ≤ 9223372036854775807 := by
          have h1 : ML.length ≤ es.length := by rw [HM.out, List.length_map]; exact List.length_filter_le _ _
          omega
        generalize ML.length = mm at *
        clear HOw hOw htk
        go_wp2
        go_ret2
        unfold MeetsRet
        exact ⟨A', mm, c', rfl, G2.out.trans BW, HF.out, hlm⟩
end Go.Proofs.Ytimhkkijoelmhaa
namespace Go.Proofs.Ytimhkkijoelmhaa
open Go.RowKit

/-- What it hands back. -/
def TwinRet (zs : List Sbj) (n : Nat) (w : World) (e : Ending) (w' : World) : Prop := ∃ B cap es, e = .returned (.slice B n cap) ∧ (Gr w w' ∧ SbjsIn w' B n es ∧ es.map Sbj.bare = zs.map Sbj.bare)

set_option maxRecDepth 100000 in
set_option maxHeartbeats 8000000 in
theorem twin10_any (A : Option Addr) (n c : Nat) (zs : List Sbj) (w : World) (hi : SbjsIn w A n zs) (hn : n ≤ 1000) (hv : ∀ s ∈ zs, s.n ≤ 1000) :
    Calls Try.prog 14 #[.slice A n c] w (TwinRet zs n w) := by
  obtain ⟨i0, hi0, hz0, hs0, hy0⟩ := info_parts info_sbj
  have HI0 := hid hi0
  have HZ0 := hid hz0
  have HS0 := hid hs0
  have HY0 := hid hy0
  obtain ⟨i1, hi1, hz1, hs1, hy1⟩ := info_parts info_int10
  have HI1 := hid hi1
  have HZ1 := hid hz1
  have HS1 := hid hs1
  have HY1 := hid hy1
  have HRd := hid (hi.rd.gr ((Gr.refl w).alloc (.cells #[] 60)))
  have HI := hid hi
  have HV := hid hv
  have hl := hi.len
  clear hi hv hi0 hz0 hs0 hy0 hi1 hz1 hs1 hy1
  go_enter Try.func14, Try.ntmps14
  go_wp2_with (first
    | ((with_reducible show wpList _ _ _ (⟨some 7, _, _, _, _, _⟩ :: _) _ _); refine wpList_append_rd _ rfl (.tmp 5) (.tmp 6) 22 rfl w.heap.size 60 i0 (.agg #[.int .i64 0, .slice none 0 0]) 2 32 Try.underlying22 HI0.out HZ0.out HS0.out HY0.out rfl (by decide) _ _ _ rfl (own_new w w.heap.size 60 2 rfl) A n c (zs.flatMap Sbj.cells) rfl HRd.out (flatE_one zs) (by have : maxLen = 9223372036854775807 := rfl; omega) (by omega) (by simp) ?_; intro B cap w9 hown hbel; rw [Nat.zero_add, List.nil_append] at hown; have HO := hid hown; have hb9 : Below w.heap.size w w9 := Below.trans ((Gr.refl w).alloc _) hbel; have HB := hid hb9; clear hown hbel hb9; simp only [Nat.zero_add]))
  rcases Nat.eq_zero_or_pos n with h0 | h0
  · subst h0
    have hz : zs = [] := List.length_eq_zero_iff.1 hl
    subst hz
    go_wp2_with fail
    go_loopg [4] 0 (fun gg s4 wr => s4 = .int .i64 0 ∧ wr = w9)
    case atStart => exact ⟨rfl, rfl⟩
    case round =>
      obtain ⟨rfl, rfl⟩ := hrel
      go_wp2
      go_ret
      unfold TwinRet
      exact ⟨B, cap, [], rfl, HB.out, ⟨Rd.nil_, by omega, fun s hs => absurd hs (by simp), fun s hs => absurd hs (by simp)⟩, rfl⟩
  · obtain ⟨g, hBg, hbg, HL0⟩ : ∃ g, B = some ⟨g, 0, none⟩ ∧ w.heap.size ≤ g ∧ Hid (Lies w9 g 60 (zs.flatMap Sbj.cells)) := lies_of_own HO.out h0
    subst hBg
    clear HO HRd
    have hn' : (n : Int) ≤ 1000 := by omega
    go_wp2_with fail
    go_loopg [4] n (fun gg s4 wr => ∃ (i : Nat) (es : List Sbj), i ≤ n ∧ n - i ≤ gg ∧ s4 = .int .i64 i ∧ Gr w wr ∧ Hid (es.length = i ∧ Lies wr g 60 ((es ++ zs.drop i).flatMap Sbj.cells) ∧ es.map Sbj.bare = (zs.take i).map Sbj.bare ∧ ∀ s ∈ es, KeptRd wr g 1 s.a s.n (s.vals.map (Value.int .i64))))
    case atStart => exact ⟨0, [], Nat.zero_le _, by omega, rfl, HB.out, rfl, by simpa using HL0.out, rfl, fun s hs => absurd hs (by simp)⟩
    case round =>
      obtain ⟨i, es, hin, hgi, rfl, BW, HE⟩ := hrel
      by_cases hil : i < n
      · have hik : i < zs.length := by omega
        have hin' : (i : Int) < (n : Int) := by omega
        have hi0 : (0 : Int) ≤ (i : Int) := by omega
        obtain ⟨he, hL, hB, hK⟩ := HE.out
        have HDr : Hid (zs.drop i = zs[i]! :: zs.drop (i + 1)) := by
          show _ = _
          rw [List.drop_eq_getElem_cons hik, getElem!_pos zs i hik]
        have HTk : Hid (zs.take (i + 1) = zs.take i ++ [zs[i]!]) := by
          show _ = _
          rw [List.take_succ_eq_append_getElem hik, ← getElem!_pos zs i hik]
        have HRi := hid (((HI.out.vals _ (mem_get hik)).1).gr BW)
        have hsn := HV.out _ (mem_get hik)
        rw [HDr.out] at hL
        generalize zs[i]! = s at hL HTk HRi hsn HDr
        obtain ⟨id, sa, sn, sc, vals⟩ := s
        dsimp only at *
        have hat := lies_at Sbj.len he hL
        have d0 : wr.cell? ⟨g, i * 2 + 1, none⟩ = some (.slice sa sn sc) := hat 1 _ rfl
        have hf : wr.frozen? ⟨g, i * 2 + 1, none⟩ = false := hL.frozen _
        have hgl := hL.lt
        have hzl : w.heap.size ≤ wr.heap.size := BW.size
        have HL2 := hid hL
        have HB2 := hid hB
        have HK2 := hid hK
        have HEl := hid he
        clear HE hL hB hK he hat
        go_wp2_with ((with_reducible show wpList _ _ _ (⟨some 22, _, _, _, _, _⟩ :: _) _ _); refine wpList_append_rd _ rfl (.tmp 16) (.tmp 21) 30 rfl wr.heap.size 3 i1 (.int .i64 0) 1 8 Try.underlying30 HI1.out HZ1.out HS1.out HY1.out rfl (by decide) _ _ _ rfl (own_new wr wr.heap.size 3 1 rfl) sa sn sc (vals.map (Value.int .i64)) rfl (HRi.out.gr ((Gr.refl wr).alloc _)) (by intro u hu; obtain ⟨x, _, rfl⟩ := List.mem_map.1 hu; rfl) (by have : maxLen = 9223372036854775807 := rfl; omega) (by omega) (by simp) ?_; intro A3 c3 w3 hown hbel; rw [Nat.zero_add, List.nil_append] at hown; have HG3 : Hid (Gr wr w3) := (Below.trans ((Gr.refl wr).alloc _) hbel : Gr wr w3); have K3 := hid hown; have d1 : w3.cell? ⟨g, i * 2 + 1, none⟩ = some (.slice sa sn sc) := row_cell d0 HG3.out; have f1 : w3.frozen? ⟨g, i * 2 + 1, none⟩ = false := (Gr.frozen HG3.out hgl).trans hf; clear hown hbel; simp only [Nat.zero_add])
        go_roundg (n - (i + 1))
        case measure => omega
        case rel =>
          have hk9 : ∀ k, g < k → k < wr.heap.size → (w3.setCell ⟨g, i * 2 + 1, none⟩ (.slice A3 sn c3)).heap[k]? = wr.heap[k]? := fun k h1 h2 => (Below.heap_setCell _ _ _ _ (by show k ≠ g; omega)).trans (HG3.out.heap h2)
          have hz9 : w3.heap.size ≤ (w3.setCell ⟨g, i * 2 + 1, none⟩ (.slice A3 sn c3)).heap.size := by simp [World.setCell]
          refine ⟨i + 1, es ++ [⟨id, A3, sn, c3, vals⟩], by omega, by omega, by go_num, (BW.trans HG3.out).setCell hbg _, by simp [HEl.out], ?_, ?_, ?_⟩
          · rw [← flat_set (f := Sbj.cells) Sbj.len (s := ⟨id, sa, sn, sc, vals⟩) (s' := ⟨id, A3, sn, c3, vals⟩) (v := .slice A3 sn c3) HEl.out (show 1 < 2 by decide) rfl]
            exact (HL2.out.keep (HG3.out.heap hgl)).set _ _
          · rw [List.map_append, HB2.out, HTk.out, List.map_append]
            rfl
          · intro t ht
            rcases List.mem_append.1 ht with ht | ht
            · exact (HK2.out t ht).keep hk9 (Nat.le_trans HG3.out.size hz9)
            · rw [List.mem_singleton] at ht
              subst ht
              exact (KeptRd.of_own K3.out hgl).keep (fun k h1 h2 => Below.heap_setCell _ _ _ _ (by show k ≠ g; omega)) hz9
      · have hin' : ¬ (i : Int) < (n : Int) := by omega
        obtain ⟨he, hL, hB, hK⟩ := HE.out
        have htk : zs.take i = zs := by rw [show i = zs.length by omega, List.take_length]
        have hdk : zs.drop i = [] := by rw [show i = zs.length by omega, List.drop_length]
        rw [hdk, List.append_nil] at hL
        rw [htk] at hB
        have hin2 : i = n := by omega
        have HF : Hid (SbjsIn wr (some ⟨g, 0, none⟩) n es) := ⟨lies_rd hL (by rw [flatMap_len Sbj.len, he, hin2]), by omega, fun s hs => ⟨(hK s hs).rd, like_n hB (fun s hs => (HI.out.vals s hs).2) s hs⟩, fun s hs => like_id hB HI.out.wf s hs⟩
        have HB2 := hid hB
        clear HE he hL hB hK htk hdk
        go_wp2
        go_ret
        unfold TwinRet
        exact ⟨_, cap, es, rfl, BW, HF.out, HB2.out⟩
end Go.Proofs.Ytimhkkijoelmhaa
namespace Go.Proofs.Ytimhkkijoelmhaa
open Go.RowKit

/-- What it hands back. -/
def TwinQRet (zs : List Qst) (n : Nat) (w : World) (e : Ending) (w' : World) : Prop := ∃ B cap es, e = .returned (.slice B n cap) ∧ (Gr w w' ∧ QstsIn w' B n es ∧ es.map Qst.bare = zs.map Qst.bare)

set_option maxRecDepth 100000 in
set_option maxHeartbeats 8000000 in
theorem twinQ10_any (A : Option Addr) (n c : Nat) (zs : List Qst) (w : World) (hi : QstsIn w A n zs) (hn : n ≤ 1000) (hv : ∀ s ∈ zs, s.n ≤ 1000) :
    Calls Try.prog 15 #[.slice A n c] w (TwinQRet zs n w) := by
  obtain ⟨i0, hi0, hz0, hs0, hy0⟩ := info_parts info_qst10
  have HI0 := hid hi0
  have HZ0 := hid hz0
  have HS0 := hid hs0
  have HY0 := hid hy0
  obtain ⟨i1, hi1, hz1, hs1, hy1⟩ := info_parts info_whr10
  have HI1 := hid hi1
  have HZ1 := hid hz1
  have HS1 := hid hs1
  have HY1 := hid hy1
  have HRd := hid (hi.rd.gr ((Gr.refl w).alloc (.cells #[] 25)))
  have HI := hid hi
  have HV := hid hv
  have hl := hi.len
  clear hi hv hi0 hz0 hs0 hy0 hi1 hz1 hs1 hy1
  go_enter Try.func15, Try.ntmps15
  go_wp2_with (first
    | ((with_reducible show wpList _ _ _ (⟨some 7, _, _, _, _, _⟩ :: _) _ _); refine wpList_append_rd _ rfl (.tmp 5) (.tmp 6) 27 rfl w.heap.size 25 i0 (.agg #[.slice none 0 0, .int .i64 0, .int .i64 0, .int .i64 0]) 4 48 Try.underlying27 HI0.out HZ0.out HS0.out HY0.out rfl (by decide) _ _ _ rfl (own_new w w.heap.size 25 4 rfl) A n c (zs.flatMap Qst.cells) rfl HRd.out (flatQ_one zs) (by have : maxLen = 9223372036854775807 := rfl; omega) (by omega) (by simp) ?_; intro B cap w9 hown hbel; rw [Nat.zero_add, List.nil_append] at hown; have HO := hid hown; have hb9 : Below w.heap.size w w9 := Below.trans ((Gr.refl w).alloc _) hbel; have HB := hid hb9; clear hown hbel hb9; simp only [Nat.zero_add]))
  rcases Nat.eq_zero_or_pos n with h0 | h0
  · subst h0
    have hz : zs = [] := List.length_eq_zero_iff.1 hl
    subst hz
    go_wp2_with fail
    go_loopg [4] 0 (fun gg s4 wr => s4 = .int .i64 0 ∧ wr = w9)
    case atStart => exact ⟨rfl, rfl⟩
    case round =>
      obtain ⟨rfl, rfl⟩ := hrel
      go_wp2
      go_ret
      unfold TwinQRet
      exact ⟨B, cap, [], rfl, HB.out, ⟨Rd.nil_, by omega, fun s hs => absurd hs (by simp)⟩, rfl⟩
  · obtain ⟨g, hBg, hbg, HL0⟩ : ∃ g, B = some ⟨g, 0, none⟩ ∧ w.heap.size ≤ g ∧ Hid (Lies w9 g 25 (zs.flatMap Qst.cells)) := lies_of_own HO.out h0
    subst hBg
    clear HO HRd
    have hn' : (n : Int) ≤ 1000 := by omega
    go_wp2_with fail
    go_loopg [4] n (fun gg s4 wr => ∃ (i : Nat) (es : List Qst), i ≤ n ∧ n - i ≤ gg ∧ s4 = .int .i64 i ∧ Gr w wr ∧ Hid (es.length = i ∧ Lies wr g 25 ((es ++ zs.drop i).flatMap Qst.cells) ∧ es.map Qst.bare = (zs.take i).map Qst.bare ∧ ∀ s ∈ es, KeptRd wr g 3 s.a s.n (s.whs.flatMap Whr.cells)))
    case atStart => exact ⟨0, [], Nat.zero_le _, by omega, rfl, HB.out, rfl, by simpa using HL0.out, rfl, fun s hs => absurd hs (by simp)⟩
    case round =>
      obtain ⟨i, es, hin, hgi, rfl, BW, HE⟩ := hrel
      by_cases hil : i < n
      · have hik : i < zs.length := by omega
        have hin' : (i : Int) < (n : Int) := by omega
        have hi0 : (0 : Int) ≤ (i : Int) := by omega
        obtain ⟨he, hL, hB, hK⟩ := HE.out
        have HDr : Hid (zs.drop i = zs[i]! :: zs.drop (i + 1)) := by
          show _ = _
          rw [List.drop_eq_getElem_cons hik, getElem!_pos zs i hik]
        have HTk : Hid (zs.take (i + 1) = zs.take i ++ [zs[i]!]) := by
          show _ = _
          rw [List.take_succ_eq_append_getElem hik, ← getElem!_pos zs i hik]
        have HRi := hid (((HI.out.whs _ (mem_get hik)).rd).gr BW)
        have hsn := HV.out _ (mem_get hik)
        rw [HDr.out] at hL
        generalize zs[i]! = s at hL HTk HRi hsn HDr
        obtain ⟨sa, sn, sc, whs, col, clip, step⟩ := s
        dsimp only at *
        have hat := lies_at Qst.len he hL
        have d0 : wr.cell? ⟨g, i * 4, none⟩ = some (.slice sa sn sc) := hat 0 _ rfl
        have hf : wr.frozen? ⟨g, i * 4, none⟩ = false := hL.frozen _
        have hgl := hL.lt
        have hzl : w.heap.size ≤ wr.heap.size := BW.size
        have HL2 := hid hL
        have HB2 := hid hB
        have HK2 := hid hK
        have HEl := hid he
        clear HE hL hB hK he hat
        go_wp2_with ((with_reducible show wpList _ _ _ (⟨some 22, _, _, _, _, _⟩ :: _) _ _); refine wpList_append_rd _ rfl (.tmp 16) (.tmp 21) 23 rfl wr.heap.size 72 i1 (.agg #[.int .i64 0, .int .i64 0, .int .i64 0]) 3 24 Try.underlying23 HI1.out HZ1.out HS1.out HY1.out rfl (by decide) _ _ _ rfl (own_new wr wr.heap.size 72 3 rfl) sa sn sc (whs.flatMap Whr.cells) rfl (HRi.out.gr ((Gr.refl wr).alloc _)) (flatW_one whs) (by have : maxLen = 9223372036854775807 := rfl; omega) (by omega) (by simp) ?_; intro A3 c3 w3 hown hbel; rw [Nat.zero_add, List.nil_append] at hown; have HG3 : Hid (Gr wr w3) := (Below.trans ((Gr.refl wr).alloc _) hbel : Gr wr w3); have K3 := hid hown; have d1 : w3.cell? ⟨g, i * 4, none⟩ = some (.slice sa sn sc) := row_cell d0 HG3.out; have f1 : w3.frozen? ⟨g, i * 4, none⟩ = false := (Gr.frozen HG3.out hgl).trans hf; clear hown hbel; simp only [Nat.zero_add])
        go_roundg (n - (i + 1))
        case measure => omega
        case rel =>
          have hk9 : ∀ k, g < k → k < wr.heap.size → (w3.setCell ⟨g, i * 4, none⟩ (.slice A3 sn c3)).heap[k]? = wr.heap[k]? := fun k h1 h2 => (Below.heap_setCell _ _ _ _ (by show k ≠ g; omega)).trans (HG3.out.heap h2)
          have hz9 : w3.heap.size ≤ (w3.setCell ⟨g, i * 4, none⟩ (.slice A3 sn c3)).heap.size := by simp [World.setCell]
          refine ⟨i + 1, es ++ [⟨A3, sn, c3, whs, col, clip, step⟩], by omega, by omega, by go_num, (BW.trans HG3.out).setCell hbg _, by simp [HEl.out], ?_, ?_, ?_⟩
          · rw [← flat_set (f := Qst.cells) Qst.len (s := ⟨sa, sn, sc, whs, col, clip, step⟩) (s' := ⟨A3, sn, c3, whs, col, clip, step⟩) (v := .slice A3 sn c3) HEl.out (show 0 < 4 by decide) rfl]
            exact (HL2.out.keep (HG3.out.heap hgl)).set _ _
          · rw [List.map_append, HB2.out, HTk.out, List.map_append]
            rfl
          · intro t ht
            rcases List.mem_append.1 ht with ht | ht
            · exact (HK2.out t ht).keep hk9 (Nat.le_trans HG3.out.size hz9)
            · rw [List.mem_singleton] at ht
              subst ht
              exact (KeptRd.of_own K3.out hgl).keep (fun k h1 h2 => Below.heap_setCell _ _ _ _ (by show k ≠ g; omega)) hz9
      · have hin' : ¬ (i : Int) < (n : Int) := by omega
        obtain ⟨he, hL, hB, hK⟩ := HE.out
        have htk : zs.take i = zs := by rw [show i = zs.length by omega, List.take_length]
        have hdk : zs.drop i = [] := by rw [show i = zs.length by omega, List.drop_length]
        rw [hdk, List.append_nil] at hL
        rw [htk] at hB
        have hin2 : i = n := by omega
        have HF : Hid (QstsIn wr (some ⟨g, 0, none⟩) n es) := ⟨lies_rd hL (by rw [flatMap_len Qst.len, he, hin2]), by omega, fun s hs => ⟨(hK s hs).rd, qlike_n hB (fun s hs => (HI.out.whs s hs).big) s hs⟩⟩
        have HB2 := hid hB
        clear HE he hL hB hK htk hdk
        go_wp2
        go_ret
        unfold TwinQRet
        exact ⟨_, cap, es, rfl, BW, HF.out, HB2.out⟩
end Go.Proofs.Ytimhkkijoelmhaa
