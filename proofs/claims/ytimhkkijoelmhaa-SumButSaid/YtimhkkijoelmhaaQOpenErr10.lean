/- open of the package sum: where it hands back an error. For every table and audit. Audit and checked of the reference. open of the package sum: the region that lays the open audit. In the midst of a round of open's loop. In the midst of the range over the lines of an open audit. -/
import Derived.ScopeJumps
import Derived.WalkMore
import Derived.Test.YtimhkkijoelmhaaQWithin10
import Derived.Test.YtimhkkijoelmhaaQOrd10
import Derived.Test.YtimhkkijoelmhaaQRound10
import Derived.Test.YtimhkkijoelmhaaQAudit10
import Derived.Test.YtimhkkijoelmhaaQOpenKit10
namespace Go.Proofs.Ytimhkkijoelmhaa
open Go.RowKit Go.Maps

/-- Where a subject stands. -/
def idxF (es : List Sbj) (id : Int) : Option Value := (es.findIdx? (fun s => s.id == id)).map fun i => .int .i64 (i : Int)
/-- An open audit as it lies. -/
def BookIn (w : World) (bk n m : Nat) (es : List Sbj) (rows : List Rw) : Prop :=
  ∃ QA qc A c ma ml, BkIn w bk QA m qc A n c ma ml ∧ SbjsIn w A n es ∧ MapIs Try.prog 3 (Value.int .i64) w ma (idxF es) ∧ LinesIn w ml n m rows
theorem BookIn.gr {w w' : World} {bk n m : Nat} {es : List Sbj} {rows : List Rw} (h : BookIn w bk n m es rows) (g : Gr w w') : BookIn w' bk n m es rows := by
  obtain ⟨QA, qc, A, c, ma, ml, h1, h2, h3, h4⟩ := h
  exact ⟨QA, qc, A, c, ma, ml, h1.gr g, h2.gr g, h3.gr g, h4.gr g⟩
/-- What open hands back. -/
def OpenRet (columns : Int) (zs : List Sbj) (qs : List Qst) (w : World) (e : Ending) (w' : World) : Prop :=
  if auditN columns zs qs = 0 then ∃ bk, e = .returned (.tuple #[.pointer (some ⟨bk, 0, none⟩), .int .i64 0]) ∧ (Gr w w' ∧ BookIn w' bk zs.length qs.length (ordI zs) (solveR zs.length qs.length (asksF (ordI zs) qs) qs.length))
  else e = .returned (.tuple #[.pointer none, .int .i64 (auditN columns zs qs)]) ∧ Gr w w'

set_option maxRecDepth 100000 in
set_option maxHeartbeats 8000000 in
theorem open_err (columns : Int) (A : Option Addr) (n c : Nat) (zs : List Sbj) (QA : Option Addr) (qn qc : Nat) (qs : List Qst) (w : World) (hi : SbjsIn w A n zs) (hq : QstsIn w QA qn qs) (hE : auditN columns zs qs ≠ 0) :
    Calls Try.prog 51 #[.int .i64 columns, .slice A n c, .slice QA qn qc] w fun e w' => e = .returned (.tuple #[.pointer none, .int .i64 (auditN columns zs qs)]) ∧ Gr w w' := by
  have HC := hid (fun W (k : Gr w W) => check10_any columns A n c zs W (hi.gr k))
  have hl := hq.len
  unfold auditN at hE ⊢
  unfold tableN at HC
  by_cases ht : tableB columns zs = true
  · rw [if_pos ht] at hE ⊢ HC
    have hc := table_cols ht
    by_cases ha : auditB columns qs = true
    · rw [if_pos ha] at hE; exact absurd rfl hE
    · rw [if_neg ha] at hE ⊢
      clear hE ht
      by_cases h8 : qs.length ≤ 8
      · have hall : (qs.all fun q => qstB columns q && kindB q qs[0]!) = false := by
          unfold auditB at ha
          rw [decide_eq_true h8] at ha
          simpa using ha
        have HO := hid (fun c1 c2 c3 W (k : Gr w W) h1 h2 h3 => others_any columns c1 c2 c3 QA qn qc qs W (hq.gr k) hc h1 h2 h3)
        rw [hall] at HO
        have h8z : ¬ (8 : Int) < (qn : Int) := by omega
        clear hq hi ha hall
        simp only [Bool.not_false] at HO
        go_enter Try.func51, Try.ntmps51
        go_wp2_with fail
        go_step3
        go_wp2_with (first
          | (go_at_call 20; (with_reducible refine (HC.out _ ?_).mono ?_); rotate_right; rintro e w1 ⟨rfl, hbw1⟩; obtain ⟨hcw1, hfw1, hzw1⟩ := hbw1.rules; (try simp at hzw1); have hzw1_0 : w.heap.size < w1.heap.size := (by omega); have hyw1_0 : w.heap.size ≤ w1.heap.size := (by omega); have hzw1_1 : w.heap.size + 1 < w1.heap.size := (by omega); have hyw1_1 : w.heap.size + 1 ≤ w1.heap.size := (by omega))
          | (go_at_call 79; (with_reducible refine (HO.out _ _ _ _ ?_ ?_ ?_ ?_).mono ?_); rotate_right; rintro e w2 ⟨rfl, hbw2⟩; obtain ⟨hcw2, hfw2, hzw2⟩ := hbw2.rules; (try simp at hzw2)))
        rotate_left
        · (repeat (first | with_reducible exact Gr.refl _ | with_reducible refine Gr.trans ?_ hbw1 | with_reducible refine Gr.alloc ?_ _ | with_reducible refine Gr.setCell ?_ (by simp) _ | with_reducible refine Gr.setCell ?_ (by simp; omega) _ | with_reducible refine Gr.drew ?_ | with_reducible refine Gr.drewN ?_ _))
        · exact row_cell_at (v := .int .i64 columns) (row_gr (row_gr (rows2 w (.cells #[.int .i64 columns] 3) (.cells #[.slice QA qn qc] 27)).1 hbw1) ((Gr.refl w1).alloc _)) 0 rfl
        · exact row_cell_at (heap_alloc_new w1 (.cells #[.func (.func 77) #[] #[]] 128)) 0 rfl
        · exact row_cell_at (v := .slice QA qn qc) (row_gr (row_gr (rows2 w (.cells #[.int .i64 columns] 3) (.cells #[.slice QA qn qc] 27)).2 hbw1) ((Gr.refl w1).alloc _)) 0 rfl
        · (repeat (first | with_reducible exact Gr.refl _ | with_reducible refine Gr.alloc ?_ _ | with_reducible refine Gr.setCell ?_ (by simp) _ | with_reducible refine Gr.setCell ?_ (by simp; omega) _ | with_reducible refine Gr.drew ?_ | with_reducible refine Gr.drewN ?_ _))
        (try rw [Exit.noGoto_ret])
        go_ret2
        exact ⟨rfl, by (repeat (first | with_reducible exact Gr.refl _ | with_reducible refine Gr.trans ?_ hbw2 | with_reducible refine Gr.trans ?_ hbw1 | with_reducible refine Gr.alloc ?_ _ | with_reducible refine Gr.setCell ?_ (by simp) _ | with_reducible refine Gr.setCell ?_ (by simp; omega) _ | with_reducible refine Gr.drew ?_ | with_reducible refine Gr.drewN ?_ _))⟩
      · have h8z : (8 : Int) < (qn : Int) := by omega
        clear hq hi ha
        go_enter Try.func51, Try.ntmps51
        go_wp2_with fail
        go_step3
        go_wp2_with (first
          | (go_at_call 20; (with_reducible refine (HC.out _ ?_).mono ?_); rotate_right; rintro e w1 ⟨rfl, hbw1⟩; obtain ⟨hcw1, hfw1, hzw1⟩ := hbw1.rules; (try simp at hzw1); have hzw1_0 : w.heap.size < w1.heap.size := (by omega); have hyw1_0 : w.heap.size ≤ w1.heap.size := (by omega); have hzw1_1 : w.heap.size + 1 < w1.heap.size := (by omega); have hyw1_1 : w.heap.size + 1 ≤ w1.heap.size := (by omega)))
        all_goals try ((repeat (first | with_reducible exact Gr.refl _ | with_reducible refine Gr.alloc ?_ _ | with_reducible refine Gr.setCell ?_ (by simp) _ | with_reducible refine Gr.setCell ?_ (by simp; omega) _ | with_reducible refine Gr.drew ?_ | with_reducible refine Gr.drewN ?_ _)); done)
        (try rw [Exit.noGoto_ret])
        go_ret2
        exact ⟨rfl, by (repeat (first | with_reducible exact Gr.refl _ | with_reducible refine Gr.trans ?_ hbw1 | with_reducible refine Gr.alloc ?_ _ | with_reducible refine Gr.setCell ?_ (by simp) _ | with_reducible refine Gr.setCell ?_ (by simp; omega) _ | with_reducible refine Gr.drew ?_ | with_reducible refine Gr.drewN ?_ _))⟩
  · rw [if_neg ht] at hE ⊢ HC
    clear hq hi ht hE
    go_enter Try.func51, Try.ntmps51
    go_wp2_with fail
    go_step3
    go_wp2_with (first
      | (go_at_call 20; (with_reducible refine (HC.out _ ?_).mono ?_); rotate_right; rintro e w1 ⟨rfl, hbw1⟩; obtain ⟨hcw1, hfw1, hzw1⟩ := hbw1.rules; (try simp at hzw1); have hzw1_0 : w.heap.size < w1.heap.size := (by omega); have hyw1_0 : w.heap.size ≤ w1.heap.size := (by omega); have hzw1_1 : w.heap.size + 1 < w1.heap.size := (by omega); have hyw1_1 : w.heap.size + 1 ≤ w1.heap.size := (by omega)))
    all_goals try ((repeat (first | with_reducible exact Gr.refl _ | with_reducible refine Gr.alloc ?_ _ | with_reducible refine Gr.setCell ?_ (by simp) _ | with_reducible refine Gr.setCell ?_ (by simp; omega) _ | with_reducible refine Gr.drew ?_ | with_reducible refine Gr.drewN ?_ _)); done)
    (try rw [Exit.noGoto_ret])
    go_ret2
    exact ⟨rfl, by (repeat (first | with_reducible exact Gr.refl _ | with_reducible refine Gr.trans ?_ hbw1 | with_reducible refine Gr.alloc ?_ _ | with_reducible refine Gr.setCell ?_ (by simp) _ | with_reducible refine Gr.setCell ?_ (by simp; omega) _ | with_reducible refine Gr.drew ?_ | with_reducible refine Gr.drewN ?_ _))⟩
end Go.Proofs.Ytimhkkijoelmhaa
namespace Go.Proofs.Ytimhkkijoelmhaa
open Go.RowKit

theorem auditB_all (columns : Int) (qs : List Qst) (h8 : qs.length ≤ 8) : auditB columns qs = qs.all fun q => qstB columns q && kindB q qs[0]! := by
  unfold auditB
  simp [h8]
theorem audit_no {columns : Int} {qs : List Qst} {k : Nat} (hk : k < qs.length) (h : (qstB columns qs[k]! && kindB qs[k]! qs[0]!) = false) : auditB columns qs = false := by
  rw [Bool.eq_false_iff]
  intro hh
  unfold auditB at hh
  simp only [Bool.and_eq_true, List.all_eq_true] at hh
  have := hh.2 qs[k]! (by rw [getElem!_pos qs k hk]; exact List.getElem_mem hk)
  rw [this.1, this.2] at h
  cases h

set_option maxRecDepth 100000 in
set_option maxHeartbeats 8000000 in
theorem refaudit_any (columns : Int) (A : Option Addr) (n c : Nat) (qs : List Qst) (w : World) (h : QstsIn w A n qs) (hc : 1 ≤ columns ∧ columns ≤ 5) :
    Calls Try.prog 67 #[.int .i64 columns, .slice A n c] w fun e w' => e = .returned (.bool (auditB columns qs)) ∧ Gr w w' := by
  have HR := hid h
  have hl := h.len
  have hbig : (n : Int) ≤ 9223372036854775807 := by have := h.big; omega
  clear h
  by_cases h8 : n ≤ 8
  case neg =>
    have h8' : (8 : Int) < (n : Int) := by omega
    have HF : Hid (auditB columns qs = false) := by
      show _ = _
      unfold auditB
      rw [hl]
      simp [h8]
    go_enter Try.func67, Try.ntmps67
    go_wp2
    go_ret
    exact ⟨by rw [HF.out]; rfl, Gr.refl w⟩
  have h8' : ¬ (8 : Int) < (n : Int) := by omega
  go_enter Try.func67, Try.ntmps67
  go_wp2_with fail
  go_loopg [5] n (fun gg s5 wr => ∃ k : Nat, k ≤ n ∧ n - k ≤ gg ∧ s5 = .int .i64 k ∧ Gr w wr ∧ ∀ j, j < k → (qstB columns qs[j]! && kindB qs[j]! qs[0]!) = true)
  case atStart => exact ⟨0, Nat.zero_le _, by omega, rfl, Gr.refl w, fun j hj => absurd hj (by omega)⟩
  case round =>
    obtain ⟨k, hk, hgk, rfl, BW, hno⟩ := hrel
    by_cases hkl : k < n
    · have hkn : (k : Int) < (n : Int) := by omega
      have hk0 : (0 : Int) ≤ (k : Int) := by omega
      have hn0 : (0 : Int) < (n : Int) := by omega
      have HQ := HR.out.gr BW
      obtain ⟨hk', b, off, hAe, hbl, c0, c1, c2, c3⟩ := HQ.rd.qst hkl
      obtain ⟨_, b', off', hAe', _, _, d1, d2, _⟩ := HQ.rd.qst (show 0 < n by omega)
      rw [hAe] at hAe'
      cases hAe'
      subst hAe
      have hqm : qs[k]! ∈ qs := by rw [getElem!_pos qs k hk']; exact List.getElem_mem hk'
      have HQst := hid (fun W (g : Gr wr W) => refQuestion_any columns qs[k]! W ((HQ.whs _ hqm).gr g) hc)
      have hnoX := audit_no (columns := columns) hk'
      have hno2 : (qstB columns qs[k]! && (qs[k]!.col == qs[0]!.col && qs[k]!.clip == qs[0]!.clip)) = true → ∀ j, j < k + 1 → (qstB columns qs[j]! && kindB qs[j]! qs[0]!) = true := by
        intro h j hj
        rcases Nat.lt_or_eq_of_le (Nat.le_of_lt_succ hj) with h1 | rfl
        · exact hno j h1
        · exact h
      have HN2 := hid hno2
      have HNX := hid hnoX
      clear hno hno2 hnoX HQ hqm
      unfold kindB at HNX
      generalize qstB columns qs[k]! = r at *
      generalize qs[0]!.col = y1 at *
      generalize qs[0]!.clip = y2 at *
      generalize qs[k]! = q at *
      obtain ⟨qa, qn, qc, whs, col, clip, step⟩ := q
      unfold Qst.val at HQst
      dsimp only at *
      simp only [Nat.zero_mul, Nat.add_zero] at d1 d2
      have BWr := hid BW
      have p0 : ∀ p : GrW wr, p.W.cell? ⟨b, off + k * 4, none⟩ = some (.slice qa qn qc) := GrW.cell c0
      have p1 : ∀ p : GrW wr, p.W.cell? ⟨b, off + k * 4 + 1, none⟩ = some (.int .i64 col) := GrW.cell c1
      have p2 : ∀ p : GrW wr, p.W.cell? ⟨b, off + k * 4 + 2, none⟩ = some (.int .i64 clip) := GrW.cell c2
      have p3 : ∀ p : GrW wr, p.W.cell? ⟨b, off + k * 4 + 3, none⟩ = some (.int .i64 step) := GrW.cell c3
      have r1 : ∀ p : GrW wr, p.W.cell? ⟨b, off + 1, none⟩ = some (.int .i64 y1) := GrW.cell d1
      have r2 : ∀ p : GrW wr, p.W.cell? ⟨b, off + 2, none⟩ = some (.int .i64 y2) := GrW.cell d2
      clear c0 c1 c2 c3 d1 d2
      go_upto_region 6 with fail
      cases r with
      | false =>
        have HF := hid (HNX.out rfl)
        refine wp_region_ord (C := fun w' => ∃ p : GrW wr, w' = p.W) [(0, false), (1, false), (2, false), (3, false), (4, false), (5, true), (6, false), (7, false), (8, false), (9, false), (10, false), (11, false), (12, false), (13, false), (14, false), (15, false), (16, false), (17, false), (18, false), (19, false), (20, false), (21, false), (22, false), (23, false), (24, false), (25, false), (26, false), (27, false), (28, false), (29, false), (30, false)] (by rfl) (by kernel_rfl) (by kernel_rfl) ⟨⟨wr.drew, (Gr.refl wr).drew⟩, rfl⟩ ?_
        (repeat (first | ((refine ord_read0 rfl rfl rfl (fun K hK => ?_)); go_big_quiet_op; (with_reducible refine hK _ ?_); clear hK K) | ((refine ord_skipG rfl rfl rfl rfl rfl ?_); simp only [Act.put, List.setIfInBounds_toArray, List.set_cons_zero, List.set_cons_succ]) | ((refine ord_readG rfl rfl rfl rfl rfl rfl (fun K hK => ?_)); go_big_quiet_op; (with_reducible refine hK _ ?_); clear hK K) | ((refine ord_nilc rfl rfl rfl rfl ?_); simp only [Act.put, List.setIfInBounds_toArray, List.set_cons_zero, List.set_cons_succ])))
        (first | (refine ord_mem0 rfl rfl (fun K hK => ?_)) | (refine ord_memG rfl rfl rfl rfl rfl (fun K hK => ?_)))
        go_simp
        refine (HQst.out _ (Gr.refl wr).drew).mono ?_
        rintro e w1 ⟨rfl, hb1⟩
        have G1 := hid (show Gr wr w1 from (Gr.refl wr).drew.trans hb1)
        refine hK.out _ _ ⟨⟨w1, G1.out⟩, rfl⟩ ?_
        clear hK K hb1
        (repeat (first | ((refine ord_read0 rfl rfl rfl (fun K hK => ?_)); go_big_quiet_op; (with_reducible refine hK _ ?_); clear hK K) | ((refine ord_skipG rfl rfl rfl rfl rfl ?_); simp only [Act.put, List.setIfInBounds_toArray, List.set_cons_zero, List.set_cons_succ]) | ((refine ord_readG rfl rfl rfl rfl rfl rfl (fun K hK => ?_)); go_big_quiet_op; (with_reducible refine hK _ ?_); clear hK K) | ((refine ord_nilc rfl rfl rfl rfl ?_); simp only [Act.put, List.setIfInBounds_toArray, List.set_cons_zero, List.set_cons_succ])))
        (with_reducible refine ord_nil ?_)
        go_wp2
        go_ret
        exact ⟨by rw [HF.out]; rfl, BWr.out.trans G1.out⟩
      | true =>
        by_cases h1 : col = y1
        · subst h1
          by_cases h2 : clip = y2
          · subst h2
            have HF := hid (HN2.out (by simp))
            refine wp_region_ord (C := fun w' => ∃ p : GrW wr, w' = p.W) [(0, false), (1, false), (2, false), (3, false), (4, false), (5, true), (6, false), (7, false), (8, false), (9, false), (10, false), (11, false), (12, false), (13, false), (14, false), (15, false), (16, false), (17, false), (18, false), (19, false), (20, false), (21, false), (22, false), (23, false), (24, false), (25, false), (26, false), (27, false), (28, false), (29, false), (30, false)] (by rfl) (by kernel_rfl) (by kernel_rfl) ⟨⟨wr.drew, (Gr.refl wr).drew⟩, rfl⟩ ?_
            (repeat (first | ((refine ord_read0 rfl rfl rfl (fun K hK => ?_)); go_big_quiet_op; (with_reducible refine hK _ ?_); clear hK K) | ((refine ord_skipG rfl rfl rfl rfl rfl ?_); simp only [Act.put, List.setIfInBounds_toArray, List.set_cons_zero, List.set_cons_succ]) | ((refine ord_readG rfl rfl rfl rfl rfl rfl (fun K hK => ?_)); go_big_quiet_op; (with_reducible refine hK _ ?_); clear hK K) | ((refine ord_nilc rfl rfl rfl rfl ?_); simp only [Act.put, List.setIfInBounds_toArray, List.set_cons_zero, List.set_cons_succ])))
            (first | (refine ord_mem0 rfl rfl (fun K hK => ?_)) | (refine ord_memG rfl rfl rfl rfl rfl (fun K hK => ?_)))
            go_simp
            refine (HQst.out _ (Gr.refl wr).drew).mono ?_
            rintro e w1 ⟨rfl, hb1⟩
            have G1 := hid (show Gr wr w1 from (Gr.refl wr).drew.trans hb1)
            refine hK.out _ _ ⟨⟨w1, G1.out⟩, rfl⟩ ?_
            clear hK K hb1
            (repeat (first | ((refine ord_read0 rfl rfl rfl (fun K hK => ?_)); go_big_quiet_op; (with_reducible refine hK _ ?_); clear hK K) | ((refine ord_skipG rfl rfl rfl rfl rfl ?_); simp only [Act.put, List.setIfInBounds_toArray, List.set_cons_zero, List.set_cons_succ]) | ((refine ord_readG rfl rfl rfl rfl rfl rfl (fun K hK => ?_)); go_big_quiet_op; (with_reducible refine hK _ ?_); clear hK K) | ((refine ord_nilc rfl rfl rfl rfl ?_); simp only [Act.put, List.setIfInBounds_toArray, List.set_cons_zero, List.set_cons_succ])))
            (with_reducible refine ord_nil ?_)
            go_wp2_with fail
            go_roundg (n - (k + 1))
            case measure => omega
            case rel => exact ⟨k + 1, by omega, by omega, by go_num, BWr.out.trans G1.out, HF.out⟩
          · have hq2 : (clip != y2) = true := by simpa using h2
            have HF := hid (HNX.out (by simp [h2]))
            refine wp_region_ord (C := fun w' => ∃ p : GrW wr, w' = p.W) [(0, false), (1, false), (2, false), (3, false), (4, false), (5, true), (6, false), (7, false), (8, false), (9, false), (10, false), (11, false), (12, false), (13, false), (14, false), (15, false), (16, false), (17, false), (18, false), (19, false), (20, false), (21, false), (22, false), (23, false), (24, false), (25, false), (26, false), (27, false), (28, false), (29, false), (30, false)] (by rfl) (by kernel_rfl) (by kernel_rfl) ⟨⟨wr.drew, (Gr.refl wr).drew⟩, rfl⟩ ?_
            (repeat (first | ((refine ord_read0 rfl rfl rfl (fun K hK => ?_)); go_big_quiet_op; (with_reducible refine hK _ ?_); clear hK K) | ((refine ord_skipG rfl rfl rfl rfl rfl ?_); simp only [Act.put, List.setIfInBounds_toArray, List.set_cons_zero, List.set_cons_succ]) | ((refine ord_readG rfl rfl rfl rfl rfl rfl (fun K hK => ?_)); go_big_quiet_op; (with_reducible refine hK _ ?_); clear hK K) | ((refine ord_nilc rfl rfl rfl rfl ?_); simp only [Act.put, List.setIfInBounds_toArray, List.set_cons_zero, List.set_cons_succ])))
            (first | (refine ord_mem0 rfl rfl (fun K hK => ?_)) | (refine ord_memG rfl rfl rfl rfl rfl (fun K hK => ?_)))
            go_simp
            refine (HQst.out _ (Gr.refl wr).drew).mono ?_
            rintro e w1 ⟨rfl, hb1⟩
            have G1 := hid (show Gr wr w1 from (Gr.refl wr).drew.trans hb1)
            refine hK.out _ _ ⟨⟨w1, G1.out⟩, rfl⟩ ?_
            clear hK K hb1
            (repeat (first | ((refine ord_read0 rfl rfl rfl (fun K hK => ?_)); go_big_quiet_op; (with_reducible refine hK _ ?_); clear hK K) | ((refine ord_skipG rfl rfl rfl rfl rfl ?_); simp only [Act.put, List.setIfInBounds_toArray, List.set_cons_zero, List.set_cons_succ]) | ((refine ord_readG rfl rfl rfl rfl rfl rfl (fun K hK => ?_)); go_big_quiet_op; (with_reducible refine hK _ ?_); clear hK K) | ((refine ord_nilc rfl rfl rfl rfl ?_); simp only [Act.put, List.setIfInBounds_toArray, List.set_cons_zero, List.set_cons_succ])))
            (with_reducible refine ord_nil ?_)
            go_wp2
            go_ret
            exact ⟨by rw [HF.out]; rfl, BWr.out.trans G1.out⟩
        · have hq1 : (col != y1) = true := by simpa using h1
          have HF := hid (HNX.out (by simp [h1]))
          refine wp_region_ord (C := fun w' => ∃ p : GrW wr, w' = p.W) [(0, false), (1, false), (2, false), (3, false), (4, false), (5, true), (6, false), (7, false), (8, false), (9, false), (10, false), (11, false), (12, false), (13, false), (14, false), (15, false), (16, false), (17, false), (18, false), (19, false), (20, false), (21, false), (22, false), (23, false), (24, false), (25, false), (26, false), (27, false), (28, false), (29, false), (30, false)] (by rfl) (by kernel_rfl) (by kernel_rfl) ⟨⟨wr.drew, (Gr.refl wr).drew⟩, rfl⟩ ?_
          (repeat (first | ((refine ord_read0 rfl rfl rfl (fun K hK => ?_)); go_big_quiet_op; (with_reducible refine hK _ ?_); clear hK K) | ((refine ord_skipG rfl rfl rfl rfl rfl ?_); simp only [Act.put, List.setIfInBounds_toArray, List.set_cons_zero, List.set_cons_succ]) | ((refine ord_readG rfl rfl rfl rfl rfl rfl (fun K hK => ?_)); go_big_quiet_op; (with_reducible refine hK _ ?_); clear hK K) | ((refine ord_nilc rfl rfl rfl rfl ?_); simp only [Act.put, List.setIfInBounds_toArray, List.set_cons_zero, List.set_cons_succ])))
          (first | (refine ord_mem0 rfl rfl (fun K hK => ?_)) | (refine ord_memG rfl rfl rfl rfl rfl (fun K hK => ?_)))
          go_simp
          refine (HQst.out _ (Gr.refl wr).drew).mono ?_
          rintro e w1 ⟨rfl, hb1⟩
          have G1 := hid (show Gr wr w1 from (Gr.refl wr).drew.trans hb1)
          refine hK.out _ _ ⟨⟨w1, G1.out⟩, rfl⟩ ?_
          clear hK K hb1
          (repeat (first | ((refine ord_read0 rfl rfl rfl (fun K hK => ?_)); go_big_quiet_op; (with_reducible refine hK _ ?_); clear hK K) | ((refine ord_skipG rfl rfl rfl rfl rfl ?_); simp only [Act.put, List.setIfInBounds_toArray, List.set_cons_zero, List.set_cons_succ]) | ((refine ord_readG rfl rfl rfl rfl rfl rfl (fun K hK => ?_)); go_big_quiet_op; (with_reducible refine hK _ ?_); clear hK K) | ((refine ord_nilc rfl rfl rfl rfl ?_); simp only [Act.put, List.setIfInBounds_toArray, List.set_cons_zero, List.set_cons_succ])))
          (with_reducible refine ord_nil ?_)
          go_wp2
          go_ret
          exact ⟨by rw [HF.out]; rfl, BWr.out.trans G1.out⟩
    · have hkn : ¬ (k : Int) < (n : Int) := by omega
      have HF : Hid (auditB columns qs = true) := by
        show _ = _
        rw [auditB_all columns qs (by omega), List.all_eq_true]
        intro q hq
        obtain ⟨j, hj, rfl⟩ := List.getElem_of_mem hq
        have := hno j (by omega)
        rwa [getElem!_pos qs j hj] at this
      clear hno
      go_wp2
      go_ret
      exact ⟨by rw [HF.out]; rfl, BW⟩
set_option maxRecDepth 100000 in
set_option maxHeartbeats 4000000 in
theorem refchecked_any (columns : Int) (A : Option Addr) (n c : Nat) (zs : List Sbj) (QA : Option Addr) (qn qc : Nat) (qs : List Qst) (w : World) (hi : SbjsIn w A n zs) (hq : QstsIn w QA qn qs) :
    Calls Try.prog 53 #[.int .i64 columns, .slice A n c, .slice QA qn qc] w fun e w' => e = .returned (.int .i64 (auditN columns zs qs)) ∧ Gr w w' := by
  have HC := hid (fun W (k : Gr w W) => refCheck_any columns A n c zs W (hi.gr k))
  unfold auditN
  unfold tableN at HC
  by_cases ht : tableB columns zs = true
  · rw [if_pos ht] at HC ⊢
    have HA := hid (fun W (k : Gr w W) => refaudit_any columns QA qn qc qs W (hq.gr k) (table_cols ht))
    clear hi hq ht
    by_cases ha : auditB columns qs = true
    · rw [if_pos ha]
      rw [ha] at HA
      go_enter Try.func53, Try.ntmps53
      go_wp2_with (first | (go_at_call 21; (with_reducible refine (HC.out _ (Gr.refl _)).mono ?_); rotate_right; rintro e w1 ⟨rfl, hbw1⟩; obtain ⟨hcw1, hfw1, hzw1⟩ := hbw1.rules; (try simp at hzw1)) | (go_at_call 67; (with_reducible refine (HA.out _ hbw1).mono ?_); rotate_right; rintro e w2 ⟨rfl, hbw2⟩; obtain ⟨hcw2, hfw2, hzw2⟩ := hbw2.rules; (try simp at hzw2)))
      go_ret
      exact ⟨rfl, hbw1.trans hbw2⟩
    · rw [if_neg ha]
      rw [Bool.not_eq_true] at ha
      rw [ha] at HA
      go_enter Try.func53, Try.ntmps53
      go_wp2_with (first | (go_at_call 21; (with_reducible refine (HC.out _ (Gr.refl _)).mono ?_); rotate_right; rintro e w1 ⟨rfl, hbw1⟩; obtain ⟨hcw1, hfw1, hzw1⟩ := hbw1.rules; (try simp at hzw1)) | (go_at_call 67; (with_reducible refine (HA.out _ hbw1).mono ?_); rotate_right; rintro e w2 ⟨rfl, hbw2⟩; obtain ⟨hcw2, hfw2, hzw2⟩ := hbw2.rules; (try simp at hzw2)))
      go_ret
      exact ⟨rfl, hbw1.trans hbw2⟩
  · rw [if_neg ht] at HC ⊢
    clear hi hq ht
    go_enter Try.func53, Try.ntmps53
    go_wp2_with (first | (go_at_call 21; (with_reducible refine (HC.out _ (Gr.refl _)).mono ?_); rotate_right; rintro e w1 ⟨rfl, hbw1⟩; obtain ⟨hcw1, hfw1, hzw1⟩ := hbw1.rules; (try simp at hzw1)))
    go_ret
    exact ⟨rfl, hbw1⟩
end Go.Proofs.Ytimhkkijoelmhaa
namespace Go.Proofs.Ytimhkkijoelmhaa
open Go.RowKit Go.Maps

/-- The subjects in order, as they lie behind ordered. -/
theorem ordIn_any (columns : Int) (A : Option Addr) (n c : Nat) (zs : List Sbj) (w : World) (hi : SbjsIn w A n zs) (ht : tableB columns zs = true) :
    Calls Try.prog 43 #[.slice A n c] w fun e w' => ∃ B cap, e = .returned (.slice B n cap) ∧ (SbjsIn w' B n (ordI zs) ∧ Gr w w') := by
  obtain ⟨hl16, hmem⟩ := table_mem ht
  have hap := table_apart ht
  have hln := hi.len
  have h := ordered10_any zs A c w (hi.rdE |> fun x => by rw [hln]; exact x) (by omega) (fun s hs => (hmem s hs).1) hap
  rw [hln] at h
  refine h.mono ?_
  rintro e w2 ⟨v, rfl, B, cap, es, rfl, T1, T2, T3, hb2⟩
  have hE := ord_eq hap T1 T2
  have hS : SbjsIn w2 B n es := hi.perm hb2 T1 (by first | exact T3 | (rw [hln] at T3; exact T3)) (by omega)
  rw [hE] at hS
  exact ⟨B, cap, by first | rfl | rw [hln], hS, hb2⟩
theorem Rd.set_other {w : World} {size n : Nat} {A : Option Addr} {xs : List Value} (h : Rd w size A n xs) {b : Nat} {z : Value} {t : TypeId} (hb : w.heap[b]? = some (.cells #[z] t (0, 0))) (hx : ∀ u ∈ xs, u ≠ z) (v : Value) : Rd (w.setCell ⟨b, 0, none⟩ v) size A n xs :=
  ⟨h.1, fun hn => by
    obtain ⟨b', off, e, hlt, hc⟩ := h.2 hn
    refine ⟨b', off, e, by simpa using hlt, fun j u hu => ?_⟩
    have hcu := hc j u hu
    by_cases e2 : b' = b
    · subst e2
      rw [cell_of_row w b' _ _ _ _ hb] at hcu
      have h0 : off + j = 0 := by
        rcases Nat.eq_zero_or_pos (off + j) with h | h
        · exact h
        · rw [Array.getElem?_eq_none (by simp; omega)] at hcu; cases hcu
      rw [h0] at hcu
      have : u = z := by simpa using hcu.symm
      exact absurd this (hx u (List.mem_of_getElem? hu))
    · unfold World.cell? at hcu ⊢
      rw [Below.heap_setCell w ⟨b, 0, none⟩ v b' e2]
      exact hcu⟩
theorem mem_vals {s : List Int} {u : Value} (h : u ∈ s.map (Value.int .i64)) : ∃ x, u = .int .i64 x := by
  obtain ⟨x, _, rfl⟩ := List.mem_map.1 h
  exact ⟨x, rfl⟩
theorem SbjsIn.set_other {w : World} {A : Option Addr} {n : Nat} {zs : List Sbj} (h : SbjsIn w A n zs) {b : Nat} {t : TypeId} (hb : w.heap[b]? = some (.cells #[.pointer none] t (0, 0))) (v : Value) : SbjsIn (w.setCell ⟨b, 0, none⟩ v) A n zs := by
  refine ⟨h.rd.set_other hb (fun u hu => ?_) v, h.big, fun s hs => ⟨(h.vals s hs).1.set_other hb (fun u hu => ?_) v, (h.vals s hs).2⟩, h.wf⟩
  · obtain ⟨s, _, hu⟩ := List.mem_flatMap.1 hu
    simp [Sbj.cells] at hu
    rcases hu with rfl | rfl <;> simp
  · obtain ⟨x, rfl⟩ := mem_vals hu
    simp
/-- The frame in the region that lays the open audit. -/
structure LaidO (w0 w : World) (qv : Value) (n : Nat) (es : List Sbj) (L : Nat → Bool) (v39 v40 v41 v42 v43 v44 v45 v11 sv : Value) : Prop where
  gr : Gr w0 w
  h0 : L 0 = true → v39 = qv
  h1 : L 1 = true → v40 = sv
  h2 : L 2 = true → ∃ B cap, v41 = .slice B n cap ∧ SbjsIn w B n es
  h3 : L 3 = true → ∃ m, v42 = .map (some m) ∧ w0.heap.size ≤ m ∧ w.heap[m]? = some (.map #[] 0)
  h4 : L 4 = true → ∃ m, v43 = .map (some m) ∧ w0.heap.size ≤ m ∧ w.heap[m]? = some (.map #[] 0)
  h34 : L 3 = true → L 4 = true → v42 ≠ v43
  h5 : L 5 = true → v44 = .agg #[v39, v41, v42, v43]
  h6 : L 6 = true → ∃ b, v45 = .pointer (some ⟨b, 0, none⟩) ∧ w.heap[b]? = some (.cells #[v39, v41, v42, v43] 87 (0, 0))
  h7 : L 7 = true → L 8 = false → ∃ b, v11 = .pointer (some ⟨b, 0, none⟩) ∧ w0.heap.size ≤ b ∧ w.heap[b]? = some (.cells #[.pointer none] 81 (0, 0))
  h8 : L 8 = true → ∃ b bk B cap ma ml, v11 = .pointer (some ⟨b, 0, none⟩) ∧ w.heap[b]? = some (.cells #[.pointer (some ⟨bk, 0, none⟩)] 81 (0, 0)) ∧ w.heap[bk]? = some (.cells #[qv, .slice B n cap, .map (some ma), .map (some ml)] 87 (0, 0)) ∧
    SbjsIn w B n es ∧ w.heap[ma]? = some (.map #[] 0) ∧ w.heap[ml]? = some (.map #[] 0) ∧ ma ≠ ml ∧ w0.heap.size ≤ ma ∧ w0.heap.size ≤ ml
  h9 : L 8 = true → ∀ j, j < 8 → L j = true
  d5 : L 5 = true → L 0 = true ∧ L 2 = true ∧ L 3 = true ∧ L 4 = true
  d6 : L 6 = true → L 5 = true
theorem Gr.putObj {a w : World} {l : Nat} {o : Obj} (h : Gr a w) (hl : a.heap.size ≤ l) (o' : Obj) (ho : w.heap[l]? = some o) : Gr a (w.putObj l o') :=
  Below.grown h (grownBy_putObj' w l o') (by have := (Array.getElem?_eq_some_iff.1 ho).1; omega) (fun j e => by cases e; exact hl)
theorem putObj_far {w : World} {l k : Nat} (o' : Obj) (h : k ≠ l) : (w.putObj l o').heap[k]? = w.heap[k]? := World.putObj_heap_other h
theorem LinesIn.putObj {w : World} {ml n m : Nat} {rows : List Rw} (h : LinesIn w ml n m rows) {l : Nat} {o : Obj} (o' : Obj) (ho : w.heap[l]? = some o) (hc : o.isCells = false) (hl : ml ≠ l) : LinesIn (w.putObj l o') ml n m rows := by
  obtain ⟨f, h1, h2, h3⟩ := h
  exact ⟨f, h1.keep (putObj_far o' hl), fun r hr => by obtain ⟨v, e, hv⟩ := h2 r hr; exact ⟨v, e, hv.kc (KC.putObj o' ho hc)⟩, h3⟩
theorem LinesIn.lt {w : World} {ml n m : Nat} {rows : List Rw} (h : LinesIn w ml n m rows) : ml < w.heap.size := by
  obtain ⟨f, h1, _⟩ := h
  exact h1.lt
/-- A subject more. -/
theorem idxF_succ {es : List Sbj} {k : Nat} (hk : k < es.length) (hd : es.Pairwise fun x y => x.id ≠ y.id) (p : Int) : (if p = es[k]!.id then some (Value.int .i64 (k : Int)) else idxF (es.take k) p) = idxF (es.take (k + 1)) p := by
  unfold idxF
  rw [List.take_succ_eq_append_getElem hk, List.findIdx?_append, ← getElem!_pos es k hk]
  have hlen : (es.take k).length = k := by rw [List.length_take]; omega
  by_cases h : p = es[k]!.id
  · rw [if_pos h]
    have hn : (es.take k).findIdx? (fun s => s.id == p) = none := by
      rw [List.findIdx?_eq_none_iff]
      intro x hx
      obtain ⟨j, hj, rfl⟩ := List.getElem_of_mem hx
      rw [hlen] at hj
      rw [List.pairwise_iff_getElem] at hd
      have := hd j k (by omega) hk hj
      rw [List.getElem_take, h, getElem!_pos es k hk]
      simpa using this
    rw [hn, hlen, h]
    simp
  · rw [if_neg h]
    have : ([es[k]!] : List Sbj).findIdx? (fun s => s.id == p) = none := by
      rw [List.findIdx?_eq_none_iff]
      intro x hx
      rw [List.mem_singleton] at hx
      subst hx
      exact beq_false_of_ne (fun e => h e.symm)
    rw [this]
    cases (es.take k).findIdx? (fun s => s.id == p) <;> rfl
theorem MapIs.fresh {κ : Type} {P : Program} {k : TypeId} {enc : κ → Value} {w : World} {b : Nat} (h : w.heap[b]? = some (.map #[] 0)) : MapIs P k enc w b (fun _ => none) :=
  ⟨#[], 0, h, by rw [Go.MapKept.stamped_iff]; simp, by simp, by simp⟩
theorem MapIs.kb {κ : Type} {P : Program} {k : TypeId} {enc : κ → Value} {w w' : World} {b b' : Nat} {f : κ → Option Value} (h : MapIs P k enc w b f) (g : w.grownBy w' (some b')) (hne : b ≠ b') : MapIs P k enc w' b f :=
  h.keep (g.block b h.lt (fun e => hne (by injection e)))
theorem MapIs.kc {κ : Type} {P : Program} {k : TypeId} {enc : κ → Value} {w w' : World} {b : Nat} {f : κ → Option Value} (h : MapIs P k enc w b f) (g : w.grownBy w' (some b)) : KC w w' := by
  obtain ⟨es, ck, hb, _⟩ := h
  exact KC.grown g hb
end Go.Proofs.Ytimhkkijoelmhaa
namespace Go.Proofs.Ytimhkkijoelmhaa
open Go.RowKit Go.Maps

section
variable {P : Program} {Q : Exit → Act → World → Prop}
theorem any_mixAt {C : World → Prop} {a : Act} {w : World} {l : List Oper} (n : Nat) (mu : List Nat) (last : Oper) (hl : l = l.take n ++ [last]) (hT : tailB .any (l.take n) last = true) (hB : mixB (l.take n).toArray mu = true)
    (hC : C w.drew) (h : MixL P (l.take n).toArray C (TailQ P last (fun e a w => e = .normal ∧ Q .normal a w)) mu 0 (l.take n) a w.drew) : AnyN P l Q a w := by
  have h1 := mix_any (P := P) (C := C) hB (fun _ _ _ _ _ h => by cases h.1) (l.take n) 0 a w.drew (by simp) (fun j => by simp) hC h
  rw [preB_zero] at h1
  have h2 := wpAny_tail (P := P) (Q := fun e a w => e = .normal ∧ Q .normal a w) hT (l.take n).toArray.size (Array.replicate (l.take n).toArray.size false) a w.drew (by simp) (wpAny_of_held _ _ _ _ (by simpa using h1))
  have e : (Array.replicate (l.take n).toArray.size false).push false = Array.replicate (l.take n ++ [last]).toArray.size false := by
    simp [Array.replicate_succ]
  rw [e] at h2
  unfold AnyN
  rw [hl]
  simpa using h2
end
theorem fr_int {zs : List Rat} {u : Value} (h : u ∈ zs.flatMap frC) : ∃ z, u = .int .i64 z := by
  obtain ⟨x, _, hx⟩ := List.mem_flatMap.1 h
  simp [frC] at hx
  rcases hx with rfl | rfl <;> exact ⟨_, rfl⟩
/-- A store into a row of slices leaves numbers alone. -/
theorem Rd.set_sl {w : World} {size n : Nat} {A : Option Addr} {xs : List Value} (h : Rd w size A n xs) (hx : ∀ u ∈ xs, ∃ z, u = .int .i64 z) {X : Nat} {t : TypeId} {A1 A2 : Option Addr} {n1 c1 n2 c2 : Nat} (hX : w.heap[X]? = some (.cells #[.slice A1 n1 c1, .slice A2 n2 c2] t (0, 0))) (i : Nat) (v : Value) : Rd (w.setCell ⟨X, i, none⟩ v) size A n xs :=
  ⟨h.1, fun hn => by
    obtain ⟨b', off, e, hlt, hc⟩ := h.2 hn
    refine ⟨b', off, e, by simpa using hlt, fun j u hu => ?_⟩
    have hcu := hc j u hu
    by_cases e2 : b' = X
    · subst e2
      rw [cell_of_row w b' _ _ _ _ hX] at hcu
      obtain ⟨z, rfl⟩ := hx u (List.mem_of_getElem? hu)
      match off + j, hcu with
      | 0, hcu => simp at hcu
      | 1, hcu => simp at hcu
      | k + 2, hcu => simp at hcu
    · unfold World.cell? at hcu ⊢
      rw [Below.heap_setCell w ⟨X, i, none⟩ v b' e2]
      exact hcu⟩
theorem LnIn.set_sl {w : World} {n m : Nat} {v : Value} {x : List Rat} (h : LnIn w n m v x) {X : Nat} {t : TypeId} {A1 A2 : Option Addr} {n1 c1 n2 c2 : Nat} (hX : w.heap[X]? = some (.cells #[.slice A1 n1 c1, .slice A2 n2 c2] t (0, 0))) (i : Nat) (u : Value) : LnIn (w.setCell ⟨X, i, none⟩ u) n m v x := by
  obtain ⟨A, c, B, d, e, h1, h2, h3⟩ := h
  exact ⟨A, c, B, d, e, h1.set_sl (fun u hu => fr_int hu) hX i u, h2.set_sl (fun u hu => fr_int hu) hX i u, h3⟩
theorem LinesIn.set_sl {w : World} {ml n m : Nat} {rows : List Rw} (h : LinesIn w ml n m rows) {X : Nat} {t : TypeId} {A1 A2 : Option Addr} {n1 c1 n2 c2 : Nat} (hX : w.heap[X]? = some (.cells #[.slice A1 n1 c1, .slice A2 n2 c2] t (0, 0))) (i : Nat) (u : Value) : LinesIn (w.setCell ⟨X, i, none⟩ u) ml n m rows := by
  obtain ⟨f, h1, h2, h3⟩ := h
  refine ⟨f, h1.keep (Below.heap_setCell _ _ _ _ ?_), fun r hr => by obtain ⟨v, e, hv⟩ := h2 r hr; exact ⟨v, e, hv.set_sl hX i u⟩, h3⟩
  rintro rfl
  obtain ⟨es, ck, hm, _⟩ := h1
  rw [hX] at hm
  cases hm
theorem KC.setNew {W0 W : World} (h : KC W0 W) {X i : Nat} (hX : W0.heap.size ≤ X) (v : Value) : KC W0 (W.setCell ⟨X, i, none⟩ v) :=
  ⟨h.os, h.tape, h.output, by simpa using h.size, fun k o hk ho => by
    have hlt := (Array.getElem?_eq_some_iff.1 hk).1
    exact (Below.heap_setCell W ⟨X, i, none⟩ v k (by show k ≠ X; omega)).trans (h.rows k o hk ho)⟩
theorem keepsF_gr {B : Nat} {a b c : World} (h : KeepsFrom B a b) (g : Gr b c) : KeepsFrom B a c := h.trans ((keeps_of_gr g).from B)
/-- The line at work lies in block X. -/
structure Mid (w2 w5 W0 W : World) (X n m ma ml : Nat) (es : List Sbj) (rows : List Rw) (y : List Rat) (wr : World) : Prop where
  row : ∃ A1 c1 A2 c2, wr.heap[X]? = some (.cells #[.slice A1 n c1, .slice A2 m c2] 90 (0, 0)) ∧ LnIn wr n m (.agg #[.slice A1 n c1, .slice A2 m c2]) y
  kc : KC W0 wr
  kf : KeepsFrom w5.heap.size W wr
  gr : Gr w2 wr
  mp : MapIs Try.prog 3 (Value.int .i64) wr ma (idxF es)
  ln : LinesIn wr ml n m rows
section
variable {w2 w5 W0 W : World} {X n m ma ml : Nat} {es : List Sbj} {rows : List Rw} {y : List Rat} {wr w' : World}
theorem Mid.grow (h : Mid w2 w5 W0 W X n m ma ml es rows y wr) (g : Gr wr w') : Mid w2 w5 W0 W X n m ma ml es rows y w' := by
  obtain ⟨A1, c1, A2, c2, h1, h2⟩ := h.row
  exact ⟨⟨A1, c1, A2, c2, row_gr h1 g, h2.gr g⟩, h.kc.trans (KC.of_gr g), keepsF_gr h.kf g, h.gr.trans g, h.mp.gr g, h.ln.gr g⟩
theorem Mid.drew (h : Mid w2 w5 W0 W X n m ma ml es rows y wr) : Mid w2 w5 W0 W X n m ma ml es rows y wr.drew := h.grow (Gr.refl wr).drew
/-- A new line at work. -/
theorem Mid.set (h : Mid w2 w5 W0 W X n m ma ml es rows y wr) (hX : W0.heap.size ≤ X) (hX2 : w2.heap.size ≤ X) {B1 B2 : Option Addr} {d1 d2 : Nat} {z : List Rat} (hz : LnIn wr n m (.agg #[.slice B1 n d1, .slice B2 m d2]) z) :
    Mid w2 w5 W0 W X n m ma ml es rows z ((wr.setCell ⟨X, 0, none⟩ (.slice B1 n d1)).setCell ⟨X, 1, none⟩ (.slice B2 m d2)) := by
  obtain ⟨A1, c1, A2, c2, h1, h2⟩ := h.row
  have r1 := heap_setCell_same wr X 0 _ _ (.slice B1 n d1) h1
  have r1' : (wr.setCell ⟨X, 0, none⟩ (.slice B1 n d1)).heap[X]? = some (.cells #[.slice B1 n d1, .slice A2 m c2] 90 (0, 0)) := r1
  have hxm : ma ≠ X := by
    rintro rfl
    obtain ⟨es', ck, hm, _⟩ := h.mp
    rw [h1] at hm
    cases hm
  refine ⟨⟨B1, d1, B2, d2, set2_row h1, (hz.set_sl h1 0 _).set_sl r1' 1 _⟩, (h.kc.setNew hX _).setNew hX _, h.kf.trans (((KeepsOthers.setCell _ _ _).trans (KeepsOthers.setCell _ _ _)).from _), set2_gr h.gr hX2 _ _, ?_, (h.ln.set_sl h1 0 _).set_sl r1' 1 _⟩
  exact h.mp.keep ((Below.heap_setCell _ _ _ _ hxm).trans (Below.heap_setCell _ _ _ _ hxm))
end
end Go.Proofs.Ytimhkkijoelmhaa
namespace Go.Proofs.Ytimhkkijoelmhaa
open Go.RowKit Go.Maps

/-- How many are still to come, read off the world. -/
def rgLeft (w : World) (b r : Nat) : Nat :=
  match w.heap[b]?, w.heap[r]? with
  | some (.map es _), some (.mapIter _ _ seen _) => (es.toList.map (·.born)).countP fun n => !seen.contains n
  | _, _ => 0
theorem MapRg.left_eq {κ : Type} {P : Program} {k : TypeId} {enc : κ → Value} {w : World} {b r : Nat} {f : κ → Option Value} {left : κ → Prop} {cnt : Nat} (h : MapRg P k enc w b r f left cnt) : rgLeft w b r = cnt := by
  obtain ⟨es, clock, since, seen, c0, h1, _, _, _, h5, _, _, h8, _⟩ := h
  unfold rgLeft
  rw [h1, h5]
  exact h8
theorem MapRg.iter {κ : Type} {P : Program} {k : TypeId} {enc : κ → Value} {w : World} {b r : Nat} {f : κ → Option Value} {left : κ → Prop} {cnt : Nat} (h : MapRg P k enc w b r f left cnt) : ∃ o, w.heap[r]? = some o ∧ o.isCells = false := by
  obtain ⟨es, clock, since, seen, c0, h1, _, _, _, h5, _⟩ := h
  exact ⟨_, h5, rfl⟩
theorem KC.grownN {W W' : World} {b : Nat} {o : Obj} (hg : W.grownBy W' (some b)) (hm : W.heap[b]? = some o) (hc : o.isCells = false) : KC W W' := by
  refine ⟨hg.os, hg.tape, hg.output, hg.size, fun k q hk hq => (hg.block k (Array.getElem?_eq_some_iff.1 hk).1 ?_).trans hk⟩
  intro e
  injection e with e
  subst e
  rw [hm] at hk
  injection hk with e
  subst e
  rw [hc] at hq
  cases hq
theorem keepsF_new {B : Nat} {a b c : World} {r : Nat} (h : KeepsFrom B a b) (g : b.grownBy c (some r)) (hr : a.heap.size ≤ r) : KeepsFrom B a c :=
  ⟨Nat.le_trans h.size g.size, fun k o hB hk ho => by
    have hlt := (Array.getElem?_eq_some_iff.1 hk).1
    have h1 := h.same k o hB hk ho
    refine (g.block k (Array.getElem?_eq_some_iff.1 h1).1 ?_).trans h1
    intro e
    injection e with e
    omega⟩
theorem keepsF_low {B : Nat} {a b c : World} {r : Nat} (h : KeepsFrom B a b) (g : b.grownBy c (some r)) (hr : r < B) : KeepsFrom B a c :=
  h.trans (KeepsFrom.of_grownBy g (fun j e => by cases e; exact hr))
theorem Gr.turned {a b c : World} {r : Nat} (h : Gr a b) (g : b.grownBy c (some r)) (hr : a.heap.size ≤ r) : Gr a c :=
  Below.grown h g h.size (fun j e => by cases e; exact hr)
/-- Some of the lines have been reckoned anew; one may be at work. -/
structure Rng (w2 w5 W0 W : World) (X n m ma ml r : Nat) (es : List Sbj) (rows : List Rw) (z : List Rat) (fi : Nat) (f : Int → Option Value) (left : Int → Prop) (pend : Int) (wr : World) (cnt : Nat) : Prop where
  row : ∃ A1 c1 A2 c2, wr.heap[X]? = some (.cells #[.slice A1 n c1, .slice A2 m c2] 90 (0, 0)) ∧ LnIn wr n m (.agg #[.slice A1 n c1, .slice A2 m c2]) z
  kc : KC W0 wr
  kf : KeepsFrom w5.heap.size W wr
  gr : Gr w2 wr
  mp : MapIs Try.prog 3 (Value.int .i64) wr ma (idxF es)
  rg : MapRg Try.prog 3 (Value.int .i64) wr ml r f left cnt
  rs : ∀ q ∈ rows, ∃ v, f (q.1 : Int) = some v ∧ ((q.1 : Int) = pend → LnIn wr n m v q.2) ∧ ((q.1 : Int) ≠ pend → (left (q.1 : Int) → LnIn wr n m v q.2) ∧ (¬ left (q.1 : Int) → LnIn wr n m v (subR q.2 z (cv q.2 fi))))
  ks : ∀ q v, f q = some v → ∃ s ∈ rows, q = (s.1 : Int)
section
variable {w2 w5 W0 W : World} {X n m ma ml r : Nat} {es : List Sbj} {rows : List Rw} {z : List Rat} {fi : Nat} {wr w' : World} {cnt cnt' : Nat} {f : Int → Option Value} {left : Int → Prop} {pend : Int}
theorem Rng.grow (h : Rng w2 w5 W0 W X n m ma ml r es rows z fi f left pend wr cnt) (g : Gr wr w') : Rng w2 w5 W0 W X n m ma ml r es rows z fi f left pend w' cnt := by
  obtain ⟨A1, c1, A2, c2, h1, h2⟩ := h.row
  refine ⟨⟨A1, c1, A2, c2, row_gr h1 g, h2.gr g⟩, h.kc.trans (KC.of_gr g), keepsF_gr h.kf g, h.gr.trans g, h.mp.gr g, h.rg.gr g, fun q hq => ?_, h.ks⟩
  obtain ⟨v, e, a, b⟩ := h.rs q hq
  exact ⟨v, e, fun hl => (a hl).gr g, fun hn => ⟨fun hl => ((b hn).1 hl).gr g, fun hl => ((b hn).2 hl).gr g⟩⟩
/-- The start. -/
theorem Mid.range (h : Mid w2 w5 W0 W X n m ma ml es rows z wr) (hm : MapRg Try.prog 3 (Value.int .i64) w' ml r f (fun q => ∃ v, f q = some v) cnt) (g : Gr wr w') (h2 : ∀ q ∈ rows, ∃ v, f (q.1 : Int) = some v ∧ LnIn wr n m v q.2) (h3 : ∀ q v, f q = some v → ∃ s ∈ rows, q = (s.1 : Int)) :
    Rng w2 w5 W0 W X n m ma ml r es rows z fi f (fun q => ∃ v, f q = some v) (-1) w' cnt := by
  obtain ⟨A1, c1, A2, c2, k1, k2⟩ := h.row
  refine ⟨⟨A1, c1, A2, c2, row_gr k1 g, k2.gr g⟩, h.kc.trans (KC.of_gr g), keepsF_gr h.kf g, h.gr.trans g, h.mp.gr g, hm, fun q hq => ?_, h3⟩
  obtain ⟨v, e, a⟩ := h2 q hq
  exact ⟨v, e, fun hp => (by omega), fun _ => ⟨fun _ => a.gr g, fun hn => absurd ⟨v, e⟩ hn⟩⟩
/-- A step of the iterator. -/
theorem Rng.step (h : Rng w2 w5 W0 W X n m ma ml r es rows z fi f left (-1) wr cnt) {q0 : Int} (hl : left q0) (hm : MapRg Try.prog 3 (Value.int .i64) w' ml r f (fun p => left p ∧ p ≠ q0) cnt') (g : wr.grownBy w' (some r)) (hrW : W.heap.size ≤ r) (hr2 : w2.heap.size ≤ r) (hma : ma ≠ r) :
    Rng w2 w5 W0 W X n m ma ml r es rows z fi f (fun p => left p ∧ p ≠ q0) q0 w' cnt' := by
  obtain ⟨o, ho, hc⟩ := h.rg.iter
  have hk := KC.grownN g ho hc
  obtain ⟨A1, c1, A2, c2, k1, k2⟩ := h.row
  refine ⟨⟨A1, c1, A2, c2, hk.row k1, k2.kc hk⟩, h.kc.trans hk, keepsF_new h.kf g hrW, h.gr.turned g hr2, h.mp.keep (g.block ma h.mp.lt (fun e => hma (by injection e))), hm, fun q hq => ?_, h.ks⟩
  obtain ⟨v, e, _, b⟩ := h.rs q hq
  have b' := b (by omega)
  refine ⟨v, e, fun hp => (b'.1 (by rw [hp]; exact hl)).kc hk, fun hp => ⟨fun hl' => (b'.1 hl'.1).kc hk, fun hl' => (b'.2 (fun hl2 => hl' ⟨hl2, hp⟩)).kc hk⟩⟩
/-- The store at the key at work. -/
theorem Rng.put (h : Rng w2 w5 W0 W X n m ma ml r es rows z fi f left pend wr cnt) {s0 : Rw} (nd : (rows.map (·.1)).Nodup) (hs : s0 ∈ rows) (hp : pend = (s0.1 : Int)) (hnl : ¬ left pend) {v' : Value} (hv : LnIn wr n m v' (subR s0.2 z (cv s0.2 fi)))
    (hm : MapRg Try.prog 3 (Value.int .i64) w' ml r (fun p => if p = pend then some v' else f p) left cnt) (g : wr.grownBy w' (some ml)) (hml5 : ml < w5.heap.size) (hml2 : w2.heap.size ≤ ml) (hma : ma ≠ ml) :
    Rng w2 w5 W0 W X n m ma ml r es rows z fi (fun p => if p = pend then some v' else f p) left (-1) w' cnt := by
  have hk := h.rg.is.kc g
  obtain ⟨A1, c1, A2, c2, k1, k2⟩ := h.row
  refine ⟨⟨A1, c1, A2, c2, hk.row k1, k2.kc hk⟩, h.kc.trans hk, keepsF_low h.kf g hml5, h.gr.turned g hml2, h.mp.keep (g.block ma h.mp.lt (fun e => hma (by injection e))), hm, fun q hq => ?_, fun q v hf => ?_⟩
  · by_cases e : (q.1 : Int) = pend
    · have : q = s0 := fst_inj nd hq hs (by omega)
      subst this
      refine ⟨v', by simp [e], fun h => (by omega), fun _ => ⟨fun hl => absurd (by rw [← e]; exact hl) hnl, fun _ => hv.kc hk⟩⟩
    · obtain ⟨v, e1, _, b⟩ := h.rs q hq
      exact ⟨v, by simp [e, e1], fun h => (by omega), fun _ => ⟨fun hl => ((b e).1 hl).kc hk, fun hl => ((b e).2 hl).kc hk⟩⟩
  · by_cases e : q = pend
    · exact ⟨s0, hs, by omega⟩
    · exact h.ks q v (by simpa [e] using hf)
/-- The end. -/
theorem Rng.lines (h : Rng w2 w5 W0 W X n m ma ml r es rows z fi f left (-1) wr cnt) (hl : ∀ q, ¬ left q) : LinesIn wr ml n m (rows.map fun row => (row.1, subR row.2 z (cv row.2 fi))) := by
  refine ⟨f, h.rg.is, fun q hq => ?_, fun q v hf => ?_⟩
  · obtain ⟨s, hs, rfl⟩ := List.mem_map.1 hq
    obtain ⟨v, e, _, b⟩ := h.rs s hs
    exact ⟨v, e, (b (by omega)).2 (hl _)⟩
  · obtain ⟨s, hs, e⟩ := h.ks q v hf
    exact ⟨_, List.mem_map.2 ⟨s, hs, rfl⟩, e⟩
/-- The new line is laid into the map. -/
theorem lines_put {rows' : List Rw} {g : Int → Option Value} (h2 : ∀ q ∈ rows', ∃ v, g (q.1 : Int) = some v ∧ LnIn wr n m v q.2) (h3 : ∀ q v, g q = some v → ∃ s ∈ rows', q = (s.1 : Int)) (hfi : ∀ q ∈ rows', q.1 ≠ fi) {v : Value} (hv : LnIn wr n m v z)
    (hm : MapIs Try.prog 3 (Value.int .i64) w' ml (fun p => if p = (fi : Int) then some v else g p)) (hk : KC wr w') : LinesIn w' ml n m (rows' ++ [(fi, z)]) := by
  refine ⟨_, hm, fun q hq => ?_, fun q u hf => ?_⟩
  · rcases List.mem_append.1 hq with hq | hq
    · obtain ⟨u, e, hu⟩ := h2 q hq
      have := hfi q hq
      exact ⟨u, by simp [e]; omega, hu.kc hk⟩
    · have : q = (fi, z) := by simpa using hq
      subst this
      exact ⟨v, by simp, hv.kc hk⟩
  · by_cases e : q = (fi : Int)
    · exact ⟨(fi, z), by simp, e⟩
    · obtain ⟨s, hs, e1⟩ := h3 q u (by simpa [e] using hf)
      exact ⟨s, List.mem_append_left _ hs, e1⟩
end
end Go.Proofs.Ytimhkkijoelmhaa
