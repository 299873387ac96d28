/- right of the package sum: whether a question is valid. For every question, and numbers of columns from 1 to 5. -/
import Derived.Deep.CutRange
import Derived.Deep.DeepCutAuto
import Derived.Test.YtimhkkijoelmhaaQRegGr
import Derived.Test.YtimhkkijoelmhaaQSlWhr
namespace Go.Proofs.Ytimhkkijoelmhaa
open Go.RowKit
theorem cell_top (W : World) (cs : Array Value) (t : TypeId) (b o : Nat) (h : b = W.heap.size) : (W.alloc (.cells cs t)).cell? ⟨b, o, none⟩ = cs[o]? := by
  subst h
  exact cell_of_row _ _ o cs t (0, 0) (heap_alloc_new W _)

set_option maxRecDepth 100000 in
set_option maxHeartbeats 2000000 in
theorem right1_10 (x : Whr) (columns : Int) (c : Nat) (w : World) (hc : 1 ≤ columns ∧ columns ≤ 5) (h0 : w.cell? ⟨c, 0, none⟩ = some (.int .i64 columns)) :
    Calls Try.prog 92 #[x.val, .pointer (some ⟨c, 0, none⟩)] w fun e w' => e = .returned (.bool (!whrB columns x)) ∧ Gr w w' := by
  obtain ⟨col, lo, hi⟩ := x
  have hwc : IntKind.i64.wrap (columns - 1) = columns - 1 := by rw [IntKind.wrap_i64]; omega
  obtain ⟨R, hR⟩ : ∃ R, whrB columns ⟨col, lo, hi⟩ = R := ⟨_, rfl⟩
  rw [hR]
  unfold Whr.val
  unfold whrB at hR
  dsimp only at *
  obtain ⟨b1, h1⟩ : ∃ b, inB 0 (columns - 1) col = b := ⟨_, rfl⟩
  obtain ⟨b3, h3⟩ : ∃ b, (inB 0 1000000 lo && inB 0 1000000 hi) = b := ⟨_, rfl⟩
  rw [h1, h3] at hR
  have H1 := hid h1
  have H3 := hid h3
  have HR := hid hR.symm
  have hcw : c < w.heap.size := block_lt_of_cell h0
  clear h1 h3 hR
  cases b1
  all_goals
    go_enter Try.func92, Try.ntmps92
    go_wp2_with (first
      | (go_at_call 48; (with_reducible refine (in_one 0 (columns - 1) col _ H1.out _ _ _ ?_ ?_).mono ?_); rotate_right; rintro e w1 ⟨rfl, hbw1⟩; obtain ⟨hcw1, hfw1, hzw1⟩ := hbw1.rules; (try simp at hzw1); have hzw1_0 : w.heap.size < w1.heap.size := (by omega); have hyw1_0 : w.heap.size ≤ w1.heap.size := (by omega))
      | (go_at_call 48; (with_reducible refine (in_two 0 1000000 lo hi _ H3.out _ _ _ ?_ ?_ ?_).mono ?_); rotate_right; rintro e w3 ⟨rfl, hbw3⟩; obtain ⟨hcw3, hfw3, hzw3⟩ := hbw3.rules; (try simp at hzw3); have hzw3_0 : w.heap.size < w3.heap.size := (by omega); have hyw3_0 : w.heap.size ≤ w3.heap.size := (by omega)))
  all_goals first
    | (simp; done)
    | (rw [cell_top _ _ _ _ _ (by simp)]; rfl)
    | (go_ret
       refine ⟨by rw [HR.out]; simp, ?_⟩
       (repeat (first | with_reducible exact Gr.refl _ | with_reducible refine Gr.trans ?_ hbw3 | with_reducible refine Gr.trans ?_ hbw1 | with_reducible refine Gr.alloc ?_ _ | with_reducible refine Gr.setCell ?_ (by simp) _ | with_reducible refine Gr.setCell ?_ (by simp; omega) _ | with_reducible refine Gr.drew ?_ | with_reducible refine Gr.drewN ?_ _)))

set_option maxRecDepth 100000 in
set_option maxHeartbeats 8000000 in
theorem right10_any (columns : Int) (q : Qst) (w : World) (hq : QstIn w q) (hc : 1 ≤ columns ∧ columns ≤ 5) :
    Calls Try.prog 68 #[.int .i64 columns, q.val] w fun e w' => e = .returned (.bool (qstB columns q)) ∧ Gr w w' := by
  have HC := hid (fun W (g : Gr w W) (h0 : W.cell? ⟨w.heap.size, 0, none⟩ = some (.int .i64 columns)) =>
    containsFunc_whr 92 #[.pointer (some ⟨w.heap.size, 0, none⟩)] (enters_of Try.func92 (by kernel_rfl) rfl) (fun x => !whrB columns x) q.a q.n q.c q.whs W
      (fun W' x _ k => right1_10 x columns w.heap.size W' hc (row_cell h0 k)) (hq.rd.gr g) hq.big)
  have HL := hid hq.len
  have hwc : IntKind.i64.wrap (columns - 1) = columns - 1 := by rw [IntKind.wrap_i64]; omega
  have hqb := hq.big
  obtain ⟨R, hR⟩ : ∃ R, qstB columns q = R := ⟨_, rfl⟩
  rw [hR]
  have hall : (q.whs.any fun x => !whrB columns x) = !q.whs.all (whrB columns) := by rw [List.all_eq_not_any_not]; simp
  rw [hall] at HC
  clear hq hall
  obtain ⟨qa, qn, qc, whs, col, clip, step⟩ := q
  unfold Qst.val
  unfold qstB at hR
  dsimp only at *
  generalize whs.all (whrB columns) = ab at HC hR
  have hd : decide (whs.length ≤ 4) = decide (qn ≤ 4) := by rw [show whs.length = qn from HL.out]
  rw [hd] at hR
  clear hd HL
  obtain ⟨b1, h1⟩ : ∃ b, inB 0 (columns - 1) col = b := ⟨_, rfl⟩
  obtain ⟨b2, h2⟩ : ∃ b, inB 1 1000000 clip = b := ⟨_, rfl⟩
  obtain ⟨b3, h3⟩ : ∃ b, inB 1 1000000 step = b := ⟨_, rfl⟩
  rw [h1, h2, h3] at hR
  have H1 := hid h1
  have H2 := hid h2
  have H3 := hid h3
  clear h1 h2 h3
  have HR := hid hR.symm
  clear hR
  have hrw := rows2 w (.cells #[.int .i64 columns] 3) (.cells #[.slice qa qn qc, .int .i64 col, .int .i64 clip, .int .i64 step] 25)
  have g0 : Gr w ((w.alloc (.cells #[.int .i64 columns] 3)).alloc (.cells #[.slice qa qn qc, .int .i64 col, .int .i64 clip, .int .i64 step] 25)) := ((Gr.refl w).alloc _).alloc _
  have HRW := hid hrw
  have HG := hid g0
  clear hrw g0
  have hqi : (qn : Int) ≤ 4 ↔ qn ≤ 4 := by omega
  go_enter Try.func68, Try.ntmps68
  go_upto_region 2 with fail
  generalize (w.alloc (.cells #[.int .i64 columns] 3)).alloc (.cells #[.slice qa qn qc, .int .i64 col, .int .i64 clip, .int .i64 step] 25) = w0 at HRW HG ⊢
  obtain ⟨R1, R2⟩ := HRW.out
  have a0 := row_cell_at (v := .int .i64 columns) R1 0 rfl
  have q0 := row_cell_at (v := .slice qa qn qc) R2 0 rfl
  have q1 := row_cell_at (v := .int .i64 col) R2 1 rfl
  have q2 := row_cell_at (v := .int .i64 clip) R2 2 rfl
  have q3 := row_cell_at (v := .int .i64 step) R2 3 rfl
  have hz0 : w.heap.size < w0.heap.size := block_lt_of_cell a0
  have hz1 : w.heap.size + 1 < w0.heap.size := block_lt_of_cell q0
  clear R1 R2
  go_cut [6] (fun s6 wx => s6 = .bool (b1 && b2) ∧ Gr w0 wx)
  case first =>
    cases b1
    all_goals
      go_wp2_with (first
        | (go_at_call 48; (with_reducible refine (in_one 0 (columns - 1) col _ H1.out _ _ _ ?_ ?_).mono ?_); rotate_right; rintro e w1 ⟨rfl, hbw1⟩; obtain ⟨hcw1, hfw1, hzw1⟩ := hbw1.rules; (try simp at hzw1); have hzw1_0 : w0.heap.size < w1.heap.size := (by omega); have hyw1_0 : w0.heap.size ≤ w1.heap.size := (by omega))
        | (go_at_call 48; (with_reducible refine (in_one 1 1000000 clip _ H2.out _ _ _ ?_ ?_).mono ?_); rotate_right; rintro e w2 ⟨rfl, hbw2⟩; obtain ⟨hcw2, hfw2, hzw2⟩ := hbw2.rules; (try simp at hzw2); have hzw2_0 : w1.heap.size < w2.heap.size := (by omega); have hyw2_0 : w1.heap.size ≤ w2.heap.size := (by omega)))
    all_goals first
      | (simp; done)
      | (rw [cell_top _ _ _ _ _ (by simp)]; rfl)
      | (go_meet
         exact ⟨by first | rfl | simp, by (repeat (first | with_reducible exact Gr.refl _ | with_reducible refine Gr.trans ?_ hbw2 | with_reducible refine Gr.trans ?_ hbw1 | with_reducible refine Gr.alloc ?_ _ | with_reducible refine Gr.setCell ?_ (by simp) _ | with_reducible refine Gr.setCell ?_ (by simp; omega) _ | with_reducible refine Gr.drew ?_ | with_reducible refine Gr.drewN ?_ _))⟩)
  case rest =>
    obtain ⟨rfl, hbwc⟩ := hcut
    obtain ⟨wx, rfl⟩ : ∃ wx : World, wx = wc := ⟨_, rfl⟩
    have a0 := row_cell a0 hbwc
    have q0 := row_cell q0 hbwc
    have q1 := row_cell q1 hbwc
    have q2 := row_cell q2 hbwc
    have q3 := row_cell q3 hbwc
    have hz0 : w.heap.size < wx.heap.size := block_lt_of_cell a0
    have hz1 : w.heap.size + 1 < wx.heap.size := block_lt_of_cell q0
    have GX := hid (HG.out.trans hbwc)
    have HCX := hid (fun W (k : Gr wx W) => HC.out W (GX.out.trans k) (row_cell a0 k))
    clear hbwc HC HRW HG
    generalize (b1 && b2) = b12 at *
    by_cases hcol : col = -1
    · rw [if_pos hcol] at HR
      subst hcol
      by_cases hcl : clip = 1
      · subst hcl
        cases b3
        case' true => by_cases h4 : qn ≤ 4
        all_goals
          go_wp2_with (first
            | (go_at_call 48; (with_reducible refine (in_one 1 1000000 step _ H3.out _ _ _ ?_ ?_).mono ?_); rotate_right; rintro e w3 ⟨rfl, hbw3⟩; obtain ⟨hcw3, hfw3, hzw3⟩ := hbw3.rules; (try simp at hzw3); have hzw3_0 : wx.heap.size < w3.heap.size := (by omega); have hyw3_0 : wx.heap.size ≤ w3.heap.size := (by omega))
            | (go_at_call 72; (with_reducible refine (HCX.out _ ?_).mono ?_); rotate_right; rintro e w4 ⟨rfl, hbw4⟩; obtain ⟨hcw4, hfw4, hzw4⟩ := hbw4.rules; (try simp at hzw4)))
        all_goals first
          | (simp; done)
          | (rw [cell_top _ _ _ _ _ (by simp)]; rfl)
          | ((repeat (first | with_reducible exact Gr.refl _ | with_reducible refine Gr.trans ?_ hbw3 | with_reducible refine Gr.alloc ?_ _ | with_reducible refine Gr.setCell ?_ (by simp) _ | with_reducible refine Gr.setCell ?_ (by simp; omega) _ | with_reducible refine Gr.drew ?_ | with_reducible refine Gr.drewN ?_ _)); done)
          | (go_ret
             exact ⟨by rw [HR.out]; simp [*], GX.out.trans (by (repeat (first | with_reducible exact Gr.refl _ | with_reducible refine Gr.trans ?_ hbw4 | with_reducible refine Gr.trans ?_ hbw3 | with_reducible refine Gr.alloc ?_ _ | with_reducible refine Gr.setCell ?_ (by simp) _ | with_reducible refine Gr.setCell ?_ (by simp; omega) _ | with_reducible refine Gr.drew ?_ | with_reducible refine Gr.drewN ?_ _)))⟩)
      · have hcl' : (clip == 1) = false := by simpa using hcl
        go_wp2
        go_ret
        exact ⟨by rw [HR.out, hcl']; simp, GX.out⟩
    · rw [if_neg hcol] at HR
      cases b12
      case' true => cases b3
      case' true.true => by_cases h4 : qn ≤ 4
      all_goals
        go_wp2_with (first
          | (go_at_call 48; (with_reducible refine (in_one 1 1000000 step _ H3.out _ _ _ ?_ ?_).mono ?_); rotate_right; rintro e w3 ⟨rfl, hbw3⟩; obtain ⟨hcw3, hfw3, hzw3⟩ := hbw3.rules; (try simp at hzw3); have hzw3_0 : wx.heap.size < w3.heap.size := (by omega); have hyw3_0 : wx.heap.size ≤ w3.heap.size := (by omega))
          | (go_at_call 72; (with_reducible refine (HCX.out _ ?_).mono ?_); rotate_right; rintro e w4 ⟨rfl, hbw4⟩; obtain ⟨hcw4, hfw4, hzw4⟩ := hbw4.rules; (try simp at hzw4)))
      all_goals first
        | (simp; done)
        | (rw [cell_top _ _ _ _ _ (by simp)]; rfl)
        | ((repeat (first | with_reducible exact Gr.refl _ | with_reducible refine Gr.trans ?_ hbw3 | with_reducible refine Gr.alloc ?_ _ | with_reducible refine Gr.setCell ?_ (by simp) _ | with_reducible refine Gr.setCell ?_ (by simp; omega) _ | with_reducible refine Gr.drew ?_ | with_reducible refine Gr.drewN ?_ _)); done)
        | (go_ret
           exact ⟨by rw [HR.out]; simp [*], GX.out.trans (by (repeat (first | with_reducible exact Gr.refl _ | with_reducible refine Gr.trans ?_ hbw4 | with_reducible refine Gr.trans ?_ hbw3 | with_reducible refine Gr.alloc ?_ _ | with_reducible refine Gr.setCell ?_ (by simp) _ | with_reducible refine Gr.setCell ?_ (by simp; omega) _ | with_reducible refine Gr.drew ?_ | with_reducible refine Gr.drewN ?_ _)))⟩)
end Go.Proofs.Ytimhkkijoelmhaa
