/- checked of the package sum: the error of a table and a question; what a valid table and question say of numbers. For every table and question. -/
import Derived.Test.YtimhkkijoelmhaaCheckT10
import Derived.Test.YtimhkkijoelmhaaRight10
namespace Go.Proofs.Ytimhkkijoelmhaa
open Go.RowKit

theorem table_cols {columns : Int} {zs : List Sbj} (h : tableB columns zs = true) : 1 ≤ columns ∧ columns ≤ 5 := by
  unfold tableB inB at h
  simp only [Bool.and_eq_true, decide_eq_true_eq] at h
  exact h.1.1
theorem table_mem {columns : Int} {zs : List Sbj} (h : tableB columns zs = true) : zs.length ≤ 16 ∧ ∀ s ∈ zs, (0 ≤ s.id ∧ s.id ≤ 999999) ∧ (s.vals.length : Int) = columns ∧ ∀ v ∈ s.vals, 0 ≤ v ∧ v ≤ 1000000 := by
  unfold tableB at h
  simp only [Bool.and_eq_true, decide_eq_true_eq, Bool.not_eq_true', List.any_eq_false, List.mem_range, Bool.not_eq_true] at h
  refine ⟨h.1.2, fun s hs => ?_⟩
  obtain ⟨j, hj, rfl⟩ := List.getElem_of_mem hs
  have hb := h.2 j hj
  unfold sbjBad sbjB inB at hb
  rw [getElem!_pos zs j hj] at hb
  simp only [Bool.or_eq_false_iff, Bool.not_eq_false', Bool.and_eq_true, decide_eq_true_eq, beq_iff_eq, List.all_eq_true] at hb
  exact ⟨hb.2.1.1, hb.2.1.2, fun v hv => by simpa using hb.2.2 v hv⟩
theorem qst_parts {columns : Int} {q : Qst} (h : qstB columns q = true) : (q.col = -1 ∧ q.clip = 1 ∨ (¬ q.col = -1 ∧ 0 ≤ q.col ∧ q.col < columns ∧ 1 ≤ q.clip ∧ q.clip ≤ 1000000)) ∧ (1 ≤ q.step ∧ q.step ≤ 1000000) ∧ ∀ x ∈ q.whs, 0 ≤ x.col ∧ x.col < columns := by
  unfold qstB whrB inB at h
  simp only [Bool.and_eq_true, decide_eq_true_eq, List.all_eq_true] at h
  refine ⟨?_, h.1.1.2, fun x hx => by have := (h.2 x hx).1; omega⟩
  have h1 := h.1.1.1
  split at h1
  · rename_i hc
    exact .inl ⟨hc, by simpa using h1⟩
  · rename_i hc
    simp only [Bool.and_eq_true, decide_eq_true_eq] at h1
    exact .inr ⟨hc, by omega⟩
theorem cnt_in {columns : Int} {zs : List Sbj} {q : Qst} (ht : tableB columns zs = true) (hq : qstB columns q = true) {s : Sbj} (hs : s ∈ zs) : 0 ≤ cntN s q ∧ cntN s q ≤ 1000000 := by
  obtain ⟨h1, _, _⟩ := qst_parts hq
  obtain ⟨_, hl, hv⟩ := (table_mem ht).2 s hs
  unfold cntN
  rcases h1 with ⟨e, _⟩ | ⟨e, c1, c2, c3, c4⟩
  · rw [if_pos e]; omega
  · rw [if_neg e]
    have hk : q.col.toNat < s.vals.length := by omega
    have := hv _ (mem_get hk)
    omega
theorem raw_in {columns : Int} {zs : List Sbj} {q : Qst} (ht : tableB columns zs = true) (hq : qstB columns q = true) : ∀ k, k ≤ zs.length → 0 ≤ rawN (zs.take k) q ∧ rawN (zs.take k) q ≤ 1000000 * k := by
  intro k
  induction k with
  | zero => intro _; simp [rawN]
  | succ k ih =>
    intro hk
    have h0 := ih (by omega)
    have hk' : k < zs.length := by omega
    rw [List.take_succ_eq_append_getElem hk', rawN_snoc]
    have hc := cnt_in ht hq (s := zs[k]) (List.getElem_mem hk')
    split <;> omega

set_option maxRecDepth 100000 in
set_option maxHeartbeats 4000000 in
theorem checked10_any (columns : Int) (A : Option Addr) (n c : Nat) (zs : List Sbj) (q : Qst) (w : World) (hi : SbjsIn w A n zs) (hq : QstIn w q) :
    Calls Try.prog 42 #[.int .i64 columns, .slice A n c, q.val] w fun e w' => e = .returned (.int .i64 (askN10 columns zs q)) ∧ Gr w w' := by
  have HC := hid (fun W (k : Gr w W) => check10_any columns A n c zs W (hi.gr k))
  have HR := hid (fun W (k : Gr w W) (h : tableB columns zs = true) => right10_any columns q W (hq.gr k) (table_cols h))
  obtain ⟨R, hR⟩ : ∃ R, askN10 columns zs q = R := ⟨_, rfl⟩
  rw [hR]
  unfold askN10 at hR
  unfold tableN at HC
  generalize tableB columns zs = tb at *
  generalize qstB columns q = qb at *
  have HF := hid hR.symm
  clear hi hq hR
  obtain ⟨qa, qn, qc, whs, col, clip, step⟩ := q
  unfold Qst.val at *
  dsimp only at *
  cases tb
  case' true =>
    have HR2 := hid (fun W k => HR.out W k rfl)
    cases qb
  all_goals
    simp only [Bool.false_eq_true, if_false, if_true] at HC HF
    go_enter Try.func42, Try.ntmps42
    go_wp2_with (first
      | (go_at_call 20; (with_reducible refine (HC.out _ ?_).mono ?_); rotate_right; rintro e w1 ⟨rfl, hbw1⟩; obtain ⟨hcw1, hfw1, hzw1⟩ := hbw1.rules; (try simp at hzw1); have hzw1_0 : w.heap.size < w1.heap.size := (by omega); have hyw1_0 : w.heap.size ≤ w1.heap.size := (by omega))
      | (go_at_call 68; (with_reducible refine (HR2.out _ ?_).mono ?_); rotate_right; rintro e w2 ⟨rfl, hbw2⟩; obtain ⟨hcw2, hfw2, hzw2⟩ := hbw2.rules; (try simp at hzw2)))
    all_goals first
      | ((repeat (first | with_reducible exact Gr.refl _ | with_reducible refine Gr.trans ?_ hbw1 | with_reducible refine Gr.alloc ?_ _ | with_reducible refine Gr.setCell ?_ (by simp) _ | with_reducible refine Gr.setCell ?_ (by simp; omega) _ | with_reducible refine Gr.drew ?_ | with_reducible refine Gr.drewN ?_ _)); done)
      | (go_ret
         exact ⟨by rw [HF.out]; rfl, by (repeat (first | with_reducible exact Gr.refl _ | with_reducible refine Gr.trans ?_ hbw2 | with_reducible refine Gr.trans ?_ hbw1 | with_reducible refine Gr.alloc ?_ _ | with_reducible refine Gr.setCell ?_ (by simp) _ | with_reducible refine Gr.setCell ?_ (by simp; omega) _ | with_reducible refine Gr.drew ?_ | with_reducible refine Gr.drewN ?_ _))⟩)
end Go.Proofs.Ytimhkkijoelmhaa
