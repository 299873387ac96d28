/- The rules of the package inquiry: purpose, freeze and alert. For every gate and inquiry. -/
import Derived.Test.YtliehlefpodhaaaDoorOState
import Derived.Test.YtliehlefpodhaaaDoorOGate
namespace Go.Proofs.YtliehlefpodhaaaDoor
open Go.RowKit Go.Shelf Go.Sort

def Inq.at (q : Inq) (W : World) (b : Nat) : Prop := W.cell? ⟨b, 0, none⟩ = some (.int .i64 q.id) ∧ W.cell? ⟨b, 1, none⟩ = some (.int .i64 q.day) ∧ W.cell? ⟨b, 2, none⟩ = some (.int .i64 q.who) ∧ W.cell? ⟨b, 3, none⟩ = some (.int .i64 q.file) ∧ W.cell? ⟨b, 4, none⟩ = some (.int .u8 q.purpose) ∧ W.cell? ⟨b, 5, none⟩ = some (.bool q.called)

set_option maxRecDepth 100000 in
set_option maxHeartbeats 2000000 in
theorem rule11_any (x : Lic) (q : Inq) (b : Nat) (w : World) (hq : q.at w b) :
    Calls Tryd.prog 125 #[x.val, .pointer (some ⟨b, 0, none⟩)] w fun e w' => e = .returned (.bool (x.who == q.who && x.purpose == q.purpose && inB x.lo x.hi q.day)) ∧ Gr w w' := by
  have HQ := hid hq
  obtain ⟨c0, c1, c2, c3, c4, c5⟩ := hq
  obtain ⟨q0, q1, q2, q3, q4, q5⟩ := q
  obtain ⟨x0, x1, x2, x3⟩ := x
  unfold Lic.val
  dsimp only at *
  obtain ⟨r, hr⟩ : ∃ r, inB x2 x3 q1 = r := ⟨_, rfl⟩
  rw [hr]
  have HR := hid hr
  clear hr
  have hb := block_lt_of_cell c0
  obtain ⟨e1, h1⟩ : ∃ e, (x0 == q2) = e := ⟨_, rfl⟩
  obtain ⟨e2, h2⟩ : ∃ e, (x1 == q4) = e := ⟨_, rfl⟩
  rw [h1, h2]
  cases e1
  case' true => cases e2
  all_goals
    go_enter Tryd.func125, Tryd.ntmps125
    go_wp2_with (first
      | (go_at_call 42; (with_reducible refine (in_one x2 x3 q1 _ HR.out _ _ _ ?_ ?_).mono ?_); rotate_right; rintro e w1 ⟨rfl, hbw1⟩; obtain ⟨hcw1, hfw1, hzw1⟩ := hbw1.rules; (try simp at hzw1); have hzw1_0 : w.heap.size < w1.heap.size := (by omega); have hyw1_0 : w.heap.size ≤ w1.heap.size := (by omega)))
    all_goals first
      | (go_ret
         exact ⟨by rfl, by (repeat (first | with_reducible exact Gr.refl _ | with_reducible refine Gr.trans ?_ hbw1 | with_reducible refine Gr.alloc ?_ _ | with_reducible refine Gr.setCell ?_ (by simp) _ | with_reducible refine Gr.setCell ?_ (by simp; omega) _ | with_reducible refine Gr.drew ?_ | with_reducible refine Gr.drewN ?_ _))⟩)
      | (simp; done)
      | (rw [cell_top _ _ _ _ _ (by simp)]; rfl)

theorem licensedB_neg (ls : List Lic) (q : Inq) (h : ¬ q.purpose = 5) : licensedB ls q = ls.any fun x => x.who == q.who && x.purpose == q.purpose && inB x.lo x.hi q.day := by
  unfold licensedB; rw [if_neg h]

set_option maxRecDepth 100000 in
set_option maxHeartbeats 2000000 in
theorem rule1_any (g : Gat) (ls : List Lic) (ss : List Sig) (q : Inq) (w : World) (hg : GatIn w g ls ss) :
    Calls Tryd.prog 124 #[g.val, q.val] w fun e w' => e = .returned (.bool (!licensedB ls q)) ∧ Gr w w' := by
  have hl := hg.lics
  clear hg
  have HC := hid (fun W b (k : Gr w W) (hq : q.at W b) => containsFunc_lic 125 #[.pointer (some ⟨b, 0, none⟩)] (enters_of Tryd.func125 (by kernel_rfl) rfl) (fun x => x.who == q.who && x.purpose == q.purpose && inB x.lo x.hi q.day) g.la g.ln g.lc ls W
    (fun W' x _ k' => rule11_any x q b W' ⟨row_cell hq.1 k', row_cell hq.2.1 k', row_cell hq.2.2.1 k', row_cell hq.2.2.2.1 k', row_cell hq.2.2.2.2.1 k', row_cell hq.2.2.2.2.2 k'⟩) (hl.rd.gr k) hl.big)
  by_cases h5 : q.purpose = 5
  · have HN : Hid (licensedB ls q = (q.who == q.file)) := by show licensedB ls q = _; unfold licensedB; rw [if_pos h5]
    clear HC hl
    obtain ⟨la, ln, lc, sa, sn, sc⟩ := g
    obtain ⟨q0, q1, q2, q3, q4, q5⟩ := q
    unfold Gat.val Inq.val
    dsimp only at *
    subst h5
    go_enter Tryd.func124, Tryd.ntmps124
    go_wp2
    go_ret
    exact ⟨by rw [HN.out]; rfl, by (repeat (first | with_reducible exact Gr.refl _ | with_reducible refine Gr.alloc ?_ _ | with_reducible refine Gr.setCell ?_ (by simp) _ | with_reducible refine Gr.setCell ?_ (by simp; omega) _ | with_reducible refine Gr.drew ?_ | with_reducible refine Gr.drewN ?_ _))⟩
  · have HN := hid (licensedB_neg ls q h5)
    generalize (ls.any fun x => x.who == q.who && x.purpose == q.purpose && inB x.lo x.hi q.day) = r at HC HN
    clear hl
    obtain ⟨la, ln, lc, sa, sn, sc⟩ := g
    obtain ⟨q0, q1, q2, q3, q4, q5⟩ := q
    have h5' : (q4 == 5) = false := by simpa using h5
    unfold Gat.val Inq.val
    dsimp only at *
    go_enter Tryd.func124, Tryd.ntmps124
    go_wp2_with (first
      | (go_at_call 65; (with_reducible refine (HC.out _ _ ?_ ?_).mono ?_); rotate_right; rintro e w1 ⟨rfl, hbw1⟩; obtain ⟨hcw1, hfw1, hzw1⟩ := hbw1.rules; (try simp at hzw1); have hzw1_0 : w.heap.size < w1.heap.size := (by omega); have hyw1_0 : w.heap.size ≤ w1.heap.size := (by omega)))
    all_goals first
      | (go_ret
         exact ⟨by rw [HN.out]; rfl, by (repeat (first | with_reducible exact Gr.refl _ | with_reducible refine Gr.trans ?_ hbw1 | with_reducible refine Gr.alloc ?_ _ | with_reducible refine Gr.setCell ?_ (by simp) _ | with_reducible refine Gr.setCell ?_ (by simp; omega) _ | with_reducible refine Gr.drew ?_ | with_reducible refine Gr.drewN ?_ _))⟩)
      | ((repeat (first | with_reducible exact Gr.refl _ | with_reducible refine Gr.alloc ?_ _ | with_reducible refine Gr.setCell ?_ (by simp) _ | with_reducible refine Gr.setCell ?_ (by simp; omega) _ | with_reducible refine Gr.drew ?_ | with_reducible refine Gr.drewN ?_ _)); done)
      | (unfold Inq.at; dsimp only; refine ⟨?_, ?_, ?_, ?_, ?_, ?_⟩ <;> first | rfl | (rw [cell_top _ _ _ _ _ (by simp)]; rfl))

set_option maxRecDepth 100000 in
set_option maxHeartbeats 2000000 in
theorem rule2_any (g : Gat) (ls : List Lic) (ss : List Sig) (q : Inq) (w : World) (hg : GatIn w g ls ss) (hA : ∀ b o, g.sa = some ⟨b, o, none⟩ → b < w.heap.size) (hn : g.sn < 1000) :
    Calls Tryd.prog 126 #[g.val, q.val] w fun e w' => e = .returned (.bool (frozenB ss q.file q.day && (q.purpose == 1 || q.purpose == 3 || q.purpose == 6))) ∧ Gr w w' := by
  have HS := hid (fun W (k : Gr w W) => state_any g.sa g.sn g.sc ss q.file q.day W (hg.sigs.gr k) (fun b o e => Nat.lt_of_lt_of_le (hA b o e) k.size) hn)
  have HC := hid (fun W B c (h : Rd W 1 (some ⟨B, 0, none⟩) 3 ([1, 3, 6].map (Value.int .u8))) => contains_u8 q.purpose (some ⟨B, 0, none⟩) 3 c [1, 3, 6] W h (by omega))
  clear hg hA hn
  obtain ⟨la, ln, lc, sa, sn, sc⟩ := g
  obtain ⟨q0, q1, q2, q3, q4, q5⟩ := q
  unfold Gat.val Inq.val
  dsimp only at *
  have HE : Hid (([1, 3, 6].any fun y => q4 == y) = (q4 == 1 || q4 == 3 || q4 == 6)) := by
    show ([1, 3, 6].any fun y => q4 == y) = _
    simp [Bool.or_assoc]
  rw [← HE.out]
  generalize ([1, 3, 6].any fun y => q4 == y) = r at HC ⊢
  generalize frozenB ss q3 q1 = fz at HS ⊢
  generalize alertB ss q3 q1 = al at HS
  cases fz
  all_goals
    go_enter Tryd.func126, Tryd.ntmps126
    go_wp2_with (first
      | (go_at_call 62; (with_reducible refine (HS.out _ ?_).mono ?_); rotate_right; rintro e w1 ⟨rfl, hbw1⟩; obtain ⟨hcw1, hfw1, hzw1⟩ := hbw1.rules; (try simp at hzw1); have hzw1_0 : w.heap.size < w1.heap.size := (by omega); have hyw1_0 : w.heap.size ≤ w1.heap.size := (by omega); have hzw1_1 : w.heap.size + 1 < w1.heap.size := (by omega); have hyw1_1 : w.heap.size + 1 ≤ w1.heap.size := (by omega))
      | (go_at_call 96; (with_reducible refine (HC.out _ _ _ ?_).mono ?_); rotate_right; rintro e w' ⟨rfl, rfl⟩))
    all_goals first
      | (go_ret
         exact ⟨by rfl, by (repeat (first | with_reducible exact Gr.refl _ | with_reducible refine Gr.trans ?_ hbw1 | with_reducible refine Gr.alloc ?_ _ | with_reducible refine Gr.setCell ?_ (by simp) _ | with_reducible refine Gr.setCell ?_ (by simp; omega) _ | with_reducible refine Gr.drew ?_ | with_reducible refine Gr.drewN ?_ _))⟩)
      | ((repeat (first | with_reducible exact Gr.refl _ | with_reducible refine Gr.alloc ?_ _ | with_reducible refine Gr.setCell ?_ (by simp) _ | with_reducible refine Gr.setCell ?_ (by simp; omega) _ | with_reducible refine Gr.drew ?_ | with_reducible refine Gr.drewN ?_ _)); done)
      | exact Rd.three (by simp) (by rw [cell_top _ _ _ _ _ (by simp)]; rfl) (by rw [cell_top _ _ _ _ _ (by simp)]; rfl) (by rw [cell_top _ _ _ _ _ (by simp)]; rfl)

set_option maxRecDepth 100000 in
set_option maxHeartbeats 2000000 in
theorem rule3_any (g : Gat) (ls : List Lic) (ss : List Sig) (q : Inq) (w : World) (hg : GatIn w g ls ss) (hA : ∀ b o, g.sa = some ⟨b, o, none⟩ → b < w.heap.size) (hn : g.sn < 1000) :
    Calls Tryd.prog 127 #[g.val, q.val] w fun e w' => e = .returned (.bool (alertB ss q.file q.day && (q.purpose == 6 || (q.purpose == 1 && !q.called)))) ∧ Gr w w' := by
  have HS := hid (fun W (k : Gr w W) => state_any g.sa g.sn g.sc ss q.file q.day W (hg.sigs.gr k) (fun b o e => Nat.lt_of_lt_of_le (hA b o e) k.size) hn)
  clear hg hA hn
  obtain ⟨la, ln, lc, sa, sn, sc⟩ := g
  obtain ⟨q0, q1, q2, q3, q4, q5⟩ := q
  unfold Gat.val Inq.val
  dsimp only at *
  generalize frozenB ss q3 q1 = fz at HS
  generalize alertB ss q3 q1 = al at HS ⊢
  obtain ⟨e6, h6⟩ : ∃ e, (q4 == 6) = e := ⟨_, rfl⟩
  obtain ⟨e1, h1⟩ : ∃ e, (q4 == 1) = e := ⟨_, rfl⟩
  rw [h6, h1]
  cases al
  case' true => cases e6
  case' true.false => cases e1
  all_goals
    go_enter Tryd.func127, Tryd.ntmps127
    go_wp2_with (first
      | (go_at_call 62; (with_reducible refine (HS.out _ ?_).mono ?_); rotate_right; rintro e w1 ⟨rfl, hbw1⟩; obtain ⟨hcw1, hfw1, hzw1⟩ := hbw1.rules; (try simp at hzw1); have hzw1_0 : w.heap.size < w1.heap.size := (by omega); have hyw1_0 : w.heap.size ≤ w1.heap.size := (by omega); have hzw1_1 : w.heap.size + 1 < w1.heap.size := (by omega); have hyw1_1 : w.heap.size + 1 ≤ w1.heap.size := (by omega)))
    all_goals first
      | (go_ret
         exact ⟨by rfl, by (repeat (first | with_reducible exact Gr.refl _ | with_reducible refine Gr.trans ?_ hbw1 | with_reducible refine Gr.alloc ?_ _ | with_reducible refine Gr.setCell ?_ (by simp) _ | with_reducible refine Gr.setCell ?_ (by simp; omega) _ | with_reducible refine Gr.drew ?_ | with_reducible refine Gr.drewN ?_ _))⟩)
      | ((repeat (first | with_reducible exact Gr.refl _ | with_reducible refine Gr.alloc ?_ _ | with_reducible refine Gr.setCell ?_ (by simp) _ | with_reducible refine Gr.setCell ?_ (by simp; omega) _ | with_reducible refine Gr.drew ?_ | with_reducible refine Gr.drewN ?_ _)); done)
end Go.Proofs.YtliehlefpodhaaaDoor
