/- ready of the inquiry laws: whether a gate and inquiries are valid, and not great, and so are a file and a day. For every gate and inquiries. -/
import Derived.Test.YtliehlefpodhaaaDoorQGate
import Derived.Test.YtliehlefpodhaaaDoorQRefInqs
namespace Go.Proofs.YtliehlefpodhaaaDoor
open Go.RowKit

def readyB (ln sn n : Nat) (ls : List Lic) (ss : List Sig) (zs : List Inq) (file day : Int) : Bool :=
  !greatB ln sn n && (gateN ls ss == 0) && inqsB zs && decide (0 ≤ file) && decide (file ≤ 999999) && decide (0 ≤ day) && decide (day ≤ 100000)
structure ReadyF (ln sn n : Nat) (ls : List Lic) (ss : List Sig) (zs : List Inq) (file day : Int) : Prop where
  great : ln ≤ 60 ∧ sn ≤ 60 ∧ n ≤ 60
  gate : gateN ls ss = 0
  inqs : inqsB zs = true
  file : 0 ≤ file ∧ file ≤ 999999
  day : 0 ≤ day ∧ day ≤ 100000
theorem readyB_true {ln sn n : Nat} {ls : List Lic} {ss : List Sig} {zs : List Inq} {file day : Int} (h : readyB ln sn n ls ss zs file day = true) : ReadyF ln sn n ls ss zs file day := by
  unfold readyB at h
  simp only [Bool.and_eq_true, Bool.not_eq_true', decide_eq_true_eq, beq_iff_eq] at h
  obtain ⟨⟨⟨⟨⟨⟨h1, h2⟩, h3⟩, h4⟩, h5⟩, h6⟩, h7⟩ := h
  exact ⟨greatB_false h1, h2, h3, ⟨h4, h5⟩, ⟨h6, h7⟩⟩
theorem ReadyF.sigs {ln sn n : Nat} {ls : List Lic} {ss : List Sig} {zs : List Inq} {file day : Int} (h : ReadyF ln sn n ls ss zs file day) : sigsB ss = true := by
  have := h.gate
  unfold gateN at this
  split at this
  · split at this
    · assumption
    · omega
  · omega

set_option maxRecDepth 100000 in
set_option maxHeartbeats 4000000 in
theorem ready_any (g : Gat) (ls : List Lic) (ss : List Sig) (A : Option Addr) (n c : Nat) (zs : List Inq) (file day : Int) (w : World) (hg : GatIn w g ls ss) (hi : InqsIn w A n zs) :
    Calls Tryd.prog 34 #[g.val, .slice A n c, .int .i64 file, .int .i64 day] w fun e w' => e = .returned (.bool (readyB g.ln g.sn n ls ss zs file day)) ∧ Gr w w' := by
  have HGr := hid (fun W => great9_any g A n c W)
  have HC := hid (fun W (k : Gr w W) => refGateCheck_any g ls ss W (hg.gr k))
  have HI := hid (fun W (k : Gr w W) => refInquiries_any A n c zs W (hi.gr k))
  clear hg hi
  unfold readyB
  generalize greatB g.ln g.sn n = b0 at *
  generalize gateN ls ss = gn at *
  generalize inqsB zs = b2 at *
  obtain ⟨la, ln, lc, sa, sn, sc⟩ := g
  unfold Gat.val at *
  dsimp only at *
  obtain ⟨b1, h1⟩ : ∃ b, (gn == 0) = b := ⟨_, rfl⟩
  obtain ⟨b3, h3⟩ : ∃ b, decide (0 ≤ file) = b := ⟨_, rfl⟩
  obtain ⟨b4, h4⟩ : ∃ b, decide (file ≤ 999999) = b := ⟨_, rfl⟩
  obtain ⟨b5, h5⟩ : ∃ b, decide (0 ≤ day) = b := ⟨_, rfl⟩
  obtain ⟨b6, h6⟩ : ∃ b, decide (day ≤ 100000) = b := ⟨_, rfl⟩
  rw [h1, h3, h4, h5, h6]
  cases b0
  case' false => cases b1
  case' false.true => cases b2
  case' false.true.true => cases b3
  case' false.true.true.true => cases b4
  case' false.true.true.true.true => cases b5
  all_goals
    go_enter Tryd.func34, Tryd.ntmps34
    go_wp2_with (first
      | (go_at_call 12; (with_reducible refine (HGr.out _).mono ?_); rotate_right; rintro e w1 ⟨rfl, hbw1⟩; obtain ⟨hcw1, hfw1, hzw1⟩ := hbw1.rules; (try simp at hzw1); have hzw1_0 : w.heap.size < w1.heap.size := (by omega); have hyw1_0 : w.heap.size ≤ w1.heap.size := (by omega))
      | (go_at_call 27; (with_reducible refine (HC.out _ ?_).mono ?_); rotate_right; rintro e w2 ⟨rfl, hbw2⟩; obtain ⟨hcw2, hfw2, hzw2⟩ := hbw2.rules; (try simp at hzw2); have hzw2_0 : w.heap.size < w2.heap.size := (by omega); have hyw2_0 : w.heap.size ≤ w2.heap.size := (by omega))
      | (go_at_call 38; (with_reducible refine (HI.out _ ?_).mono ?_); rotate_right; rintro e w3 ⟨rfl, hbw3⟩; obtain ⟨hcw3, hfw3, hzw3⟩ := hbw3.rules; (try simp at hzw3); have hzw3_0 : w.heap.size < w3.heap.size := (by omega); have hyw3_0 : w.heap.size ≤ w3.heap.size := (by omega)))
    all_goals first
      | (go_ret
         exact ⟨by first | rfl | simp_all, by (repeat (first | with_reducible exact Gr.refl _ | with_reducible refine Gr.trans ?_ hbw3 | with_reducible refine Gr.trans ?_ hbw2 | with_reducible refine Gr.trans ?_ hbw1 | with_reducible refine Gr.alloc ?_ _ | with_reducible refine Gr.setCell ?_ (by simp) _ | with_reducible refine Gr.setCell ?_ (by simp; omega) _ | with_reducible refine Gr.drew ?_ | with_reducible refine Gr.drewN ?_ _))⟩)
      | ((repeat (first | with_reducible exact Gr.refl _ | with_reducible refine Gr.trans ?_ hbw2 | with_reducible refine Gr.trans ?_ hbw1 | with_reducible refine Gr.alloc ?_ _ | with_reducible refine Gr.setCell ?_ (by simp) _ | with_reducible refine Gr.setCell ?_ (by simp; omega) _ | with_reducible refine Gr.drew ?_ | with_reducible refine Gr.drewN ?_ _)); done)
end Go.Proofs.YtliehlefpodhaaaDoor
