/- Check of the package inquiry: the error of a gate. For every gate. SameSignals, SameTraces and Same of the reference of layer 9: at lists that hold the same they are true. For all such lists. (Printed by gen_same9.py.) Great of the reference of layer 9: whether a gate and inquiries are more than the statements consider. For every gate. Check of the reference of layer 9: the error of a gate. For every gate. -/
import Derived.BigQuiet
import Derived.Deep.LoopGhost
import Derived.Deep.QuietTactic
import Derived.Test.YtliehlefpodhaaaDoorOGs
import Derived.Test.YtliehlefpodhaaaDoorORegGr
import Derived.Test.YtliehlefpodhaaaDoorOOrder
import Derived.Test.YtliehlefpodhaaaDoorORefLater
import Derived.Test.YtliehlefpodhaaaDoorORight
namespace Go.Proofs.YtliehlefpodhaaaDoor
open Go.RowKit

/-- A gate: where its licences and its signals lie. -/
structure Gat where
  la : Option Addr
  ln : Nat
  lc : Nat
  sa : Option Addr
  sn : Nat
  sc : Nat
def Gat.val (g : Gat) : Value := .agg #[.slice g.la g.ln g.lc, .slice g.sa g.sn g.sc]
/-- What a gate holds. -/
structure GatIn (w : World) (g : Gat) (ls : List Lic) (ss : List Sig) : Prop where
  lics : LicsIn w g.la g.ln ls
  sigs : SigsIn w g.sa g.sn ss
theorem GatIn.gr {w w' : World} {g : Gat} {ls : List Lic} {ss : List Sig} (h : GatIn w g ls ss) (k : Gr w w') : GatIn w' g ls ss := ⟨h.lics.gr k, h.sigs.gr k⟩
theorem licsB_any (ls : List Lic) : licsB ls = (decide (ls.length ≤ 40) && !ls.any fun x => !licB x) := by
  unfold licsB
  rw [List.all_eq_not_any_not]

set_option maxRecDepth 100000 in
set_option maxHeartbeats 2000000 in
theorem gateCheck_any (g : Gat) (ls : List Lic) (ss : List Sig) (w : World) (hg : GatIn w g ls ss) (hG : LaidL w) :
    Calls Tryd.prog 26 #[g.val] w fun e w' => e = .returned (.int .i64 (gateN ls ss)) ∧ Gr w w' := by
  obtain ⟨la, ln, lc, sa, sn, sc⟩ := g
  unfold Gat.val
  have hl := hg.lics
  have hs := hg.sigs
  dsimp only at hl hs ⊢
  clear hg
  have hlen := hl.rd.lic_len
  have hbig := hl.big
  have HC := hid (fun W (k : Gr w W) => containsFunc_lic 64 #[] (enters_of Tryd.func64 (by kernel_rfl) rfl) (fun x => !licB x) la ln lc ls W
    (fun W' x hx _ => check1_any x W' (hl.u8 x hx)) (hl.rd.gr k) hbig)
  have HR := hid (fun W (k : Gr w W) => right_any sa sn sc ss W (hs.gr k) (hG.gr k))
  have hbig' : (ln : Int) ≤ 9223372036854775807 := by omega
  have HN : Hid (gateN ls ss = if (decide (ln ≤ 40) && !ls.any fun x => !licB x) then (if sigsB ss then 0 else 91) else 90) := by
    show gateN ls ss = _
    unfold gateN
    rw [licsB_any, hlen]
  generalize sigsB ss = b2 at HR HN
  generalize (ls.any fun x => !licB x) = b1 at HC HN
  clear hl hs hG hlen hbig
  by_cases h40 : ln ≤ 40
  · have h40' : (ln : Int) ≤ 40 := by omega
    rw [show decide (ln ≤ 40) = true by simpa using h40] at HN
    clear h40
    cases b1
    case' false => cases b2
    all_goals
      go_enter Tryd.func26, Tryd.ntmps26
      go_wp2_with (first
        | (go_at_call 65; (with_reducible refine (HC.out _ ?_).mono ?_); rotate_right; rintro e w1 ⟨rfl, hbw1⟩; obtain ⟨hcw1, hfw1, hzw1⟩ := hbw1.rules; (try simp at hzw1); have hzw1_0 : w.heap.size < w1.heap.size := (by omega); have hyw1_0 : w.heap.size ≤ w1.heap.size := (by omega))
        | (go_at_call 53; (with_reducible refine (HR.out _ ?_).mono ?_); rotate_right; rintro e w2 ⟨rfl, hbw2⟩; obtain ⟨hcw2, hfw2, hzw2⟩ := hbw2.rules; (try simp at hzw2); have hzw2_0 : w.heap.size < w2.heap.size := (by omega); have hyw2_0 : w.heap.size ≤ w2.heap.size := (by omega)))
      all_goals first
        | (go_ret
           refine ⟨by rw [HN.out]; rfl, ?_⟩
           (repeat (first | with_reducible exact Gr.refl _ | with_reducible refine Gr.trans ?_ hbw2 | with_reducible refine Gr.trans ?_ hbw1 | with_reducible refine Gr.alloc ?_ _ | with_reducible refine Gr.setCell ?_ (by simp) _ | with_reducible refine Gr.setCell ?_ (by simp; omega) _ | with_reducible refine Gr.drew ?_ | with_reducible refine Gr.drewN ?_ _)))
        | ((repeat (first | with_reducible exact Gr.refl _ | with_reducible refine Gr.trans ?_ hbw2 | with_reducible refine Gr.trans ?_ hbw1 | with_reducible refine Gr.alloc ?_ _ | with_reducible refine Gr.setCell ?_ (by simp) _ | with_reducible refine Gr.setCell ?_ (by simp; omega) _ | with_reducible refine Gr.drew ?_ | with_reducible refine Gr.drewN ?_ _)); done)
  · have h40' : (40 : Int) < (ln : Int) := by omega
    rw [show decide (ln ≤ 40) = false by simpa using h40] at HN
    clear h40
    go_enter Tryd.func26, Tryd.ntmps26
    go_wp2
    go_ret
    refine ⟨by rw [HN.out]; rfl, ?_⟩
    (repeat (first | with_reducible exact Gr.refl _ | with_reducible refine Gr.alloc ?_ _ | with_reducible refine Gr.setCell ?_ (by simp) _ | with_reducible refine Gr.setCell ?_ (by simp; omega) _ | with_reducible refine Gr.drew ?_ | with_reducible refine Gr.drewN ?_ _))
end Go.Proofs.YtliehlefpodhaaaDoor
namespace Go.Proofs.YtliehlefpodhaaaDoor
open Go.RowKit

set_option maxRecDepth 100000 in
set_option maxHeartbeats 4000000 in
theorem sameSignals_any (A : Option Addr) (n c : Nat) (A' : Option Addr) (c' : Nat) (zs : List Sig) (w : World) (h : Rd w 6 A n (zs.flatMap Sig.cells)) (h' : Rd w 6 A' n (zs.flatMap Sig.cells)) (hbig : n ≤ 9223372036854775807) :
    Calls Tryd.prog 28 #[.slice A n c, .slice A' n c'] w fun e w' => e = .returned (.bool true) ∧ Gr w w' := by
  have HR := hid h
  have HR' := hid h'
  have hnz : (n : Int) ≤ 9223372036854775807 := by omega
  clear h h' hbig
  go_enter Tryd.func28, Tryd.ntmps28
  go_wp2
  go_loopg [5] n (fun gg i wr => ∃ k : Nat, k ≤ n ∧ n - k ≤ gg ∧ i = .int .i64 k ∧ Gr w wr)
  case atStart => exact ⟨0, Nat.zero_le _, by omega, rfl, Gr.refl w⟩
  case round =>
    obtain ⟨k, hk, hg, rfl, BW⟩ := hrel
    by_cases hlt : k < n
    · obtain ⟨hk1, b, off, rfl, hb, c0, c1, c2, c3, c4, c5⟩ := (HR.out.gr BW).sig hlt
      obtain ⟨hk2, b', off', rfl, hb', d0, d1, d2, d3, d4, d5⟩ := (HR'.out.gr BW).sig hlt
      clear hk1 hk2
      generalize zs[k]! = x at c0 d0 c1 d1 c2 d2 c3 d3 c4 d4 c5 d5
      obtain ⟨x0, x1, x2, x3, x4, x5⟩ := x
      dsimp only at c0 d0 c1 d1 c2 d2 c3 d3 c4 d4 c5 d5
      have hkn : (k : Int) < n := by omega
      have hk0 : (0 : Int) ≤ k := by omega
      go_wp2
      go_quiet (fail)
      go_wp2
      go_roundg (n - (k + 1))
      case measure => omega
      case rel => exact ⟨k + 1, by omega, by omega, by go_num, BW.drewN _⟩
    · have hkn : ¬ (k : Int) < n := by omega
      go_wp2
      go_ret
      exact ⟨rfl, BW⟩

set_option maxRecDepth 100000 in
set_option maxHeartbeats 4000000 in
theorem sameTraces_any (A : Option Addr) (n c : Nat) (A' : Option Addr) (c' : Nat) (zs : List Trc) (w : World) (h : Rd w 5 A n (zs.flatMap Trc.cells)) (h' : Rd w 5 A' n (zs.flatMap Trc.cells)) (hbig : n ≤ 9223372036854775807) :
    Calls Tryd.prog 20 #[.slice A n c, .slice A' n c'] w fun e w' => e = .returned (.bool true) ∧ Gr w w' := by
  have HR := hid h
  have HR' := hid h'
  have hnz : (n : Int) ≤ 9223372036854775807 := by omega
  clear h h' hbig
  go_enter Tryd.func20, Tryd.ntmps20
  go_wp2
  go_loopg [5] n (fun gg i wr => ∃ k : Nat, k ≤ n ∧ n - k ≤ gg ∧ i = .int .i64 k ∧ Gr w wr)
  case atStart => exact ⟨0, Nat.zero_le _, by omega, rfl, Gr.refl w⟩
  case round =>
    obtain ⟨k, hk, hg, rfl, BW⟩ := hrel
    by_cases hlt : k < n
    · obtain ⟨hk1, b, off, rfl, hb, c0, c1, c2, c3, c4⟩ := (HR.out.gr BW).trc hlt
      obtain ⟨hk2, b', off', rfl, hb', d0, d1, d2, d3, d4⟩ := (HR'.out.gr BW).trc hlt
      clear hk1 hk2
      generalize zs[k]! = x at c0 d0 c1 d1 c2 d2 c3 d3 c4 d4
      obtain ⟨x0, x1, x2, x3, x4⟩ := x
      dsimp only at c0 d0 c1 d1 c2 d2 c3 d3 c4 d4
      have hkn : (k : Int) < n := by omega
      have hk0 : (0 : Int) ≤ k := by omega
      go_wp2
      go_quiet (fail)
      go_wp2
      go_roundg (n - (k + 1))
      case measure => omega
      case rel => exact ⟨k + 1, by omega, by omega, by go_num, BW.drewN _⟩
    · have hkn : ¬ (k : Int) < n := by omega
      go_wp2
      go_ret
      exact ⟨rfl, BW⟩

set_option maxRecDepth 100000 in
set_option maxHeartbeats 4000000 in
theorem same9_any (g g' : Gat) (ls : List Lic) (ss : List Sig) (w : World) (hg : GatIn w g ls ss) (hg' : GatIn w g' ls ss) (e1 : g'.ln = g.ln) (e2 : g'.sn = g.sn) (hb1 : g.ln ≤ 9223372036854775807) (hb2 : g.sn ≤ 9223372036854775807) :
    Calls Tryd.prog 21 #[g.val, g'.val] w fun e w' => e = .returned (.bool true) ∧ Gr w w' := by
  obtain ⟨la, ln, lc, sa, sn, sc⟩ := g
  obtain ⟨la', ln', lc', sa', sn', sc'⟩ := g'
  dsimp only at e1 e2 hb1 hb2
  subst e1
  subst e2
  have HR : Hid (Rd w 4 la ln' (ls.flatMap Lic.cells)) := hg.lics.rd
  have HR' : Hid (Rd w 4 la' ln' (ls.flatMap Lic.cells)) := hg'.lics.rd
  have HS := hid (fun W (k : Gr w W) => sameSignals_any sa sn' sc sa' sc' ss W ((hg.gr k).sigs.rd) ((hg'.gr k).sigs.rd) hb2)
  have hnz : (ln' : Int) ≤ 9223372036854775807 := by omega
  clear hg hg' hb1 hb2
  unfold Gat.val
  dsimp only
  have RW := hid (rows2 w (.cells #[.slice la ln' lc, .slice sa sn' sc] 25) (.cells #[.slice la' ln' lc', .slice sa' sn' sc'] 25))
  have GW : Hid (Gr w ((w.alloc (.cells #[.slice la ln' lc, .slice sa sn' sc] 25)).alloc (.cells #[.slice la' ln' lc', .slice sa' sn' sc'] 25))) := ((Gr.refl w).alloc _).alloc _
  go_enter Tryd.func21, Tryd.ntmps21
  go_wp2
  generalize (w.alloc (.cells #[.slice la ln' lc, .slice sa sn' sc] 25)).alloc (.cells #[.slice la' ln' lc', .slice sa' sn' sc'] 25) = w1 at RW GW ⊢
  go_loopg [5] ln' (fun gg i wr => ∃ k : Nat, k ≤ ln' ∧ ln' - k ≤ gg ∧ i = .int .i64 k ∧ Gr w1 wr)
  case atStart => exact ⟨0, Nat.zero_le _, by omega, rfl, Gr.refl w1⟩
  case round =>
    obtain ⟨k, hk, hg, rfl, BW⟩ := hrel
    have r0 := row_cell_at (v := .slice la ln' lc) (row_gr RW.out.1 BW) 0 rfl
    have r1 := row_cell_at (v := .slice sa sn' sc) (row_gr RW.out.1 BW) 1 rfl
    have r2 := row_cell_at (v := .slice la' ln' lc') (row_gr RW.out.2 BW) 0 rfl
    have r3 := row_cell_at (v := .slice sa' sn' sc') (row_gr RW.out.2 BW) 1 rfl
    by_cases hlt : k < ln'
    · obtain ⟨hk1, b, off, rfl, hb, c0, c1, c2, c3⟩ := (HR.out.gr (GW.out.trans BW)).lic hlt
      obtain ⟨hk2, b', off', rfl, hb', d0, d1, d2, d3⟩ := (HR'.out.gr (GW.out.trans BW)).lic hlt
      clear hk1 hk2
      generalize ls[k]! = x at c0 d0 c1 d1 c2 d2 c3 d3
      obtain ⟨x0, x1, x2, x3⟩ := x
      dsimp only at c0 d0 c1 d1 c2 d2 c3 d3
      have hkn : (k : Int) < ln' := by omega
      have hk0 : (0 : Int) ≤ k := by omega
      go_wp2
      go_quiet (fail)
      go_wp2
      go_roundg (ln' - (k + 1))
      case measure => omega
      case rel => exact ⟨k + 1, by omega, by omega, by go_num, BW.drewN _⟩
    · have hkn : ¬ (k : Int) < ln' := by omega
      go_wp2_with (go_at_call 28; (with_reducible refine (HS.out _ (GW.out.trans BW)).mono ?_); rintro e w2 ⟨rfl, hb2⟩)
      go_ret
      exact ⟨rfl, (GW.out.trans BW).trans hb2⟩
end Go.Proofs.YtliehlefpodhaaaDoor
namespace Go.Proofs.YtliehlefpodhaaaDoor
open Go.RowKit

def greatB (n m k : Nat) : Bool := decide (60 < n) || decide (60 < m) || decide (60 < k)
theorem greatB_false {n m k : Nat} (h : greatB n m k = false) : n ≤ 60 ∧ m ≤ 60 ∧ k ≤ 60 := by
  unfold greatB at h
  simp at h
  omega

set_option maxRecDepth 100000 in
set_option maxHeartbeats 1000000 in
theorem great9_any (g : Gat) (A : Option Addr) (n c : Nat) (w : World) :
    Calls Tryd.prog 12 #[g.val, .slice A n c] w fun e w' => e = .returned (.bool (greatB g.ln g.sn n)) ∧ Gr w w' := by
  obtain ⟨la, ln, lc, sa, sn, sc⟩ := g
  unfold Gat.val greatB
  dsimp only
  obtain ⟨b1, h1⟩ : ∃ b, decide (60 < ln) = b := ⟨_, rfl⟩
  obtain ⟨b2, h2⟩ : ∃ b, decide (60 < sn) = b := ⟨_, rfl⟩
  obtain ⟨b3, h3⟩ : ∃ b, decide (60 < n) = b := ⟨_, rfl⟩
  rw [h1, h2, h3]
  have k1 : decide ((60 : Int) < (ln : Int)) = b1 := by rw [← h1, Bool.eq_iff_iff]; simp; omega
  have k2 : decide ((60 : Int) < (sn : Int)) = b2 := by rw [← h2, Bool.eq_iff_iff]; simp; omega
  have k3 : decide ((60 : Int) < (n : Int)) = b3 := by rw [← h3, Bool.eq_iff_iff]; simp; omega
  clear h1 h2 h3
  cases b1
  case' false => cases b2
  case' false.false => cases b3
  all_goals
    go_enter Tryd.func12, Tryd.ntmps12
    go_wp2
    go_ret
    exact ⟨by first | rfl | simp, by (repeat (first | with_reducible exact Gr.refl _ | with_reducible refine Gr.alloc ?_ _ | with_reducible refine Gr.setCell ?_ (by simp) _ | with_reducible refine Gr.setCell ?_ (by simp; omega) _ | with_reducible refine Gr.drew ?_ | with_reducible refine Gr.drewN ?_ _))⟩
end Go.Proofs.YtliehlefpodhaaaDoor
namespace Go.Proofs.YtliehlefpodhaaaDoor
open Go.RowKit

set_option maxRecDepth 100000 in
set_option maxHeartbeats 2000000 in
theorem refGateCheck_any (g : Gat) (ls : List Lic) (ss : List Sig) (w : World) (hg : GatIn w g ls ss) :
    Calls Tryd.prog 27 #[g.val] w fun e w' => e = .returned (.int .i64 (gateN ls ss)) ∧ Gr w w' := by
  obtain ⟨la, ln, lc, sa, sn, sc⟩ := g
  unfold Gat.val
  have hl := hg.lics
  have hs := hg.sigs
  dsimp only at hl hs ⊢
  clear hg
  have HC := hid (fun W (k : Gr w W) => refLicences_any la ln lc ls W (hl.gr k))
  have HR := hid (fun W (k : Gr w W) => refSignals_any sa sn sc ss W (hs.gr k))
  unfold gateN
  generalize sigsB ss = b2 at HR ⊢
  generalize licsB ls = b1 at HC ⊢
  clear hl hs
  cases b1
  case' true => cases b2
  all_goals
    go_enter Tryd.func27, Tryd.ntmps27
    go_wp2_with (first
      | (go_at_call 66; (with_reducible refine (HC.out _ ?_).mono ?_); rotate_right; rintro e w1 ⟨rfl, hbw1⟩; obtain ⟨hcw1, hfw1, hzw1⟩ := hbw1.rules; (try simp at hzw1); have hzw1_0 : w.heap.size < w1.heap.size := (by omega); have hyw1_0 : w.heap.size ≤ w1.heap.size := (by omega))
      | (go_at_call 60; (with_reducible refine (HR.out _ ?_).mono ?_); rotate_right; rintro e w2 ⟨rfl, hbw2⟩; obtain ⟨hcw2, hfw2, hzw2⟩ := hbw2.rules; (try simp at hzw2); have hzw2_0 : w.heap.size < w2.heap.size := (by omega); have hyw2_0 : w.heap.size ≤ w2.heap.size := (by omega)))
    all_goals first
      | (go_ret
         refine ⟨by rfl, ?_⟩
         (repeat (first | with_reducible exact Gr.refl _ | with_reducible refine Gr.trans ?_ hbw2 | with_reducible refine Gr.trans ?_ hbw1 | with_reducible refine Gr.alloc ?_ _ | with_reducible refine Gr.setCell ?_ (by simp) _ | with_reducible refine Gr.setCell ?_ (by simp; omega) _ | with_reducible refine Gr.drew ?_ | with_reducible refine Gr.drewN ?_ _)))
      | ((repeat (first | with_reducible exact Gr.refl _ | with_reducible refine Gr.trans ?_ hbw2 | with_reducible refine Gr.trans ?_ hbw1 | with_reducible refine Gr.alloc ?_ _ | with_reducible refine Gr.setCell ?_ (by simp) _ | with_reducible refine Gr.setCell ?_ (by simp; omega) _ | with_reducible refine Gr.drew ?_ | with_reducible refine Gr.drewN ?_ _)); done)
end Go.Proofs.YtliehlefpodhaaaDoor
