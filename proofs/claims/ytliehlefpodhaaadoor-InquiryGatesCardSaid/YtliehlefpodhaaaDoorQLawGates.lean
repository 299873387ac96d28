/- InquiryGates is true: what becomes of an inquiry follows from purpose, freeze and alert. For every gate and inquiry. -/
import Derived.Test.YtliehlefpodhaaaDoorQAlive9
import Derived.Test.YtliehlefpodhaaaDoorQReady9
import Derived.Test.YtliehlefpodhaaaDoorQRefInq
namespace Go.Proofs.YtliehlefpodhaaaDoor
open Go.RowKit Go.Shelf Go.Sort

set_option maxRecDepth 100000 in
set_option maxHeartbeats 8000000 in
theorem inquiryGates_any (g : Gat) (ls : List Lic) (ss : List Sig) (q : Inq) (b off cap : Nat) (w : World) (hg : GatIn w g ls ss) (hA : ∀ b o, g.sa = some ⟨b, o, none⟩ → b < w.heap.size) (hq : 0 ≤ q.purpose ∧ q.purpose ≤ 255) (hR : LaidR w b off cap) (hG : LaidL w) :
    Calls Tryd.prog 7 #[g.val, q.val] w fun e w' => e = .returned (.bool true) ∧ Gr w w' := by
  have HAl := hid (fun W (k : Gr w W) => alive9_any b off cap W (hR.gr k) (hG.gr k))
  have HRd := hid (fun W (k : Gr w W) => ready_any g ls ss none 0 0 [] 0 0 W (hg.gr k) ⟨Rd.nil_, by omega, by simp⟩)
  have HIq := hid (fun W => refInquiry_any q W hq)
  have HLc := hid (fun W (k : Gr w W) => refLicensed_any g ls ss q W (hg.gr k))
  have HSt := hid (fun W (k : Gr w W) (h : g.sn < 1000) => stateTop_any g.sa g.sn g.sc ss q.file q.day W (hg.gr k).sigs (fun b o e => Nat.lt_of_lt_of_le (hA b o e) k.size) (hG.gr k) (fun _ => h))
  have HAs := hid (fun W (k : Gr w W) (h : g.sn < 1000) => askTop_any g ls ss q b off cap W (hg.gr k) (fun b o e => Nat.lt_of_lt_of_le (hA b o e) k.size) h (hR.gr k) (hG.gr k) hq)
  have HRT := hid (fun (h : readyB g.ln g.sn 0 ls ss [] 0 0 = true) => readyB_true h)
  clear hg hA hR hG hq
  generalize readyB g.ln g.sn 0 ls ss [] 0 0 = rb at *
  by_cases hbad : rb = true ∧ inqB q = true
  case neg =>
    obtain ⟨ib, hib⟩ : ∃ ib, inqB q = ib := ⟨_, rfl⟩
    rw [hib] at hbad HIq
    clear hib HRT HSt HAs HLc
    obtain ⟨la, ln, lc, sa, sn, sc⟩ := g
    obtain ⟨q0, q1, q2, q3, q4, q5⟩ := q
    unfold Gat.val Inq.val at *
    dsimp only at *
    cases rb
    case' true => cases ib
    case true.true => exact absurd ⟨rfl, rfl⟩ hbad
    all_goals
      clear hbad
      go_enter Tryd.func7, Tryd.ntmps7
      go_wp2_with (first
        | (go_at_call 29; (with_reducible refine (HAl.out _ ?_).mono ?_); rotate_right; rintro e w1 ⟨rfl, hbw1⟩; obtain ⟨hcw1, hfw1, hzw1⟩ := hbw1.rules; (try simp at hzw1); have hzw1_0 : w.heap.size < w1.heap.size := (by omega); have hyw1_0 : w.heap.size ≤ w1.heap.size := (by omega); have hzw1_1 : w.heap.size + 1 < w1.heap.size := (by omega); have hyw1_1 : w.heap.size + 1 ≤ w1.heap.size := (by omega))
        | (go_at_call 34; (with_reducible refine (HRd.out _ ?_).mono ?_); rotate_right; rintro e w2 ⟨rfl, hbw2⟩; obtain ⟨hcw2, hfw2, hzw2⟩ := hbw2.rules; (try simp at hzw2); have hzw2_0 : w.heap.size < w2.heap.size := (by omega); have hyw2_0 : w.heap.size ≤ w2.heap.size := (by omega); have hzw2_1 : w.heap.size + 1 < w2.heap.size := (by omega); have hyw2_1 : w.heap.size + 1 ≤ w2.heap.size := (by omega))
        | (go_at_call 36; (with_reducible refine (HIq.out _).mono ?_); rotate_right; rintro e w3 ⟨rfl, hbw3⟩; obtain ⟨hcw3, hfw3, hzw3⟩ := hbw3.rules; (try simp at hzw3); have hzw3_0 : w.heap.size < w3.heap.size := (by omega); have hyw3_0 : w.heap.size ≤ w3.heap.size := (by omega); have hzw3_1 : w.heap.size + 1 < w3.heap.size := (by omega); have hyw3_1 : w.heap.size + 1 ≤ w3.heap.size := (by omega)))
      all_goals first
        | (go_ret
           exact ⟨rfl, by (repeat (first | with_reducible exact Gr.refl _ | with_reducible refine Gr.trans ?_ hbw3 | with_reducible refine Gr.trans ?_ hbw2 | with_reducible refine Gr.trans ?_ hbw1 | with_reducible refine Gr.alloc ?_ _ | with_reducible refine Gr.setCell ?_ (by simp) _ | with_reducible refine Gr.setCell ?_ (by simp; omega) _ | with_reducible refine Gr.drew ?_ | with_reducible refine Gr.drewN ?_ _))⟩)
        | ((repeat (first | with_reducible exact Gr.refl _ | with_reducible refine Gr.trans ?_ hbw2 | with_reducible refine Gr.trans ?_ hbw1 | with_reducible refine Gr.alloc ?_ _ | with_reducible refine Gr.setCell ?_ (by simp) _ | with_reducible refine Gr.setCell ?_ (by simp; omega) _ | with_reducible refine Gr.drew ?_ | with_reducible refine Gr.drewN ?_ _)); done)
  case pos =>
    obtain ⟨rfl, hib⟩ := hbad
    have F := HRT.out rfl
    obtain ⟨h1, h2, _⟩ := F.great
    have hge := F.gate
    have hsg := F.sigs
    have hday : inB 0 999999 q.file = true ∧ inB 0 100000 q.day = true := by
      unfold inqB at hib
      simp only [Bool.and_eq_true] at hib
      exact ⟨hib.1.1.2, hib.1.2⟩
    have HSt2 := hid (fun W k => HSt.out W k (by omega))
    have HAs2 := hid (fun W k => HAs.out W k (by omega))
    have e1 : stFz ss q.file q.day = frozenB ss q.file q.day := by unfold stFz; rw [hsg, hday.1, hday.2]; rfl
    have e2 : stAl ss q.file q.day = alertB ss q.file q.day := by unfold stAl; rw [hsg, hday.1, hday.2]; rfl
    have e3 : stN ss q.file q.day = 0 := by unfold stN; rw [hsg, hday.1, hday.2]; rfl
    rw [e1, e2, e3] at HSt2
    rw [hge, hib] at HAs2
    rw [hib] at HIq
    have HN : Hid (askN ls ss q = if (!licensedB ls q) then 1 else if (frozenB ss q.file q.day && (q.purpose == 1 || q.purpose == 3 || q.purpose == 6)) then 2 else if (alertB ss q.file q.day && (q.purpose == 6 || (q.purpose == 1 && !q.called))) then 3 else 0) := rfl
    clear HRT HSt HAs F h1 h2 hge hsg hday e1 e2 e3 hib
    generalize licensedB ls q = r1 at *
    generalize frozenB ss q.file q.day = fz at *
    generalize alertB ss q.file q.day = al at *
    generalize askN ls ss q = an at *
    obtain ⟨la, ln, lc, sa, sn, sc⟩ := g
    obtain ⟨q0, q1, q2, q3, q4, q5⟩ := q
    unfold Gat.val Inq.val at *
    dsimp only at *
    simp only [and_self, if_true] at HAs2
    have hcs : r1 = false ∨ (r1 = true ∧ q4 = 1) ∨ (r1 = true ∧ q4 = 3) ∨ (r1 = true ∧ q4 = 6) ∨ (r1 = true ∧ ((q4 == 1) = false ∧ (q4 == 3) = false ∧ (q4 == 6) = false)) := by
      cases r1
      · exact .inl rfl
      · simp; omega
    rcases hcs with rfl | ⟨rfl, rfl⟩ | ⟨rfl, rfl⟩ | ⟨rfl, rfl⟩ | ⟨rfl, n1, n3, n6⟩
    case' inr.inl => cases fz <;> cases al <;> cases q5
    case' inr.inr.inl => cases fz
    case' inr.inr.inr.inl => cases fz <;> cases al
    all_goals
      have HV : Hid (an = _) := HN.out.trans (by first | rfl | (simp only [*]; rfl) | (simp [*]; rfl) | simp [*])
      clear HN
      have HAs3 := hid HAs2.out
      rw [HV.out] at HAs3
      clear HV HAs2
      go_enter Tryd.func7, Tryd.ntmps7
      go_wp2_with (first
        | (go_at_call 29; (with_reducible refine (HAl.out _ ?_).mono ?_); rotate_right; rintro e w1 ⟨rfl, hbw1⟩; obtain ⟨hcw1, hfw1, hzw1⟩ := hbw1.rules; (try simp at hzw1); have hzw1_0 : w.heap.size < w1.heap.size := (by omega); have hyw1_0 : w.heap.size ≤ w1.heap.size := (by omega); have hzw1_1 : w.heap.size + 1 < w1.heap.size := (by omega); have hyw1_1 : w.heap.size + 1 ≤ w1.heap.size := (by omega))
        | (go_at_call 34; (with_reducible refine (HRd.out _ ?_).mono ?_); rotate_right; rintro e w2 ⟨rfl, hbw2⟩; obtain ⟨hcw2, hfw2, hzw2⟩ := hbw2.rules; (try simp at hzw2); have hzw2_0 : w.heap.size < w2.heap.size := (by omega); have hyw2_0 : w.heap.size ≤ w2.heap.size := (by omega); have hzw2_1 : w.heap.size + 1 < w2.heap.size := (by omega); have hyw2_1 : w.heap.size + 1 ≤ w2.heap.size := (by omega))
        | (go_at_call 36; (with_reducible refine (HIq.out _).mono ?_); rotate_right; rintro e w3 ⟨rfl, hbw3⟩; obtain ⟨hcw3, hfw3, hzw3⟩ := hbw3.rules; (try simp at hzw3); have hzw3_0 : w.heap.size < w3.heap.size := (by omega); have hyw3_0 : w.heap.size ≤ w3.heap.size := (by omega); have hzw3_1 : w.heap.size + 1 < w3.heap.size := (by omega); have hyw3_1 : w.heap.size + 1 ≤ w3.heap.size := (by omega))
        | (go_at_call 24; (with_reducible refine (HSt2.out _ ?_).mono ?_); rotate_right; rintro e w4 ⟨rfl, hbw4⟩; obtain ⟨hcw4, hfw4, hzw4⟩ := hbw4.rules; (try simp at hzw4); have hzw4_0 : w.heap.size < w4.heap.size := (by omega); have hyw4_0 : w.heap.size ≤ w4.heap.size := (by omega); have hzw4_1 : w.heap.size + 1 < w4.heap.size := (by omega); have hyw4_1 : w.heap.size + 1 ≤ w4.heap.size := (by omega))
        | (go_at_call 14; (with_reducible refine (HAs3.out _ ?_).mono ?_); rotate_right; rintro e w5 ⟨rfl, hbw5⟩; obtain ⟨hcw5, hfw5, hzw5⟩ := hbw5.rules; (try simp at hzw5); have hzw5_0 : w.heap.size < w5.heap.size := (by omega); have hyw5_0 : w.heap.size ≤ w5.heap.size := (by omega); have hzw5_1 : w.heap.size + 1 < w5.heap.size := (by omega); have hyw5_1 : w.heap.size + 1 ≤ w5.heap.size := (by omega))
        | (go_at_call 35; (with_reducible refine (HLc.out _ ?_).mono ?_); rotate_right; rintro e w6 ⟨rfl, hbw6⟩; obtain ⟨hcw6, hfw6, hzw6⟩ := hbw6.rules; (try simp at hzw6); have hzw6_0 : w.heap.size < w6.heap.size := (by omega); have hyw6_0 : w.heap.size ≤ w6.heap.size := (by omega); have hzw6_1 : w.heap.size + 1 < w6.heap.size := (by omega); have hyw6_1 : w.heap.size + 1 ≤ w6.heap.size := (by omega)))
      all_goals first
        | (go_ret
           exact ⟨by first | rfl | simp, by (repeat (first | with_reducible exact Gr.refl _ | with_reducible refine Gr.trans ?_ hbw6 | with_reducible refine Gr.trans ?_ hbw5 | with_reducible refine Gr.trans ?_ hbw4 | with_reducible refine Gr.trans ?_ hbw3 | with_reducible refine Gr.trans ?_ hbw2 | with_reducible refine Gr.trans ?_ hbw1 | with_reducible refine Gr.alloc ?_ _ | with_reducible refine Gr.setCell ?_ (by simp) _ | with_reducible refine Gr.setCell ?_ (by simp; omega) _ | with_reducible refine Gr.drew ?_ | with_reducible refine Gr.drewN ?_ _))⟩)
        | ((repeat (first | with_reducible exact Gr.refl _ | with_reducible refine Gr.trans ?_ hbw5 | with_reducible refine Gr.trans ?_ hbw4 | with_reducible refine Gr.trans ?_ hbw3 | with_reducible refine Gr.trans ?_ hbw2 | with_reducible refine Gr.trans ?_ hbw1 | with_reducible refine Gr.alloc ?_ _ | with_reducible refine Gr.setCell ?_ (by simp) _ | with_reducible refine Gr.setCell ?_ (by simp; omega) _ | with_reducible refine Gr.drew ?_ | with_reducible refine Gr.drewN ?_ _)); done)
end Go.Proofs.YtliehlefpodhaaaDoor
