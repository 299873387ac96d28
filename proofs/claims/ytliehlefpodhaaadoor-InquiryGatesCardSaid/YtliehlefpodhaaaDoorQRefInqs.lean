/- Inquiries, ask and Ask of the reference of layer 9. For all inquiries and gates. (Printed by gen_refinqs.py.) -/
import Derived.Test.YtliehlefpodhaaaDoorQGate
import Derived.Test.YtliehlefpodhaaaDoorQRefInq
import Derived.Test.YtliehlefpodhaaaDoorQRefState
namespace Go.Proofs.YtliehlefpodhaaaDoor
open Go.RowKit Go.Shelf

set_option maxRecDepth 100000 in
set_option maxHeartbeats 4000000 in
theorem refInquiries_any (A : Option Addr) (n c : Nat) (zs : List Inq) (w : World) (hi : InqsIn w A n zs) :
    Calls Tryd.prog 38 #[.slice A n c] w fun e w' => e = .returned (.bool (inqsB zs)) ∧ Gr w w' := by
  have HU := hid hi.u8
  have hr := hi.rd
  have hbig := hi.big
  have hbig' : (n : Int) ≤ 9223372036854775807 := by omega
  clear hi
  have HL := hid hr.inq_len
  have HR := hid hr
  clear hr
  by_cases h40 : n ≤ 40
  case neg =>
    have HE : Hid (inqsB zs = false) := inqsB_many (by have := HL.out; omega)
    have h40' : (40 : Int) < n := by omega
    clear h40
    go_enter Tryd.func38, Tryd.ntmps38
    go_wp2
    go_ret
    exact ⟨by rw [HE.out]; rfl, Gr.refl w⟩
  have h40' : (n : Int) ≤ 40 := by omega
  go_enter Tryd.func38, Tryd.ntmps38
  go_wp2
  go_loopg [3] n (fun gg s3 wr => ∃ kk : Nat, kk ≤ n ∧ n - kk ≤ gg ∧ s3 = .int .i64 kk ∧ Gr w wr ∧ Hid (∀ j, j < kk → inqBad zs j = false))
  case atStart => exact ⟨0, Nat.zero_le _, by omega, rfl, Gr.refl w, fun j hj => absurd hj (Nat.not_lt_zero _)⟩
  case round =>
    obtain ⟨kk, hkk, hg, rfl, BW, HA⟩ := hrel
    by_cases hlt : kk < n
    · obtain ⟨hk', b, off, rfl, hb, c0, c1, c2, c3, c4, c5⟩ := (HR.out.gr BW).inq hlt
      have HK := hid hk'
      clear hk'
      obtain ⟨x, hx⟩ : ∃ x, zs[kk]! = x := ⟨_, rfl⟩
      have hu : 0 ≤ x.purpose ∧ x.purpose ≤ 255 := hx ▸ HU.out _ (mem_get HK.out)
      have HS := hid (fun W => refInquiry_any x W hu)
      have HP : Hid (inqBad zs kk = (!inqB x || (decide (0 < kk) && decide (x.id ≤ zs[kk - 1]!.id)))) := by show inqBad zs kk = _; unfold inqBad; rw [hx]
      rw [hx] at c0 c1 c2 c3 c4 c5
      clear hx hu
      obtain ⟨bs, hbs⟩ : ∃ bs, inqB x = bs := ⟨_, rfl⟩
      rw [hbs] at HS HP
      clear hbs
      have hkn : (kk : Int) < (n : Int) := by omega
      have hk0 : (0 : Int) ≤ (kk : Int) := by omega
      cases bs with
      | false =>
        obtain ⟨x0, x1, x2, x3, x4, x5⟩ := x
        unfold Inq.val at HS
        dsimp only at *
        have p0 := GrW.cell c0
        have p1 := GrW.cell c1
        have p2 := GrW.cell c2
        have p3 := GrW.cell c3
        have p4 := GrW.cell c4
        have p5 := GrW.cell c5
        clear c0 c1 c2 c3 c4 c5
        go_wp2
        (refine wp_region_gr (by kernel_rfl) (by kernel_rfl) ?_; (repeat (first | go_big_quiet_step ((first | (go_at_call 36; exact calls_gr (HS.out _)))) | quiet_step ((first | (go_at_call 36; exact calls_gr (HS.out _)))))); refine wpQuiet_nil ?_; intro wa hw; obtain ⟨⟨_, hbwa⟩, hw⟩ := hw; subst hw; obtain ⟨hcwa, hfwa, hzwa⟩ := hbwa.rules; (try simp at hzwa))
        go_wp2
        go_ret
        refine ⟨?_, BW.trans hbwa⟩
        rw [inqsB_bad HK.out (by rw [HP.out]; rfl)]
        rfl
      | true =>
        by_cases h0 : kk = 0
        · subst h0
          simp only [Nat.zero_mul, Nat.add_zero] at c0 c1 c2 c3 c4 c5
          obtain ⟨x0, x1, x2, x3, x4, x5⟩ := x
          unfold Inq.val at HS
          dsimp only at *
          have p0 := GrW.cell c0
          have p1 := GrW.cell c1
          have p2 := GrW.cell c2
          have p3 := GrW.cell c3
          have p4 := GrW.cell c4
          have p5 := GrW.cell c5
          clear c0 c1 c2 c3 c4 c5
          go_wp2
          (refine wp_region_gr (by kernel_rfl) (by kernel_rfl) ?_; (repeat (first | go_big_quiet_step ((first | (go_at_call 36; exact calls_gr (HS.out _)))) | quiet_step ((first | (go_at_call 36; exact calls_gr (HS.out _)))))); refine wpQuiet_nil ?_; intro wa hw; obtain ⟨⟨_, hbwa⟩, hw⟩ := hw; subst hw; obtain ⟨hcwa, hfwa, hzwa⟩ := hbwa.rules; (try simp at hzwa))
          go_wp2
          go_roundg (n - (0 + 1))
          case measure => omega
          case rel =>
            refine ⟨0 + 1, by omega, by omega, by go_num, BW.trans hbwa, hid fun j' hj' => ?_⟩
            by_cases e : j' = 0
            · subst e; rw [HP.out]; rfl
            · exact HA.out j' (by omega)
        · obtain ⟨j, rfl⟩ : ∃ j, kk = j + 1 := ⟨kk - 1, by omega⟩
          clear h0
          obtain ⟨_, b', off', hA', _, d0, _⟩ := (HR.out.gr BW).inq (k := j) (by omega)
          cases hA'
          have hjn : (j : Int) < (n : Int) := by omega
          have hj0 : (0 : Int) ≤ (j : Int) := by omega
          obtain ⟨y, hy⟩ : ∃ y, zs[j]!.id = y := ⟨_, rfl⟩
          rw [hy] at d0
          have HP2 : Hid (inqBad zs (j + 1) = decide (x.id ≤ y)) := by
            show inqBad zs (j + 1) = _
            rw [HP.out, Nat.add_sub_cancel, hy]; simp
          clear hy HP
          have s0 := GrW.cell d0
          clear d0
          obtain ⟨x0, x1, x2, x3, x4, x5⟩ := x
          unfold Inq.val at HS
          dsimp only at *
          have p0 := GrW.cell c0
          have p1 := GrW.cell c1
          have p2 := GrW.cell c2
          have p3 := GrW.cell c3
          have p4 := GrW.cell c4
          have p5 := GrW.cell c5
          clear c0 c1 c2 c3 c4 c5
          by_cases hb3 : x0 ≤ y
          · have HP3 : Hid (inqBad zs (j + 1) = true) := by show inqBad zs (j + 1) = true; rw [HP2.out]; simpa using hb3
            go_wp2
            (refine wp_region_gr (by kernel_rfl) (by kernel_rfl) ?_; (repeat (first | go_big_quiet_step ((first | (go_at_call 36; exact calls_gr (HS.out _)))) | quiet_step ((first | (go_at_call 36; exact calls_gr (HS.out _)))))); refine wpQuiet_nil ?_; intro wa hw; obtain ⟨⟨_, hbwa⟩, hw⟩ := hw; subst hw; obtain ⟨hcwa, hfwa, hzwa⟩ := hbwa.rules; (try simp at hzwa))
            go_wp2
            go_ret
            refine ⟨?_, BW.trans hbwa⟩
            rw [inqsB_bad HK.out (HP3.out)]
            rfl
          · have HP3 : Hid (inqBad zs (j + 1) = false) := by show inqBad zs (j + 1) = false; rw [HP2.out]; simpa using hb3
            go_wp2
            (refine wp_region_gr (by kernel_rfl) (by kernel_rfl) ?_; (repeat (first | go_big_quiet_step ((first | (go_at_call 36; exact calls_gr (HS.out _)))) | quiet_step ((first | (go_at_call 36; exact calls_gr (HS.out _)))))); refine wpQuiet_nil ?_; intro wa hw; obtain ⟨⟨_, hbwa⟩, hw⟩ := hw; subst hw; obtain ⟨hcwa, hfwa, hzwa⟩ := hbwa.rules; (try simp at hzwa))
            go_wp2
            go_roundg (n - (j + 1 + 1))
            case measure => omega
            case rel =>
              refine ⟨j + 1 + 1, by omega, by omega, by go_num, BW.trans hbwa, hid fun j' hj' => ?_⟩
              by_cases e : j' = j + 1
              · subst e; exact HP3.out
              · exact HA.out j' (by omega)
    · have hltz : ¬ (kk : Int) < (n : Int) := by omega
      have HE : Hid (inqsB zs = true) := inqsB_good (by have := HL.out; omega) (fun j hj => HA.out j (by have := HL.out; omega))
      go_wp2
      go_ret
      exact ⟨by rw [HE.out]; rfl, BW⟩

set_option maxRecDepth 100000 in
set_option maxHeartbeats 4000000 in
theorem refAsk_any (g : Gat) (ls : List Lic) (ss : List Sig) (q : Inq) (w : World) (hg : GatIn w g ls ss) :
    Calls Tryd.prog 41 #[g.val, q.val] w fun e w' => e = .returned (.int .u8 (askN ls ss q)) ∧ Gr w w' := by
  have H1 := hid (fun W (k : Gr w W) => refLicensed_any g ls ss q W (hg.gr k))
  have H2 := hid (fun W (k : Gr w W) => refState_any g.sa g.sn g.sc ss q.file q.day W (hg.gr k).sigs)
  clear hg
  have HN : Hid (askN ls ss q = if (!licensedB ls q) then 1 else if (frozenB ss q.file q.day && (q.purpose == 1 || q.purpose == 3 || q.purpose == 6)) then 2 else if (alertB ss q.file q.day && (q.purpose == 6 || (q.purpose == 1 && !q.called))) then 3 else 0) := rfl
  generalize licensedB ls q = r1 at H1 HN
  generalize frozenB ss q.file q.day = fz at H2 HN
  generalize alertB ss q.file q.day = al at H2 HN
  generalize askN ls ss q = res at HN ⊢
  obtain ⟨la, ln, lc, sa, sn, sc⟩ := g
  obtain ⟨q0, q1, q2, q3, q4, q5⟩ := q
  unfold Gat.val Inq.val at *
  dsimp only at *
  obtain ⟨e1, k1⟩ : ∃ e, (q4 == 1) = e := ⟨_, rfl⟩
  obtain ⟨e3, k3⟩ : ∃ e, (q4 == 3) = e := ⟨_, rfl⟩
  obtain ⟨e6, k6⟩ : ∃ e, (q4 == 6) = e := ⟨_, rfl⟩
  rw [k1, k3, k6] at HN
  cases r1
  case' true => cases fz
  case' true.true => cases e1
  case' true.true.false => cases e3
  case' true.true.false.false => cases e6
  case' true.false => cases e1 <;> cases e6
  all_goals (try cases al)
  all_goals (try cases q5)
  all_goals
    have HV : Hid (res = _) := HN.out.trans (by simp only [Bool.not_true, Bool.not_false, Bool.and_true, Bool.true_and, Bool.false_and, Bool.and_false, Bool.or_true, Bool.true_or, Bool.or_false, Bool.false_or, if_true, Bool.false_eq_true, if_false]; rfl)
    clear HN
    go_enter Tryd.func41, Tryd.ntmps41
    go_wp2_with (first
      | (go_at_call 35; (with_reducible refine (H1.out _ ?_).mono ?_); rotate_right; rintro e w1 ⟨rfl, hbw1⟩; obtain ⟨hcw1, hfw1, hzw1⟩ := hbw1.rules; (try simp at hzw1); have hzw1_0 : w.heap.size < w1.heap.size := (by omega); have hyw1_0 : w.heap.size ≤ w1.heap.size := (by omega); have hzw1_1 : w.heap.size + 1 < w1.heap.size := (by omega); have hyw1_1 : w.heap.size + 1 ≤ w1.heap.size := (by omega))
      | (go_at_call 63; (with_reducible refine (H2.out _ ?_).mono ?_); rotate_right; rintro e w2 ⟨rfl, hbw2⟩; obtain ⟨hcw2, hfw2, hzw2⟩ := hbw2.rules; (try simp at hzw2); have hzw2_0 : w.heap.size < w2.heap.size := (by omega); have hyw2_0 : w.heap.size ≤ w2.heap.size := (by omega); have hzw2_1 : w.heap.size + 1 < w2.heap.size := (by omega); have hyw2_1 : w.heap.size + 1 ≤ w2.heap.size := (by omega)))
  all_goals first
    | ((repeat (first | with_reducible exact Gr.refl _ | with_reducible refine Gr.trans ?_ hbw1 | with_reducible refine Gr.alloc ?_ _ | with_reducible refine Gr.setCell ?_ (by simp) _ | with_reducible refine Gr.setCell ?_ (by simp; omega) _ | with_reducible refine Gr.drew ?_ | with_reducible refine Gr.drewN ?_ _)); done)
    | (go_ret
       exact ⟨by rw [HV.out]; rfl, by (repeat (first | with_reducible exact Gr.refl _ | with_reducible refine Gr.trans ?_ hbw2 | with_reducible refine Gr.trans ?_ hbw1 | with_reducible refine Gr.alloc ?_ _ | with_reducible refine Gr.setCell ?_ (by simp) _ | with_reducible refine Gr.setCell ?_ (by simp; omega) _ | with_reducible refine Gr.drew ?_ | with_reducible refine Gr.drewN ?_ _))⟩)

set_option maxRecDepth 100000 in
set_option maxHeartbeats 4000000 in
theorem refAskTop_any (g : Gat) (ls : List Lic) (ss : List Sig) (q : Inq) (w : World) (hg : GatIn w g ls ss) (hu : 0 ≤ q.purpose ∧ q.purpose ≤ 255) :
    Calls Tryd.prog 15 #[g.val, q.val] w fun e w' => e = .returned (.tuple #[.int .u8 (if gateN ls ss = 0 ∧ inqB q = true then askN ls ss q else 0), .int .i64 (if gateN ls ss = 0 then (if inqB q then 0 else 92) else gateN ls ss)]) ∧ Gr w w' := by
  have HC := hid (fun W (k : Gr w W) => refGateCheck_any g ls ss W (hg.gr k))
  have HS := hid (fun W => refInquiry_any q W hu)
  have HA := hid (fun W (k : Gr w W) => refAsk_any g ls ss q W (hg.gr k))
  have hz : gateN ls ss = 0 ∨ gateN ls ss = 90 ∨ gateN ls ss = 91 := by unfold gateN; (repeat' split) <;> simp
  generalize gateN ls ss = e at HC hz ⊢
  generalize inqB q = bs at HS ⊢
  generalize askN ls ss q = a at HA ⊢
  clear hg hu
  obtain ⟨la, ln, lc, sa, sn, sc⟩ := g
  obtain ⟨q0, q1, q2, q3, q4, q5⟩ := q
  unfold Gat.val Inq.val at *
  dsimp only at *
  obtain rfl | rfl | rfl := hz
  case' inl => cases bs
  all_goals
    go_enter Tryd.func15, Tryd.ntmps15
    go_wp2_with (first
      | (go_at_call 27; (with_reducible refine (HC.out _ ?_).mono ?_); rotate_right; rintro e w1 ⟨rfl, hbw1⟩; obtain ⟨hcw1, hfw1, hzw1⟩ := hbw1.rules; (try simp at hzw1); have hzw1_0 : w.heap.size < w1.heap.size := (by omega); have hyw1_0 : w.heap.size ≤ w1.heap.size := (by omega); have hzw1_1 : w.heap.size + 1 < w1.heap.size := (by omega); have hyw1_1 : w.heap.size + 1 ≤ w1.heap.size := (by omega))
      | (go_at_call 36; (with_reducible refine (HS.out _).mono ?_); rotate_right; rintro e w2 ⟨rfl, hbw2⟩; obtain ⟨hcw2, hfw2, hzw2⟩ := hbw2.rules; (try simp at hzw2); have hzw2_0 : w.heap.size < w2.heap.size := (by omega); have hyw2_0 : w.heap.size ≤ w2.heap.size := (by omega); have hzw2_1 : w.heap.size + 1 < w2.heap.size := (by omega); have hyw2_1 : w.heap.size + 1 ≤ w2.heap.size := (by omega))
      | (go_at_call 41; (with_reducible refine (HA.out _ ?_).mono ?_); rotate_right; rintro e w3 ⟨rfl, hbw3⟩; obtain ⟨hcw3, hfw3, hzw3⟩ := hbw3.rules; (try simp at hzw3); have hzw3_0 : w.heap.size < w3.heap.size := (by omega); have hyw3_0 : w.heap.size ≤ w3.heap.size := (by omega)))
    all_goals first
      | (go_ret2
         refine ⟨by rfl, ?_⟩
         (repeat (first | with_reducible exact Gr.refl _ | with_reducible refine Gr.trans ?_ hbw3 | with_reducible refine Gr.trans ?_ hbw2 | with_reducible refine Gr.trans ?_ hbw1 | with_reducible refine Gr.alloc ?_ _ | with_reducible refine Gr.setCell ?_ (by simp) _ | with_reducible refine Gr.setCell ?_ (by simp; omega) _ | with_reducible refine Gr.drew ?_ | with_reducible refine Gr.drewN ?_ _)); done)
      | ((repeat (first | with_reducible exact Gr.refl _ | with_reducible refine Gr.trans ?_ hbw2 | with_reducible refine Gr.trans ?_ hbw1 | with_reducible refine Gr.alloc ?_ _ | with_reducible refine Gr.setCell ?_ (by simp) _ | with_reducible refine Gr.setCell ?_ (by simp; omega) _ | with_reducible refine Gr.drew ?_ | with_reducible refine Gr.drewN ?_ _)); done)
end Go.Proofs.YtliehlefpodhaaaDoor
