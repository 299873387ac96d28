/- SameTable and SameQuestions of the reference of layer 10: at tables, and at questions, that are alike they are true. SameQuestions of the reference of layer 10: at lists of questions that are alike it is true. -/
import Derived.Deep.CutRange
import Derived.Deep.DeepCutAuto
import Derived.Test.YtimhkkijoelmhaaQOrd10
import Derived.Test.YtimhkkijoelmhaaQPlan
import Derived.Test.YtimhkkijoelmhaaQSameInts10
namespace Go.Proofs.Ytimhkkijoelmhaa
open Go.RowKit

set_option maxRecDepth 100000 in
set_option maxHeartbeats 4000000 in
theorem sameTable_any (B : Option Addr) (d : Nat) (es : List Sbj) (A : Option Addr) (n c : Nat) (zs : List Sbj) (w : World) (hj : SbjsIn w B n es) (hi : SbjsIn w A n zs) (hl : es.map Sbj.bare = zs.map Sbj.bare) :
    Calls Try.prog 23 #[.slice B n d, .slice A n c] w fun e w' => e = .returned (.bool true) ∧ Gr w w' := by
  have HI := hid hi
  have HJ := hid hj
  have HK := hid (fun j (h : j < zs.length) => like_get hl h)
  have hbig := hi.big
  have hbig' : (n : Int) ≤ 9223372036854775807 := by omega
  clear hi hj hl
  go_enter Try.func23, Try.ntmps23
  go_wp2_with fail
  go_loopg [5, 6] n (fun gg s5 s6 wr => ∃ k : Nat, k ≤ n ∧ n - k ≤ gg ∧ s5 = .int .i64 k ∧ Gr w wr)
  case atStart => exact ⟨0, Nat.zero_le _, by omega, rfl, Gr.refl w⟩
  case round =>
    obtain ⟨k, hk, hgk, rfl, BW⟩ := hrel
    by_cases hkl : k < n
    · obtain ⟨hk', b, off, rfl, hbl, c0, c1⟩ := (HI.out.gr BW).rd.sbj hkl
      obtain ⟨hq', b', off', rfl, hbl', d0, d1⟩ := (HJ.out.gr BW).rd.sbj hkl
      obtain ⟨e1, e2, e3⟩ := HK.out k hk'
      have HV := hid (HI.out.vals _ (mem_get hk'))
      have HV' := hid (HJ.out.vals _ (mem_get hq'))
      rw [e1] at d0
      rw [e2] at d1 HV'
      rw [e3] at HV'
      generalize zs[k]! = s at c0 c1 d0 d1 HV HV'
      generalize es[k]!.a = a' at d1 HV'
      generalize es[k]!.c = cc' at d1
      obtain ⟨id, a, m, cc, vs⟩ := s
      dsimp only at *
      have hm := HV.out.2
      have hm' : (m : Int) ≤ 9223372036854775807 := by omega
      have hkn : (k : Int) < (n : Int) := by omega
      have hk0 : (0 : Int) ≤ (k : Int) := by omega
      clear hk' hq' e1 e2 e3
      have HC := hid (And.intro c0 (And.intro c1 (And.intro d0 d1)))
      go_wp2_with fail
      go_quiet (fail)
      clear c0 c1 d0 d1
      go_wp2_with fail
      go_loopg [6] m (fun gg s6 wq => ∃ j : Nat, j ≤ m ∧ m - j ≤ gg ∧ s6 = .int .i64 j ∧ Gr wr wq)
      case atStart => exact ⟨0, Nat.zero_le _, by omega, rfl, (Gr.refl _).drewN _⟩
      case round =>
        obtain ⟨j, hj, hgj, rfl, BW2⟩ := hrel
        obtain ⟨c0, c1, d0, d1⟩ := HC.out
        replace c1 := row_cell c1 BW2
        replace d1 := row_cell d1 BW2
        clear c0 d0
        by_cases hjl : j < m
        · obtain ⟨hv1, b1, o1, rfl, hb1, f0⟩ := (HV.out.1.gr (BW.trans BW2)).int_at hjl
          obtain ⟨hv2, b2, o2, rfl, hb2, f1⟩ := (HV'.out.1.gr (BW.trans BW2)).int_at hjl
          generalize vs[j]! = y at f0 f1
          have hjn : (j : Int) < (m : Int) := by omega
          have hj0 : (0 : Int) ≤ (j : Int) := by omega
          clear hv1 hv2
          go_wp2_with fail
          go_quiet (fail)
          go_wp2
          go_roundg (m - (j + 1))
          case measure => omega
          case rel => exact ⟨j + 1, by omega, by omega, by go_num, BW2.drewN _⟩
        · have hjn : ¬ (j : Int) < (m : Int) := by omega
          go_wp2
          go_roundg (n - (k + 1))
          case measure => omega
          case rel => exact ⟨k + 1, by omega, by omega, by go_num, BW.trans BW2⟩
    · have hkn : ¬ (k : Int) < (n : Int) := by omega
      go_wp2
      go_ret
      exact ⟨rfl, BW⟩
end Go.Proofs.Ytimhkkijoelmhaa
namespace Go.Proofs.Ytimhkkijoelmhaa
open Go.RowKit

set_option maxRecDepth 100000 in
set_option maxHeartbeats 4000000 in
theorem sameQuestions_any (B : Option Addr) (d : Nat) (es : List Qst) (A : Option Addr) (n c : Nat) (zs : List Qst) (w : World) (hj : QstsIn w B n es) (hi : QstsIn w A n zs) (hl : es.map Qst.bare = zs.map Qst.bare) :
    Calls Try.prog 24 #[.slice B n d, .slice A n c] w fun e w' => e = .returned (.bool true) ∧ Gr w w' := by
  have HI := hid hi
  have HJ := hid hj
  have HK := hid (fun j (h : j < zs.length) => qlike_get hl h)
  have hbig := hi.big
  have hbig' : (n : Int) ≤ 9223372036854775807 := by omega
  clear hi hj hl
  go_enter Try.func24, Try.ntmps24
  go_wp2_with fail
  go_loopg [5, 6, 7, 8] n (fun gg s5 s6 s7 s8 wr => ∃ k : Nat, k ≤ n ∧ n - k ≤ gg ∧ s5 = .int .i64 k ∧ Gr w wr)
  case atStart => exact ⟨0, Nat.zero_le _, by omega, rfl, Gr.refl w⟩
  case round =>
    obtain ⟨k, hk, hgk, rfl, BW⟩ := hrel
    by_cases hkl : k < n
    · obtain ⟨hk', b, off, rfl, hbl, c0, c1, c2, c3⟩ := (HI.out.gr BW).rd.qst hkl
      obtain ⟨hq', b', off', rfl, hbl', d0, d1, d2, d3⟩ := (HJ.out.gr BW).rd.qst hkl
      have hbr := HK.out k hk'
      have HV := hid (HI.out.whs _ (mem_get hk'))
      have HV' := hid (HJ.out.whs _ (mem_get hq'))
      generalize zs[k]! = s at c0 c1 c2 c3 hbr HV
      generalize es[k]! = s' at d0 d1 d2 d3 hbr HV'
      obtain ⟨a, m, cc, ws, col, clip, step⟩ := s
      obtain ⟨a', m', cc', ws', col', clip', step'⟩ := s'
      unfold Qst.bare at hbr
      dsimp only at *
      injection hbr with _ e2 _ e4 e5 e6 e7
      subst e2 e4 e5 e6 e7
      have hkn : (k : Int) < (n : Int) := by omega
      have hk0 : (0 : Int) ≤ (k : Int) := by omega
      clear hk' hq'
      have HC := hid (And.intro c0 (And.intro c1 (And.intro c2 (And.intro c3 (And.intro d0 (And.intro d1 (And.intro d2 d3)))))))
      go_upto_region 6 with fail
      go_cut [6, 7] (fun s6 s7 wx => ∃ g1 g2, s6 = .pointer (some ⟨g1, 0, none⟩) ∧ s7 = .pointer (some ⟨g2, 0, none⟩) ∧ Gr wr wx ∧ wx.heap[g1]? = some (.cells #[.slice a' m' cc', .int .i64 col', .int .i64 clip', .int .i64 step'] 25 (0, 0)) ∧ wx.heap[g2]? = some (.cells #[.slice a m' cc, .int .i64 col', .int .i64 clip', .int .i64 step'] 25 (0, 0)))
      case first =>
        have p0 := GrW.cell c0
        have p1 := GrW.cell c1
        have p2 := GrW.cell c2
        have p3 := GrW.cell c3
        have v0 := GrW.cell d0
        have v1 := GrW.cell d1
        have v2 := GrW.cell d2
        have v3 := GrW.cell d3
        clear c0 c1 c2 c3 d0 d1 d2 d3
        refine wp_region_plan (C := fun w' => ∃ p : GrW wr, w' = p.W) (.take 0 (.take 1 (.take 2 (.take 3 (.take 4 (.take 5 (.take 6 (.take 7 (.two 8 (.one 9 (.one 10 (.one 11 .done))) 9 (.one 8 (.one 10 (.one 11 .done)))))))))))) (by rfl) (by kernel_rfl) (by kernel_rfl) ⟨⟨_, (Gr.refl wr).drew⟩, rfl⟩ ?_
        (refine plan_read rfl rfl (fun K hK => ?_))
        go_big_quiet_op
        (with_reducible refine hK _ ?_)
        clear hK K
        (refine plan_read rfl rfl (fun K hK => ?_))
        go_big_quiet_op
        (with_reducible refine hK _ ?_)
        clear hK K
        (refine plan_read rfl rfl (fun K hK => ?_))
        go_big_quiet_op
        (with_reducible refine hK _ ?_)
        clear hK K
        (refine plan_read rfl rfl (fun K hK => ?_))
        go_big_quiet_op
        (with_reducible refine hK _ ?_)
        clear hK K
        (refine plan_read rfl rfl (fun K hK => ?_))
        go_big_quiet_op
        (with_reducible refine hK _ ?_)
        clear hK K
        (refine plan_read rfl rfl (fun K hK => ?_))
        go_big_quiet_op
        (with_reducible refine hK _ ?_)
        clear hK K
        (refine plan_read rfl rfl (fun K hK => ?_))
        go_big_quiet_op
        (with_reducible refine hK _ ?_)
        clear hK K
        (refine plan_read rfl rfl (fun K hK => ?_))
        go_big_quiet_op
        (with_reducible refine hK _ ?_)
        clear hK K
        refine plan_two ?_ ?_
        · (refine plan_one rfl (fun K hK => ?_))
          go_simp
          refine hK.out _ _ ⟨⟨_, (Gr.refl wr).drew.alloc _⟩, rfl⟩ ?_
          clear hK K
          (refine plan_one rfl (fun K hK => ?_))
          go_simp
          refine hK.out _ _ ⟨⟨_, ((Gr.refl wr).drew.alloc _).alloc _⟩, rfl⟩ ?_
          clear hK K
          (refine plan_one rfl (fun K hK => ?_))
          go_simp
          refine hK.out _ _ ⟨⟨_, (((Gr.refl wr).alloc _).alloc _).drew⟩, rfl⟩ ?_
          clear hK K
          (refine plan_one rfl (fun K hK => ?_))
          go_simp
          refine hK.out _ _ ⟨⟨_, (((Gr.refl wr).alloc _).alloc _).drew⟩, rfl⟩ ?_
          clear hK K
          (with_reducible refine plan_done ?_)
          go_wp2
          go_meet
          exact ⟨_, _, rfl, rfl, (((Gr.refl wr).alloc _).alloc _).drew, (rows2 wr _ _).1, (rows2 wr _ _).2⟩
        · (refine plan_one rfl (fun K hK => ?_))
          go_simp
          refine hK.out _ _ ⟨⟨_, (Gr.refl wr).drew.alloc _⟩, rfl⟩ ?_
          clear hK K
          (refine plan_one rfl (fun K hK => ?_))
          go_simp
          refine hK.out _ _ ⟨⟨_, ((Gr.refl wr).drew.alloc _).alloc _⟩, rfl⟩ ?_
          clear hK K
          (refine plan_one rfl (fun K hK => ?_))
          go_simp
          refine hK.out _ _ ⟨⟨_, (((Gr.refl wr).alloc _).alloc _).drew⟩, rfl⟩ ?_
          clear hK K
          (refine plan_one rfl (fun K hK => ?_))
          go_simp
          refine hK.out _ _ ⟨⟨_, (((Gr.refl wr).alloc _).alloc _).drew⟩, rfl⟩ ?_
          clear hK K
          (with_reducible refine plan_done ?_)
          go_wp2
          go_meet
          exact ⟨_, _, rfl, rfl, (((Gr.refl wr).alloc _).alloc _).drew, (rows2 wr _ _).2, (rows2 wr _ _).1⟩
      case rest =>
        obtain ⟨g1, g2, rfl, rfl, GX, R1, R2⟩ := hcut
        obtain ⟨wx, rfl⟩ : ∃ wx : World, wx = wc := ⟨_, rfl⟩
        obtain ⟨q0, q1, q2, q3⟩ := cellsat4 R1
        obtain ⟨r0, r1, r2, r3⟩ := cellsat4 R2
        have HR := hid (And.intro q0 r0)
        have hmb := HV.out.big
        have hmb' : (m' : Int) ≤ 9223372036854775807 := by
          have h : m' ≤ 9223372036854775807 := hmb
          omega
        have HG := hid (BW.trans GX)
        clear c0 c1 c2 c3 d0 d1 d2 d3 R1 R2
        go_wp2_with fail
        go_loopg [8] m' (fun gg s8 wq => ∃ j : Nat, j ≤ m' ∧ m' - j ≤ gg ∧ s8 = .int .i64 j ∧ Gr wx wq)
        case atStart => exact ⟨0, Nat.zero_le _, by omega, rfl, Gr.refl _⟩
        case round =>
          obtain ⟨j, hj, hgj, rfl, BW2⟩ := hrel
          have q0 := row_cell HR.out.1 BW2
          have r0 := row_cell HR.out.2 BW2
          by_cases hjl : j < m'
          · obtain ⟨hv1, b1, o1, e1, hb1, f0, f1, f2⟩ := (HV.out.gr (HG.out.trans BW2)).rd.whr hjl
            obtain ⟨hv2, b2, o2, e2, hb2, k0, k1, k2⟩ := (HV'.out.gr (HG.out.trans BW2)).rd.whr hjl
            dsimp only at e1 e2 f0 f1 f2 k0 k1 k2
            subst e1 e2
            generalize ws'[j]! = y at f0 f1 f2 k0 k1 k2
            obtain ⟨y0, y1, y2⟩ := y
            dsimp only at f0 f1 f2 k0 k1 k2
            have hjn : (j : Int) < (m' : Int) := by omega
            have hj0 : (0 : Int) ≤ (j : Int) := by omega
            clear hv1 hv2
            go_wp2_with fail
            go_quiet (fail)
            go_wp2
            go_roundg (m' - (j + 1))
            case measure => omega
            case rel => exact ⟨j + 1, by omega, by omega, by go_num, BW2.drewN _⟩
          · have hjn : ¬ (j : Int) < (m' : Int) := by omega
            go_wp2
            go_roundg (n - (k + 1))
            case measure => omega
            case rel => exact ⟨k + 1, by omega, by omega, by go_num, HG.out.trans BW2⟩
    · have hkn : ¬ (k : Int) < (n : Int) := by omega
      go_wp2
      go_ret
      exact ⟨rfl, BW⟩
end Go.Proofs.Ytimhkkijoelmhaa
