/- Question of the reference of layer 10: whether a question is valid. For every question, and numbers of columns from 1 to 5. -/
import Derived.Test.YtimhkkijoelmhaaWithin10
namespace Go.Proofs.Ytimhkkijoelmhaa
open Go.RowKit

set_option maxRecDepth 100000 in
set_option maxHeartbeats 8000000 in
theorem refQuestion_any (columns : Int) (q : Qst) (w : World) (hq : QstIn w q) (hc : 1 ≤ columns ∧ columns ≤ 5) :
    Calls Try.prog 45 #[.int .i64 columns, q.val] w fun e w' => e = .returned (.bool (qstB columns q)) ∧ Gr w w' := by
  have HQ := hid hq
  have HL := hid hq.len
  have hqb := hq.big
  have hqb' : (q.n : Int) ≤ 9223372036854775807 := by omega
  have HW := hid (fun n lo hi W => within10_any n lo hi W)
  have hwc : IntKind.i64.wrap (columns - 1) = columns - 1 := by rw [IntKind.wrap_i64]; omega
  clear hq
  obtain ⟨qa, qn, qc, whs, col, clip, step⟩ := q
  unfold Qst.val
  dsimp only at *
  obtain ⟨R, hR⟩ : ∃ R, qstB columns ⟨qa, qn, qc, whs, col, clip, step⟩ = R := ⟨_, rfl⟩
  rw [hR]
  obtain ⟨sb, hsb⟩ : ∃ sb, inB 1 1000000 step = sb := ⟨_, rfl⟩
  have HS := hid (fun W => HW.out step 1 1000000 W)
  rw [hsb] at HS
  have HE : Hid (R = ((if col = -1 then clip == 1 else inB 0 (columns - 1) col && inB 1 1000000 clip) && sb && decide (whs.length ≤ 4) && whs.all (whrB columns))) := by show R = _; rw [← hR, ← hsb]; rfl
  clear hsb hR
  by_cases h4 : (4 : Int) < (qn : Int)
  · have HF : Hid (R = false) := by
      have hd : decide (whs.length ≤ 4) = false := by have := HL.out; simp; omega
      show R = false
      rw [HE.out, hd]
      simp
    go_enter Try.func45, Try.ntmps45
    go_wp2
    go_ret
    exact ⟨by rw [HF.out]; rfl, (Gr.refl w).alloc _⟩
  have hd : decide (whs.length ≤ 4) = true := by have := HL.out; simp; omega
  rw [hd] at HE
  clear hd
  cases sb with
  | false =>
    have HF : Hid (R = false) := by show R = false; rw [HE.out]; simp
    go_enter Try.func45, Try.ntmps45
    go_wp2_with (first
      | (go_at_call 50; (with_reducible refine (HS.out _).mono ?_); rotate_right; rintro e w' ⟨rfl, rfl⟩))
    go_ret
    exact ⟨by rw [HF.out]; rfl, (Gr.refl w).alloc _⟩
  | true =>
    have HR0 := hid (heap_alloc_new w (.cells #[.slice qa qn qc, .int .i64 col, .int .i64 clip, .int .i64 step] 25))
    have HG := hid (show Gr w (w.alloc (.cells #[.slice qa qn qc, .int .i64 col, .int .i64 clip, .int .i64 step] 25)) from (Gr.refl w).alloc _)
    go_enter Try.func45, Try.ntmps45
    go_wp2_with (first
      | (go_at_call 50; (with_reducible refine (HS.out _).mono ?_); rotate_right; rintro e w' ⟨rfl, rfl⟩))
    generalize w.alloc (.cells #[.slice qa qn qc, .int .i64 col, .int .i64 clip, .int .i64 step] 25) = w0 at HR0 HG ⊢
    clear HS
    go_loopg [5] qn (fun gg s5 wr => ∃ k : Nat, k ≤ qn ∧ qn - k ≤ gg ∧ s5 = .int .i64 k ∧ Gr w0 wr ∧ Hid (∀ j, j < k → whrB columns whs[j]! = true))
    case atStart => exact ⟨0, Nat.zero_le _, by omega, rfl, Gr.refl w0, fun j hj => absurd hj (Nat.not_lt_zero _)⟩
    case round =>
      obtain ⟨k, hk, hgk, rfl, BW, HA⟩ := hrel
      have rq := row_gr HR0.out BW
      have u0 := row_cell_at (v := .slice qa qn qc) rq 0 rfl
      have u1 := row_cell_at (v := .int .i64 col) rq 1 rfl
      have u2 := row_cell_at (v := .int .i64 clip) rq 2 rfl
      clear rq
      by_cases hkl : k < qn
      · obtain ⟨hk', b, off, hA, hbl, c0, c1, c2⟩ := (HQ.out.rd.gr (HG.out.trans BW)).whr hkl
        have HNx : Hid (∀ h : whrB columns whs[k]! = true, ∀ j, j < k + 1 → whrB columns whs[j]! = true) := fun h j hj => by
          rcases Nat.lt_succ_iff_lt_or_eq.1 hj with h1 | rfl
          · exact HA.out j h1
          · exact h
        have HBad : Hid (whrB columns whs[k]! = false → whs.all (whrB columns) = false) := fun h => by
          rw [List.all_eq_false]
          exact ⟨_, mem_get hk', by rw [h]; simp⟩
        generalize whs[k]! = x at c0 c1 c2 HNx HBad
        have HX : Hid (whrB columns x = (inB 0 (columns - 1) x.col && (inB 0 1000000 x.lo && inB 0 1000000 x.hi))) := rfl
        rw [HX.out] at HNx HBad
        obtain ⟨x0, x1, x2⟩ := x
        dsimp only at *
        subst hA
        clear HX hk' HA
        have W0 := hid (fun W => HW.out x0 0 (columns - 1) W)
        have W1 := hid (fun W => HW.out x1 0 1000000 W)
        have W2 := hid (fun W => HW.out x2 0 1000000 W)
        generalize inB 0 (columns - 1) x0 = r0 at W0 HNx HBad
        generalize inB 0 1000000 x1 = r1 at W1 HNx HBad
        generalize inB 0 1000000 x2 = r2 at W2 HNx HBad
        have hkn : (k : Int) < (qn : Int) := by omega
        have hk0 : (0 : Int) ≤ (k : Int) := by omega
        have HBad2 : Hid ((r0 && (r1 && r2)) = false → R = false) := fun h => by rw [HE.out, HBad.out h]; simp
        clear HBad
        cases r0
        case' true => cases r1
        case' true.true => cases r2
        all_goals
          go_wp2_with (first
            | (go_at_call 50; (with_reducible refine (W0.out _).mono ?_); rotate_right; rintro e w' ⟨rfl, rfl⟩)
            | (go_at_call 50; (with_reducible refine (W1.out _).mono ?_); rotate_right; rintro e w' ⟨rfl, rfl⟩)
            | (go_at_call 50; (with_reducible refine (W2.out _).mono ?_); rotate_right; rintro e w' ⟨rfl, rfl⟩))
          first
            | (go_ret
               refine ⟨?_, (HG.out.trans BW).trans ((Gr.refl wr).alloc _)⟩
               have hRf : R = false := by first | exact HBad2.out trivial | exact HBad2.out rfl | exact HBad2.out
               rw [hRf]
               rfl)
            | (go_roundg (qn - (k + 1))
               case measure => omega
               case rel => exact ⟨k + 1, by omega, by omega, by go_num, BW.trans ((Gr.refl wr).alloc _), by first | exact HNx.out trivial | exact HNx.out rfl | exact HNx.out⟩)
      · have hkn : ¬ (k : Int) < (qn : Int) := by omega
        have hall : Hid (whs.all (whrB columns) = true) := by
          show _ = _
          rw [List.all_eq_true]
          intro x hx
          obtain ⟨j, hj, rfl⟩ := List.getElem_of_mem hx
          have := HA.out j (by have := HL.out; omega)
          rw [getElem!_pos whs j hj] at this
          exact this
        have W3 := hid (fun W => HW.out col 0 (columns - 1) W)
        have W4 := hid (fun W => HW.out clip 1 1000000 W)
        by_cases h1 : col = -1
        · have HF : Hid (R = (clip == 1)) := by show R = _; rw [HE.out, hall.out, if_pos h1]; simp
          subst h1
          clear HA hall HE
          go_wp2
          go_ret
          exact ⟨by rw [HF.out]; rfl, HG.out.trans BW⟩
        · obtain ⟨r0, hr0⟩ : ∃ r0, inB 0 (columns - 1) col = r0 := ⟨_, rfl⟩
          obtain ⟨r1, hr1⟩ : ∃ r1, inB 1 1000000 clip = r1 := ⟨_, rfl⟩
          have HF : Hid (R = (r0 && r1)) := by show R = _; rw [HE.out, hall.out, if_neg h1, hr0, hr1]; simp
          rw [hr0] at W3
          rw [hr1] at W4
          clear HA hall HE hr0 hr1
          cases r0
          all_goals
            go_wp2_with (first
              | (go_at_call 50; (with_reducible refine (W3.out _).mono ?_); rotate_right; rintro e w' ⟨rfl, rfl⟩)
              | (go_at_call 50; (with_reducible refine (W4.out _).mono ?_); rotate_right; rintro e w' ⟨rfl, rfl⟩))
            go_ret
            exact ⟨by rw [HF.out]; first | rfl | simp, HG.out.trans BW⟩
end Go.Proofs.Ytimhkkijoelmhaa
