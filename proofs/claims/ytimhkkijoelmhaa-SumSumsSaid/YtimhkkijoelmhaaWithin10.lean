/- within, Asked and Counts of the reference of layer 10. For every subject and question whose columns it has. -/
import Derived.Test.YtimhkkijoelmhaaRows10
import Derived.Test.YtimhkkijoelmhaaBoxRows
import Derived.Test.YtimhkkijoelmhaaMix
import Derived.Test.YtimhkkijoelmhaaFrom10
import Derived.Deep.LoopGhost
import Derived.Deep.DeepCutAuto
import Derived.Deep.CutRange
namespace Go.Proofs.Ytimhkkijoelmhaa
open Go.RowKit

set_option maxRecDepth 100000 in
set_option maxHeartbeats 2000000 in
theorem within10_any (n lo hi : Int) (w : World) :
    Calls Try.prog 50 #[.int .i64 n, .int .i64 lo, .int .i64 hi] w fun e w' => e = .returned (.bool (inB lo hi n)) ∧ w = w' := by
  by_cases h1 : lo ≤ n
  · by_cases h2 : n ≤ hi
    · have HE : Hid (inB lo hi n = true) := by show _ = _; simp [inB, h1, h2]
      go_enter Try.func50, Try.ntmps50
      go_wp2
      go_ret
      exact ⟨by rw [HE.out]; rfl, rfl⟩
    · have HE : Hid (inB lo hi n = false) := by show _ = _; simp [inB, h2]
      go_enter Try.func50, Try.ntmps50
      go_wp2
      go_ret
      exact ⟨by rw [HE.out]; rfl, rfl⟩
  · have HE : Hid (inB lo hi n = false) := by show _ = _; simp [inB, h1]
    go_enter Try.func50, Try.ntmps50
    go_wp2
    go_ret
    exact ⟨by rw [HE.out]; rfl, rfl⟩

set_option maxRecDepth 100000 in
set_option maxHeartbeats 4000000 in
theorem refAsked_any (s : Sbj) (q : Qst) (w : World) (hv : Rd w 1 s.a s.n (s.vals.map (Value.int .i64))) (hq : QstIn w q) (hx : ∀ x ∈ q.whs, 0 ≤ x.col ∧ x.col < s.n) (hb : s.n ≤ 9223372036854775807) :
    Calls Try.prog 36 #[s.val, q.val] w fun e w' => e = .returned (.bool (askedB s q)) ∧ Gr w w' := by
  have HV := hid hv
  have HQ := hid hq
  have HX := hid hx
  have HL := hid hq.len
  have hqb := hq.big
  have hqb' : (q.n : Int) ≤ 9223372036854775807 := by omega
  have HE : Hid (askedB s q = q.whs.all fun x => inB x.lo x.hi s.vals[x.col.toNat]!) := rfl
  have HW := hid (fun n lo hi W => within10_any n lo hi W)
  clear hv hq hx
  obtain ⟨id, a, n, cc, vals⟩ := s
  obtain ⟨qa, qn, qc, whs, col, clip, step⟩ := q
  unfold Sbj.val Qst.val
  dsimp only at *
  have hr := rows2 w (.cells #[.int .i64 id, .slice a n cc] 60) (.cells #[.slice qa qn qc, .int .i64 col, .int .i64 clip, .int .i64 step] 25)
  have g0 : Gr w ((w.alloc (.cells #[.int .i64 id, .slice a n cc] 60)).alloc (.cells #[.slice qa qn qc, .int .i64 col, .int .i64 clip, .int .i64 step] 25)) := ((Gr.refl w).alloc _).alloc _
  have HR := hid hr
  have HG := hid g0
  clear hr g0
  go_enter Try.func36, Try.ntmps36
  go_wp2
  generalize (w.alloc (.cells #[.int .i64 id, .slice a n cc] 60)).alloc (.cells #[.slice qa qn qc, .int .i64 col, .int .i64 clip, .int .i64 step] 25) = w0 at HR HG ⊢
  go_loopg [5] qn (fun gg s5 wr => ∃ k : Nat, k ≤ qn ∧ qn - k ≤ gg ∧ s5 = .int .i64 k ∧ Gr w0 wr ∧ Hid (∀ j, j < k → inB whs[j]!.lo whs[j]!.hi vals[whs[j]!.col.toNat]! = true))
  case atStart => exact ⟨0, Nat.zero_le _, by omega, rfl, Gr.refl w0, fun j hj => absurd hj (Nat.not_lt_zero _)⟩
  case round =>
    obtain ⟨k, hk, hgk, rfl, BW, HA⟩ := hrel
    have rs := row_gr HR.out.1 BW
    have rq := row_gr HR.out.2 BW
    have y0 := row_cell_at (v := .slice a n cc) rs 1 rfl
    have u0 := row_cell_at (v := .slice qa qn qc) rq 0 rfl
    clear rs rq
    by_cases hkl : k < qn
    · obtain ⟨hk', b, off, hA, hbl, c0, c1, c2⟩ := (HQ.out.rd.gr (HG.out.trans BW)).whr hkl
      have hxx := HX.out _ (mem_get hk')
      have HNx : Hid (∀ h : inB whs[k]!.lo whs[k]!.hi vals[whs[k]!.col.toNat]! = true, ∀ j, j < k + 1 → inB whs[j]!.lo whs[j]!.hi vals[whs[j]!.col.toNat]! = true) := fun h j hj => by
        rcases Nat.lt_succ_iff_lt_or_eq.1 hj with h1 | rfl
        · exact HA.out j h1
        · exact h
      have HBad : Hid (inB whs[k]!.lo whs[k]!.hi vals[whs[k]!.col.toNat]! = false → (whs.all fun x => inB x.lo x.hi vals[x.col.toNat]!) = false) := fun h => by
        rw [List.all_eq_false]
        exact ⟨_, mem_get hk', by rw [h]; simp⟩
      generalize whs[k]! = x at c0 c1 c2 hxx HNx HBad
      obtain ⟨x0, x1, x2⟩ := x
      dsimp only at *
      obtain ⟨m, hm⟩ : ∃ m : Nat, x0 = m := ⟨x0.toNat, by omega⟩
      subst hm
      have hmn : m < n := by omega
      obtain ⟨hm', b2, off2, hA2, hbl2, d0⟩ := (HV.out.gr (HG.out.trans BW)).int_at hmn
      rw [Int.toNat_natCast] at HNx HBad
      generalize vals[m]! = y at d0 HNx HBad
      subst hA hA2
      obtain ⟨r, hr⟩ : ∃ r, inB x1 x2 y = r := ⟨_, rfl⟩
      have HWx := hid (fun W => HW.out y x1 x2 W)
      rw [hr] at HNx HBad HWx
      clear hr hm' hk' HA
      have hkn : (k : Int) < (qn : Int) := by omega
      have hk0 : (0 : Int) ≤ (k : Int) := by omega
      have hmn' : (m : Int) < (n : Int) := by omega
      have hm0 : (0 : Int) ≤ (m : Int) := by omega
      have p0 := GrW.cell y0
      have p1 := GrW.cell u0
      have p2 := GrW.cell c0
      have p3 := GrW.cell c1
      have p4 := GrW.cell c2
      have p5 := GrW.cell d0
      go_upto_region 4 with fail
      clear y0 u0 c0 c1 c2 d0
      refine wp_region_mixN (C := fun w' => ∃ p : GrW wr, w' = p.W) [22] (by rfl) (by kernel_rfl) ⟨⟨_, (Gr.refl wr).drew⟩, rfl⟩ ?_
      (repeat (first | ((with_reducible refine mixL_read0 ?_ ?_ (fun K hK => ?_)); rfl; rfl; go_big_quiet_op; (with_reducible refine hK _ ?_); clear hK K) | ((with_reducible refine' mixL_skipG ?_ ?_ ?_ ?_ ?_); rotate_left 4; rfl; rfl; rfl; rfl; simp only [Act.put, List.setIfInBounds_toArray, List.set_cons_zero, List.set_cons_succ]) | ((with_reducible refine' mixL_skipU ?_ ?_ ?_ ?_); rotate_left 3; rfl; rfl; rfl; simp only [Act.put, List.setIfInBounds_toArray, List.set_cons_zero, List.set_cons_succ]) | ((with_reducible refine' mixL_readG ?_ ?_ ?_ ?_ ?_ (fun K hK => ?_)); rotate_left 4; rfl; rfl; rfl; rfl; rfl; go_big_quiet_op; (with_reducible refine hK _ ?_); clear hK K)))
      (first | ((with_reducible refine mixL_mut0 ?_ ?_ (fun K hK => ?_)); rfl; rfl) | ((with_reducible refine' mixL_mutG ?_ ?_ ?_ ?_ ?_ (fun K hK => ?_)); rotate_left 4; rfl; rfl; rfl; rfl; rfl))
      go_simp
      refine (HWx.out _).mono ?_
      rintro e w6 ⟨rfl, rfl⟩
      refine hK.out _ _ ⟨⟨_, (Gr.refl wr).drew⟩, rfl⟩ ?_
      clear hK K
      (repeat (first | ((with_reducible refine mixL_read0 ?_ ?_ (fun K hK => ?_)); rfl; rfl; go_big_quiet_op; (with_reducible refine hK _ ?_); clear hK K) | ((with_reducible refine' mixL_skipG ?_ ?_ ?_ ?_ ?_); rotate_left 4; rfl; rfl; rfl; rfl; simp only [Act.put, List.setIfInBounds_toArray, List.set_cons_zero, List.set_cons_succ]) | ((with_reducible refine' mixL_skipU ?_ ?_ ?_ ?_); rotate_left 3; rfl; rfl; rfl; simp only [Act.put, List.setIfInBounds_toArray, List.set_cons_zero, List.set_cons_succ]) | ((with_reducible refine' mixL_readG ?_ ?_ ?_ ?_ ?_ (fun K hK => ?_)); rotate_left 4; rfl; rfl; rfl; rfl; rfl; go_big_quiet_op; (with_reducible refine hK _ ?_); clear hK K)))
      (with_reducible refine mixN_nil ?_)
      clear p0 p1 p2 p3 p4 p5
      cases r with
      | false =>
        go_wp2
        go_ret
        exact ⟨by rw [HE.out, (by first | exact HBad.out trivial | exact HBad.out rfl | exact HBad.out : (whs.all fun x => inB x.lo x.hi vals[x.col.toNat]!) = false)]; rfl, (HG.out.trans BW).trans (Gr.refl wr).drew⟩
      | true =>
        go_wp2
        go_roundg (qn - (k + 1))
        case measure => omega
        case rel => exact ⟨k + 1, by omega, by omega, by go_num, BW.trans (Gr.refl wr).drew, by first | exact HNx.out trivial | exact HNx.out rfl | exact HNx.out⟩
    · have hkn : ¬ (k : Int) < (qn : Int) := by omega
      have hall : Hid ((whs.all fun x => inB x.lo x.hi vals[x.col.toNat]!) = true) := by
        show _ = _
        rw [List.all_eq_true]
        intro x hx
        obtain ⟨j, hj, rfl⟩ := List.getElem_of_mem hx
        have := HA.out j (by have := HL.out; omega)
        rw [getElem!_pos whs j hj] at this
        exact this
      go_wp2
      go_ret
      exact ⟨by rw [HE.out, hall.out]; rfl, HG.out.trans BW⟩

set_option maxRecDepth 100000 in
set_option maxHeartbeats 4000000 in
theorem refCounts_any (s : Sbj) (q : Qst) (w : World) (hv : Rd w 1 s.a s.n (s.vals.map (Value.int .i64))) (hx : q.col ≠ -1 → 0 ≤ q.col ∧ q.col < s.n) (hb : s.n ≤ 9223372036854775807) :
    Calls Try.prog 37 #[s.val, q.val] w fun e w' => e = .returned (.int .i64 (cntN s q)) ∧ Gr w w' := by
  obtain ⟨id, a, n, cc, vals⟩ := s
  obtain ⟨qa, qn, qc, whs, col, clip, step⟩ := q
  unfold Sbj.val Qst.val cntN
  dsimp only at *
  by_cases h1 : col = -1
  · subst h1
    clear hx hv
    go_enter Try.func37, Try.ntmps37
    go_wp2
    go_ret
    exact ⟨rfl, ((Gr.refl w).alloc _).alloc _⟩
  · have hxx := hx h1
    obtain ⟨m, hm⟩ : ∃ m : Nat, col = m := ⟨col.toNat, by omega⟩
    subst hm
    have hmn : m < n := by omega
    have g0 : Gr w ((w.alloc (.cells #[.int .i64 id, .slice a n cc] 60)).alloc (.cells #[.slice qa qn qc, .int .i64 m, .int .i64 clip, .int .i64 step] 25)) := ((Gr.refl w).alloc _).alloc _
    obtain ⟨hm', b2, off2, hA2, hbl2, d0⟩ := (hv.gr g0).int_at hmn
    have HE : Hid ((if (m : Int) = -1 then 1 else min vals[(m : Int).toNat]! clip) = min vals[m]! clip) := by
      show _ = _
      rw [if_neg h1, Int.toNat_natCast]
    rw [HE.out]
    generalize vals[m]! = y at d0 ⊢
    clear hv hx hm' HE
    have hmn' : (m : Int) < (n : Int) := by omega
    have hm0 : (0 : Int) ≤ (m : Int) := by omega
    have hr := rows2 w (.cells #[.int .i64 id, .slice a n cc] 60) (.cells #[.slice qa qn qc, .int .i64 m, .int .i64 clip, .int .i64 step] 25)
    have y0 := row_cell_at (v := .slice a n cc) hr.1 1 rfl
    have u1 := row_cell_at (v := .int .i64 m) hr.2 1 rfl
    have u2 := row_cell_at (v := .int .i64 clip) hr.2 2 rfl
    have HG := hid g0
    clear hr g0
    subst hA2
    go_enter Try.func37, Try.ntmps37
    go_upto_region 3 with fail
    generalize (w.alloc (.cells #[.int .i64 id, .slice (some ⟨b2, off2, none⟩) n cc] 60)).alloc (.cells #[.slice qa qn qc, .int .i64 m, .int .i64 clip, .int .i64 step] 25) = w0 at HG y0 u1 u2 d0 ⊢
    have p0 := GrW.cell y0
    have p1 := GrW.cell u1
    have p2 := GrW.cell u2
    have p5 := GrW.cell d0
    clear y0 u1 u2 d0
    by_cases hyc : clip < y
    all_goals
      refine wp_region_mixN (C := fun w' => ∃ p : GrW w0, w' = p.W) [8] (by rfl) (by kernel_rfl) ⟨⟨_, (Gr.refl w0).drew⟩, rfl⟩ ?_
      (repeat (first | ((with_reducible refine mixL_read0 ?_ ?_ (fun K hK => ?_)); rfl; rfl; go_big_quiet_op; (with_reducible refine hK _ ?_); clear hK K) | ((with_reducible refine' mixL_skipG ?_ ?_ ?_ ?_ ?_); rotate_left 4; rfl; rfl; rfl; rfl; simp only [Act.put, List.setIfInBounds_toArray, List.set_cons_zero, List.set_cons_succ]) | ((with_reducible refine' mixL_skipU ?_ ?_ ?_ ?_); rotate_left 3; rfl; rfl; rfl; simp only [Act.put, List.setIfInBounds_toArray, List.set_cons_zero, List.set_cons_succ]) | ((with_reducible refine' mixL_readG ?_ ?_ ?_ ?_ ?_ (fun K hK => ?_)); rotate_left 4; rfl; rfl; rfl; rfl; rfl; go_big_quiet_op; (with_reducible refine hK _ ?_); clear hK K)))
      (first | ((with_reducible refine mixL_mut0 ?_ ?_ (fun K hK => ?_)); rfl; rfl) | ((with_reducible refine' mixL_mutG ?_ ?_ ?_ ?_ ?_ (fun K hK => ?_)); rotate_left 4; rfl; rfl; rfl; rfl; rfl))
      go_simp
      refine hK.out _ _ ⟨⟨_, (Gr.refl w0).drew⟩, rfl⟩ ?_
      clear hK K
      (repeat (first | ((with_reducible refine mixL_read0 ?_ ?_ (fun K hK => ?_)); rfl; rfl; go_big_quiet_op; (with_reducible refine hK _ ?_); clear hK K) | ((with_reducible refine' mixL_skipG ?_ ?_ ?_ ?_ ?_); rotate_left 4; rfl; rfl; rfl; rfl; simp only [Act.put, List.setIfInBounds_toArray, List.set_cons_zero, List.set_cons_succ]) | ((with_reducible refine' mixL_skipU ?_ ?_ ?_ ?_); rotate_left 3; rfl; rfl; rfl; simp only [Act.put, List.setIfInBounds_toArray, List.set_cons_zero, List.set_cons_succ]) | ((with_reducible refine' mixL_readG ?_ ?_ ?_ ?_ ?_ (fun K hK => ?_)); rotate_left 4; rfl; rfl; rfl; rfl; rfl; go_big_quiet_op; (with_reducible refine hK _ ?_); clear hK K)))
      (with_reducible refine mixN_nil ?_)
      go_wp2
      go_ret
      exact ⟨congrArg (fun z => Ending.returned (Value.int .i64 z)) (by omega), HG.out.trans (Gr.refl w0).drew⟩
end Go.Proofs.Ytimhkkijoelmhaa
