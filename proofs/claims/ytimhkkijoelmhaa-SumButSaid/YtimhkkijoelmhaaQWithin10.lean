/- within, Asked and Counts of the reference of layer 10. For every subject and question whose columns it has. Check of the reference of layer 10: whether subjects are a table. For every list of subjects and number of columns. asked of the package sum: whether a subject is asked for. For every subject and question whose columns it has. Question of the reference of layer 10: whether a question is valid. For every question, and numbers of columns from 1 to 5. -/
import Derived.Deep.CutRange
import Derived.Deep.DeepCutAuto
import Derived.Deep.LoopGhost
import Derived.Test.YtimhkkijoelmhaaQEltS
import Derived.Test.YtimhkkijoelmhaaQRegGr
import Derived.Test.YtimhkkijoelmhaaQMix
import Derived.Test.YtimhkkijoelmhaaQFrom10
import Derived.Test.YtimhkkijoelmhaaQSlWhr
namespace Go.Proofs.Ytimhkkijoelmhaa
open Go.RowKit

set_option maxRecDepth 100000 in
set_option maxHeartbeats 2000000 in
theorem within10_any (n lo hi : Int) (w : World) :
    Calls Try.prog 50 #[.int .i64 n, .int .i64 lo, .int .i64 hi] w fun e w' => e = .returned (.bool (inB lo hi n)) ∧ w = w' := by
  by_cases h1 : lo ≤ n
  · by_cases h2 : n ≤ hi
    · have HE : Hid (inB lo hi n = true) := by show _ = _; simp [inB, h1, h2]
      go_enter Try.func50, Try.ntmps50
      go_wp2
      go_ret
      exact ⟨by rw [HE.out]; rfl, rfl⟩
    · have HE : Hid (inB lo hi n = false) := by show _ = _; simp [inB, h2]
      go_enter Try.func50, Try.ntmps50
      go_wp2
      go_ret
      exact ⟨by rw [HE.out]; rfl, rfl⟩
  · have HE : Hid (inB lo hi n = false) := by show _ = _; simp [inB, h1]
    go_enter Try.func50, Try.ntmps50
    go_wp2
    go_ret
    exact ⟨by rw [HE.out]; rfl, rfl⟩

set_option maxRecDepth 100000 in
set_option maxHeartbeats 4000000 in
theorem refAsked_any (s : Sbj) (q : Qst) (w : World) (hv : Rd w 1 s.a s.n (s.vals.map (Value.int .i64))) (hq : QstIn w q) (hx : ∀ x ∈ q.whs, 0 ≤ x.col ∧ x.col < s.n) (hb : s.n ≤ 9223372036854775807) :
    Calls Try.prog 36 #[s.val, q.val] w fun e w' => e = .returned (.bool (askedB s q)) ∧ Gr w w' := by
  have HV := hid hv
  have HQ := hid hq
  have HX := hid hx
  have HL := hid hq.len
  have hqb := hq.big
  have hqb' : (q.n : Int) ≤ 9223372036854775807 := by omega
  have HE : Hid (askedB s q = q.whs.all fun x => inB x.lo x.hi s.vals[x.col.toNat]!) := rfl
  have HW := hid (fun n lo hi W => within10_any n lo hi W)
  clear hv hq hx
  obtain ⟨id, a, n, cc, vals⟩ := s
  obtain ⟨qa, qn, qc, whs, col, clip, step⟩ := q
  unfold Sbj.val Qst.val
  dsimp only at *
  have hr := rows2 w (.cells #[.int .i64 id, .slice a n cc] 60) (.cells #[.slice qa qn qc, .int .i64 col, .int .i64 clip, .int .i64 step] 25)
  have g0 : Gr w ((w.alloc (.cells #[.int .i64 id, .slice a n cc] 60)).alloc (.cells #[.slice qa qn qc, .int .i64 col, .int .i64 clip, .int .i64 step] 25)) := ((Gr.refl w).alloc _).alloc _
  have HR := hid hr
  have HG := hid g0
  clear hr g0
  go_enter Try.func36, Try.ntmps36
  go_wp2
  generalize (w.alloc (.cells #[.int .i64 id, .slice a n cc] 60)).alloc (.cells #[.slice qa qn qc, .int .i64 col, .int .i64 clip, .int .i64 step] 25) = w0 at HR HG ⊢
  go_loopg [5] qn (fun gg s5 wr => ∃ k : Nat, k ≤ qn ∧ qn - k ≤ gg ∧ s5 = .int .i64 k ∧ Gr w0 wr ∧ Hid (∀ j, j < k → inB whs[j]!.lo whs[j]!.hi vals[whs[j]!.col.toNat]! = true))
  case atStart => exact ⟨0, Nat.zero_le _, by omega, rfl, Gr.refl w0, fun j hj => absurd hj (Nat.not_lt_zero _)⟩
  case round =>
    obtain ⟨k, hk, hgk, rfl, BW, HA⟩ := hrel
    have rs := row_gr HR.out.1 BW
    have rq := row_gr HR.out.2 BW
    have y0 := row_cell_at (v := .slice a n cc) rs 1 rfl
    have u0 := row_cell_at (v := .slice qa qn qc) rq 0 rfl
    clear rs rq
    by_cases hkl : k < qn
    · obtain ⟨hk', b, off, hA, hbl, c0, c1, c2⟩ := (HQ.out.rd.gr (HG.out.trans BW)).whr hkl
      have hxx := HX.out _ (mem_get hk')
      have HNx : Hid (∀ h : inB whs[k]!.lo whs[k]!.hi vals[whs[k]!.col.toNat]! = true, ∀ j, j < k + 1 → inB whs[j]!.lo whs[j]!.hi vals[whs[j]!.col.toNat]! = true) := fun h j hj => by
        rcases Nat.lt_succ_iff_lt_or_eq.1 hj with h1 | rfl
        · exact HA.out j h1
        · exact h
      have HBad : Hid (inB whs[k]!.lo whs[k]!.hi vals[whs[k]!.col.toNat]! = false → (whs.all fun x => inB x.lo x.hi vals[x.col.toNat]!) = false) := fun h => by
        rw [List.all_eq_false]
        exact ⟨_, mem_get hk', by rw [h]; simp⟩
      generalize whs[k]! = x at c0 c1 c2 hxx HNx HBad
      obtain ⟨x0, x1, x2⟩ := x
      dsimp only at *
      obtain ⟨m, hm⟩ : ∃ m : Nat, x0 = m := ⟨x0.toNat, by omega⟩
      subst hm
      have hmn : m < n := by omega
      obtain ⟨hm', b2, off2, hA2, hbl2, d0⟩ := (HV.out.gr (HG.out.trans BW)).int_at hmn
      rw [Int.toNat_natCast] at HNx HBad
      generalize vals[m]! = y at d0 HNx HBad
      subst hA hA2
      obtain ⟨r, hr⟩ : ∃ r, inB x1 x2 y = r := ⟨_, rfl⟩
      have HWx := hid (fun W => HW.out y x1 x2 W)
      rw [hr] at HNx HBad HWx
      clear hr hm' hk' HA
      have hkn : (k : Int) < (qn : Int) := by omega
      have hk0 : (0 : Int) ≤ (k : Int) := by omega
      have hmn' : (m : Int) < (n : Int) := by omega
      have hm0 : (0 : Int) ≤ (m : Int) := by omega
      have p0 := GrW.cell y0
      have p1 := GrW.cell u0
      have p2 := GrW.cell c0
      have p3 := GrW.cell c1
      have p4 := GrW.cell c2
      have p5 := GrW.cell d0
      go_upto_region 4 with fail
      clear y0 u0 c0 c1 c2 d0
      refine wp_region_mixN (C := fun w' => ∃ p : GrW wr, w' = p.W) [22] (by rfl) (by kernel_rfl) ⟨⟨_, (Gr.refl wr).drew⟩, rfl⟩ ?_
      (repeat (first | ((with_reducible refine mixL_read0 ?_ ?_ (fun K hK => ?_)); rfl; rfl; go_big_quiet_op; (with_reducible refine hK _ ?_); clear hK K) | ((with_reducible refine' mixL_skipG ?_ ?_ ?_ ?_ ?_); rotate_left 4; rfl; rfl; rfl; rfl; simp only [Act.put, List.setIfInBounds_toArray, List.set_cons_zero, List.set_cons_succ]) | ((with_reducible refine' mixL_skipU ?_ ?_ ?_ ?_); rotate_left 3; rfl; rfl; rfl; simp only [Act.put, List.setIfInBounds_toArray, List.set_cons_zero, List.set_cons_succ]) | ((with_reducible refine' mixL_readG ?_ ?_ ?_ ?_ ?_ (fun K hK => ?_)); rotate_left 4; rfl; rfl; rfl; rfl; rfl; go_big_quiet_op; (with_reducible refine hK _ ?_); clear hK K)))
      (first | ((with_reducible refine mixL_mut0 ?_ ?_ (fun K hK => ?_)); rfl; rfl) | ((with_reducible refine' mixL_mutG ?_ ?_ ?_ ?_ ?_ (fun K hK => ?_)); rotate_left 4; rfl; rfl; rfl; rfl; rfl))
      go_simp
      refine (HWx.out _).mono ?_
      rintro e w6 ⟨rfl, rfl⟩
      refine hK.out _ _ ⟨⟨_, (Gr.refl wr).drew⟩, rfl⟩ ?_
      clear hK K
      (repeat (first | ((with_reducible refine mixL_read0 ?_ ?_ (fun K hK => ?_)); rfl; rfl; go_big_quiet_op; (with_reducible refine hK _ ?_); clear hK K) | ((with_reducible refine' mixL_skipG ?_ ?_ ?_ ?_ ?_); rotate_left 4; rfl; rfl; rfl; rfl; simp only [Act.put, List.setIfInBounds_toArray, List.set_cons_zero, List.set_cons_succ]) | ((with_reducible refine' mixL_skipU ?_ ?_ ?_ ?_); rotate_left 3; rfl; rfl; rfl; simp only [Act.put, List.setIfInBounds_toArray, List.set_cons_zero, List.set_cons_succ]) | ((with_reducible refine' mixL_readG ?_ ?_ ?_ ?_ ?_ (fun K hK => ?_)); rotate_left 4; rfl; rfl; rfl; rfl; rfl; go_big_quiet_op; (with_reducible refine hK _ ?_); clear hK K)))
      (with_reducible refine mixN_nil ?_)
      clear p0 p1 p2 p3 p4 p5
      cases r with
      | false =>
        go_wp2
        go_ret
        exact ⟨by rw [HE.out, (by first | exact HBad.out trivial | exact HBad.out rfl | exact HBad.out : (whs.all fun x => inB x.lo x.hi vals[x.col.toNat]!) = false)]; rfl, (HG.out.trans BW).trans (Gr.refl wr).drew⟩
      | true =>
        go_wp2
        go_roundg (qn - (k + 1))
        case measure => omega
        case rel => exact ⟨k + 1, by omega, by omega, by go_num, BW.trans (Gr.refl wr).drew, by first | exact HNx.out trivial | exact HNx.out rfl | exact HNx.out⟩
    · have hkn : ¬ (k : Int) < (qn : Int) := by omega
      have hall : Hid ((whs.all fun x => inB x.lo x.hi vals[x.col.toNat]!) = true) := by
        show _ = _
        rw [List.all_eq_true]
        intro x hx
        obtain ⟨j, hj, rfl⟩ := List.getElem_of_mem hx
        have := HA.out j (by have := HL.out; omega)
        rw [getElem!_pos whs j hj] at this
        exact this
      go_wp2
      go_ret
      exact ⟨by rw [HE.out, hall.out]; rfl, HG.out.trans BW⟩

set_option maxRecDepth 100000 in
set_option maxHeartbeats 4000000 in
theorem refCounts_any (s : Sbj) (q : Qst) (w : World) (hv : Rd w 1 s.a s.n (s.vals.map (Value.int .i64))) (hx : q.col ≠ -1 → 0 ≤ q.col ∧ q.col < s.n) (hb : s.n ≤ 9223372036854775807) :
    Calls Try.prog 37 #[s.val, q.val] w fun e w' => e = .returned (.int .i64 (cntN s q)) ∧ Gr w w' := by
  obtain ⟨id, a, n, cc, vals⟩ := s
  obtain ⟨qa, qn, qc, whs, col, clip, step⟩ := q
  unfold Sbj.val Qst.val cntN
  dsimp only at *
  by_cases h1 : col = -1
  · subst h1
    clear hx hv
    go_enter Try.func37, Try.ntmps37
    go_wp2
    go_ret
    exact ⟨rfl, ((Gr.refl w).alloc _).alloc _⟩
  · have hxx := hx h1
    obtain ⟨m, hm⟩ : ∃ m : Nat, col = m := ⟨col.toNat, by omega⟩
    subst hm
    have hmn : m < n := by omega
    have g0 : Gr w ((w.alloc (.cells #[.int .i64 id, .slice a n cc] 60)).alloc (.cells #[.slice qa qn qc, .int .i64 m, .int .i64 clip, .int .i64 step] 25)) := ((Gr.refl w).alloc _).alloc _
    obtain ⟨hm', b2, off2, hA2, hbl2, d0⟩ := (hv.gr g0).int_at hmn
    have HE : Hid ((if (m : Int) = -1 then 1 else min vals[(m : Int).toNat]! clip) = min vals[m]! clip) := by
      show _ = _
      rw [if_neg h1, Int.toNat_natCast]
    rw [HE.out]
    generalize vals[m]! = y at d0 ⊢
    clear hv hx hm' HE
    have hmn' : (m : Int) < (n : Int) := by omega
    have hm0 : (0 : Int) ≤ (m : Int) := by omega
    have hr := rows2 w (.cells #[.int .i64 id, .slice a n cc] 60) (.cells #[.slice qa qn qc, .int .i64 m, .int .i64 clip, .int .i64 step] 25)
    have y0 := row_cell_at (v := .slice a n cc) hr.1 1 rfl
    have u1 := row_cell_at (v := .int .i64 m) hr.2 1 rfl
    have u2 := row_cell_at (v := .int .i64 clip) hr.2 2 rfl
    have HG := hid g0
    clear hr g0
    subst hA2
    go_enter Try.func37, Try.ntmps37
    go_upto_region 3 with fail
    generalize (w.alloc (.cells #[.int .i64 id, .slice (some ⟨b2, off2, none⟩) n cc] 60)).alloc (.cells #[.slice qa qn qc, .int .i64 m, .int .i64 clip, .int .i64 step] 25) = w0 at HG y0 u1 u2 d0 ⊢
    have p0 := GrW.cell y0
    have p1 := GrW.cell u1
    have p2 := GrW.cell u2
    have p5 := GrW.cell d0
    clear y0 u1 u2 d0
    by_cases hyc : clip < y
    all_goals
      refine wp_region_mixN (C := fun w' => ∃ p : GrW w0, w' = p.W) [8] (by rfl) (by kernel_rfl) ⟨⟨_, (Gr.refl w0).drew⟩, rfl⟩ ?_
      (repeat (first | ((with_reducible refine mixL_read0 ?_ ?_ (fun K hK => ?_)); rfl; rfl; go_big_quiet_op; (with_reducible refine hK _ ?_); clear hK K) | ((with_reducible refine' mixL_skipG ?_ ?_ ?_ ?_ ?_); rotate_left 4; rfl; rfl; rfl; rfl; simp only [Act.put, List.setIfInBounds_toArray, List.set_cons_zero, List.set_cons_succ]) | ((with_reducible refine' mixL_skipU ?_ ?_ ?_ ?_); rotate_left 3; rfl; rfl; rfl; simp only [Act.put, List.setIfInBounds_toArray, List.set_cons_zero, List.set_cons_succ]) | ((with_reducible refine' mixL_readG ?_ ?_ ?_ ?_ ?_ (fun K hK => ?_)); rotate_left 4; rfl; rfl; rfl; rfl; rfl; go_big_quiet_op; (with_reducible refine hK _ ?_); clear hK K)))
      (first | ((with_reducible refine mixL_mut0 ?_ ?_ (fun K hK => ?_)); rfl; rfl) | ((with_reducible refine' mixL_mutG ?_ ?_ ?_ ?_ ?_ (fun K hK => ?_)); rotate_left 4; rfl; rfl; rfl; rfl; rfl))
      go_simp
      refine hK.out _ _ ⟨⟨_, (Gr.refl w0).drew⟩, rfl⟩ ?_
      clear hK K
      (repeat (first | ((with_reducible refine mixL_read0 ?_ ?_ (fun K hK => ?_)); rfl; rfl; go_big_quiet_op; (with_reducible refine hK _ ?_); clear hK K) | ((with_reducible refine' mixL_skipG ?_ ?_ ?_ ?_ ?_); rotate_left 4; rfl; rfl; rfl; rfl; simp only [Act.put, List.setIfInBounds_toArray, List.set_cons_zero, List.set_cons_succ]) | ((with_reducible refine' mixL_skipU ?_ ?_ ?_ ?_); rotate_left 3; rfl; rfl; rfl; simp only [Act.put, List.setIfInBounds_toArray, List.set_cons_zero, List.set_cons_succ]) | ((with_reducible refine' mixL_readG ?_ ?_ ?_ ?_ ?_ (fun K hK => ?_)); rotate_left 4; rfl; rfl; rfl; rfl; rfl; go_big_quiet_op; (with_reducible refine hK _ ?_); clear hK K)))
      (with_reducible refine mixN_nil ?_)
      go_wp2
      go_ret
      exact ⟨congrArg (fun z => Ending.returned (Value.int .i64 z)) (by omega), HG.out.trans (Gr.refl w0).drew⟩
end Go.Proofs.Ytimhkkijoelmhaa
namespace Go.Proofs.Ytimhkkijoelmhaa
open Go.RowKit

theorem tableN_parts {columns : Int} {zs : List Sbj} {n : Nat} (hl : zs.length = n) : (inB 1 5 columns = false → tableN columns zs = 100) ∧ (16 < n → tableN columns zs = 100) ∧ (∀ k, k < n → sbjBad columns zs k = true → tableN columns zs = 100) ∧
    (inB 1 5 columns = true → n ≤ 16 → (∀ k, k < n → sbjBad columns zs k = false) → tableN columns zs = 0) := by
  unfold tableN tableB
  refine ⟨fun h => by rw [h]; simp, fun h => by rw [if_neg]; simp; omega, fun k hk h => ?_, fun h1 h2 h3 => ?_⟩
  · rw [if_neg]
    intro hh
    simp only [Bool.and_eq_true, Bool.not_eq_true', List.any_eq_false, List.mem_range] at hh
    have := hh.2 k (by omega)
    rw [h] at this
    exact this rfl
  · rw [if_pos]
    simp only [Bool.and_eq_true, Bool.not_eq_true', List.any_eq_false, List.mem_range, decide_eq_true_eq]
    exact ⟨⟨h1, by omega⟩, fun k hk => by rw [h3 k (by omega)]; simp⟩

set_option maxRecDepth 100000 in
set_option maxHeartbeats 16000000 in
theorem refCheck_any (columns : Int) (A : Option Addr) (n c : Nat) (zs : List Sbj) (w : World) (hi : SbjsIn w A n zs) :
    Calls Try.prog 21 #[.int .i64 columns, .slice A n c] w fun e w' => e = .returned (.int .i64 (tableN columns zs)) ∧ Gr w w' := by
  have HI := hid hi
  have HL := hid hi.len
  have hbig := hi.big
  have hbig' : (n : Int) ≤ 9223372036854775807 := by omega
  have HT := hid (tableN_parts (columns := columns) hi.len)
  generalize tableN columns zs = R at HT ⊢
  have HW := hid (fun n lo hi W => within10_any n lo hi W)
  clear hi
  obtain ⟨cb, hcb⟩ : ∃ cb, inB 1 5 columns = cb := ⟨_, rfl⟩
  have HWc := hid (fun W => HW.out columns 1 5 W)
  rw [hcb] at HWc HT
  cases cb with
  | false =>
    have HR := hid (HT.out.1 rfl)
    clear hcb HT
    go_enter Try.func21, Try.ntmps21
    go_wp2_with (first
      | (go_at_call 50; (with_reducible refine (HWc.out _).mono ?_); rotate_right; rintro e w' ⟨rfl, rfl⟩))
    go_ret
    exact ⟨by rw [HR.out]; rfl, Gr.refl w⟩
  | true =>
  by_cases h16 : (16 : Int) < (n : Int)
  · have HR := hid (HT.out.2.1 (by omega))
    clear hcb HT
    go_enter Try.func21, Try.ntmps21
    go_wp2_with (first
      | (go_at_call 50; (with_reducible refine (HWc.out _).mono ?_); rotate_right; rintro e w' ⟨rfl, rfl⟩))
    go_ret
    exact ⟨by rw [HR.out]; rfl, Gr.refl w⟩
  have hcc : 1 ≤ columns ∧ columns ≤ 5 := by unfold inB at hcb; simpa using hcb
  obtain ⟨cn, hcn⟩ : ∃ cn : Nat, columns = cn := ⟨columns.toNat, by omega⟩
  subst hcn
  have HBad := hid HT.out.2.2.1
  have HAll := hid (HT.out.2.2.2 rfl (by omega))
  clear hcb HT
  go_enter Try.func21, Try.ntmps21
  go_wp2_with (first
    | (go_at_call 50; (with_reducible refine (HWc.out _).mono ?_); rotate_right; rintro e w' ⟨rfl, rfl⟩))
  go_loopg [5] n (fun gg s5 wr => ∃ k : Nat, k ≤ n ∧ n - k ≤ gg ∧ s5 = .int .i64 k ∧ Gr w wr ∧ Hid (∀ j, j < k → sbjBad cn zs j = false))
  case atStart => exact ⟨0, Nat.zero_le _, by omega, rfl, Gr.refl w, fun j hj => absurd hj (Nat.not_lt_zero _)⟩
  case round =>
    obtain ⟨k, hk, hgk, rfl, BW, HA⟩ := hrel
    by_cases hkl : k < n
    · obtain ⟨hk', b, off, hAe, hbl, c0, c1⟩ := (HI.out.gr BW).rd.sbj hkl
      have HV := hid ((HI.out.gr BW).vals _ (mem_get hk'))
      have HB := hid (HBad.out k hkl)
      have HDef : Hid (sbjBad cn zs k = ((zs.take k).any (fun x => x.id == zs[k]!.id) || !(inB 0 999999 zs[k]!.id && (zs[k]!.vals.length : Int) == (cn : Int) && zs[k]!.vals.all (inB 0 1000000)))) := rfl
      obtain ⟨x, hx⟩ : ∃ x, zs[k]! = x := ⟨_, rfl⟩
      rw [hx] at c0 c1 HV HDef
      clear hx
      obtain ⟨id, a, vn, vc, vals⟩ := x
      dsimp only at *
      subst hAe
      obtain ⟨ib, hib⟩ : ∃ ib, inB 0 999999 id = ib := ⟨_, rfl⟩
      have HWi := hid (fun W => HW.out id 0 999999 W)
      rw [hib] at HWi HDef
      have hvl : vals.length = vn := by have := HV.out.1.len; simpa using this
      have HVL := hid hvl
      have hvb := HV.out.2
      have hkn : (k : Int) < (n : Int) := by omega
      have hk0 : (0 : Int) ≤ (k : Int) := by omega
      clear hib hvl
      cases ib with
      | false =>
        have HR := hid (HB.out (by rw [HDef.out]; simp))
        go_wp2_with (first
          | (go_at_call 50; (with_reducible refine (HWi.out _).mono ?_); rotate_right; rintro e w' ⟨rfl, rfl⟩))
        go_ret
        exact ⟨by rw [HR.out]; rfl, BW⟩
      | true =>
      by_cases hvc : (vn : Int) = (cn : Int)
      case neg =>
        have HR := hid (HB.out (by rw [HDef.out, HVL.out]; simp; omega))
        go_wp2_with (first
          | (go_at_call 50; (with_reducible refine (HWi.out _).mono ?_); rotate_right; rintro e w' ⟨rfl, rfl⟩))
        go_ret
        exact ⟨by rw [HR.out]; rfl, BW⟩
      case pos =>
      have hvc' : vn = cn := by omega
      subst hvc'
      obtain ⟨wo, rfl⟩ : ∃ wo : World, wo = wr := ⟨_, rfl⟩
      go_wp2_with (first
        | (go_at_call 50; (with_reducible refine (HWi.out _).mono ?_); rotate_right; rintro e w' ⟨rfl, rfl⟩))
      go_loopg [6] vn (fun gg s6 wr => ∃ j : Nat, j ≤ vn ∧ vn - j ≤ gg ∧ s6 = .int .i64 j ∧ Gr wo wr ∧ Hid (∀ i, i < j → inB 0 1000000 vals[i]! = true))
      case atStart => exact ⟨0, Nat.zero_le _, by omega, rfl, Gr.refl wo, fun j hj => absurd hj (Nat.not_lt_zero _)⟩
      case round =>
        obtain ⟨j, hj, hgj, rfl, BW2, HA2⟩ := hrel
        have c0 := row_cell c0 BW2
        have c1 := row_cell c1 BW2
        by_cases hjl : j < vn
        · obtain ⟨hj', b2, off2, hA2, hbl2, d0⟩ := (HV.out.1.gr BW2).int_at hjl
          obtain ⟨y, hy⟩ : ∃ y, vals[j]! = y := ⟨_, rfl⟩
          rw [hy] at d0
          have HY := hid hy
          subst hA2
          obtain ⟨yb, hyb⟩ : ∃ yb, inB 0 1000000 y = yb := ⟨_, rfl⟩
          have HWy := hid (fun W => HW.out y 0 1000000 W)
          rw [hyb] at HWy
          have HYB := hid hyb
          have hjn : (j : Int) < (vn : Int) := by omega
          have hj0 : (0 : Int) ≤ (j : Int) := by omega
          clear hy hyb
          cases yb with
          | false =>
            have HR := hid (HB.out (by
              have : vals.all (inB 0 1000000) = false := by
                rw [List.all_eq_false]
                exact ⟨_, mem_get hj', by rw [HY.out, HYB.out]; simp⟩
              rw [HDef.out, this]; simp))
            go_wp2_with (first
              | (go_at_call 50; (with_reducible refine (HWy.out _).mono ?_); rotate_right; rintro e w' ⟨rfl, rfl⟩))
            go_ret
            exact ⟨by rw [HR.out]; rfl, BW.trans BW2⟩
          | true =>
            go_wp2_with (first
              | (go_at_call 50; (with_reducible refine (HWy.out _).mono ?_); rotate_right; rintro e w' ⟨rfl, rfl⟩))
            go_roundg (vn - (j + 1))
            case measure => omega
            case rel =>
              refine ⟨j + 1, by omega, by omega, by go_num, BW2, fun i hi => ?_⟩
              rcases Nat.lt_succ_iff_lt_or_eq.1 hi with h1 | rfl
              · exact HA2.out i h1
              · rw [HY.out]; exact HYB.out
        · have hjn : ¬ (j : Int) < (vn : Int) := by omega
          have HVal : Hid (vals.all (inB 0 1000000) = true) := by
            show _ = _
            rw [List.all_eq_true]
            intro v hv
            obtain ⟨i, hi', rfl⟩ := List.getElem_of_mem hv
            have := HA2.out i (by have := HVL.out; omega)
            rw [getElem!_pos vals i hi'] at this
            exact this
          have HDef2 : Hid (sbjBad vn zs k = (zs.take k).any (fun x => x.id == id)) := by
            show _ = _
            rw [HDef.out, HVal.out, HVL.out]
            simp
          clear HA2 HDef HVal
          obtain ⟨w2, rfl⟩ : ∃ w2 : World, w2 = wr := ⟨_, rfl⟩
          go_wp2_with fail
          go_loopg [7] k (fun gg s7 wr => ∃ m : Nat, m ≤ k ∧ k - m ≤ gg ∧ s7 = .int .i64 m ∧ Gr w2 wr ∧ Hid (∀ i, i < m → ¬ zs[i]!.id = id))
          case atStart => exact ⟨0, Nat.zero_le _, by omega, rfl, Gr.refl w2, fun j hj => absurd hj (Nat.not_lt_zero _)⟩
          case round =>
            obtain ⟨m, hm, hgm, rfl, BW3, HA3⟩ := hrel
            have c0 := row_cell c0 BW3
            by_cases hml : m < k
            · obtain ⟨hm', b3, off3, hA3, hbl3, f0, _⟩ := (HI.out.gr ((BW.trans BW2).trans BW3)).rd.sbj (k := m) (by omega)
              cases hA3
              obtain ⟨y, hy⟩ : ∃ y, zs[m]!.id = y := ⟨_, rfl⟩
              rw [hy] at f0
              have HY := hid hy
              clear hy
              have hmk : (m : Int) < (k : Int) := by omega
              have hmn : (m : Int) < (n : Int) := by omega
              have hm0 : (0 : Int) ≤ (m : Int) := by omega
              by_cases hyi : y = id
              · subst hyi
                have HR := hid (HB.out (by
                  rw [HDef2.out, List.any_eq_true]
                  refine ⟨zs[m]!, ?_, by rw [HY.out]; simp⟩
                  rw [getElem!_pos zs m hm']
                  exact List.mem_take_iff_getElem.2 ⟨m, by omega, rfl⟩))
                go_wp2_with fail
                go_quiet (fail)
                go_wp2
                go_ret
                exact ⟨by rw [HR.out]; rfl, ((BW.trans BW2).trans BW3).trans (by first | exact (Gr.refl _).drewN _ | exact (Gr.refl _).drew)⟩
              · go_wp2_with fail
                go_quiet (fail)
                go_wp2
                go_roundg (k - (m + 1))
                case measure => omega
                case rel =>
                  refine ⟨m + 1, by omega, by omega, by go_num, by first | exact BW3.drewN _ | exact BW3.drew, fun i hi => ?_⟩
                  rcases Nat.lt_succ_iff_lt_or_eq.1 hi with h1 | rfl
                  · exact HA3.out i h1
                  · rw [HY.out]; exact hyi
            · have hmk : ¬ (m : Int) < (k : Int) := by omega
              go_wp2
              go_roundg (n - (k + 1))
              case measure => omega
              case rel =>
                refine ⟨k + 1, by omega, by omega, by go_num, (BW.trans BW2).trans BW3, fun i hi => ?_⟩
                rcases Nat.lt_succ_iff_lt_or_eq.1 hi with h1 | rfl
                · exact HA.out i h1
                · rw [HDef2.out, List.any_eq_false]
                  intro z hz
                  obtain ⟨r, hr, rfl⟩ := List.mem_take_iff_getElem.1 hz
                  have hr2 : r < zs.length := by omega
                  have := HA3.out r (by omega)
                  rw [getElem!_pos zs r hr2] at this
                  simpa using this
    · have hkn : ¬ (k : Int) < (n : Int) := by omega
      have HR := hid (HAll.out (fun i hi => HA.out i (by omega)))
      go_wp2
      go_ret
      exact ⟨by rw [HR.out]; rfl, BW⟩
end Go.Proofs.Ytimhkkijoelmhaa
namespace Go.Proofs.Ytimhkkijoelmhaa
open Go.RowKit

set_option maxRecDepth 100000 in
set_option maxHeartbeats 2000000 in
theorem asked1_any (x : Whr) (s : Sbj) (c : Nat) (w : World) (h0 : w.cell? ⟨c, 0, none⟩ = some (.int .i64 s.id)) (h1 : w.cell? ⟨c, 1, none⟩ = some (.slice s.a s.n s.c)) (hv : Rd w 1 s.a s.n (s.vals.map (Value.int .i64))) (hx : 0 ≤ x.col ∧ x.col < s.n) (hb : s.n ≤ 9223372036854775807) :
    Calls Try.prog 73 #[x.val, .pointer (some ⟨c, 0, none⟩)] w fun e w' => e = .returned (.bool (!inB x.lo x.hi s.vals[x.col.toNat]!)) ∧ Gr w w' := by
  obtain ⟨k, hk⟩ : ∃ k : Nat, x.col = k := ⟨x.col.toNat, by omega⟩
  have hkn : k < s.n := by omega
  obtain ⟨hk', b, off, hA, hbl, hc⟩ := hv.int_at hkn
  rw [hk, Int.toNat_natCast]
  generalize s.vals[k]! = y at hc ⊢
  obtain ⟨col, lo, hi⟩ := x
  obtain ⟨id, a, n, cc, vals⟩ := s
  unfold Whr.val
  dsimp only at *
  subst hA hk
  have HIn := hid (fun bb cp W hb' h' => in_1x lo hi y bb cp W hb' h')
  obtain ⟨r, hr⟩ : ∃ r, inB lo hi y = r := ⟨_, rfl⟩
  rw [hr] at HIn
  rw [hr]
  clear hr hv hx hk'
  have hkn' : (k : Int) < (n : Int) := by omega
  have hk0 : (0 : Int) ≤ (k : Int) := by omega
  have hcw : c < w.heap.size := block_lt_of_cell h0
  go_enter Try.func73, Try.ntmps73
  go_upto_region 1 with fail
  have g1 : Gr w (w.alloc (.cells #[.int .i64 k, .int .i64 lo, .int .i64 hi] 72)) := (Gr.refl w).alloc _
  have HG1 := hid g1
  have hr1 := heap_alloc_new w (.cells #[.int .i64 k, .int .i64 lo, .int .i64 hi] 72)
  have e0 := row_cell h0 g1
  have e1 := row_cell h1 g1
  have ec := row_cell hc g1
  have z0 := row_cell_at (v := .int .i64 k) hr1 0 rfl
  have z1 := row_cell_at (v := .int .i64 lo) hr1 1 rfl
  have z2 := row_cell_at (v := .int .i64 hi) hr1 2 rfl
  clear h0 h1 hc hr1 g1
  generalize w.alloc (.cells #[.int .i64 k, .int .i64 lo, .int .i64 hi] 72) = w1 at HG1 e0 e1 ec z0 z1 z2 ⊢
  have p0 := GrW.cell e0
  have p1 := GrW.cell e1
  have pc := GrW.cell ec
  have q0 := GrW.cell z0
  have q1 := GrW.cell z1
  have q2 := GrW.cell z2
  clear e0 e1 ec z0 z1 z2
  refine wp_region_mixN (C := fun w' => ∃ p : GrW w1, w' = p.W) [10, 11] (by rfl) (by kernel_rfl) ⟨⟨_, (Gr.refl w1).drew⟩, rfl⟩ ?_
  (repeat (first | ((with_reducible refine mixL_read0 ?_ ?_ (fun K hK => ?_)); rfl; rfl; go_big_quiet_op; (with_reducible refine hK _ ?_); clear hK K) | ((with_reducible refine' mixL_skipG ?_ ?_ ?_ ?_ ?_); rotate_left 4; rfl; rfl; rfl; rfl; simp only [Act.put, List.setIfInBounds_toArray, List.set_cons_zero, List.set_cons_succ]) | ((with_reducible refine' mixL_skipU ?_ ?_ ?_ ?_); rotate_left 3; rfl; rfl; rfl; simp only [Act.put, List.setIfInBounds_toArray, List.set_cons_zero, List.set_cons_succ]) | ((with_reducible refine' mixL_readG ?_ ?_ ?_ ?_ ?_ (fun K hK => ?_)); rotate_left 4; rfl; rfl; rfl; rfl; rfl; go_big_quiet_op; (with_reducible refine hK _ ?_); clear hK K)))
  (first | ((with_reducible refine mixL_mut0 ?_ ?_ (fun K hK => ?_)); rfl; rfl) | ((with_reducible refine' mixL_mutG ?_ ?_ ?_ ?_ ?_ (fun K hK => ?_)); rotate_left 4; rfl; rfl; rfl; rfl; rfl))
  go_simp
  refine hK.out _ _ ⟨⟨_, (Gr.refl w1).drew.alloc _⟩, rfl⟩ ?_
  clear hK K
  (first | ((with_reducible refine mixL_mut0 ?_ ?_ (fun K hK => ?_)); rfl; rfl) | ((with_reducible refine' mixL_mutG ?_ ?_ ?_ ?_ ?_ (fun K hK => ?_)); rotate_left 4; rfl; rfl; rfl; rfl; rfl))
  go_simp
  refine (HIn.out _ _ _ ?_ ?_).mono ?_
  · simp
  · exact row_cell_at (heap_alloc_new w1.drew _) 0 rfl
  rintro e w6 ⟨rfl, hk6⟩
  have GK := hid (Gr.trans ((Gr.refl w1).drew.alloc _) hk6)
  refine hK.out _ _ ⟨⟨w6, GK.out⟩, rfl⟩ ?_
  clear hK K hk6
  (repeat (first | ((with_reducible refine mixL_read0 ?_ ?_ (fun K hK => ?_)); rfl; rfl; go_big_quiet_op; (with_reducible refine hK _ ?_); clear hK K) | ((with_reducible refine' mixL_skipG ?_ ?_ ?_ ?_ ?_); rotate_left 4; rfl; rfl; rfl; rfl; simp only [Act.put, List.setIfInBounds_toArray, List.set_cons_zero, List.set_cons_succ]) | ((with_reducible refine' mixL_skipU ?_ ?_ ?_ ?_); rotate_left 3; rfl; rfl; rfl; simp only [Act.put, List.setIfInBounds_toArray, List.set_cons_zero, List.set_cons_succ]) | ((with_reducible refine' mixL_readG ?_ ?_ ?_ ?_ ?_ (fun K hK => ?_)); rotate_left 4; rfl; rfl; rfl; rfl; rfl; go_big_quiet_op; (with_reducible refine hK _ ?_); clear hK K)))
  (with_reducible refine mixN_nil ?_)
  go_wp2
  go_ret
  exact ⟨rfl, HG1.out.trans GK.out⟩

set_option maxRecDepth 100000 in
set_option maxHeartbeats 2000000 in
theorem asked_any (s : Sbj) (q : Qst) (w : World) (hv : Rd w 1 s.a s.n (s.vals.map (Value.int .i64))) (hq : QstIn w q) (hx : ∀ x ∈ q.whs, 0 ≤ x.col ∧ x.col < s.n) (hb : s.n ≤ 9223372036854775807) :
    Calls Try.prog 44 #[s.val, q.val] w fun e w' => e = .returned (.bool (askedB s q)) ∧ Gr w w' := by
  have HE : Hid (askedB s q = !(q.whs.any fun x => !inB x.lo x.hi s.vals[x.col.toNat]!)) := by
    show _ = _
    unfold askedB
    rw [List.all_eq_not_any_not]
  have HC := hid (fun W (g : Gr w W) (h0 : W.cell? ⟨w.heap.size, 0, none⟩ = some (.int .i64 s.id)) (h1 : W.cell? ⟨w.heap.size, 1, none⟩ = some (.slice s.a s.n s.c)) =>
    containsFunc_whr 73 #[.pointer (some ⟨w.heap.size, 0, none⟩)] (enters_of Try.func73 (by kernel_rfl) rfl) (fun x => !inB x.lo x.hi s.vals[x.col.toNat]!) q.a q.n q.c q.whs W
      (fun W' x hx' k => asked1_any x s w.heap.size W' (row_cell h0 k) (row_cell h1 k) ((hv.gr g).gr k) (hx x hx') hb) ((hq.rd).gr g) hq.big)
  generalize (q.whs.any fun x => !inB x.lo x.hi s.vals[x.col.toNat]!) = r at HC HE
  clear hv hq hx hb
  obtain ⟨id, a, n, cc, vals⟩ := s
  obtain ⟨qa, qn, qc, whs, col, clip, step⟩ := q
  unfold Sbj.val Qst.val
  dsimp only at *
  go_enter Try.func44, Try.ntmps44
  go_wp2_with (go_at_call 72; (with_reducible refine (HC.out _ ?_ ?_ ?_).mono ?_); rotate_right; rintro e w' ⟨rfl, hb'⟩)
  · go_ret
    exact ⟨by rw [HE.out]; rfl, (((Gr.refl w).alloc _).alloc _).trans hb'⟩
  · exact ((Gr.refl w).alloc _).alloc _
  · simp
  · simp
end Go.Proofs.Ytimhkkijoelmhaa
namespace Go.Proofs.Ytimhkkijoelmhaa
open Go.RowKit

set_option maxRecDepth 100000 in
set_option maxHeartbeats 8000000 in
theorem refQuestion_any (columns : Int) (q : Qst) (w : World) (hq : QstIn w q) (hc : 1 ≤ columns ∧ columns ≤ 5) :
    Calls Try.prog 45 #[.int .i64 columns, q.val] w fun e w' => e = .returned (.bool (qstB columns q)) ∧ Gr w w' := by
  have HQ := hid hq
  have HL := hid hq.len
  have hqb := hq.big
  have hqb' : (q.n : Int) ≤ 9223372036854775807 := by omega
  have HW := hid (fun n lo hi W => within10_any n lo hi W)
  have hwc : IntKind.i64.wrap (columns - 1) = columns - 1 := by rw [IntKind.wrap_i64]; omega
  clear hq
  obtain ⟨qa, qn, qc, whs, col, clip, step⟩ := q
  unfold Qst.val
  dsimp only at *
  obtain ⟨R, hR⟩ : ∃ R, qstB columns ⟨qa, qn, qc, whs, col, clip, step⟩ = R := ⟨_, rfl⟩
  rw [hR]
  obtain ⟨sb, hsb⟩ : ∃ sb, inB 1 1000000 step = sb := ⟨_, rfl⟩
  have HS := hid (fun W => HW.out step 1 1000000 W)
  rw [hsb] at HS
  have HE : Hid (R = ((if col = -1 then clip == 1 else inB 0 (columns - 1) col && inB 1 1000000 clip) && sb && decide (whs.length ≤ 4) && whs.all (whrB columns))) := by show R = _; rw [← hR, ← hsb]; rfl
  clear hsb hR
  by_cases h4 : (4 : Int) < (qn : Int)
  · have HF : Hid (R = false) := by
      have hd : decide (whs.length ≤ 4) = false := by have := HL.out; simp; omega
      show R = false
      rw [HE.out, hd]
      simp
    go_enter Try.func45, Try.ntmps45
    go_wp2
    go_ret
    exact ⟨by rw [HF.out]; rfl, (Gr.refl w).alloc _⟩
  have hd : decide (whs.length ≤ 4) = true := by have := HL.out; simp; omega
  rw [hd] at HE
  clear hd
  cases sb with
  | false =>
    have HF : Hid (R = false) := by show R = false; rw [HE.out]; simp
    go_enter Try.func45, Try.ntmps45
    go_wp2_with (first
      | (go_at_call 50; (with_reducible refine (HS.out _).mono ?_); rotate_right; rintro e w' ⟨rfl, rfl⟩))
    go_ret
    exact ⟨by rw [HF.out]; rfl, (Gr.refl w).alloc _⟩
  | true =>
    have HR0 := hid (heap_alloc_new w (.cells #[.slice qa qn qc, .int .i64 col, .int .i64 clip, .int .i64 step] 25))
    have HG := hid (show Gr w (w.alloc (.cells #[.slice qa qn qc, .int .i64 col, .int .i64 clip, .int .i64 step] 25)) from (Gr.refl w).alloc _)
    go_enter Try.func45, Try.ntmps45
    go_wp2_with (first
      | (go_at_call 50; (with_reducible refine (HS.out _).mono ?_); rotate_right; rintro e w' ⟨rfl, rfl⟩))
    generalize w.alloc (.cells #[.slice qa qn qc, .int .i64 col, .int .i64 clip, .int .i64 step] 25) = w0 at HR0 HG ⊢
    clear HS
    go_loopg [5] qn (fun gg s5 wr => ∃ k : Nat, k ≤ qn ∧ qn - k ≤ gg ∧ s5 = .int .i64 k ∧ Gr w0 wr ∧ Hid (∀ j, j < k → whrB columns whs[j]! = true))
    case atStart => exact ⟨0, Nat.zero_le _, by omega, rfl, Gr.refl w0, fun j hj => absurd hj (Nat.not_lt_zero _)⟩
    case round =>
      obtain ⟨k, hk, hgk, rfl, BW, HA⟩ := hrel
      have rq := row_gr HR0.out BW
      have u0 := row_cell_at (v := .slice qa qn qc) rq 0 rfl
      have u1 := row_cell_at (v := .int .i64 col) rq 1 rfl
      have u2 := row_cell_at (v := .int .i64 clip) rq 2 rfl
      clear rq
      by_cases hkl : k < qn
      · obtain ⟨hk', b, off, hA, hbl, c0, c1, c2⟩ := (HQ.out.rd.gr (HG.out.trans BW)).whr hkl
        have HNx : Hid (∀ h : whrB columns whs[k]! = true, ∀ j, j < k + 1 → whrB columns whs[j]! = true) := fun h j hj => by
          rcases Nat.lt_succ_iff_lt_or_eq.1 hj with h1 | rfl
          · exact HA.out j h1
          · exact h
        have HBad : Hid (whrB columns whs[k]! = false → whs.all (whrB columns) = false) := fun h => by
          rw [List.all_eq_false]
          exact ⟨_, mem_get hk', by rw [h]; simp⟩
        generalize whs[k]! = x at c0 c1 c2 HNx HBad
        have HX : Hid (whrB columns x = (inB 0 (columns - 1) x.col && (inB 0 1000000 x.lo && inB 0 1000000 x.hi))) := rfl
        rw [HX.out] at HNx HBad
        obtain ⟨x0, x1, x2⟩ := x
        dsimp only at *
        subst hA
        clear HX hk' HA
        have W0 := hid (fun W => HW.out x0 0 (columns - 1) W)
        have W1 := hid (fun W => HW.out x1 0 1000000 W)
        have W2 := hid (fun W => HW.out x2 0 1000000 W)
        generalize inB 0 (columns - 1) x0 = r0 at W0 HNx HBad
        generalize inB 0 1000000 x1 = r1 at W1 HNx HBad
        generalize inB 0 1000000 x2 = r2 at W2 HNx HBad
        have hkn : (k : Int) < (qn : Int) := by omega
        have hk0 : (0 : Int) ≤ (k : Int) := by omega
        have HBad2 : Hid ((r0 && (r1 && r2)) = false → R = false) := fun h => by rw [HE.out, HBad.out h]; simp
        clear HBad
        cases r0
        case' true => cases r1
        case' true.true => cases r2
        all_goals
          go_wp2_with (first
            | (go_at_call 50; (with_reducible refine (W0.out _).mono ?_); rotate_right; rintro e w' ⟨rfl, rfl⟩)
            | (go_at_call 50; (with_reducible refine (W1.out _).mono ?_); rotate_right; rintro e w' ⟨rfl, rfl⟩)
            | (go_at_call 50; (with_reducible refine (W2.out _).mono ?_); rotate_right; rintro e w' ⟨rfl, rfl⟩))
          first
            | (go_ret
               refine ⟨?_, (HG.out.trans BW).trans ((Gr.refl wr).alloc _)⟩
               have hRf : R = false := by first | exact HBad2.out trivial | exact HBad2.out rfl | exact HBad2.out
               rw [hRf]
               rfl)
            | (go_roundg (qn - (k + 1))
               case measure => omega
               case rel => exact ⟨k + 1, by omega, by omega, by go_num, BW.trans ((Gr.refl wr).alloc _), by first | exact HNx.out trivial | exact HNx.out rfl | exact HNx.out⟩)
      · have hkn : ¬ (k : Int) < (qn : Int) := by omega
        have hall : Hid (whs.all (whrB columns) = true) := by
          show _ = _
          rw [List.all_eq_true]
          intro x hx
          obtain ⟨j, hj, rfl⟩ := List.getElem_of_mem hx
          have := HA.out j (by have := HL.out; omega)
          rw [getElem!_pos whs j hj] at this
          exact this
        have W3 := hid (fun W => HW.out col 0 (columns - 1) W)
        have W4 := hid (fun W => HW.out clip 1 1000000 W)
        by_cases h1 : col = -1
        · have HF : Hid (R = (clip == 1)) := by show R = _; rw [HE.out, hall.out, if_pos h1]; simp
          subst h1
          clear HA hall HE
          go_wp2
          go_ret
          exact ⟨by rw [HF.out]; rfl, HG.out.trans BW⟩
        · obtain ⟨r0, hr0⟩ : ∃ r0, inB 0 (columns - 1) col = r0 := ⟨_, rfl⟩
          obtain ⟨r1, hr1⟩ : ∃ r1, inB 1 1000000 clip = r1 := ⟨_, rfl⟩
          have HF : Hid (R = (r0 && r1)) := by show R = _; rw [HE.out, hall.out, if_neg h1, hr0, hr1]; simp
          rw [hr0] at W3
          rw [hr1] at W4
          clear HA hall HE hr0 hr1
          cases r0
          all_goals
            go_wp2_with (first
              | (go_at_call 50; (with_reducible refine (W3.out _).mono ?_); rotate_right; rintro e w' ⟨rfl, rfl⟩)
              | (go_at_call 50; (with_reducible refine (W4.out _).mono ?_); rotate_right; rintro e w' ⟨rfl, rfl⟩))
            go_ret
            exact ⟨by rw [HF.out]; first | rfl | simp, HG.out.trans BW⟩
end Go.Proofs.Ytimhkkijoelmhaa
