/- Sum of the reference of layer 10. For every table and question. -/
import Derived.Test.YtimhkkijoelmhaaQCheck10
import Derived.Test.YtimhkkijoelmhaaQWithin10
namespace Go.Proofs.Ytimhkkijoelmhaa
open Go.RowKit

set_option maxRecDepth 100000 in
set_option maxHeartbeats 16000000 in
theorem refSum_any (columns : Int) (A : Option Addr) (n c : Nat) (zs : List Sbj) (q : Qst) (w : World) (hi : SbjsIn w A n zs) (hq : QstIn w q) :
    Calls Try.prog 19 #[.int .i64 columns, .slice A n c, q.val] w fun e w' => e = .returned (.tuple #[.int .i64 (sumP columns zs q), .int .i64 (sumBd columns zs q), .int .i64 (askN10 columns zs q)]) ∧ Gr w w' := by
  have HC := hid (fun W (k : Gr w W) => refCheck_any columns A n c zs W (hi.gr k))
  have HQ := hid (fun W (k : Gr w W) (h : tableB columns zs = true) => refQuestion_any columns q W (hq.gr k) (table_cols h))
  obtain ⟨E, hE⟩ : ∃ E, askN10 columns zs q = E := ⟨_, rfl⟩
  unfold sumP sumBd
  rw [hE]
  have hE0 := hE
  unfold askN10 at hE
  unfold tableN at HC
  have HI := hid hi
  have HL := hid hi.len
  have hbig := hi.big
  have hbig' : (n : Int) ≤ 9223372036854775807 := by omega
  obtain ⟨tb, htb⟩ : ∃ tb, tableB columns zs = tb := ⟨_, rfl⟩
  obtain ⟨qb, hqb0⟩ : ∃ qb, qstB columns q = qb := ⟨_, rfl⟩
  rw [htb] at HC HQ hE
  rw [hqb0] at HQ hE
  by_cases h0 : tb = true ∧ qb = true
  case neg =>
    have hne : ¬ E = 0 := by
      rw [← hE]
      cases tb <;> cases qb <;> simp at h0 ⊢
    rw [if_neg hne, if_neg hne]
    have HE := hid hE.symm
    clear hi hq hE hE0 HI HL htb hqb0 hne
    obtain ⟨qa, qn, qc, whs, col, clip, step⟩ := q
    unfold Qst.val at *
    dsimp only at *
    cases tb
    case' true =>
      have HQ2 := hid (fun W k => HQ.out W k rfl)
      cases qb
      case' true => exact absurd ⟨rfl, rfl⟩ h0
    all_goals
      simp only [Bool.false_eq_true, if_false, if_true] at HC HE
      clear h0
      go_enter Try.func19, Try.ntmps19
      go_wp2_with (first
        | (go_at_call 21; (with_reducible refine (HC.out _ ?_).mono ?_); rotate_right; rintro e w1 ⟨rfl, hbw1⟩; obtain ⟨hcw1, hfw1, hzw1⟩ := hbw1.rules; (try simp at hzw1); have hzw1_0 : w.heap.size < w1.heap.size := (by omega); have hyw1_0 : w.heap.size ≤ w1.heap.size := (by omega))
        | (go_at_call 45; (with_reducible refine (HQ2.out _ ?_).mono ?_); rotate_right; rintro e w2 ⟨rfl, hbw2⟩; obtain ⟨hcw2, hfw2, hzw2⟩ := hbw2.rules; (try simp at hzw2)))
      all_goals first
        | ((repeat (first | with_reducible exact Gr.refl _ | with_reducible refine Gr.trans ?_ hbw1 | with_reducible refine Gr.alloc ?_ _ | with_reducible refine Gr.setCell ?_ (by simp) _ | with_reducible refine Gr.setCell ?_ (by simp; omega) _ | with_reducible refine Gr.drew ?_ | with_reducible refine Gr.drewN ?_ _)); done)
        | (go_ret3
           exact ⟨by rw [HE.out]; rfl, by (repeat (first | with_reducible exact Gr.refl _ | with_reducible refine Gr.trans ?_ hbw2 | with_reducible refine Gr.trans ?_ hbw1 | with_reducible refine Gr.alloc ?_ _ | with_reducible refine Gr.setCell ?_ (by simp) _ | with_reducible refine Gr.setCell ?_ (by simp; omega) _ | with_reducible refine Gr.drew ?_ | with_reducible refine Gr.drewN ?_ _))⟩)
  case pos =>
    obtain ⟨rfl, rfl⟩ := h0
    have h0 : E = 0 := by rw [← hE]; rfl
    subst h0
    have hqb := hqb0
    have ht := htb
    rw [if_pos rfl, if_pos rfl]
    obtain ⟨hcol, hstep, hwh⟩ := qst_parts hqb
    obtain ⟨hl16, hmem⟩ := table_mem ht
    have HRaw := hid (raw_in ht hqb)
    have HQ2 := hid (fun W k => HQ.out W k rfl)
    have hcx : ∀ s ∈ zs, (s.vals.length : Int) = s.n := fun s hs => by have h3 := (hi.vals s hs).1.len; simp at h3; omega
    have HAs := hid (fun s (hs : s ∈ zs) W (k : Gr w W) => refAsked_any s q W ((hi.vals s hs).1.gr k) (hq.gr k) (fun x hx => by have h1 := hwh x hx; have h2 := (hmem s hs).2.1; have h3 := hcx s hs; omega) (hi.vals s hs).2)
    have HCo := hid (fun s (hs : s ∈ zs) W (k : Gr w W) => refCounts_any s q W ((hi.vals s hs).1.gr k) (fun hc => by have h2 := (hmem s hs).2.1; have h3 := hcx s hs; rcases hcol with h | h <;> omega) (hi.vals s hs).2)
    have HCin := hid (fun s (hs : s ∈ zs) => cnt_in ht hqb hs)
    have HSnoc := hid (fun k (hk : k < zs.length) => (by rw [List.take_succ_eq_append_getElem hk, rawN_snoc, ← getElem!_pos zs k hk] : rawN (zs.take (k + 1)) q = if askedB zs[k]! q = true then rawN (zs.take k) q + cntN zs[k]! q else rawN (zs.take k) q))
    have hN := raw_in ht hqb zs.length (Nat.le_refl _)
    rw [List.take_length] at hN
    have hn16 : n ≤ 16 := by have := HL.out; omega
    generalize hP : printN (rawN zs q) q.step = PV
    generalize hBv : boundN q.clip q.step = BV
    unfold printN at hP
    unfold boundN at hBv
    have HP := hid hP
    have HB := hid hBv
    have hcl : 0 ≤ q.clip ∧ q.clip ≤ 1000000 := by rcases hcol with ⟨_, e⟩ | ⟨_, _, _, e1, e2⟩ <;> omega
    clear hi hE hE0 hwh hmem hqb ht htb hqb0 HQ hcol hcx hP hBv
    obtain ⟨qa, qn, qc, whs, col, clip, step⟩ := q
    unfold Qst.val at *
    dsimp only at *
    simp only [if_true] at HC
    have hr0 := heap_alloc_new w (.cells #[.slice qa qn qc, .int .i64 col, .int .i64 clip, .int .i64 step] 25)
    go_enter Try.func19, Try.ntmps19
    go_wp2_with (first
      | (go_at_call 21; (with_reducible refine (HC.out _ ?_).mono ?_); rotate_right; rintro e w1 ⟨rfl, hbw1⟩; obtain ⟨hcw1, hfw1, hzw1⟩ := hbw1.rules; (try simp at hzw1); have hzw1_0 : w.heap.size < w1.heap.size := (by omega); have hyw1_0 : w.heap.size ≤ w1.heap.size := (by omega))
      | (go_at_call 45; (with_reducible refine (HQ2.out _ ?_).mono ?_); rotate_right; rintro e w2 ⟨rfl, hbw2⟩; obtain ⟨hcw2, hfw2, hzw2⟩ := hbw2.rules; (try simp at hzw2)))
    all_goals try ((repeat (first | with_reducible exact Gr.refl _ | with_reducible refine Gr.trans ?_ hbw1 | with_reducible refine Gr.alloc ?_ _ | with_reducible refine Gr.setCell ?_ (by simp) _ | with_reducible refine Gr.setCell ?_ (by simp; omega) _ | with_reducible refine Gr.drew ?_ | with_reducible refine Gr.drewN ?_ _)); done)
    have G2 : Hid (Gr w w2) := by
      show Gr w w2
      (repeat (first | with_reducible exact Gr.refl _ | with_reducible refine Gr.trans ?_ hbw2 | with_reducible refine Gr.trans ?_ hbw1 | with_reducible refine Gr.alloc ?_ _ | with_reducible refine Gr.setCell ?_ (by simp) _ | with_reducible refine Gr.setCell ?_ (by simp; omega) _ | with_reducible refine Gr.drew ?_ | with_reducible refine Gr.drewN ?_ _))
    have HRQ : Hid (w2.heap[w.heap.size]? = some (.cells #[.slice qa qn qc, .int .i64 col, .int .i64 clip, .int .i64 step] 25 (0, 0))) := row_gr (row_gr hr0 hbw1) hbw2
    clear hr0 hbw1 hcw1 hfw1 hzw1 hzw1_0 hyw1_0 hbw2 hcw2 hfw2 hzw2 HC HQ2
    go_loopg [10, 11] n (fun gg s10 s11 wr => ∃ k : Nat, k ≤ n ∧ n - k ≤ gg ∧ s10 = .int .i64 (rawN (zs.take k) ⟨qa, qn, qc, whs, col, clip, step⟩) ∧ s11 = .int .i64 k ∧ Gr w2 wr)
    case atStart => exact ⟨0, Nat.zero_le _, by omega, rfl, rfl, Gr.refl w2⟩
    case round =>
      obtain ⟨k, hk, hgk, rfl, rfl, BW⟩ := hrel
      have rq := row_gr HRQ.out BW
      have u0 := row_cell_at (v := .slice qa qn qc) rq 0 rfl
      have u1 := row_cell_at (v := .int .i64 col) rq 1 rfl
      have u2 := row_cell_at (v := .int .i64 clip) rq 2 rfl
      have u3 := row_cell_at (v := .int .i64 step) rq 3 rfl
      have hzr : w.heap.size < wr.heap.size := block_lt_of_cell u0
      clear rq
      by_cases hkl : k < n
      · obtain ⟨hk', b, off, hAe, hbl, c0, c1⟩ := (HI.out.gr (G2.out.trans BW)).rd.sbj hkl
        have hm := mem_get hk'
        have HSn := hid (HSnoc.out k hk')
        have hrk := HRaw.out k (by omega)
        have HA := hid (fun W kk => HAs.out _ hm W kk)
        have HCc := hid (fun W kk => HCo.out _ hm W kk)
        have hci := HCin.out _ hm
        generalize zs[k]! = s at c0 c1 HSn HA HCc hci
        generalize rawN (zs.take k) ⟨qa, qn, qc, whs, col, clip, step⟩ = N at *
        generalize cntN s ⟨qa, qn, qc, whs, col, clip, step⟩ = cv at *
        obtain ⟨id, a, vn, vc, vals⟩ := s
        unfold Sbj.val at HA HCc
        dsimp only at *
        subst hAe
        obtain ⟨r, hr⟩ : ∃ r, askedB ⟨id, a, vn, vc, vals⟩ ⟨qa, qn, qc, whs, col, clip, step⟩ = r := ⟨_, rfl⟩
        rw [hr] at HA HSn
        have hkn : (k : Int) < (n : Int) := by omega
        have hk0 : (0 : Int) ≤ (k : Int) := by omega
        clear hr hm hk'
        have p0 := GrW.cell c0
        have p1 := GrW.cell c1
        have v0 := GrW.cell u0
        have v1 := GrW.cell u1
        have v2 := GrW.cell u2
        have v3 := GrW.cell u3
        have HC01 := hid (And.intro c0 (And.intro c1 (And.intro u0 (And.intro u1 (And.intro u2 u3)))))
        have HGw := hid (G2.out.trans BW)
        go_upto_region 10 with fail
        clear c0 c1 u0 u1 u2 u3
        refine wp_region_mixN (C := fun w' => ∃ p : GrW wr, w' = p.W) [5] (by rfl) (by kernel_rfl) ⟨⟨_, (Gr.refl wr).drew⟩, rfl⟩ ?_
        (repeat (first | ((with_reducible refine mixL_read0 ?_ ?_ (fun K hK => ?_)); rfl; rfl; go_big_quiet_op; (with_reducible refine hK _ ?_); clear hK K) | ((with_reducible refine' mixL_skipG ?_ ?_ ?_ ?_ ?_); rotate_left 4; rfl; rfl; rfl; rfl; simp only [Act.put, List.setIfInBounds_toArray, List.set_cons_zero, List.set_cons_succ]) | ((with_reducible refine' mixL_skipU ?_ ?_ ?_ ?_); rotate_left 3; rfl; rfl; rfl; simp only [Act.put, List.setIfInBounds_toArray, List.set_cons_zero, List.set_cons_succ]) | ((with_reducible refine' mixL_readG ?_ ?_ ?_ ?_ ?_ (fun K hK => ?_)); rotate_left 4; rfl; rfl; rfl; rfl; rfl; go_big_quiet_op; (with_reducible refine hK _ ?_); clear hK K)))
        (first | ((with_reducible refine mixL_mut0 ?_ ?_ (fun K hK => ?_)); rfl; rfl) | ((with_reducible refine' mixL_mutG ?_ ?_ ?_ ?_ ?_ (fun K hK => ?_)); rotate_left 4; rfl; rfl; rfl; rfl; rfl))
        go_simp
        refine (HA.out _ (HGw.out.trans (Gr.refl wr).drew)).mono ?_
        rintro e w6 ⟨rfl, hb6⟩
        have G6 := hid ((Gr.refl wr).drew.trans hb6)
        refine hK.out _ _ ⟨⟨w6, G6.out⟩, rfl⟩ ?_
        clear hK K hb6 p0 p1 v0 v1 v2 v3
        (repeat (first | ((with_reducible refine mixL_read0 ?_ ?_ (fun K hK => ?_)); rfl; rfl; go_big_quiet_op; (with_reducible refine hK _ ?_); clear hK K) | ((with_reducible refine' mixL_skipG ?_ ?_ ?_ ?_ ?_); rotate_left 4; rfl; rfl; rfl; rfl; simp only [Act.put, List.setIfInBounds_toArray, List.set_cons_zero, List.set_cons_succ]) | ((with_reducible refine' mixL_skipU ?_ ?_ ?_ ?_); rotate_left 3; rfl; rfl; rfl; simp only [Act.put, List.setIfInBounds_toArray, List.set_cons_zero, List.set_cons_succ]) | ((with_reducible refine' mixL_readG ?_ ?_ ?_ ?_ ?_ (fun K hK => ?_)); rotate_left 4; rfl; rfl; rfl; rfl; rfl; go_big_quiet_op; (with_reducible refine hK _ ?_); clear hK K)))
        (with_reducible refine mixN_nil ?_)
        cases r with
        | false =>
          simp only [Bool.false_eq_true, if_false] at HSn
          go_wp2
          go_roundg (n - (k + 1))
          case measure => omega
          case rel => exact ⟨k + 1, by omega, by omega, by rw [HSn.out], by go_num, BW.trans G6.out⟩
        | true =>
          simp only [if_true] at HSn
          have hw1 : IntKind.i64.wrap (N + cv) = N + cv := by rw [IntKind.wrap_i64]; omega
          obtain ⟨c0, c1, u0, u1, u2, u3⟩ := HC01.out
          have p0 := GrW.cell (row_cell c0 G6.out)
          have p1 := GrW.cell (row_cell c1 G6.out)
          have v0 := GrW.cell (row_cell u0 G6.out)
          have v1 := GrW.cell (row_cell u1 G6.out)
          have v2 := GrW.cell (row_cell u2 G6.out)
          have v3 := GrW.cell (row_cell u3 G6.out)
          clear c0 c1 u0 u1 u2 u3
          go_upto_region 11 with fail
          refine wp_region_mixN (C := fun w' => ∃ p : GrW w6, w' = p.W) [6] (by rfl) (by kernel_rfl) ⟨⟨_, (Gr.refl w6).drew⟩, rfl⟩ ?_
          (repeat (first | ((with_reducible refine mixL_read0 ?_ ?_ (fun K hK => ?_)); rfl; rfl; go_big_quiet_op; (with_reducible refine hK _ ?_); clear hK K) | ((with_reducible refine' mixL_skipG ?_ ?_ ?_ ?_ ?_); rotate_left 4; rfl; rfl; rfl; rfl; simp only [Act.put, List.setIfInBounds_toArray, List.set_cons_zero, List.set_cons_succ]) | ((with_reducible refine' mixL_skipU ?_ ?_ ?_ ?_); rotate_left 3; rfl; rfl; rfl; simp only [Act.put, List.setIfInBounds_toArray, List.set_cons_zero, List.set_cons_succ]) | ((with_reducible refine' mixL_readG ?_ ?_ ?_ ?_ ?_ (fun K hK => ?_)); rotate_left 4; rfl; rfl; rfl; rfl; rfl; go_big_quiet_op; (with_reducible refine hK _ ?_); clear hK K)))
          (first | ((with_reducible refine mixL_mut0 ?_ ?_ (fun K hK => ?_)); rfl; rfl) | ((with_reducible refine' mixL_mutG ?_ ?_ ?_ ?_ ?_ (fun K hK => ?_)); rotate_left 4; rfl; rfl; rfl; rfl; rfl))
          go_simp
          refine (HCc.out _ (HGw.out.trans (G6.out.trans (Gr.refl w6).drew))).mono ?_
          rintro e w7 ⟨rfl, hb7⟩
          have G7 := hid ((Gr.refl w6).drew.trans hb7)
          refine hK.out _ _ ⟨⟨w7, G7.out⟩, rfl⟩ ?_
          clear hK K hb7 p0 p1 v0 v1 v2 v3
          (repeat (first | ((with_reducible refine mixL_read0 ?_ ?_ (fun K hK => ?_)); rfl; rfl; go_big_quiet_op; (with_reducible refine hK _ ?_); clear hK K) | ((with_reducible refine' mixL_skipG ?_ ?_ ?_ ?_ ?_); rotate_left 4; rfl; rfl; rfl; rfl; simp only [Act.put, List.setIfInBounds_toArray, List.set_cons_zero, List.set_cons_succ]) | ((with_reducible refine' mixL_skipU ?_ ?_ ?_ ?_); rotate_left 3; rfl; rfl; rfl; simp only [Act.put, List.setIfInBounds_toArray, List.set_cons_zero, List.set_cons_succ]) | ((with_reducible refine' mixL_readG ?_ ?_ ?_ ?_ ?_ (fun K hK => ?_)); rotate_left 4; rfl; rfl; rfl; rfl; rfl; go_big_quiet_op; (with_reducible refine hK _ ?_); clear hK K)))
          (with_reducible refine mixN_nil ?_)
          go_wp2
          go_roundg (n - (k + 1))
          case measure => omega
          case rel => exact ⟨k + 1, by omega, by omega, by rw [HSn.out], by go_num, BW.trans (G6.out.trans G7.out)⟩
      · have hkn : ¬ (k : Int) < (n : Int) := by omega
        have htk : zs.take k = zs := by rw [show k = zs.length by have := HL.out; omega, List.take_length]
        rw [htk]
        generalize rawN zs ⟨qa, qn, qc, whs, col, clip, step⟩ = N at *
        obtain ⟨hs1, hs2⟩ := hstep
        have hP := HP.out
        have hB := HB.out
        have ht1 : Int.tdiv (2 * N + step) (2 * step) = (2 * N + step) / (2 * step) := Int.tdiv_eq_ediv_of_nonneg (by omega)
        have ht2 : Int.tdiv (clip + step - 1) step = (clip + step - 1) / step := Int.tdiv_eq_ediv_of_nonneg (by omega)
        have hd1 : 0 ≤ (2 * N + step) / (2 * step) := Int.ediv_nonneg (by omega) (by omega)
        have hd2 : 0 ≤ (clip + step - 1) / step := Int.ediv_nonneg (by omega) (by omega)
        have hd3 : (2 * N + step) / (2 * step) ≤ 2 * N + step := Int.ediv_le_self _ (by omega)
        have hd4 : (clip + step - 1) / step ≤ clip + step - 1 := Int.ediv_le_self _ (by omega)
        have hm1 := Int.ediv_mul_le (2 * N + step) (show 2 * step ≠ 0 by omega)
        have hm2 := Int.ediv_mul_le (clip + step - 1) (show step ≠ 0 by omega)
        rw [Int.mul_left_comm] at hm1
        generalize (2 * N + step) / (2 * step) = e1 at *
        generalize (clip + step - 1) / step = e2 at *
        have hp1 : 0 ≤ e1 * step := Int.mul_nonneg hd1 (by omega)
        have hp2 : 0 ≤ e2 * step := Int.mul_nonneg hd2 (by omega)
        rw [hP] at hm1 hp1
        rw [hB] at hm2 hp2
        have hs0 : ¬ step = 0 := by omega
        have hs20 : ¬ 2 * step = 0 := by omega
        have w1' : IntKind.i64.wrap (2 * N) = 2 * N := by rw [IntKind.wrap_i64]; omega
        have w2' : IntKind.i64.wrap (2 * N + step) = 2 * N + step := by rw [IntKind.wrap_i64]; omega
        have w3' : IntKind.i64.wrap (2 * step) = 2 * step := by rw [IntKind.wrap_i64]; omega
        have w4' : IntKind.i64.wrap e1 = e1 := by rw [IntKind.wrap_i64]; omega
        have w5' : IntKind.i64.wrap PV = PV := by rw [IntKind.wrap_i64]; omega
        have w6' : IntKind.i64.wrap (clip + step) = clip + step := by rw [IntKind.wrap_i64]; omega
        have w7' : IntKind.i64.wrap (clip + step - 1) = clip + step - 1 := by rw [IntKind.wrap_i64]; omega
        have w8' : IntKind.i64.wrap e2 = e2 := by rw [IntKind.wrap_i64]; omega
        have w9' : IntKind.i64.wrap BV = BV := by rw [IntKind.wrap_i64]; omega
        clear htk HP HB HRaw HAs HCo HCin HSnoc u0 u1 hm1 hm2 hp1 hp2 hd1 hd2 hd3 hd4
        go_upto_region 12 with fail
        go_quiet (fail)
        go_wp2
        go_ret3
        exact ⟨rfl, (G2.out.trans BW).trans (by first | exact (Gr.refl _).drewN _ | exact (Gr.refl _).drew)⟩
end Go.Proofs.Ytimhkkijoelmhaa
