/- Sum of the package sum: what is printed, and the bound, or the error. For every table and question. -/
import Derived.Test.YtimhkkijoelmhaaTbl10
import Derived.Test.YtimhkkijoelmhaaAsked10
import Derived.Test.YtimhkkijoelmhaaWithin10
namespace Go.Proofs.Ytimhkkijoelmhaa
open Go.RowKit

def sumP (columns : Int) (zs : List Sbj) (q : Qst) : Int := if askN10 columns zs q = 0 then printN (rawN zs q) q.step else 0
def sumBd (columns : Int) (zs : List Sbj) (q : Qst) : Int := if askN10 columns zs q = 0 then boundN q.clip q.step else 0
theorem ask_zero {columns : Int} {zs : List Sbj} {q : Qst} (h : askN10 columns zs q = 0) : tableB columns zs = true ∧ qstB columns q = true := by
  unfold askN10 at h
  split at h
  · split at h
    · exact ⟨by assumption, by assumption⟩
    · omega
  · omega

set_option maxRecDepth 100000 in
set_option maxHeartbeats 16000000 in
theorem sum10_any (columns : Int) (A : Option Addr) (n c : Nat) (zs : List Sbj) (q : Qst) (w : World) (hi : SbjsIn w A n zs) (hq : QstIn w q) :
    Calls Try.prog 18 #[.int .i64 columns, .slice A n c, q.val] w fun e w' => e = .returned (.tuple #[.int .i64 (sumP columns zs q), .int .i64 (sumBd columns zs q), .int .i64 (askN10 columns zs q)]) ∧ Gr w w' := by
  have HC := hid (fun W (k : Gr w W) => checked10_any columns A n c zs q W (hi.gr k) (hq.gr k))
  obtain ⟨E, hE⟩ : ∃ E, askN10 columns zs q = E := ⟨_, rfl⟩
  unfold sumP sumBd
  rw [hE] at HC ⊢
  have HI := hid hi
  have HL := hid hi.len
  have hbig := hi.big
  have hbig' : (n : Int) ≤ 9223372036854775807 := by omega
  by_cases h0 : E = 0
  case neg =>
    rw [if_neg h0, if_neg h0]
    have h0' : ¬ E = 0 := h0
    clear hi hq hE HI HL
    obtain ⟨qa, qn, qc, whs, col, clip, step⟩ := q
    unfold Qst.val at *
    dsimp only at *
    go_enter Try.func18, Try.ntmps18
    go_wp2_with (first
      | (go_at_call 42; (with_reducible refine (HC.out _ ?_).mono ?_); rotate_right; rintro e w1 ⟨rfl, hbw1⟩; obtain ⟨hcw1, hfw1, hzw1⟩ := hbw1.rules; (try simp at hzw1); have hzw1_0 : w.heap.size < w1.heap.size := (by omega); have hyw1_0 : w.heap.size ≤ w1.heap.size := (by omega)))
    all_goals first
      | ((repeat (first | with_reducible exact Gr.refl _ | with_reducible refine Gr.alloc ?_ _ | with_reducible refine Gr.setCell ?_ (by simp) _ | with_reducible refine Gr.setCell ?_ (by simp; omega) _ | with_reducible refine Gr.drew ?_ | with_reducible refine Gr.drewN ?_ _)); done)
      | (go_ret3
         exact ⟨rfl, by (repeat (first | with_reducible exact Gr.refl _ | with_reducible refine Gr.trans ?_ hbw1 | with_reducible refine Gr.alloc ?_ _ | with_reducible refine Gr.setCell ?_ (by simp) _ | with_reducible refine Gr.setCell ?_ (by simp; omega) _ | with_reducible refine Gr.drew ?_ | with_reducible refine Gr.drewN ?_ _))⟩)
  case pos =>
    subst h0
    obtain ⟨ht, hqb⟩ := ask_zero hE
    rw [if_pos rfl, if_pos rfl]
    obtain ⟨hcol, hstep, hwh⟩ := qst_parts hqb
    obtain ⟨hl16, hmem⟩ := table_mem ht
    have HRaw := hid (raw_in ht hqb)
    have HMem := hid hmem
    have HAs := hid (fun s (hs : s ∈ zs) W (k : Gr w W) => asked_any s q W ((hi.vals s hs).1.gr k) (hq.gr k) (fun x hx => by have h1 := hwh x hx; have h2 := (hmem s hs).2.1; have h3 := (hi.vals s hs).1.len; simp at h3; omega) (hi.vals s hs).2)
    have HVals := hid hi.vals
    have HSnoc := hid (fun k (hk : k < zs.length) => (by rw [List.take_succ_eq_append_getElem hk, rawN_snoc, ← getElem!_pos zs k hk] : rawN (zs.take (k + 1)) q = if askedB zs[k]! q = true then rawN (zs.take k) q + cntN zs[k]! q else rawN (zs.take k) q))
    have HCnt : Hid (∀ s, cntN s q = if q.col = -1 then 1 else min s.vals[q.col.toNat]! q.clip) := fun s => rfl
    have hN := raw_in ht hqb zs.length (Nat.le_refl _)
    rw [List.take_length] at hN
    have hn16 : n ≤ 16 := by have := HL.out; omega
    clear hi hE hwh hmem hqb ht
    generalize hP : printN (rawN zs q) q.step = PV
    generalize hBv : boundN q.clip q.step = BV
    have HPm := hid (fun (h1 : 0 ≤ rawN zs q) => print_mod h1 (show 0 < q.step by omega))
    have HBm := hid (bound_mul (clip := q.clip) (show 0 < q.step by omega))
    rw [hP] at HPm
    rw [hBv] at HBm
    clear hP hBv
    obtain ⟨qa, qn, qc, whs, col, clip, step⟩ := q
    unfold Qst.val at *
    dsimp only at *
    have hr0 := heap_alloc_new w (.cells #[.slice qa qn qc, .int .i64 col, .int .i64 clip, .int .i64 step] 25)
    go_enter Try.func18, Try.ntmps18
    go_wp2_with (first
      | (go_at_call 42; (with_reducible refine (HC.out _ ?_).mono ?_); rotate_right; rintro e w1 ⟨rfl, hbw1⟩; obtain ⟨hcw1, hfw1, hzw1⟩ := hbw1.rules; (try simp at hzw1); have hzw1_0 : w.heap.size < w1.heap.size := (by omega); have hyw1_0 : w.heap.size ≤ w1.heap.size := (by omega)))
    all_goals try ((repeat (first | with_reducible exact Gr.refl _ | with_reducible refine Gr.alloc ?_ _ | with_reducible refine Gr.setCell ?_ (by simp) _ | with_reducible refine Gr.setCell ?_ (by simp; omega) _ | with_reducible refine Gr.drew ?_ | with_reducible refine Gr.drewN ?_ _)); done)
    have G1 : Hid (Gr w w1) := by
      show Gr w w1
      (repeat (first | with_reducible exact Gr.refl _ | with_reducible refine Gr.trans ?_ hbw1 | with_reducible refine Gr.alloc ?_ _ | with_reducible refine Gr.setCell ?_ (by simp) _ | with_reducible refine Gr.setCell ?_ (by simp; omega) _ | with_reducible refine Gr.drew ?_ | with_reducible refine Gr.drewN ?_ _))
    have HRQ : Hid (w1.heap[w.heap.size]? = some (.cells #[.slice qa qn qc, .int .i64 col, .int .i64 clip, .int .i64 step] 25 (0, 0))) := row_gr hr0 hbw1
    clear hr0 hbw1 hcw1 hfw1 hzw1 hzw1_0 hyw1_0 HC
    go_loopg [6, 22] n (fun gg s6 s22 wr => ∃ k : Nat, k ≤ n ∧ n - k ≤ gg ∧ s6 = .int .i64 (rawN (zs.take k) ⟨qa, qn, qc, whs, col, clip, step⟩) ∧ s22 = .int .i64 k ∧ Gr w1 wr)
    case atStart => exact ⟨0, Nat.zero_le _, by omega, rfl, rfl, Gr.refl w1⟩
    case round =>
      obtain ⟨k, hk, hgk, rfl, rfl, BW⟩ := hrel
      have rq := row_gr HRQ.out BW
      have u0 := row_cell_at (v := .slice qa qn qc) rq 0 rfl
      have u1 := row_cell_at (v := .int .i64 col) rq 1 rfl
      have u2 := row_cell_at (v := .int .i64 clip) rq 2 rfl
      have u3 := row_cell_at (v := .int .i64 step) rq 3 rfl
      have hzr : w.heap.size < wr.heap.size := block_lt_of_cell u0
      clear rq
      by_cases hkl : k < n
      · obtain ⟨hk', b, off, hAe, hbl, c0, c1⟩ := (HI.out.gr (G1.out.trans BW)).rd.sbj hkl
        have hm := mem_get hk'
        have HSn := hid (HSnoc.out k hk')
        have hrk := HRaw.out k (by omega)
        have HA := hid (fun W kk => HAs.out _ hm W kk)
        have HV := hid ((HVals.out _ hm).1)
        have hvl := (HMem.out _ hm).2.1
        have HMv := hid (And.intro trivial (HMem.out _ hm).2.2)
        have HCn := hid (HCnt.out zs[k]!)
        generalize zs[k]! = s at c0 c1 HSn HA HV hvl HCn HMv
        generalize rawN (zs.take k) ⟨qa, qn, qc, whs, col, clip, step⟩ = N at *
        obtain ⟨id, a, vn, vc, vals⟩ := s
        unfold Sbj.val at HA
        dsimp only at *
        subst hAe
        have hvn : vals.length = vn := by have := HV.out.len; simpa using this
        obtain ⟨r, hr⟩ : ∃ r, askedB ⟨id, a, vn, vc, vals⟩ ⟨qa, qn, qc, whs, col, clip, step⟩ = r := ⟨_, rfl⟩
        rw [hr] at HA HSn
        have hkn : (k : Int) < (n : Int) := by omega
        have hk0 : (0 : Int) ≤ (k : Int) := by omega
        clear hr hm hk'
        cases r with
        | false =>
          simp only [Bool.false_eq_true, if_false] at HSn
          go_wp2_with (first
            | (go_at_call 44; (with_reducible refine (HA.out _ ?_).mono ?_); rotate_right; rintro e w2 ⟨rfl, hbw2⟩; obtain ⟨hcw2, hfw2, hzw2⟩ := hbw2.rules; (try simp at hzw2); have hzw2_0 : wr.heap.size < w2.heap.size := (by omega); have hyw2_0 : wr.heap.size ≤ w2.heap.size := (by omega)))
          all_goals try (exact (G1.out.trans BW).trans ((Gr.refl _).alloc _); done)
          go_roundg (n - (k + 1))
          case measure => omega
          case rel => exact ⟨k + 1, by omega, by omega, by rw [HSn.out], by go_num, BW.trans (((Gr.refl wr).alloc _).trans hbw2)⟩
        | true =>
          simp only [if_true] at HSn
          rcases hcol with ⟨hc1, hcl1⟩ | ⟨hc1, hc2, hc3, hc4, hc5⟩
          · have HSn2 : Hid (rawN (zs.take (k + 1)) ⟨qa, qn, qc, whs, col, clip, step⟩ = N + 1) := by
              show _ = _
              rw [HSn.out, HCn.out, if_pos hc1]
            clear hcl1
            subst hc1
            have hw1 : IntKind.i64.wrap (N + 1) = N + 1 := by rw [IntKind.wrap_i64]; omega
            clear HSn HCn
            go_wp2_with (first
              | (go_at_call 44; (with_reducible refine (HA.out _ ?_).mono ?_); rotate_right; rintro e w2 ⟨rfl, hbw2⟩; obtain ⟨hcw2, hfw2, hzw2⟩ := hbw2.rules; (try simp at hzw2); have hzw2_0 : wr.heap.size < w2.heap.size := (by omega); have hyw2_0 : wr.heap.size ≤ w2.heap.size := (by omega)))
            all_goals try (exact (G1.out.trans BW).trans ((Gr.refl _).alloc _); done)
            go_roundg (n - (k + 1))
            case measure => omega
            case rel => exact ⟨k + 1, by omega, by omega, by rw [HSn2.out], by go_num, BW.trans (((Gr.refl wr).alloc _).trans hbw2)⟩
          · obtain ⟨m, hm⟩ : ∃ m : Nat, col = m := ⟨col.toNat, by omega⟩
            subst hm
            have HSn2 : Hid (rawN (zs.take (k + 1)) ⟨qa, qn, qc, whs, m, clip, step⟩ = N + min vals[m]! clip) := by
              show _ = _
              rw [HSn.out, HCn.out, if_neg hc1, Int.toNat_natCast]
            have hmn : m < vn := by omega
            clear HSn HCn
            have HSt := hid (And.intro hc4 hc5)
            go_wp2_with (first
              | (go_at_call 44; (with_reducible refine (HA.out _ ?_).mono ?_); rotate_right; rintro e w2 ⟨rfl, hbw2⟩; obtain ⟨hcw2, hfw2, hzw2⟩ := hbw2.rules; (try simp at hzw2); have hzw2_0 : wr.heap.size < w2.heap.size := (by omega); have hyw2_0 : wr.heap.size ≤ w2.heap.size := (by omega)))
            all_goals try (exact (G1.out.trans BW).trans ((Gr.refl _).alloc _); done)
            have gg := ((Gr.refl wr).alloc (.cells #[.int .i64 id, .slice a vn vc] 60)).trans hbw2
            have rx := row_gr (heap_alloc_new wr (.cells #[.int .i64 id, .slice a vn vc] 60)) hbw2
            obtain ⟨hm', b2, off2, hA2, hbl2, d0⟩ := (HV.out.gr ((G1.out.trans BW).trans gg)).int_at hmn
            have hvb := HMv.out.2 _ (mem_get hm')
            generalize vals[m]! = y at d0 HSn2 hvb
            have x1 := row_cell_at (v := .slice a vn vc) rx 1 rfl
            have u1 := row_cell u1 gg
            have u2 := row_cell u2 gg
            have HGG := hid gg
            have p0 := GrW.cell x1
            have p1 := GrW.cell u1
            have p2 := GrW.cell u2
            have p3 := GrW.cell d0
            subst hA2
            have hmn' : (m : Int) < (vn : Int) := by omega
            have hm0 : (0 : Int) ≤ (m : Int) := by omega
            clear rx x1 u1 u2 d0 u0 u3 hbw2 hcw2 hfw2 hzw2 hzw2_0 hyw2_0 gg hm' c0 c1
            go_upto_region 7 with fail
            by_cases hyc : clip < y
            all_goals
              have hw1 : IntKind.i64.wrap (N + y) = N + y := by rw [IntKind.wrap_i64]; omega
              have hw2 : IntKind.i64.wrap (N + clip) = N + clip := by rw [IntKind.wrap_i64]; omega
              refine wp_region_mixN (C := fun w' => ∃ p : GrW w2, w' = p.W) [9] (by rfl) (by kernel_rfl) ⟨⟨_, (Gr.refl w2).drew⟩, rfl⟩ ?_
              (repeat (first | ((with_reducible refine mixL_read0 ?_ ?_ (fun K hK => ?_)); rfl; rfl; go_big_quiet_op; (with_reducible refine hK _ ?_); clear hK K) | ((with_reducible refine' mixL_skipG ?_ ?_ ?_ ?_ ?_); rotate_left 4; rfl; rfl; rfl; rfl; simp only [Act.put, List.setIfInBounds_toArray, List.set_cons_zero, List.set_cons_succ]) | ((with_reducible refine' mixL_skipU ?_ ?_ ?_ ?_); rotate_left 3; rfl; rfl; rfl; simp only [Act.put, List.setIfInBounds_toArray, List.set_cons_zero, List.set_cons_succ]) | ((with_reducible refine' mixL_readG ?_ ?_ ?_ ?_ ?_ (fun K hK => ?_)); rotate_left 4; rfl; rfl; rfl; rfl; rfl; go_big_quiet_op; (with_reducible refine hK _ ?_); clear hK K)))
              (first | ((with_reducible refine mixL_mut0 ?_ ?_ (fun K hK => ?_)); rfl; rfl) | ((with_reducible refine' mixL_mutG ?_ ?_ ?_ ?_ ?_ (fun K hK => ?_)); rotate_left 4; rfl; rfl; rfl; rfl; rfl))
              go_simp
              refine hK.out _ _ ⟨⟨_, (Gr.refl w2).drew⟩, rfl⟩ ?_
              clear hK K
              (repeat (first | ((with_reducible refine mixL_read0 ?_ ?_ (fun K hK => ?_)); rfl; rfl; go_big_quiet_op; (with_reducible refine hK _ ?_); clear hK K) | ((with_reducible refine' mixL_skipG ?_ ?_ ?_ ?_ ?_); rotate_left 4; rfl; rfl; rfl; rfl; simp only [Act.put, List.setIfInBounds_toArray, List.set_cons_zero, List.set_cons_succ]) | ((with_reducible refine' mixL_skipU ?_ ?_ ?_ ?_); rotate_left 3; rfl; rfl; rfl; simp only [Act.put, List.setIfInBounds_toArray, List.set_cons_zero, List.set_cons_succ]) | ((with_reducible refine' mixL_readG ?_ ?_ ?_ ?_ ?_ (fun K hK => ?_)); rotate_left 4; rfl; rfl; rfl; rfl; rfl; go_big_quiet_op; (with_reducible refine hK _ ?_); clear hK K)))
              (with_reducible refine mixN_nil ?_)
              go_wp2
              go_roundg (n - (k + 1))
              case measure => omega
              case rel => exact ⟨k + 1, by omega, by omega, by rw [HSn2.out]; refine congrArg (Value.int .i64) ?_; omega, by go_num, (BW.trans HGG.out).trans (Gr.refl w2).drew⟩
      · have hkn : ¬ (k : Int) < (n : Int) := by omega
        have htk : zs.take k = zs := by rw [show k = zs.length by have := HL.out; omega, List.take_length]
        rw [htk]
        generalize rawN zs ⟨qa, qn, qc, whs, col, clip, step⟩ = N at *
        have rq := row_gr HRQ.out BW
        have u2 := row_cell_at (v := .int .i64 clip) rq 2 rfl
        have u3 := row_cell_at (v := .int .i64 step) rq 3 rfl
        have hzr : w.heap.size < wr.heap.size := block_lt_of_cell u2
        have hPm := HPm.out hN.1
        have hBm := HBm.out
        obtain ⟨hs1, hs2⟩ := hstep
        have hcl : 0 ≤ clip ∧ clip ≤ 1000000 := by rcases hcol with ⟨_, e⟩ | ⟨_, _, _, e1, e2⟩ <;> omega
        have ht1 : Int.tmod N step = N % step := Int.tmod_eq_emod_of_nonneg hN.1
        have ht2 : Int.tdiv clip step = clip / step := Int.tdiv_eq_ediv_of_nonneg hcl.1
        have hm1 := Int.emod_nonneg N (show step ≠ 0 by omega)
        have hm2 := Int.emod_lt_of_pos N (show 0 < step by omega)
        have hc1 := Int.emod_nonneg clip (show step ≠ 0 by omega)
        have hc2 := Int.emod_lt_of_pos clip (show 0 < step by omega)
        have hc3 := Int.emod_add_mul_ediv clip step
        rw [Int.mul_comm] at hc3
        have hdd : 0 ≤ clip / step := Int.ediv_nonneg hcl.1 (by omega)
        have hdl : clip / step ≤ clip := Int.ediv_le_self _ hcl.1
        have hmo : N % step ≤ N := by
          have h9 := Int.emod_add_mul_ediv N step
          have h10 : 0 ≤ step * (N / step) := Int.mul_nonneg (by omega) (Int.ediv_nonneg hN.1 (by omega))
          omega
        generalize N % step = o at *
        generalize clip % step = r at *
        generalize clip / step = dv at *
        have HTD := hid ht2
        generalize hD : dv * step = D at *
        have HDD := hid hD
        have HPm2 := hid hPm
        have HBm2 := hid hBm
        have hs0 : ¬ step = 0 := by omega
        have w1' : IntKind.i64.wrap o = o := by rw [IntKind.wrap_i64]; omega
        have w2' : IntKind.i64.wrap (N - o) = N - o := by rw [IntKind.wrap_i64]; omega
        have w3' : IntKind.i64.wrap (2 * o) = 2 * o := by rw [IntKind.wrap_i64]; omega
        have w4' : IntKind.i64.wrap (N - o + step) = N - o + step := by rw [IntKind.wrap_i64]; omega
        have w5' : IntKind.i64.wrap dv = dv := by rw [IntKind.wrap_i64]; omega
        have w6' : IntKind.i64.wrap D = D := by rw [IntKind.wrap_i64]; omega
        have w7' : IntKind.i64.wrap (D + step) = D + step := by rw [IntKind.wrap_i64]; omega
        clear htk hPm hBm HPm HBm HRaw HMem HAs HVals HSnoc HCnt
        obtain ⟨wo, rfl⟩ : ∃ wo : World, wo = wr := ⟨_, rfl⟩
        have hways : (step ≤ 2 * o ∧ N - o + step = PV) ∨ (¬ step ≤ 2 * o ∧ N - o = PV) := by
          have h := HPm2.out
          by_cases e : step ≤ 2 * o
          · exact .inl ⟨e, by rw [if_pos e] at h; exact h⟩
          · exact .inr ⟨e, by rw [if_neg e] at h; exact h⟩
        have HC3 := hid hc3
        clear hc3 HPm2 ht2 hD
        rcases hways with ⟨hov, hpv⟩ | ⟨hov, hpv⟩
        all_goals
          have HPV := hid hpv
          clear hpv
          have ht2 : Int.tdiv clip step = dv := HTD.out
          have hD : dv * step = D := HDD.out
          go_upto_region 16 with fail
          go_quiet (fail)
          go_wp2_with fail
          clear hD ht2
          go_loopg [7] 1 (fun gg s7 wr => ∃ bv : Int, s7 = .int .i64 bv ∧ Gr wo wr ∧ ((bv = D ∧ 1 ≤ gg) ∨ (bv = D + step ∧ ¬ r = 0)))
          case atStart => exact ⟨D, rfl, by first | exact (Gr.refl wo).drewN _ | exact (Gr.refl wo).drew, .inl ⟨rfl, Nat.le_refl _⟩⟩
          case round =>
            obtain ⟨bv, rfl, BW2, hb⟩ := hrel
            have hc3 : r + D = clip := HC3.out
            have u2 := row_cell u2 BW2
            have u3 := row_cell u3 BW2
            by_cases hlt : bv < clip
            · have hbd : bv = D := by rcases hb with ⟨h, _⟩ | ⟨h, _⟩ <;> omega
              have hg1 : 1 ≤ gk := by rcases hb with ⟨_, h⟩ | ⟨h, _⟩ <;> omega
              subst hbd
              have hr0 : ¬ r = 0 := by omega
              clear hb hc3
              go_wp2
              go_roundg 0
              case measure => omega
              case rel => exact ⟨_, rfl, BW2, .inr ⟨rfl, hr0⟩⟩
            · have HBV : Hid (bv = BV) := by
                have h := HBm2.out
                show bv = BV
                rw [h]
                rcases hb with ⟨h1, _⟩ | ⟨h1, h2⟩
                · rw [if_pos (by omega)]; exact h1
                · rw [if_neg h2]; exact h1
              clear hb hc3
              go_wp2
              go_ret3
              exact ⟨by rw [← HBV.out, ← HPV.out]; rfl, (G1.out.trans BW).trans BW2⟩
end Go.Proofs.Ytimhkkijoelmhaa
