/- SumHide of the statements on sums: the walk: whatever the input, it answers true. (Printed by gen_lawhide10.py.) -/
import Derived.Test.YtimhkkijoelmhaaQHideLaw10
import Derived.Test.YtimhkkijoelmhaaQLawHow10
namespace Go.Proofs.Ytimhkkijoelmhaa
open Go.RowKit

theorem befN_le (l : List Sbj) (idn : Int) : befN l idn ≤ l.length := List.countP_le_length
theorem befN_succ {l : List Sbj} {t : Nat} (ht : t < l.length) (idn : Int) : befN (l.take (t + 1)) idn = befN (l.take t) idn + if l[t]!.id < idn then 1 else 0 := by
  unfold befN
  rw [List.take_succ_eq_append_getElem ht, List.countP_append, ← getElem!_pos l t ht]
  congr 1
  simp only [List.countP_singleton, decide_eq_true_eq]

set_option maxRecDepth 100000 in
set_option maxHeartbeats 4000000 in
theorem before_any (A : Option Addr) (n c : Nat) (zs : List Sbj) (idn : Int) (w : World) (hi : SbjsIn w A n zs) (hn : n ≤ 1000) :
    Calls Try.prog 40 #[.slice A n c, .int .i64 idn] w fun e w' => e = .returned (.int .i64 (befN zs idn)) ∧ Gr w w' := by
  have HI := hid hi
  have hln := hi.len
  have hnz : (n : Int) ≤ 1000 := by omega
  clear hi
  go_enter Try.func40, Try.ntmps40
  go_wp2_with fail
  go_loopg [5, 10] n (fun gg s5 s10 wr => ∃ t : Nat, t ≤ n ∧ n - t ≤ gg ∧ s5 = .int .i64 (befN (zs.take t) idn) ∧ s10 = .int .i64 t ∧ Gr w wr)
  case atStart => exact ⟨0, Nat.zero_le _, by omega, rfl, rfl, Gr.refl w⟩
  case round =>
    obtain ⟨t, ht, hgt, rfl, rfl, BW⟩ := hrel
    by_cases htl : t < n
    · have htn : (t : Int) < (n : Int) := by omega
      have htz : (0 : Int) ≤ (t : Int) := by omega
      obtain ⟨ht', b, off, rfl, hbl, c0, c1⟩ := (HI.out.gr BW).rd.sbj htl
      have HS := hid (befN_succ ht' idn)
      have hbe := befN_le (zs.take t) idn
      rw [List.length_take] at hbe
      generalize befN (zs.take t) idn = o at *
      generalize zs[t]! = s at *
      obtain ⟨sid, sa, vn, vc, vals⟩ := s
      dsimp only at *
      have GA : Gr w (wr.alloc (.cells #[.int .i64 sid, .slice sa vn vc] 60)) := BW.alloc _
      by_cases hlt : sid < idn
      · rw [if_pos hlt] at HS
        go_wp2_with fail
        go_roundg (n - (t + 1))
        case measure => omega
        case rel => exact ⟨t + 1, by omega, by omega, by rw [HS.out]; go_num, by go_num, GA⟩
      · rw [if_neg hlt] at HS
        go_wp2_with fail
        go_roundg (n - (t + 1))
        case measure => omega
        case rel => exact ⟨t + 1, by omega, by omega, by rw [HS.out, Nat.add_zero], by go_num, GA⟩
    · have htn : ¬ (t : Int) < (n : Int) := by omega
      rw [show zs.take t = zs from List.take_of_length_le (by omega)]
      go_wp2
      go_ret
      exact ⟨rfl, BW⟩
theorem mem_take_succ {l : List Int} {t : Nat} (ht : t < l.length) (z : Int) : decide (z ∈ l.take (t + 1)) = (decide (z ∈ l.take t) || decide (l[t]! = z)) := by
  rw [List.take_succ_eq_append_getElem ht, ← getElem!_pos l t ht, Bool.eq_iff_iff]
  simp only [decide_eq_true_eq, Bool.or_eq_true, List.mem_append, List.mem_singleton]
  constructor
  · rintro (h | h)
    · exact .inl h
    · exact .inr h.symm
  · rintro (h | h)
    · exact .inl h
    · exact .inr h.symm

set_option maxRecDepth 100000 in
set_option maxHeartbeats 4000000 in
theorem sumHide_any (columns : Int) (A : Option Addr) (n c : Nat) (zs : List Sbj) (QA : Option Addr) (qn qc : Nat) (qs : List Qst) (x : Int) (w : World) (hi : SbjsIn w A n zs) (hq : QstsIn w QA qn qs) (hx : 0 ≤ x ∧ x ≤ 255) :
    Calls Try.prog 10 #[.int .i64 columns, .slice A n c, .slice QA qn qc, .int .u8 x] w fun e w' => e = .returned (.bool true) ∧ Gr w w' := by
  have HI := hid hi
  have HQ := hid hq
  have hln := hi.len
  have hqn := hq.len
  have HAl := hid (fun W => alive10_any W)
  have HAk := hid (fun W (g : Gr w W) => ready_any columns A n c zs QA qn qc qs W (hi.gr g) (hq.gr g))
  obtain ⟨hx0, hx1⟩ := hx
  obtain ⟨B, hB⟩ : ∃ B, readyB columns n qn zs qs = B := ⟨_, rfl⟩
  rw [hB] at HAk
  by_cases h0 : B = true ∧ 0 < n
  case neg =>
    have hcase : B = false ∨ n = 0 := by
      cases B
      · exact .inl rfl
      · right
        rcases Nat.eq_zero_or_pos n with h | h
        · exact h
        · exact absurd ⟨rfl, h⟩ h0
    clear hi hq hB h0 HI HQ
    cases B with
    | false =>
      clear hcase
      go_enter Try.func10, Try.ntmps10
      go_wp2_with (first
        | (go_at_call 31; (with_reducible refine (HAl.out _).mono ?_); rintro e w1 ⟨rfl, hb1⟩)
        | (go_at_call 38; (with_reducible refine (HAk.out _ hb1).mono ?_); rintro e w2 ⟨rfl, hb2⟩))
      go_ret
      exact ⟨rfl, hb1.trans hb2⟩
    | true =>
      obtain rfl : n = 0 := by simpa using hcase
      clear hcase
      go_enter Try.func10, Try.ntmps10
      go_wp2_with (first
        | (go_at_call 31; (with_reducible refine (HAl.out _).mono ?_); rintro e w1 ⟨rfl, hb1⟩)
        | (go_at_call 38; (with_reducible refine (HAk.out _ hb1).mono ?_); rintro e w2 ⟨rfl, hb2⟩))
      go_ret
      exact ⟨rfl, hb1.trans hb2⟩
  case pos =>
    obtain ⟨rfl, hn0⟩ := h0
    obtain ⟨hE, ht, hab⟩ := ready_audit hB
    obtain ⟨hl16, hmem⟩ := table_mem ht
    obtain ⟨_, h8⟩ := audit_16 hE
    obtain ⟨x, rfl⟩ := Int.eq_ofNat_of_zero_le hx0
    obtain ⟨k, hk⟩ : ∃ k, x % n = k := ⟨_, rfl⟩
    have hkn : k < n := by rw [← hk]; exact Nat.mod_lt _ hn0
    have hn16 : n ≤ 16 := by omega
    have hq8 : qn ≤ 8 := by omega
    have hom : zs[k]! ∈ zs := by rw [getElem!_pos zs k (by omega)]; exact List.getElem_mem _
    have hwf := (hi.wf _ hom)
    have hap := table_apart ht
    obtain ⟨i, hil, hio, hix⟩ := idx_of hap hom
    have hil2 : i < n := by omega
    obtain ⟨hds, hdm⟩ := ded_law (qs := qs) hap
    have hdi := hdm i hil
    rw [hio] at hdi
    obtain ⟨hby1, hby2⟩ := by_fol (qs := qs) hix
    have HDd := hid (fun W (g : Gr w W) => by have h := deduced_any columns A n c zs QA qn qc qs W (hi.gr g) (hq.gr g); unfold deducedT at h; rw [if_pos hE, hE] at h; exact h)
    have HHw := hid (fun W (g : Gr w W) => how_any columns A n c zs QA qn qc qs zs[k]!.id W (hi.gr g) (hq.gr g) hwf)
    have HHd := hid (fun W (g : Gr w W) => hide_any columns A n c zs QA qn qc qs zs[k]!.id W (hi.gr g) (hq.gr g) hwf)
    have hm1 : Int.tmod (x : Int) (n : Int) = (k : Int) := by rw [Int.tmod_eq_emod_of_nonneg (by omega)]; omega
    have hm2 : IntKind.i64.wrap (Int.tmod (x : Int) (n : Int)) = (k : Int) := by rw [hm1, IntKind.wrap_i64]; omega
    have hm3 : ¬ (n : Int) = 0 := by omega
    have hm4 : ((n : Int) == 0) = false := by simpa using hm3
    have hk0 : (0 : Int) ≤ (k : Int) := by omega
    have hkz : (k : Int) < (n : Int) := by omega
    unfold MeetsRet at HDd
    unfold HowRet howT at HHw
    unfold MeetsRet hideT at HHd
    simp only [if_pos hE] at HHw HHd
    rw [hix] at HHd
    dsimp only at HHd
    obtain ⟨ids, hids⟩ : ∃ ids, dedR zs.length (ordI zs) (rowsR zs qs) zs.length = ids := ⟨_, rfl⟩
    have hdl := dedR_le zs.length (ordI zs) (rowsR zs qs) zs.length
    rw [hids] at HDd hds hdi hdl
    have HDs := hid hds
    have HDi := hid hdi
    clear hids hdm hds hdi
    cases hfo : folB zs qs i with
    | true =>
      obtain ⟨xr, hby⟩ := hby1 hfo
      have hfr : freeR zs.length (rowsR zs qs) i = none := by
        rcases fol_free (qs := qs) hil with ⟨_, h⟩ | ⟨h, _⟩
        · exact h
        · rw [hfo] at h; cases h
      rw [hfr] at HHd
      rw [hby] at HHw
      dsimp only at HHw HHd
      generalize (wholeR (xr.drop zs.length ++ [1])).take qs.length = parts at *
      generalize (wholeR (xr.drop zs.length ++ [1]))[qs.length]! = whole at *
      rw [hfo] at HDi
      clear hi hq hB hE ht hab hl16 hmem hom hwf hap hio hix hby1 hby2 hfo hfr hby
      go_enter Try.func10, Try.ntmps10
      go_upto_region 6 with (first
        | (go_at_call 31; (with_reducible refine (HAl.out _).mono ?_); rintro e w1 ⟨rfl, hb1⟩)
        | (go_at_call 38; (with_reducible refine (HAk.out _ hb1).mono ?_); rintro e w2 ⟨rfl, hb2⟩))
      have G2 := hid (hb1.trans hb2)
      obtain ⟨_, b, off, hAe, hbl, c0, c1⟩ := (HI.out.gr G2.out).rd.sbj hkn
      subst hAe
      obtain ⟨o, hok⟩ : ∃ o, zs[k]! = o := ⟨_, rfl⟩
      rw [hok] at c0 c1 HHw HHd HDi
      obtain ⟨idn, sa, vn, vc, vals⟩ := o
      dsimp only at *
      clear hb1 hb2 hok
      have GA : Hid (Gr w (w2.alloc (.cells #[.int .i64 idn, .slice sa vn vc] 60))) := G2.out.alloc _
      have HXo := hid (heap_alloc_new w2 (.cells #[.int .i64 idn, .slice sa vn vc] 60))
      obtain ⟨X, hX⟩ : ∃ X, w2.heap.size = X := ⟨_, rfl⟩
      rw [hX] at HXo
      go_upto_region 10 with (first
        | (go_at_call 25; (with_reducible refine (HDd.out _ GA.out).mono ?_); rintro e w3 ⟨A3, n3, c3, rfl, hb3, hr3, hn3⟩; have G3 := hid (GA.out.trans hb3); have HX3 := hid (row_gr HXo.out hb3); have R3 := hid hr3; have x3 := row_cell_at (v := .int .i64 idn) HX3.out 0 rfl; have hX3 : X < w3.heap.size := block_lt_of_cell x3; obtain rfl : ids.length = n3 := (by have h := hr3.len; simp at h; omega); clear hb3 hr3)
        | (go_at_call 27; (with_reducible refine (HHw.out _ G3.out).mono ?_); rintro e w4 ⟨A4, n4, c4, rfl, hb4, hr4, hn4⟩; have G4 := hid (G3.out.trans hb4); have HX4 := hid (row_gr HX3.out hb4); have R3b := hid (R3.out.gr hb4); have x4 := row_cell_at (v := .int .i64 idn) HX4.out 0 rfl; have hX4 : X < w4.heap.size := block_lt_of_cell x4; clear hb4 hr4)
        | (go_at_call 29; (with_reducible refine (HHd.out _ G4.out).mono ?_); rintro e w5 ⟨A5, n5, c5, rfl, hb5, hr5, hn5⟩; have GB := hid (G4.out.trans hb5); have HXB := hid (row_gr HX4.out hb5); have RB := hid (R3b.out.gr hb5); have R3c := hid hr5; have hn5e := hr5.len; clear hb5 hr5))
      clear hX hX3 hX4 x3 x4 HXo HX3 HX4 R3 R3b G3 G4 GA HHw HHd HDd c0 c1 HAl HAk G2
      obtain rfl : n5 = 0 := (by simpa using hn5e.symm)
      go_wp2_with fail
      go_loopg [18, 78] ids.length (fun gg s18 s78 wr => ∃ (t : Nat) (bb : Bool), t ≤ ids.length ∧ ids.length - t ≤ gg ∧ s18 = .bool bb ∧ s78 = .int .i64 t ∧ Gr w5 wr ∧ Hid (bb = decide (idn ∈ ids.take t)))
      case atStart => exact ⟨0, false, Nat.zero_le _, by omega, rfl, rfl, Gr.refl w5, by show false = _; simp⟩
      case round =>
        obtain ⟨t, bb, ht, hgt, rfl, rfl, BW, HBB⟩ := hrel
        by_cases htl : t < ids.length
        · have htn : (t : Int) < (ids.length : Int) := by omega
          have htz : (0 : Int) ≤ (t : Int) := by omega
          obtain ⟨_, bi, offi, hAi, hbi, e0⟩ := (RB.out.gr BW).int_at htl
          cases hAi
          have HXr := row_gr HXB.out BW
          have x0 := row_cell_at (v := .int .i64 idn) HXr 0 rfl
          have hXr : X < wr.heap.size := block_lt_of_cell x0
          clear HXr
          have HMt := hid (mem_take_succ htl idn)
          rw [← HBB.out] at HMt
          have hid2 : ∃ z, ids[t]! = z := ⟨_, rfl⟩
          obtain ⟨z, hz⟩ := hid2
          rw [hz] at e0 HMt
          have hsub1 : IntKind.i64.wrap ((t : Int) - 1) = (t : Int) - 1 := by rw [IntKind.wrap_i64]; omega
          rcases Nat.eq_zero_or_pos t with h0 | h0
          · subst h0
            rw [Nat.add_zero] at e0
            clear hz
            by_cases hze : z = idn
            · have hzd : (z == idn) = true := by simpa using hze
              rw [decide_eq_true hze, Bool.or_true] at HMt
              subst hze
              cases bb <;> (go_wp2_with fail; go_roundg (ids.length - (0 + 1)); (case measure => omega); (case rel => exact ⟨1, true, by omega, by omega, rfl, by go_num, BW, HMt.out.symm⟩))
            · have hzd : (z == idn) = false := by simpa using hze
              rw [decide_eq_false hze, Bool.or_false] at HMt
              cases bb <;> (go_wp2_with fail; go_roundg (ids.length - (0 + 1)); (case measure => omega); (case rel => exact ⟨1, _, by omega, by omega, rfl, by go_num, BW, HMt.out.symm⟩))
          · obtain ⟨u, hu⟩ : ∃ u, t = u + 1 := ⟨t - 1, by omega⟩
            obtain ⟨_, bi2, offi2, hAi2, hbi2, e1⟩ := (RB.out.gr BW).int_at (show u < ids.length by omega)
            cases hAi2
            have hlt : ids[u]! < z := by
              rw [← hz, getElem!_pos ids u (by omega), getElem!_pos ids t htl]
              exact List.pairwise_iff_getElem.1 HDs.out u t (by omega) htl (by omega)
            obtain ⟨y, hy⟩ : ∃ y, ids[u]! = y := ⟨_, rfl⟩
            rw [hy] at e1 hlt
            clear hz hy
            have hnle : ¬ z ≤ y := by omega
            subst hu
            have hui : ((u + 1 : Nat) : Int) - 1 = (u : Int) := by omega
            have huz : (0 : Int) ≤ (u : Int) := by omega
            have hun : (u : Int) < (ids.length : Int) := by omega
            have hpos : (0 : Int) < ((u + 1 : Nat) : Int) := by omega
            obtain ⟨T, hT⟩ : ∃ T : Int, ((u + 1 : Nat) : Int) = T := ⟨_, rfl⟩
            rw [hT] at hui hpos htn htz hsub1 ⊢
            have e0' : wr.cell? ⟨bi, offi + T.toNat, none⟩ = some (.int .i64 z) := by rw [← hT]; exact e0
            rw [hui] at hsub1
            have hT1 : IntKind.i64.wrap (T + 1) = T + 1 := by rw [IntKind.wrap_i64]; omega
            by_cases hze : z = idn
            · have hzd : (z == idn) = true := by simpa using hze
              rw [decide_eq_true hze, Bool.or_true] at HMt
              subst hze
              cases bb <;> (go_wp2_with fail; go_roundg (ids.length - (u + 1 + 1)); (case measure => omega); (case rel => exact ⟨u + 1 + 1, true, by omega, by omega, rfl, by congr 1; omega, BW, HMt.out.symm⟩))
            · have hzd : (z == idn) = false := by simpa using hze
              rw [decide_eq_false hze, Bool.or_false] at HMt
              cases bb <;> (go_wp2_with fail; go_roundg (ids.length - (u + 1 + 1)); (case measure => omega); (case rel => exact ⟨u + 1 + 1, _, by omega, by omega, rfl, by congr 1; omega, BW, HMt.out.symm⟩))
        · have htn : ¬ (t : Int) < (ids.length : Int) := by omega
          rw [show ids.take t = ids from List.take_of_length_le (by omega)] at HBB
          have hbb : bb = true := by rw [HBB.out]; simpa using HDi.out
          subst hbb
          go_wp2
          go_ret
          exact ⟨by first | rfl | simp, GB.out.trans BW⟩
    | false =>
      have hby := hby2 hfo
      obtain ⟨f, hfr⟩ : ∃ f, freeR zs.length (rowsR zs qs) i = some f := by
        rcases fol_free (qs := qs) hil with ⟨h, _⟩ | ⟨_, h⟩
        · rw [hfo] at h; cases h
        · exact h
      rw [hfr] at HHd
      rw [hby] at HHw
      dsimp only at HHw HHd
      obtain ⟨ch, hch⟩ : ∃ ch, ch = signI i (wholeR (changeR zs.length (rowsR zs qs) f)) := ⟨_, rfl⟩
      rw [← hch] at HHd
      obtain ⟨hcl, hcg, hcb, hcs, hcp⟩ := hide_law hE hil hfr ch hch
      have HCm := hid (fun A c W (h : Rd W 1 A n (ch.map (Value.int .i64))) => common_any A n c ch W h (by omega) (fun z hz => by have := hcb z hz; omega))
      rw [hcg] at HCm
      have HCb := hid hcb
      have HCs := hid (fun j (hj : j < qs.length) => (hsum_all (zs := zs) hap ch qs[j]!).trans (hcs j hj))
      have HAs := hid (fun s (hs : s ∈ zs) q (hq' : q ∈ qs) W (g : Gr w W) => refAsked_any s q W ((hi.vals s hs).1.gr g) ((hq.whs q hq').gr g) (fun y hy => by
        have h1 := (qst_parts (columns := columns) (q := q) (by
          obtain ⟨j, hj, rfl⟩ := List.getElem_of_mem hq'
          have := (audit_qst hab hj).1
          rwa [getElem!_pos qs j hj] at this)).2.2 y hy
        have h2 := (hmem s hs).2.1
        have h3 := (hi.vals s hs).1.len
        simp at h3
        omega) (hi.vals s hs).2)
      have HBe := hid (fun idn W (g : Gr w W) => before_any A n c zs idn W (hi.gr g) (by omega))
      have HBi : Hid (∀ s ∈ zs, befN zs s.id < n) := by
        intro s hs
        obtain ⟨j, hj, hjs, _⟩ := ids_index hap hs
        rw [← hjs, bef_idx hap hj]
        omega
      have hbo : befN zs zs[k]!.id = i := by rw [← hio, bef_idx hap hil]
      rw [hfo] at HDi
      clear hi hq hB hE ht hab hl16 hmem hom hwf hap hio hix hby1 hby2 hfo hfr hby hch hcg hcb hcs
      go_enter Try.func10, Try.ntmps10
      go_upto_region 6 with (first
        | (go_at_call 31; (with_reducible refine (HAl.out _).mono ?_); rintro e w1 ⟨rfl, hb1⟩)
        | (go_at_call 38; (with_reducible refine (HAk.out _ hb1).mono ?_); rintro e w2 ⟨rfl, hb2⟩))
      have G2 := hid (hb1.trans hb2)
      obtain ⟨_, b, off, hAe, hbl, c0, c1⟩ := (HI.out.gr G2.out).rd.sbj hkn
      subst hAe
      obtain ⟨o, hok⟩ : ∃ o, zs[k]! = o := ⟨_, rfl⟩
      rw [hok] at c0 c1 HHw HHd HDi hbo
      obtain ⟨idn, sa, vn, vc, vals⟩ := o
      dsimp only at *
      clear hb1 hb2 hok
      have GA : Hid (Gr w (w2.alloc (.cells #[.int .i64 idn, .slice sa vn vc] 60))) := G2.out.alloc _
      have HXo := hid (heap_alloc_new w2 (.cells #[.int .i64 idn, .slice sa vn vc] 60))
      obtain ⟨X, hX⟩ : ∃ X, w2.heap.size = X := ⟨_, rfl⟩
      rw [hX] at HXo
      go_upto_region 10 with (first
        | (go_at_call 25; (with_reducible refine (HDd.out _ GA.out).mono ?_); rintro e w3 ⟨A3, n3, c3, rfl, hb3, hr3, hn3⟩; have G3 := hid (GA.out.trans hb3); have HX3 := hid (row_gr HXo.out hb3); have R3 := hid hr3; have x3 := row_cell_at (v := .int .i64 idn) HX3.out 0 rfl; have hX3 : X < w3.heap.size := block_lt_of_cell x3; obtain rfl : ids.length = n3 := (by have h := hr3.len; simp at h; omega); clear hb3 hr3)
        | (go_at_call 27; (with_reducible refine (HHw.out _ G3.out).mono ?_); rintro e w4 ⟨A4, n4, c4, rfl, hb4, hr4, hn4⟩; have G4 := hid (G3.out.trans hb4); have HX4 := hid (row_gr HX3.out hb4); have R3b := hid (R3.out.gr hb4); have x4 := row_cell_at (v := .int .i64 idn) HX4.out 0 rfl; have hX4 : X < w4.heap.size := block_lt_of_cell x4; clear hb4 hr4)
        | (go_at_call 29; (with_reducible refine (HHd.out _ G4.out).mono ?_); rintro e w5 ⟨A5, n5, c5, rfl, hb5, hr5, hn5⟩; have GB := hid (G4.out.trans hb5); have HXB := hid (row_gr HX4.out hb5); have RB := hid (R3b.out.gr hb5); have R3c := hid hr5; have hn5e := hr5.len; clear hb5 hr5))
      clear hX hX3 hX4 x3 x4 HXo HX3 HX4 R3 R3b G3 G4 GA HHw HHd HDd c0 c1 HAl HAk G2
      obtain rfl : n = n5 := (by simp at hn5e; omega)
      go_wp2_with fail
      go_loopg [18, 78] ids.length (fun gg s18 s78 wr => ∃ (t : Nat) (bb : Bool), t ≤ ids.length ∧ ids.length - t ≤ gg ∧ s18 = .bool bb ∧ s78 = .int .i64 t ∧ Gr w5 wr ∧ Hid (bb = decide (idn ∈ ids.take t)))
      case atStart => exact ⟨0, false, Nat.zero_le _, by omega, rfl, rfl, Gr.refl w5, by show false = _; simp⟩
      case round =>
        obtain ⟨t, bb, ht, hgt, rfl, rfl, BW, HBB⟩ := hrel
        by_cases htl : t < ids.length
        · have htn : (t : Int) < (ids.length : Int) := by omega
          have htz : (0 : Int) ≤ (t : Int) := by omega
          obtain ⟨_, bi, offi, hAi, hbi, e0⟩ := (RB.out.gr BW).int_at htl
          cases hAi
          have HXr := row_gr HXB.out BW
          have x0 := row_cell_at (v := .int .i64 idn) HXr 0 rfl
          have hXr : X < wr.heap.size := block_lt_of_cell x0
          clear HXr
          have HMt := hid (mem_take_succ htl idn)
          rw [← HBB.out] at HMt
          have hid2 : ∃ z, ids[t]! = z := ⟨_, rfl⟩
          obtain ⟨z, hz⟩ := hid2
          rw [hz] at e0 HMt
          have hsub1 : IntKind.i64.wrap ((t : Int) - 1) = (t : Int) - 1 := by rw [IntKind.wrap_i64]; omega
          rcases Nat.eq_zero_or_pos t with h0 | h0
          · subst h0
            rw [Nat.add_zero] at e0
            clear hz
            by_cases hze : z = idn
            · have hzd : (z == idn) = true := by simpa using hze
              rw [decide_eq_true hze, Bool.or_true] at HMt
              subst hze
              cases bb <;> (go_wp2_with fail; go_roundg (ids.length - (0 + 1)); (case measure => omega); (case rel => exact ⟨1, true, by omega, by omega, rfl, by go_num, BW, HMt.out.symm⟩))
            · have hzd : (z == idn) = false := by simpa using hze
              rw [decide_eq_false hze, Bool.or_false] at HMt
              cases bb <;> (go_wp2_with fail; go_roundg (ids.length - (0 + 1)); (case measure => omega); (case rel => exact ⟨1, _, by omega, by omega, rfl, by go_num, BW, HMt.out.symm⟩))
          · obtain ⟨u, hu⟩ : ∃ u, t = u + 1 := ⟨t - 1, by omega⟩
            obtain ⟨_, bi2, offi2, hAi2, hbi2, e1⟩ := (RB.out.gr BW).int_at (show u < ids.length by omega)
            cases hAi2
            have hlt : ids[u]! < z := by
              rw [← hz, getElem!_pos ids u (by omega), getElem!_pos ids t htl]
              exact List.pairwise_iff_getElem.1 HDs.out u t (by omega) htl (by omega)
            obtain ⟨y, hy⟩ : ∃ y, ids[u]! = y := ⟨_, rfl⟩
            rw [hy] at e1 hlt
            clear hz hy
            have hnle : ¬ z ≤ y := by omega
            subst hu
            have hui : ((u + 1 : Nat) : Int) - 1 = (u : Int) := by omega
            have huz : (0 : Int) ≤ (u : Int) := by omega
            have hun : (u : Int) < (ids.length : Int) := by omega
            have hpos : (0 : Int) < ((u + 1 : Nat) : Int) := by omega
            obtain ⟨T, hT⟩ : ∃ T : Int, ((u + 1 : Nat) : Int) = T := ⟨_, rfl⟩
            rw [hT] at hui hpos htn htz hsub1 ⊢
            have e0' : wr.cell? ⟨bi, offi + T.toNat, none⟩ = some (.int .i64 z) := by rw [← hT]; exact e0
            rw [hui] at hsub1
            have hT1 : IntKind.i64.wrap (T + 1) = T + 1 := by rw [IntKind.wrap_i64]; omega
            by_cases hze : z = idn
            · have hzd : (z == idn) = true := by simpa using hze
              rw [decide_eq_true hze, Bool.or_true] at HMt
              subst hze
              cases bb <;> (go_wp2_with fail; go_roundg (ids.length - (u + 1 + 1)); (case measure => omega); (case rel => exact ⟨u + 1 + 1, true, by omega, by omega, rfl, by congr 1; omega, BW, HMt.out.symm⟩))
            · have hzd : (z == idn) = false := by simpa using hze
              rw [decide_eq_false hze, Bool.or_false] at HMt
              cases bb <;> (go_wp2_with fail; go_roundg (ids.length - (u + 1 + 1)); (case measure => omega); (case rel => exact ⟨u + 1 + 1, _, by omega, by omega, rfl, by congr 1; omega, BW, HMt.out.symm⟩))
        · have htn : ¬ (t : Int) < (ids.length : Int) := by omega
          rw [show ids.take t = ids from List.take_of_length_le (by omega)] at HBB
          have hbb : bb = false := by rw [HBB.out]; simpa using HDi.out
          subst hbb
          have RC := hid (R3c.out.gr BW)
          have GE := hid (GB.out.trans BW)
          have HXe := hid (row_gr HXB.out BW)
          have hcn : (n : Int) = (n : Int) := rfl
          go_wp2_with (go_at_call 39; (with_reducible refine (HCm.out _ _ _ RC.out).mono ?_); rintro e w7 ⟨rfl, hb7⟩; have G7 := hid hb7; clear hb7)
          have RD := hid (RC.out.gr G7.out)
          have GF := hid (GE.out.trans G7.out)
          have HXf := hid (row_gr HXe.out G7.out)
          clear RC GE HXe G7 HCm
          go_loopg [143] qn (fun gg s143 wq => ∃ m : Nat, m ≤ qn ∧ qn - m ≤ gg ∧ s143 = .int .i64 m ∧ Gr w7 wq)
          case atStart => exact ⟨0, Nat.zero_le _, by omega, rfl, Gr.refl w7⟩
          case round =>
            obtain ⟨m, hm, hgm, rfl, BX⟩ := hrel
            by_cases hml : m < qn
            · have hmn : (m : Int) < (qn : Int) := by omega
              have hmz : (0 : Int) ≤ (m : Int) := by omega
              obtain ⟨hm', bq, offq, hAq, hbq, d0, d1, d2, d3⟩ := (HQ.out.gr (GF.out.trans BX)).rd.qst hml
              subst hAq
              have hqm : qs[m]! ∈ qs := by rw [getElem!_pos qs m hm']; exact List.getElem_mem hm'
              have HAm := hid (fun s hs W g => HAs.out s hs qs[m]! hqm W g)
              have HC0 := hid (HCs.out m (by omega))
              clear hqm
              generalize qs[m]! = qv at *
              obtain ⟨qa, qnn, qcc, whs, col, clip, st⟩ := qv
              unfold Qst.val at HAm
              dsimp only at *
              have hZ := heap_alloc_new wr (.cells #[.slice qa qnn qcc, .int .i64 col, .int .i64 clip, .int .i64 st] 25)
              have gZ : Gr wr (wr.alloc (.cells #[.slice qa qnn qcc, .int .i64 col, .int .i64 clip, .int .i64 st] 25)) := (Gr.refl wr).alloc _
              go_wp2_with fail
              obtain ⟨Z, hZe⟩ : ∃ Z, wr.heap.size = Z := ⟨_, rfl⟩
              rw [hZe] at hZ ⊢
              clear hZe
              have HG1 := hid (BX.trans gZ)
              generalize wr.alloc (.cells #[.slice qa qnn qcc, .int .i64 col, .int .i64 clip, .int .i64 st] 25) = wl at *
              have HZl := hid hZ
              clear hZ gZ d0 d1 d2 d3
              go_loopg [23, 149] n (fun gg s23 s149 wq => ∃ t : Nat, t ≤ n ∧ n - t ≤ gg ∧ s23 = .int .i64 (hsum zs ch ⟨qa, qnn, qcc, whs, col, clip, st⟩ (zs.take t)) ∧ s149 = .int .i64 t ∧ Gr wl wq)
              case atStart => exact ⟨0, Nat.zero_le _, by omega, rfl, rfl, Gr.refl wl⟩
              case round =>
                obtain ⟨t, ht, hgt, rfl, rfl, BY⟩ := hrel
                by_cases htl : t < n
                · have htn : (t : Int) < (n : Int) := by omega
                  have htz : (0 : Int) ≤ (t : Int) := by omega
                  have GZ := hid (GF.out.trans (HG1.out.trans BY))
                  obtain ⟨ht', bs, offs, hAs, hbs, c0, c1⟩ := (HI.out.gr GZ.out).rd.sbj htl
                  cases hAs
                  obtain ⟨z0, z1, z2, z3⟩ := cellsat4 (row_gr HZl.out BY)
                  have hZr : Z < wr.heap.size := block_lt_of_cell z0
                  have hsm : zs[t]! ∈ zs := by rw [getElem!_pos zs t ht']; exact List.getElem_mem ht'
                  have HA := hid (fun W g => HAm.out zs[t]! hsm W g)
                  have hbi := HBi.out _ hsm
                  have HSt := hid (hsum_take (zs := zs) ch ⟨qa, qnn, qcc, whs, col, clip, st⟩ (l := zs) ht')
                  have hhb := hsum_le HCb.out (by omega) ⟨qa, qnn, qcc, whs, col, clip, st⟩ (zs.take t) (fun s hs => HBi.out s (List.mem_of_mem_take hs))
                  rw [List.length_take] at hhb
                  have HBs := hid (fun W g => HBe.out zs[t]!.id W g)
                  obtain ⟨_, bp, offp, hAp, hbp, e0⟩ := (RD.out.gr (HG1.out.trans BY)).int_at hbi
                  cases hAp
                  have hpm := HCb.out ch[befN zs zs[t]!.id]! (by rw [getElem!_pos ch _ (by omega)]; exact List.getElem_mem _)
                  clear hsm
                  generalize hsum zs ch ⟨qa, qnn, qcc, whs, col, clip, st⟩ (zs.take t) = acc at *
                  obtain ⟨sv, hsv⟩ : ∃ sv, zs[t]! = sv := ⟨_, rfl⟩
                  rw [hsv] at c0 c1 HA hbi HSt HBs e0 hpm
                  clear hsv
                  generalize ch[befN zs sv.id]! = pm at *
                  generalize befN zs sv.id = bi at *
                  obtain ⟨sid, sa2, vn2, vc2, vals2⟩ := sv
                  unfold Sbj.val at HA
                  dsimp only at *
                  generalize askedB ⟨sid, sa2, vn2, vc2, vals2⟩ ⟨qa, qnn, qcc, whs, col, clip, st⟩ = r at *
                  have hws : IntKind.i64.wrap (acc + pm) = acc + pm := by rw [IntKind.wrap_i64]; omega
                  have hbin : (bi : Int) < (n : Int) := by omega
                  have hbi0 : (0 : Int) ≤ (bi : Int) := by omega
                  have GA := (GZ.out.alloc (.cells #[.int .i64 sid, .slice sa2 vn2 vc2] 60))
                  have GA2 : Gr wl (wr.alloc (.cells #[.int .i64 sid, .slice sa2 vn2 vc2] 60)) := BY.alloc _
                  cases r with
                  | true =>
                    simp only [if_true] at HSt
                    go_wp2_with (first
                      | ((go_at_call 36; (with_reducible refine (HA.out _ GA).mono ?_); rotate_right; rintro e w8 ⟨rfl, hbw8⟩; obtain ⟨hcw8, hfw8, hzw8⟩ := hbw8.rules; (try simp at hzw8); have hzw8_0 : wr.heap.size < w8.heap.size := (by omega); have hyw8_0 : wr.heap.size ≤ w8.heap.size := (by omega)); have hbp8 : bp < w8.heap.size := Nat.lt_of_lt_of_le hbp (Nat.le_of_lt hzw8_0))
                      | (go_at_call 40; (with_reducible refine (HBs.out _ (GA.trans hbw8)).mono ?_); rotate_right; rintro e w9 ⟨rfl, hbw9⟩; obtain ⟨hcw9, hfw9, hzw9⟩ := hbw9.rules; (try simp at hzw9)))
                    go_roundg (n - (t + 1))
                    case measure => omega
                    case rel => exact ⟨t + 1, by omega, by omega, by rw [HSt.out], by go_num, (GA2.trans hbw8).trans hbw9⟩
                  | false =>
                    simp only [Bool.false_eq_true, if_false, Int.add_zero] at HSt
                    go_wp2_with (first
                      | (go_at_call 36; (with_reducible refine (HA.out _ GA).mono ?_); rotate_right; rintro e w8 ⟨rfl, hbw8⟩; obtain ⟨hcw8, hfw8, hzw8⟩ := hbw8.rules; (try simp at hzw8); have hzw8_0 : wr.heap.size < w8.heap.size := (by omega); have hyw8_0 : wr.heap.size ≤ w8.heap.size := (by omega)))
                    go_roundg (n - (t + 1))
                    case measure => omega
                    case rel => exact ⟨t + 1, by omega, by omega, by rw [HSt.out], by go_num, GA2.trans hbw8⟩
                · have htn : ¬ (t : Int) < (n : Int) := by omega
                  rw [show zs.take t = zs from List.take_of_length_le (by omega), HC0.out]
                  have GY := HG1.out.trans BY
                  go_wp2_with fail
                  go_roundg (qn - (m + 1))
                  case measure => omega
                  case rel => exact ⟨m + 1, by omega, by omega, by go_num, GY⟩
            · have hmn : ¬ (m : Int) < (qn : Int) := by omega
              have HXr := row_gr HXf.out BX
              have x0 := row_cell_at (v := .int .i64 idn) HXr 0 rfl
              have hXr : X < wr.heap.size := block_lt_of_cell x0
              clear HXr
              have HBo := hid (fun W g => HBe.out idn W g)
              rw [hbo] at HBo
              obtain ⟨_, bp, offp, hAp, hbp, e0⟩ := (RD.out.gr BX).int_at hil2
              cases hAp
              generalize ch[i]! = ci at *
              have hiz : (0 : Int) ≤ (i : Int) := by omega
              have hin : (i : Int) < (n : Int) := by omega
              have GH := hid (GF.out.trans BX)
              go_wp2_with (first
                | (go_at_call 40; (with_reducible refine (HBo.out _ GH.out).mono ?_); rotate_right; rintro e w9 ⟨rfl, hbw9⟩; obtain ⟨hcw9, hfw9, hzw9⟩ := hbw9.rules; (try simp at hzw9)))
              go_ret
              exact ⟨by first | rfl | simp, GH.out.trans hbw9⟩
end Go.Proofs.Ytimhkkijoelmhaa
