/- SumHow of the statements on sums: the walk: whatever the input, it answers true. -/
import Derived.Test.YtimhkkijoelmhaaQHowAll10
import Derived.Test.YtimhkkijoelmhaaQReady10
import Derived.Test.YtimhkkijoelmhaaQAlive10
import Derived.Test.YtimhkkijoelmhaaQRound10
import Derived.Test.YtimhkkijoelmhaaQWithin10
import Derived.Test.YtimhkkijoelmhaaQPlan
import Derived.Test.YtimhkkijoelmhaaQLawBound10
import Derived.Laws.OwnMore
namespace Go.Proofs.Ytimhkkijoelmhaa
open Go.RowKit

theorem wpList_wanted {P : Program} {ops : Array Oper} {Q : Exit → Act → World → Prop} {a : Act} {w : World} {rest : List Oper} {o : Oper} (hw : Region.wanted o (yielded ops a.tmps) = true)
    (h : ∀ K : Act → World → Prop, (∀ a w, wpList P ops Q rest a w → K a w) → o.wp P a w K Q) : wpList P ops Q (o :: rest) a w :=
  wpList_step fun K hK => by simp only [hw, if_true]; exact h K hK
theorem mul_bd {a b A B : Int} (h1 : -A ≤ a ∧ a ≤ A) (h2 : 0 ≤ b ∧ b ≤ B) : -(A * B) ≤ a * b ∧ a * b ≤ A * B := by
  have hA : 0 ≤ A := by omega
  have e1 : a * b ≤ A * b := Int.mul_le_mul_of_nonneg_right h1.2 h2.1
  have e2 : A * b ≤ A * B := Int.mul_le_mul_of_nonneg_left h2.2 hA
  have e3 : (-A) * b ≤ a * b := Int.mul_le_mul_of_nonneg_right h1.1 h2.1
  rw [Int.neg_mul] at e3
  omega
theorem int_cell {w : World} {A : Option Addr} {n : Nat} {l : List Int} (h : Rd w 1 A n (intsC l)) {k : Nat} (hk : k < n) : k < l.length ∧ ∃ b off, A = some ⟨b, off, none⟩ ∧ b < w.heap.size ∧ w.cell? ⟨b, off + k, none⟩ = some (.int .i64 l[k]!) := by
  unfold intsC at h
  exact h.int_at hk

set_option maxRecDepth 100000 in
set_option maxHeartbeats 4000000 in
theorem sumHow_any (columns : Int) (A : Option Addr) (n c : Nat) (zs : List Sbj) (QA : Option Addr) (qn qc : Nat) (qs : List Qst) (x : Int) (w : World) (hi : SbjsIn w A n zs) (hq : QstsIn w QA qn qs) (hx : 0 ≤ x ∧ x ≤ 255) :
    Calls Try.prog 9 #[.int .i64 columns, .slice A n c, .slice QA qn qc, .int .u8 x] w fun e w' => e = .returned (.bool true) ∧ Gr w w' := by
  have HI := hid hi
  have HQ := hid hq
  have hln := hi.len
  have hqn := hq.len
  have HAl := hid (fun W => alive10_any W)
  have HAk := hid (fun W (g : Gr w W) => ready_any columns A n c zs QA qn qc qs W (hi.gr g) (hq.gr g))
  obtain ⟨hx0, hx1⟩ := hx
  obtain ⟨B, hB⟩ : ∃ B, readyB columns n qn zs qs = B := ⟨_, rfl⟩
  rw [hB] at HAk
  by_cases h0 : B = true ∧ 0 < n
  case neg =>
    have hcase : B = false ∨ n = 0 := by
      cases B
      · exact .inl rfl
      · right
        rcases Nat.eq_zero_or_pos n with h | h
        · exact h
        · exact absurd ⟨rfl, h⟩ h0
    clear hi hq hB h0 HI HQ
    cases B with
    | false =>
      clear hcase
      go_enter Try.func9, Try.ntmps9
      go_wp2_with (first
        | (go_at_call 31; (with_reducible refine (HAl.out _).mono ?_); rintro e w1 ⟨rfl, hb1⟩)
        | (go_at_call 38; (with_reducible refine (HAk.out _ hb1).mono ?_); rintro e w2 ⟨rfl, hb2⟩))
      go_ret
      exact ⟨rfl, hb1.trans hb2⟩
    | true =>
      obtain rfl : n = 0 := by simpa using hcase
      clear hcase
      go_enter Try.func9, Try.ntmps9
      go_wp2_with (first
        | (go_at_call 31; (with_reducible refine (HAl.out _).mono ?_); rintro e w1 ⟨rfl, hb1⟩)
        | (go_at_call 38; (with_reducible refine (HAk.out _ hb1).mono ?_); rintro e w2 ⟨rfl, hb2⟩))
      go_ret
      exact ⟨rfl, hb1.trans hb2⟩
  case pos =>
    obtain ⟨rfl, hn0⟩ := h0
    obtain ⟨hE, ht, hab⟩ := ready_audit hB
    obtain ⟨hl16, hmem⟩ := table_mem ht
    obtain ⟨_, h8⟩ := audit_16 hE
    obtain ⟨x, rfl⟩ := Int.eq_ofNat_of_zero_le hx0
    obtain ⟨k, hk⟩ : ∃ k, x % n = k := ⟨_, rfl⟩
    have hkn : k < n := by rw [← hk]; exact Nat.mod_lt _ hn0
    have hn16 : n ≤ 16 := by omega
    have hq8 : qn ≤ 8 := by omega
    have hom : zs[k]! ∈ zs := by rw [getElem!_pos zs k (by omega)]; exact List.getElem_mem _
    have hwf := (hi.wf _ hom)
    have HHw := hid (fun W (g : Gr w W) => how_any columns A n c zs QA qn qc qs zs[k]!.id W (hi.gr g) (hq.gr g) hwf)
    have hm1 : Int.tmod (x : Int) (n : Int) = (k : Int) := by rw [Int.tmod_eq_emod_of_nonneg (by omega)]; omega
    have hm2 : IntKind.i64.wrap (Int.tmod (x : Int) (n : Int)) = (k : Int) := by rw [hm1, IntKind.wrap_i64]; omega
    have hm3 : ¬ (n : Int) = 0 := by omega
    have hm4 : ((n : Int) == 0) = false := by simpa using hm3
    have hk0 : (0 : Int) ≤ (k : Int) := by omega
    have hkz : (k : Int) < (n : Int) := by omega
    unfold HowRet howT at HHw
    simp only [if_pos hE] at HHw
    cases hby : byR zs.length (ordI zs) (rowsR zs qs) zs[k]!.id with
    | none =>
      rw [hby] at HHw
      dsimp only at HHw
      clear hi hq hB hE ht hab hl16 hmem hom hwf hby
      go_enter Try.func9, Try.ntmps9
      go_upto_region 6 with (first
        | (go_at_call 31; (with_reducible refine (HAl.out _).mono ?_); rintro e w1 ⟨rfl, hb1⟩)
        | (go_at_call 38; (with_reducible refine (HAk.out _ hb1).mono ?_); rintro e w2 ⟨rfl, hb2⟩))
      have G2 := hid (hb1.trans hb2)
      obtain ⟨_, b, off, hAe, hbl, c0, c1⟩ := (HI.out.gr G2.out).rd.sbj hkn
      subst hAe
      generalize zs[k]! = s at *
      obtain ⟨idn, sa, vn, vc, vals⟩ := s
      dsimp only at *
      clear hb1 hb2
      have GA : Gr w (w2.alloc (.cells #[.int .i64 idn, .slice sa vn vc] 60)) := G2.out.alloc _
      go_wp2_with (go_at_call 27; (with_reducible refine (HHw.out _ GA).mono ?_); rintro e w3 ⟨A3, n3, c3, rfl, hb3, hr3, _⟩; obtain rfl : n3 = 0 := (by have h := hr3.len; simpa [intsC] using h.symm))
      go_ret
      exact ⟨rfl, GA.trans hb3⟩
    | some xr =>
      rw [hby] at HHw
      dsimp only at HHw
      obtain ⟨parts, hpe⟩ : ∃ parts, parts = (wholeR (xr.drop zs.length ++ [1])).take qs.length := ⟨_, rfl⟩
      obtain ⟨whole, hwe⟩ : ∃ whole, whole = (wholeR (xr.drop zs.length ++ [1]))[qs.length]! := ⟨_, rfl⟩
      rw [← hpe, ← hwe] at HHw
      obtain ⟨hpl, hm0, hw1, hgc, hsub, hpb, hwb⟩ := how_law hE hby parts whole hpe hwe
      have hall := how_all ht hab hom hsub
      have HRo := hid (fun q (hq' : q ∈ qs) W (g : Gr w W) => by have h := sum10_any columns A n c zs (stepOne q) W (hi.gr g) (⟨((hq.whs q hq').gr g).rd, ((hq.whs q hq').gr g).big⟩ : QstIn W (stepOne q)); exact h)
      have HAs := hid (fun s (hs : s ∈ zs) q (hq' : q ∈ qs) W (g : Gr w W) => refAsked_any s q W ((hi.vals s hs).1.gr g) ((hq.whs q hq').gr g) (fun y hy => by
        have h1 := (qst_parts (columns := columns) (q := q) (by
          obtain ⟨j, hj, rfl⟩ := List.getElem_of_mem hq'
          have := (audit_qst hab hj).1
          rwa [getElem!_pos qs j hj] at this)).2.2 y hy
        have h2 := (hmem s hs).2.1
        have h3 := (hi.vals s hs).1.len
        simp at h3
        omega) (hi.vals s hs).2)
      have h00 := audit_qst hab hm0
      have hq0c := (qst_parts h00.1).1
      have HCt0 := hid (fun s (hs : s ∈ zs) W (g : Gr w W) => refCounts_any s qs[0]! W ((hi.vals s hs).1.gr g) (fun hne => by
        have h2 := (hmem s hs).2.1
        have h3 := (hi.vals s hs).1.len
        simp at h3
        rcases hq0c with ⟨h, _⟩ | ⟨_, h4, h5, _⟩
        · exact absurd h hne
        · omega) (hi.vals s hs).2)
      have HCt := hid (fun W g => HCt0.out _ hom W g)
      clear HCt0
      have hc0 := cnt_in ht h00.1 hom
      have HSk : Hid (∀ j, j < qs.length → sumP columns zs (stepOne qs[j]!) = rawN zs qs[j]! ∧ askN10 columns zs (stepOne qs[j]!) = 0 ∧ 0 ≤ rawN zs qs[j]! ∧ rawN zs qs[j]! ≤ 16000000) := by
        intro j hj
        have hqj := (audit_qst hab hj).1
        have ha := ask_ok ht (qst_step hqj)
        refine ⟨?_, ha, ?_⟩
        · unfold sumP
          rw [if_pos ha]
          exact print_one _
        · have hr := raw_in ht hqj zs.length (Nat.le_refl _)
          rw [List.take_length] at hr
          omega
      have HSub := hid hsub
      have HAll := hid hall
      have HPb := hid hpb
      have HCm := hid (fun A c W (h : Rd W 1 A (qn + 1) ((whole :: parts).map (Value.int .i64))) => common_any A (qn + 1) c (whole :: parts) W h (by omega) (by
        intro z hz
        rcases List.mem_cons.1 hz with rfl | hz
        · omega
        · have := hpb z hz; omega))
      rw [hgc] at HCm
      have HOm := hid hom
      have hwn : ¬ whole < 1 := by omega
      have hwd : decide (whole < 1) = false := decide_eq_false hwn
      have hqz : ¬ (qn : Int) = 0 := by omega
      have hqz2 : ((qn : Int) == 0) = false := by simpa using hqz
      have hqz3 : (qn : Int) ≤ 8 := by omega
      obtain ⟨i0, hi0', hz0, hs0, hy0⟩ := info_parts info_int10
      have HI0 := hid hi0'
      have HZ0 := hid hz0
      have HS0 := hid hs0
      have HY0 := hid hy0
      clear hi hq hB hE ht hab hl16 hmem hom hwf hby hpe hwe hsub hpb hgc hall hi0' hz0 hs0 hy0 h00 hq0c
      go_enter Try.func9, Try.ntmps9
      go_upto_region 6 with (first
        | (go_at_call 31; (with_reducible refine (HAl.out _).mono ?_); rintro e w1 ⟨rfl, hb1⟩)
        | (go_at_call 38; (with_reducible refine (HAk.out _ hb1).mono ?_); rintro e w2 ⟨rfl, hb2⟩))
      have G2 := hid (hb1.trans hb2)
      obtain ⟨_, b, off, hAe, hbl, c0, c1⟩ := (HI.out.gr G2.out).rd.sbj hkn
      subst hAe
      have hok : ∃ o, zs[k]! = o := ⟨_, rfl⟩
      obtain ⟨o, hok⟩ := hok
      rw [hok] at c0 c1 HHw HCt hc0 HSub HAll HOm
      obtain ⟨idn, sa, vn, vc, vals⟩ := o
      unfold Sbj.val at HCt
      dsimp only at *
      clear hb1 hb2 hok
      have GA : Hid (Gr w (w2.alloc (.cells #[.int .i64 idn, .slice sa vn vc] 60))) := G2.out.alloc _
      have HXo := hid (heap_alloc_new w2 (.cells #[.int .i64 idn, .slice sa vn vc] 60))
      go_upto_region 10 with (go_at_call 27; (with_reducible refine (HHw.out _ GA.out).mono ?_); rintro e w3 ⟨A3, n3, c3, rfl, hb3, hr3, hn3⟩; have G3 := hid (GA.out.trans hb3); have HX3 := hid (row_gr HXo.out hb3); have R3 := hid hr3; obtain rfl : qn = n3 := (by have h := hr3.len; simp [intsC] at h; omega); clear hb3 hr3)
      obtain ⟨X, hX⟩ : ∃ X, w2.heap.size = X := ⟨_, rfl⟩
      rw [hX] at HX3 ⊢
      clear hX HXo GA HHw c0 c1
      go_wp2_with (first
        | ((with_reducible show wpList _ _ _ (⟨some 86, _, _, _, _, _⟩ :: _) _ _); (try simp only [hwd, bne_self_eq_false, Bool.or_false, Bool.or_self, Bool.false_or]); go_loud (refine wpList_wanted (by rfl) (fun K hK => ?_)); go_loud (refine wp_append_rd (.tmp 84) (.tmp 85) 30 rfl w3.heap.size 3 i0 (.int .i64 0) 1 8 Try.underlying30 HI0.out HZ0.out HS0.out HY0.out rfl (by decide) _ _ _ rfl (World.ownsRow_lit w3 #[.int .i64 whole] 1 (Nat.le_refl _) (by decide) rfl) A3 qn c3 (intsC parts) rfl (R3.out.gr ((Gr.refl w3).alloc _)) (by intro u hu; unfold intsC at hu; obtain ⟨z, _, rfl⟩ := List.mem_map.1 hu; rfl) (by have : maxLen = 9223372036854775807 := rfl; omega) (by omega) (by simp) ?_); intro A4 c4 w4 hown hgrow hbel; have HR4 : Hid (Rd w4 1 A4 (qn + 1) ((whole :: parts).map (Value.int .i64))) := (by have h := Rd.of_own hown; rw [Nat.add_comm 1 qn] at h; exact h); have G4 : Hid (Gr w3 w4) := (show Below w3.heap.size w3 w4 from Below.trans ((Gr.refl w3).alloc _) hbel); rw [Nat.add_comm 1 qn]; refine hK _ _ ?_; clear hK K hown hgrow hbel)
        | (go_at_call 39; (with_reducible refine (HCm.out _ _ _ HR4.out).mono ?_); rintro e w5 ⟨rfl, hb5⟩; have G5 := hid (G4.out.trans hb5); clear hb5))
      have GB := hid (G3.out.trans G5.out)
      have HXB := hid (row_gr HX3.out G5.out)
      have RB := hid (R3.out.gr G5.out)
      have hXB : X < w5.heap.size := block_lt_of_cell (row_cell_at (v := .int .i64 idn) HXB.out 0 rfl)
      clear G3 G4 G5 HX3 R3 HR4 HCm HAl HAk G2
      go_loopg [97] n (fun gg s97 wr => ∃ j : Nat, j ≤ n ∧ n - j ≤ gg ∧ s97 = .int .i64 j ∧ Gr w5 wr)
      case atStart => exact ⟨0, Nat.zero_le _, by omega, rfl, Gr.refl w5⟩
      case round =>
        obtain ⟨j, hj, hgj, rfl, BW⟩ := hrel
        by_cases hjl : j < n
        · have hjn : (j : Int) < (n : Int) := by omega
          have hjz : (0 : Int) ≤ (j : Int) := by omega
          obtain ⟨hj', bs, offs, hAs, hbs, c0, c1⟩ := (HI.out.gr (GB.out.trans BW)).rd.sbj hjl
          cases hAs
          have hsm : zs[j]! ∈ zs := by rw [getElem!_pos zs j hj']; exact List.getElem_mem hj'
          have HAsj := hid (fun q hq' W g => HAs.out zs[j]! hsm q hq' W g)
          have hsub := HSub.out _ hsm
          have HSj := hid hsub
          clear hsm hsub
          obtain ⟨sv, hsv⟩ : ∃ sv, zs[j]! = sv := ⟨_, rfl⟩
          rw [hsv] at c0 c1 HAsj HSj
          clear hsv
          obtain ⟨sid, sa2, vn2, vc2, vals2⟩ := sv
          unfold Sbj.val at HAsj
          dsimp only at *
          have hY := heap_alloc_new wr (.cells #[.int .i64 sid, .slice sa2 vn2 vc2] 60)
          have gY : Gr wr (wr.alloc (.cells #[.int .i64 sid, .slice sa2 vn2 vc2] 60)) := (Gr.refl wr).alloc _
          go_wp2_with fail
          obtain ⟨Y, hYe⟩ : ∃ Y, wr.heap.size = Y := ⟨_, rfl⟩
          rw [hYe] at hY ⊢
          clear hYe
          have HG1 := hid (BW.trans gY)
          generalize wr.alloc (.cells #[.int .i64 sid, .slice sa2 vn2 vc2] 60) = wl at *
          have HYl := hid hY
          clear hY gY c0 c1
          go_loopg [16, 103] qn (fun gg s16 s103 wq => ∃ m : Nat, m ≤ qn ∧ qn - m ≤ gg ∧ s16 = .int .i64 (sgI m (partB parts qs ⟨sid, sa2, vn2, vc2, vals2⟩)) ∧ s103 = .int .i64 m ∧ Gr wl wq)
          case atStart => exact ⟨0, Nat.zero_le _, by omega, rfl, rfl, Gr.refl wl⟩
          case round =>
            obtain ⟨m, hm, hgm, rfl, rfl, BX⟩ := hrel
            have HYr := hid (row_gr HYl.out BX)
            have y0 := row_cell_at (v := .int .i64 sid) HYr.out 0 rfl
            have y1 := row_cell_at (v := .slice sa2 vn2 vc2) HYr.out 1 rfl
            have hYr : Y < wr.heap.size := block_lt_of_cell y0
            by_cases hml : m < qn
            · have hmn : (m : Int) < (qn : Int) := by omega
              have hmz : (0 : Int) ≤ (m : Int) := by omega
              obtain ⟨hm', bq, offq, hAq, hbq, d0, d1, d2, d3⟩ := (HQ.out.gr ((GB.out.trans HG1.out).trans BX)).rd.qst hml
              subst hAq
              obtain ⟨_, bp, offp, hAp, hbp, e0⟩ := int_cell (RB.out.gr (HG1.out.trans BX)) hml
              subst hAp
              have hqm : qs[m]! ∈ qs := by rw [getElem!_pos qs m hm']; exact List.getElem_mem hm'
              have HA := hid (fun W g => HAsj.out qs[m]! hqm W g)
              have hbd := sgI_le (m := m) (f := partB parts qs ⟨sid, sa2, vn2, vc2, vals2⟩) (B := 1700000000) (fun i hi => by
                unfold partB
                split
                · exact HPb.out _ (by rw [getElem!_pos parts i (by omega)]; exact List.getElem_mem _)
                · omega)
              have hpm := HPb.out parts[m]! (by rw [getElem!_pos parts m (by omega)]; exact List.getElem_mem _)
              have HSm : Hid (sgI (m + 1) (partB parts qs ⟨sid, sa2, vn2, vc2, vals2⟩) = sgI m (partB parts qs ⟨sid, sa2, vn2, vc2, vals2⟩) + if askedB ⟨sid, sa2, vn2, vc2, vals2⟩ qs[m]! = true then parts[m]! else 0) := rfl
              clear hqm
              generalize sgI m (partB parts qs ⟨sid, sa2, vn2, vc2, vals2⟩) = acc at *
              generalize parts[m]! = pm at *
              obtain ⟨qv, hqv⟩ : ∃ qv, qs[m]! = qv := ⟨_, rfl⟩
              rw [hqv] at d0 d1 d2 d3 HA HSm
              clear hqv
              obtain ⟨qa, qnn, qcc, whs, col, clip, st⟩ := qv
              unfold Qst.val at HA
              dsimp only at *
              generalize askedB ⟨sid, sa2, vn2, vc2, vals2⟩ ⟨qa, qnn, qcc, whs, col, clip, st⟩ = r at *
              have hws : IntKind.i64.wrap (acc + pm) = acc + pm := by rw [IntKind.wrap_i64]; omega
              have GQ : Gr wl (wr.alloc (.cells #[.slice qa qnn qcc, .int .i64 col, .int .i64 clip, .int .i64 st] 25)) := BX.alloc _
              cases r with
              | true =>
                simp only [if_true] at HSm
                go_wp2_with (first
                  | (go_at_call 36; (with_reducible refine (HA.out _ ((GB.out.trans HG1.out).trans GQ)).mono ?_); rotate_right; rintro e w8 ⟨rfl, hbw8⟩; obtain ⟨hcw8, hfw8, hzw8⟩ := hbw8.rules; (try simp at hzw8); have hzw8_0 : wr.heap.size < w8.heap.size := (by omega); have hyw8_0 : wr.heap.size ≤ w8.heap.size := (by omega)))
                go_roundg (qn - (m + 1))
                case measure => omega
                case rel => exact ⟨m + 1, by omega, by omega, by rw [HSm.out], by go_num, GQ.trans hbw8⟩
              | false =>
                simp only [Bool.false_eq_true, if_false, Int.add_zero] at HSm
                go_wp2_with (first
                  | (go_at_call 36; (with_reducible refine (HA.out _ ((GB.out.trans HG1.out).trans GQ)).mono ?_); rotate_right; rintro e w8 ⟨rfl, hbw8⟩; obtain ⟨hcw8, hfw8, hzw8⟩ := hbw8.rules; (try simp at hzw8); have hzw8_0 : wr.heap.size < w8.heap.size := (by omega); have hyw8_0 : wr.heap.size ≤ w8.heap.size := (by omega)))
                go_roundg (qn - (m + 1))
                case measure => omega
                case rel => exact ⟨m + 1, by omega, by omega, by rw [HSm.out], by go_num, GQ.trans hbw8⟩
            · have hmn : ¬ (m : Int) < (qn : Int) := by omega
              have hme : m = qs.length := by omega
              rw [hme, HSj.out]
              have HXr := row_gr HXB.out (HG1.out.trans BX)
              have x0 := row_cell_at (v := .int .i64 idn) HXr 0 rfl
              have hXr : X < wr.heap.size := block_lt_of_cell x0
              have GE := HG1.out.trans BX
              clear HXr
              by_cases hse : sid = idn
              · subst hse
                simp only [if_true]
                go_wp2_with fail
                go_roundg (n - (j + 1))
                case measure => omega
                case rel => exact ⟨j + 1, by omega, by omega, by go_num, GE⟩
              · rw [if_neg hse]
                have hse1 : (sid == idn) = false := by simpa using hse
                have hse2 : (sid != idn) = true := by simpa using hse
                go_wp2_with fail
                go_roundg (n - (j + 1))
                case measure => omega
                case rel => exact ⟨j + 1, by omega, by omega, by go_num, GE⟩
        · have hjn : ¬ (j : Int) < (n : Int) := by omega
          obtain ⟨wb, hwb'⟩ : ∃ wb, wb = wr := ⟨_, rfl⟩
          have GE := hid (GB.out.trans BW)
          have HXe := hid (row_gr HXB.out BW)
          have RE := hid (RB.out.gr BW)
          rw [← hwb'] at GE HXe RE ⊢
          clear hwb' HSub HAs BW
          go_wp2_with fail
          go_loopg [19, 142] qn (fun gg s19 s142 wq => ∃ m : Nat, m ≤ qn ∧ qn - m ≤ gg ∧ s19 = .int .i64 (sgI m (fun k => parts[k]! * rawN zs qs[k]!)) ∧ s142 = .int .i64 m ∧ Gr wb wq)
          case atStart => exact ⟨0, Nat.zero_le _, by omega, rfl, rfl, Gr.refl wb⟩
          case round =>
            obtain ⟨m, hm, hgm, rfl, rfl, BX⟩ := hrel
            by_cases hml : m < qn
            · have hmn : (m : Int) < (qn : Int) := by omega
              have hmz : (0 : Int) ≤ (m : Int) := by omega
              obtain ⟨hm', bq, offq, hAq, hbq, d0, d1, d2, d3⟩ := (HQ.out.gr (GE.out.trans BX)).rd.qst hml
              subst hAq
              obtain ⟨_, bp, offp, hAp, hbp, e0⟩ := int_cell (RE.out.gr BX) hml
              subst hAp
              have hqm : qs[m]! ∈ qs := by rw [getElem!_pos qs m hm']; exact List.getElem_mem hm'
              have HR := hid (fun W g => HRo.out qs[m]! hqm W g)
              have hall2 : ∀ i, i < qs.length → -27200000000000000 ≤ parts[i]! * rawN zs qs[i]! ∧ parts[i]! * rawN zs qs[i]! ≤ 27200000000000000 := by
                intro i hi
                have h1 := HPb.out parts[i]! (by rw [getElem!_pos parts i (by omega)]; exact List.getElem_mem _)
                have h2 := (HSk.out i hi).2.2
                exact mul_bd h1 h2
              have hbd := sgI_le (m := m) (f := fun k => parts[k]! * rawN zs qs[k]!) (B := 27200000000000000) (fun i hi => hall2 i (by omega))
              have hpm := hall2 m (by omega)
              obtain ⟨hs1, hs2, hs3⟩ := HSk.out m (by omega)
              have HSm : Hid (sgI (m + 1) (fun k => parts[k]! * rawN zs qs[k]!) = sgI m (fun k => parts[k]! * rawN zs qs[k]!) + parts[m]! * rawN zs qs[m]!) := rfl
              rw [hs1, hs2] at HR
              clear hqm hall2 hs1 hs2
              generalize sgI m (fun k => parts[k]! * rawN zs qs[k]!) = acc at *
              generalize parts[m]! = pm at *
              generalize rawN zs qs[m]! = rn at *
              obtain ⟨qv, hqv⟩ : ∃ qv, qs[m]! = qv := ⟨_, rfl⟩
              rw [hqv] at d0 d1 d2 d3 HR
              clear hqv
              obtain ⟨qa, qnn, qcc, whs, col, clip, st⟩ := qv
              unfold stepOne Qst.val at HR
              dsimp only at *
              generalize sumBd columns zs ⟨qa, qnn, qcc, whs, col, clip, 1⟩ = bd at *
              obtain ⟨pr, hpr⟩ : ∃ pr, pm * rn = pr := ⟨_, rfl⟩
              rw [hpr] at hpm HSm
              have hws : IntKind.i64.wrap (acc + pr) = acc + pr := by rw [IntKind.wrap_i64]; omega
              have hwp : IntKind.i64.wrap pr = pr := by rw [IntKind.wrap_i64]; omega
              have GQ : Gr wb (wr.alloc (.cells #[.slice qa qnn qcc, .int .i64 col, .int .i64 clip, .int .i64 1] 25)) := BX.alloc _
              go_wp2_with (first
                | (go_at_call 18; (with_reducible refine (HR.out _ (GE.out.trans GQ)).mono ?_); rotate_right; rintro e w8 ⟨rfl, hbw8⟩; obtain ⟨hcw8, hfw8, hzw8⟩ := hbw8.rules; (try simp at hzw8); have hzw8_0 : wr.heap.size < w8.heap.size := (by omega); have hyw8_0 : wr.heap.size ≤ w8.heap.size := (by omega)))
              go_roundg (qn - (m + 1))
              case measure => omega
              case rel => exact ⟨m + 1, by omega, by omega, by rw [HSm.out], by go_num, GQ.trans hbw8⟩
            · have hmn : ¬ (m : Int) < (qn : Int) := by omega
              have hme : m = qs.length := by omega
              rw [hme, HAll.out]
              have GF := hid (GE.out.trans BX)
              have HXr := hid (row_gr HXe.out BX)
              obtain ⟨hm', bq, offq, hAq, hbq, d0, d1, d2, d3⟩ := (HQ.out.gr GF.out).rd.qst (k := 0) (by omega)
              subst hAq
              rw [Nat.zero_mul, Nat.add_zero] at d0 d1 d2 d3
              have hq00 : (0 : Int) < (qn : Int) := by omega
              obtain ⟨qv, hqv⟩ : ∃ qv, qs[0]! = qv := ⟨_, rfl⟩
              rw [hqv] at d0 d1 d2 d3 HCt hc0 ⊢
              clear hqv
              obtain ⟨qa, qnn, qcc, whs, col, clip, st⟩ := qv
              unfold Qst.val at HCt
              dsimp only at *
              generalize cntN ⟨idn, sa, vn, vc, vals⟩ ⟨qa, qnn, qcc, whs, col, clip, st⟩ = cn at *
              have hwc := mul_bd (A := 1700000000) (B := 1000000) (a := whole) (b := cn) (by omega) hc0
              obtain ⟨pr, hpr⟩ : ∃ pr, whole * cn = pr := ⟨_, rfl⟩
              rw [hpr] at hwc ⊢
              have hwp : IntKind.i64.wrap pr = pr := by rw [IntKind.wrap_i64]; omega
              have p0 := GrW.cell d0
              have p1 := GrW.cell d1
              have p2 := GrW.cell d2
              have p3 := GrW.cell d3
              have p4 := GrW.cell (row_cell_at (v := .int .i64 idn) HXr.out 0 rfl)
              have p5 := GrW.cell (row_cell_at (v := .slice sa vn vc) HXr.out 1 rfl)
              clear d0 d1 d2 d3
              go_upto_region 35 with fail
              refine wp_region_ord (C := fun w' => ∃ p : GrW wr, w' = p.W) [(0, false), (1, false), (2, false), (3, false), (4, false), (5, false), (6, false), (7, false), (8, true), (9, false), (10, false), (11, false), (12, false)] (by rfl) (by kernel_rfl) (by kernel_rfl) ⟨⟨_, (Gr.refl wr).drew⟩, rfl⟩ ?_
              (repeat (first | ((refine ord_read0 rfl rfl rfl (fun K hK => ?_)); go_big_quiet_op; (with_reducible refine hK _ ?_); clear hK K) | ((refine ord_skipG rfl rfl rfl rfl rfl ?_); simp only [Act.put, List.setIfInBounds_toArray, List.set_cons_zero, List.set_cons_succ]) | ((refine ord_readG rfl rfl rfl rfl rfl rfl (fun K hK => ?_)); go_big_quiet_op; (with_reducible refine hK _ ?_); clear hK K) | ((refine ord_nilc rfl rfl rfl rfl ?_); simp only [Act.put, List.setIfInBounds_toArray, List.set_cons_zero, List.set_cons_succ])))
              (first | (refine ord_mem0 rfl rfl (fun K hK => ?_)) | (refine ord_memG rfl rfl rfl rfl rfl (fun K hK => ?_)))
              go_simp
              refine (HCt.out _ (GF.out.trans (Gr.refl wr).drew)).mono ?_
              rintro e w9 ⟨rfl, hb9⟩
              have G9 := hid ((Gr.refl wr).drew.trans hb9)
              refine hK.out _ _ ⟨⟨w9, G9.out⟩, rfl⟩ ?_
              clear hK K hb9 p0 p1 p2 p3 p4 p5
              (repeat (first | ((refine ord_read0 rfl rfl rfl (fun K hK => ?_)); go_big_quiet_op; (with_reducible refine hK _ ?_); clear hK K) | ((refine ord_skipG rfl rfl rfl rfl rfl ?_); simp only [Act.put, List.setIfInBounds_toArray, List.set_cons_zero, List.set_cons_succ]) | ((refine ord_readG rfl rfl rfl rfl rfl rfl (fun K hK => ?_)); go_big_quiet_op; (with_reducible refine hK _ ?_); clear hK K) | ((refine ord_nilc rfl rfl rfl rfl ?_); simp only [Act.put, List.setIfInBounds_toArray, List.set_cons_zero, List.set_cons_succ])))
              (with_reducible refine ord_nil ?_)
              go_wp2
              go_ret
              exact ⟨by first | rfl | simp, GF.out.trans G9.out⟩
end Go.Proofs.Ytimhkkijoelmhaa
