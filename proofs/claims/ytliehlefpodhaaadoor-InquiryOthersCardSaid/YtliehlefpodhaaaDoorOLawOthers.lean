/- InquiryOthers is true: who asks for a purpose sees no more than the person does, and what is refused counts nowhere. For every gate, inquiries, file, day and purpose. (Printed by gen_lawothers.py.) -/
import Derived.Laws.AppendOwn
import Derived.Test.YtliehlefpodhaaaDoorOAlive9
import Derived.Test.YtliehlefpodhaaaDoorOReady9
import Derived.Test.YtliehlefpodhaaaDoorOTwin9
namespace Go.Proofs.YtliehlefpodhaaaDoor
open Go.RowKit Go.Shelf Go.Sort

theorem own_cap9 {w : World} {base : Nat} {e : TypeId} {size n c : Nat} {A : Option Addr} {xs : List Value} (h : w.ownsRow base e size (.slice A n c) n xs) : n ≤ c ∧ c ≤ 9223372036854775807 := by
  rcases h.2 with ⟨hv, h0⟩ | ⟨g, cap, cur, hv, _, _, hnc, hcm, _⟩
  · injection hv with _ _ hc
    omega
  · injection hv with _ _ hc
    unfold maxLen at hcm
    omega
/-- What a list of inquiries reads as, of the call's own. -/
theorem inqs_own {W : World} {base : Nat} {t : TypeId} {v : Value} {l : List Inq} (h : W.ownsRow base t 6 v l.length (l.flatMap Inq.cells)) (hu : ∀ x ∈ l, 0 ≤ x.purpose ∧ x.purpose ≤ 255) : ∃ A c, v = .slice A l.length c ∧ InqsIn W A l.length l := by
  obtain ⟨A, c, rfl⟩ := own_slice h
  refine ⟨A, c, rfl, Rd.of_own h, ?_, hu⟩
  have := own_cap9 h
  omega

set_option maxRecDepth 100000 in
set_option maxHeartbeats 16000000 in
theorem inquiryOthers_any (g : Gat) (ls : List Lic) (ss : List Sig) (A : Option Addr) (n c : Nat) (zs : List Inq) (file day pu : Int) (b off cap : Nat) (w : World) (hg : GatIn w g ls ss) (hA : ∀ b o, g.sa = some ⟨b, o, none⟩ → b < w.heap.size) (hi : InqsIn w A n zs) (hu : 0 ≤ pu ∧ pu ≤ 255) (hR : LaidR w b off cap) (hG : LaidL w) :
    Calls Tryd.prog 10 #[g.val, .slice A n c, .int .i64 file, .int .i64 day, .int .u8 pu] w fun e w' => e = .returned (.bool true) ∧ Gr w w' := by
  have HAl := hid (fun W (k : Gr w W) => alive9_any b off cap W (hR.gr k) (hG.gr k))
  have HRd := hid (fun W (k : Gr w W) => ready_any g ls ss A n c zs file day W (hg.gr k) (hi.gr k))
  have HRT := hid (fun (h : readyB g.ln g.sn n ls ss zs file day = true) => readyB_true h)
  have HTr := hid (fun pu' W (k : Gr w W) (h : g.sn < 1000) (hu' : 0 ≤ pu' ∧ pu' ≤ 255) => traces_any g ls ss A n c zs file day pu' b off cap W (hg.gr k) (fun b o e => Nat.lt_of_lt_of_le (hA b o e) k.size) h (hR.gr k) (hG.gr k) (hi.gr k) hu')
  have HCt := hid (fun A' n' c' zs' W (k : Gr w W) (h : g.sn < 1000) (hi' : InqsIn W A' n' zs') => count_any g ls ss A' n' c' zs' file day b off cap W (hg.gr k) (fun b o e => Nat.lt_of_lt_of_le (hA b o e) k.size) h (hR.gr k) (hG.gr k) hi')
  have HAs := hid (fun q W (k : Gr w W) (h : g.sn < 1000) (hq : 0 ≤ q.purpose ∧ q.purpose ≤ 255) => askTop_any g ls ss q b off cap W (hg.gr k) (fun b o e => Nat.lt_of_lt_of_le (hA b o e) k.size) h (hR.gr k) (hG.gr k) hq)
  have HI := hid hi
  have HL := hid hi.rd.inq_len
  have hbig := hi.big
  have hbig' : (n : Int) ≤ 9223372036854775807 := by omega
  clear hg hA hi hR hG
  generalize readyB g.ln g.sn n ls ss zs file day = rb at *
  obtain ⟨hu1, hu2⟩ := hu
  by_cases hbad : rb = true ∧ 1 ≤ pu ∧ pu ≤ 6 ∧ pu ≠ 5
  case neg =>
    have hcs : rb = false ∨ (rb = true ∧ pu < 1) ∨ (rb = true ∧ 1 ≤ pu ∧ 6 < pu) ∨ (rb = true ∧ pu = 5) := by
      cases rb
      · exact .inl rfl
      · simp at hbad ⊢; omega
    clear HTr HCt HAs HRT hbad
    obtain ⟨la, ln, lc, sa, sn, sc⟩ := g
    unfold Gat.val at *
    dsimp only at *
    rcases hcs with rfl | ⟨rfl, h1⟩ | ⟨rfl, h1, h2⟩ | ⟨rfl, rfl⟩
    all_goals
      go_enter Tryd.func10, Tryd.ntmps10
      go_wp2_with (first
        | (go_at_call 29; (with_reducible refine (HAl.out _ ?_).mono ?_); rotate_right; rintro e w1 ⟨rfl, hbw1⟩; obtain ⟨hcw1, hfw1, hzw1⟩ := hbw1.rules; (try simp at hzw1); have hzw1_0 : w.heap.size < w1.heap.size := (by omega); have hyw1_0 : w.heap.size ≤ w1.heap.size := (by omega))
        | (go_at_call 34; (with_reducible refine (HRd.out _ ?_).mono ?_); rotate_right; rintro e w2 ⟨rfl, hbw2⟩; obtain ⟨hcw2, hfw2, hzw2⟩ := hbw2.rules; (try simp at hzw2); have hzw2_0 : w.heap.size < w2.heap.size := (by omega); have hyw2_0 : w.heap.size ≤ w2.heap.size := (by omega)))
      all_goals first
        | (go_ret
           exact ⟨rfl, by (repeat (first | with_reducible exact Gr.refl _ | with_reducible refine Gr.trans ?_ hbw2 | with_reducible refine Gr.trans ?_ hbw1 | with_reducible refine Gr.alloc ?_ _ | with_reducible refine Gr.setCell ?_ (by simp) _ | with_reducible refine Gr.setCell ?_ (by simp; omega) _ | with_reducible refine Gr.drew ?_ | with_reducible refine Gr.drewN ?_ _))⟩)
        | ((repeat (first | with_reducible exact Gr.refl _ | with_reducible refine Gr.trans ?_ hbw1 | with_reducible refine Gr.alloc ?_ _ | with_reducible refine Gr.setCell ?_ (by simp) _ | with_reducible refine Gr.setCell ?_ (by simp; omega) _ | with_reducible refine Gr.drew ?_ | with_reducible refine Gr.drewN ?_ _)); done)
  case pos =>
    obtain ⟨rfl, h1, h6, hne⟩ := hbad
    have F := HRT.out rfl
    obtain ⟨g1, g2, g3⟩ := F.great
    have hz := F.inqs
    have hge := F.gate
    obtain ⟨hd1, hd2⟩ := F.day
    have hn5 : (pu == 5) = false := by simpa using hne
    have t5 := tracesN_ok (pu := 5) hge hz F.file F.day (by omega)
    have tp := tracesN_ok (pu := pu) hge hz F.file F.day ⟨h1, h6⟩
    have t1 := tracesN_ok (pu := 1) hge hz F.file F.day (by omega)
    have tt := tracesN_ok (pu := 1) hge (told_pairwise (ls := ls) (ss := ss) hz) F.file F.day (by omega)
    have HT5 := hid (fun W k => HTr.out 5 W k (by omega) (by omega))
    have HTp := hid (fun W k => HTr.out pu W k (by omega) ⟨hu1, hu2⟩)
    have HC1 := hid (fun W k => HCt.out A n c zs W k (by omega) (HI.out.gr k))
    have HCtt := hid (fun A' n' c' W k (hi' : InqsIn W A' n' (zs.filter (toldB ls ss))) => HCt.out A' n' c' (zs.filter (toldB ls ss)) W k (by omega) hi')
    rw [t5, tracesR_ok t5] at HT5
    rw [tp, tracesR_ok tp, others_traces hz file day pu hn5] at HTp
    rw [t1, tracesR_ok t1] at HC1
    rw [tt, tracesR_ok tt, told_traces] at HCtt
    have HDy : Hid (∀ t ∈ tracesL ls ss zs file day 5, 0 ≤ t.day ∧ t.day ≤ 100000) := fun t ht => tracesR_day (pu := 5) (ls := ls) (ss := ss) (zs := zs) (file := file) (now := day) (by rw [tracesR_ok t5]; exact ht)
    have HAx0 := hid (fun q W k (hb : inqB q = true) => by
      have h := HAs.out q W k (by omega) (by unfold inqB inB at hb; simp at hb; omega)
      rw [hge, hb] at h
      simpa using h)
    have HZ := hid hz
    generalize tracesL ls ss zs file day 5 = al at *
    generalize countN (tracesL ls ss zs file day 1) = cn at *
    clear HTr HCt HAs HRT F hz hge t5 tp t1 tt g1 g2
    have hal : al.length ≤ al.length := Nat.le_refl _
    obtain ⟨la, ln, lc, sa, sn, sc⟩ := g
    unfold Gat.val at *
    dsimp only at *
    have h1' : ¬ pu < 1 := by omega
    have h6' : ¬ 6 < pu := by omega
    have hn5' : (pu != 5) = true := by simpa using hne
    obtain ⟨i0, hi0, hz0, hs0, hy0⟩ := info_parts info_inq
    have HI0 := hid hi0
    have HZ0 := hid hz0
    have HS0 := hid hs0
    have HY0 := hid hy0
    clear hi0 hz0 hs0 hy0 hal hne
    go_enter Tryd.func10, Tryd.ntmps10
    go_wp2_with (first
      | (go_at_call 29; (with_reducible refine (HAl.out _ ?_).mono ?_); rotate_right; rintro e w1 ⟨rfl, hbw1⟩; obtain ⟨hcw1, hfw1, hzw1⟩ := hbw1.rules; (try simp at hzw1); have hzw1_0 : w.heap.size < w1.heap.size := (by omega); have hyw1_0 : w.heap.size ≤ w1.heap.size := (by omega))
      | (go_at_call 34; (with_reducible refine (HRd.out _ ?_).mono ?_); rotate_right; rintro e w2 ⟨rfl, hbw2⟩; obtain ⟨hcw2, hfw2, hzw2⟩ := hbw2.rules; (try simp at hzw2); have hzw2_0 : w.heap.size < w2.heap.size := (by omega); have hyw2_0 : w.heap.size ≤ w2.heap.size := (by omega))
      | (go_at_call 16; (with_reducible refine (HT5.out _ ?_).mono ?_); rotate_right; rintro e w3 ⟨B1, m1, d1, rfl, hb3, T1⟩; have HT1 := hid T1; clear T1; obtain ⟨hcw3, hfw3, hzw3⟩ := hb3.rules; have hzw3_0 : w.heap.size < w3.heap.size := (by omega))
      | (go_at_call 16; (with_reducible refine (HTp.out _ ?_).mono ?_); rotate_right; rintro e w4 ⟨B2, m2, d2, rfl, hb4, T2⟩; have HT2 := hid T2; clear T2; obtain ⟨hcw4, hfw4, hzw4⟩ := hb4.rules; have hzw4_0 : w.heap.size < w4.heap.size := (by omega))
      | (go_at_call 18; (with_reducible refine (HC1.out _ ?_).mono ?_); rotate_right; rintro e w5 ⟨rfl, hb5⟩))
    all_goals try ((repeat (first | with_reducible exact Gr.refl _ | with_reducible refine Gr.trans ?_ hb4 | with_reducible refine Gr.trans ?_ hb3 | with_reducible refine Gr.trans ?_ hbw2 | with_reducible refine Gr.trans ?_ hbw1 | with_reducible refine Gr.alloc ?_ _ | with_reducible refine Gr.setCell ?_ (by simp) _ | with_reducible refine Gr.setCell ?_ (by simp; omega) _ | with_reducible refine Gr.drew ?_ | with_reducible refine Gr.drewN ?_ _)); done)
    have G5 : Hid (Gr w w5) := by
      show Gr w w5
      (repeat (first | with_reducible exact Gr.refl _ | with_reducible refine Gr.trans ?_ hb5 | with_reducible refine Gr.trans ?_ hb4 | with_reducible refine Gr.trans ?_ hb3 | with_reducible refine Gr.trans ?_ hbw2 | with_reducible refine Gr.trans ?_ hbw1 | with_reducible refine Gr.alloc ?_ _ | with_reducible refine Gr.setCell ?_ (by simp) _ | with_reducible refine Gr.setCell ?_ (by simp; omega) _ | with_reducible refine Gr.drew ?_ | with_reducible refine Gr.drewN ?_ _))
    have HRG : Hid (w5.heap[w.heap.size]? = some (.cells #[.slice la ln lc, .slice sa sn sc] 25 (0, 0))) := row_gr (row_gr (row_gr (row_gr (row_gr (heap_alloc_new w (.cells #[.slice la ln lc, .slice sa sn sc] 25)) hbw1) hbw2) hb3) hb4) hb5
    have HT15 : Hid (TrOwn w2 w5 B1 m1 d1 al) := HT1.out.gr (hb4.trans hb5)
    have HT25 : Hid (TrOwn w3 w5 B2 m2 d2 (al.filter fun t => !hidB day t)) := HT2.out.gr hb5
    clear hb3 hb4 hb5 hbw1 hbw2 hcw1 hfw1 hzw1 hcw2 hfw2 hzw2 hcw3 hfw3 hzw3 hcw4 hfw4 hzw4 hzw1_0 hyw1_0 hzw2_0 hyw2_0 hzw3_0 hzw4_0 HT1 HT2 HAl HRd HT5 HTp HC1
    go_loopg [18, 80] n (fun gg s18 s80 wr => ∃ k : Nat, k ≤ n ∧ n - k ≤ gg ∧ s80 = .int .i64 k ∧ Gr w5 wr ∧ Hid (wr.ownsRow w5.heap.size 27 6 s18 ((zs.take k).filter (toldB ls ss)).length (((zs.take k).filter (toldB ls ss)).flatMap Inq.cells)))
    case atStart => exact ⟨0, Nat.zero_le _, by omega, rfl, Gr.refl w5, ⟨rfl, .inl ⟨rfl, rfl⟩⟩⟩
    case round =>
      obtain ⟨k, hk, hgk, rfl, BW, HO⟩ := hrel
      by_cases hkl : k < n
      · obtain ⟨hk', b', off', hA', hb', c0, c1, c2, c3, c4, c5⟩ := (HI.out.gr (G5.out.trans BW)).rd.inq hkl
        subst hA'
        have hol : ((zs.take k).filter (toldB ls ss)).length ≤ 60 := by
          have h1 := List.length_filter_le (toldB ls ss) (zs.take k)
          have h2 := List.length_take_le k zs
          omega
        have HFs := hid (filter_snoc (p := toldB ls ss) hk')
        have hqx := inqsB_mem HZ.out (mem_get hk')
        generalize zs[k]! = x at c0 c1 c2 c3 c4 c5 HFs hqx
        have HAx := hid (fun W kk => HAx0.out x W kk hqx)
        have HTo : Hid (toldB ls ss x = (askN ls ss x == 0 && x.purpose == 1)) := rfl
        obtain ⟨an, han⟩ : ∃ an, askN ls ss x = an := ⟨_, rfl⟩
        rw [han] at HAx HTo
        clear han hk' hqx
        generalize toldB ls ss x = tb at HTo HFs
        have hkn : (k : Int) < (n : Int) := by omega
        have hk0 : (0 : Int) ≤ (k : Int) := by omega
        have r0 := row_cell_at (v := .slice la ln lc) (row_gr HRG.out BW) 0 rfl
        have r1 := row_cell_at (v := .slice sa sn sc) (row_gr HRG.out BW) 1 rfl
        have rz : w.heap.size < wr.heap.size := block_lt_of_cell r0
        obtain ⟨x0, x1, x2, x3, x4, x5⟩ := x
        unfold Inq.val at HAx
        dsimp only at *
        by_cases e1 : an = 0
        case neg =>
          have e1' : (an == 0) = false := by simpa using e1
          have hto : Hid (tb = false) := by show tb = false; rw [HTo.out, e1']; rfl
          clear HTo
          have HTo := hto
          clear hto
          have HSk : Hid ((zs.take (k + 1)).filter (toldB ls ss) = (zs.take k).filter (toldB ls ss)) := by show _ = _; rw [HFs.out, HTo.out]; simp
          clear HFs HTo
          go_wp2_with (first
            | (go_at_call 14; (with_reducible refine (HAx.out _ ?_).mono ?_); rotate_right; rintro e wd ⟨rfl, hbwd⟩; obtain ⟨hcwd, hfwd, hzwd⟩ := hbwd.rules; (try simp at hzwd); have hzwd_0 : wr.heap.size < wd.heap.size := (by omega); have hywd_0 : wr.heap.size ≤ wd.heap.size := (by omega)))
          all_goals try (exact G5.out.trans (BW.trans ((Gr.refl wr).alloc _)); done)
          have gg := ((Gr.refl wr).alloc _).trans hbwd
          go_roundg (n - (k + 1))
          case measure => omega
          case rel => exact ⟨k + 1, by omega, by omega, by go_num, BW.trans gg, by unfold Hid; rw [HSk.out]; exact ownT_gr HO.out gg⟩
        case pos =>
          subst e1
          by_cases e2 : x4 = 1
          case neg =>
            have e2' : (x4 == 1) = false := by simpa using e2
            have hto : Hid (tb = false) := by show tb = false; rw [HTo.out, e2']; rfl
            clear HTo
            have HTo := hto
            clear hto
            have HSk : Hid ((zs.take (k + 1)).filter (toldB ls ss) = (zs.take k).filter (toldB ls ss)) := by show _ = _; rw [HFs.out, HTo.out]; simp
            clear HFs HTo
            go_wp2_with (first
              | (go_at_call 14; (with_reducible refine (HAx.out _ ?_).mono ?_); rotate_right; rintro e wd ⟨rfl, hbwd⟩; obtain ⟨hcwd, hfwd, hzwd⟩ := hbwd.rules; (try simp at hzwd); have hzwd_0 : wr.heap.size < wd.heap.size := (by omega); have hywd_0 : wr.heap.size ≤ wd.heap.size := (by omega)))
            all_goals try (exact G5.out.trans (BW.trans ((Gr.refl wr).alloc _)); done)
            have gg := ((Gr.refl wr).alloc _).trans hbwd
            go_roundg (n - (k + 1))
            case measure => omega
            case rel => exact ⟨k + 1, by omega, by omega, by go_num, BW.trans gg, by unfold Hid; rw [HSk.out]; exact ownT_gr HO.out gg⟩
          case pos =>
            subst e2
            have HSk : Hid ((zs.take (k + 1)).filter (toldB ls ss) = (zs.take k).filter (toldB ls ss) ++ [⟨x0, x1, x2, x3, 1, x5⟩]) := by show _ = _; rw [HFs.out, HTo.out]; rfl
            clear HFs HTo
            generalize (zs.take k).filter (toldB ls ss) = o at HO HSk hol
            go_wp2_with (first
              | (go_at_call 14; (with_reducible refine (HAx.out _ ?_).mono ?_); rotate_right; rintro e wd ⟨rfl, hbwd⟩; obtain ⟨hcwd, hfwd, hzwd⟩ := hbwd.rules; (try simp at hzwd); have hzwd_0 : wr.heap.size < wd.heap.size := (by omega); have hywd_0 : wr.heap.size ≤ wd.heap.size := (by omega))
              | (refine wpList_append_own _ rfl (.tmp 101) (.tmp 103) 28 rfl w5.heap.size 27 i0 (.agg #[.int .i64 0, .int .i64 0, .int .i64 0, .int .i64 0, .int .u8 0, .bool false]) 6 40 Tryd.underlying28 HI0.out HZ0.out HS0.out HY0.out rfl (by decide) _ _ _ rfl (ownT_gr HO.out ((((Gr.refl wr).alloc _).trans hbwd).alloc _)) ⟨wd.heap.size, 0, none⟩ 1 1 [.int .i64 x0, .int .i64 x1, .int .i64 x2, .int .i64 x3, .int .u8 1, .bool x5] rfl rfl (cellsT_new wd _ _ _ rfl) (by intro u hu; simp at hu; rcases hu with rfl | rfl | rfl | rfl | rfl | rfl <;> rfl) (by have : maxLen = 9223372036854775807 := rfl; omega) (by omega) (by have h1 := BW.size; have h2 := hbwd.size; simp at h2 ⊢; omega) ?_; intro v' w9 hown' hgrow hnil; have HW9 := hid (And.intro hown' hgrow); clear hown' hgrow hnil))
            all_goals try (exact G5.out.trans (BW.trans ((Gr.refl wr).alloc _)); done)
            have gg := ((Gr.refl wr).alloc _).trans hbwd
            go_roundg (n - (k + 1))
            case measure => omega
            case rel =>
              refine ⟨k + 1, by omega, by omega, by go_num, ?_, ?_⟩
              · refine (show Below w5.heap.size w5 _ from (BW.trans gg).alloc _).grown HW9.out.2 ?_ (fun q e => (HO.out.lt q e).1)
                have h1 := BW.size; have h2 := gg.size; simp at h2 ⊢; omega
              · unfold Hid
                rw [HSk.out]
                have h := HW9.out.1
                simpa [Inq.cells] using h
      · have hkn : ¬ (k : Int) < (n : Int) := by omega
        have hfull : zs.take k = zs := by rw [show k = n by omega, ← HL.out, List.take_length]
        have HO2 := HO.out
        rw [hfull] at HO2
        obtain ⟨A', c', rfl, hin⟩ := inqs_own HO2 (fun x hx => by
          have hb := inqsB_mem HZ.out (List.mem_filter.1 hx).1
          unfold inqB inB at hb
          simp at hb
          omega)
        have HIn := hid hin
        have HCt2 := hid (fun W (kk : Gr wr W) => HCtt.out A' _ c' W ((G5.out.trans BW).trans kk) (HIn.out.gr kk))
        generalize ((zs.filter (toldB ls ss))).length = tl at *
        have r0 := row_cell_at (v := .slice la ln lc) (row_gr HRG.out BW) 0 rfl
        have r1 := row_cell_at (v := .slice sa sn sc) (row_gr HRG.out BW) 1 rfl
        have rz : w.heap.size < wr.heap.size := block_lt_of_cell r0
        have hl1 := HT15.out.len
        have hl2 := HT25.out.len
        have HL1 := hid hl1
        have HL2 := hid hl2
        have hm1 : (m1 : Int) ≤ 9223372036854775807 := by have := HT15.out.le; have := HT15.out.big; omega
        have hm2 : (m2 : Int) ≤ 9223372036854775807 := by have := HT25.out.le; have := HT25.out.big; omega
        clear hfull HO2 HO hin hl1 hl2
        obtain ⟨wo, rfl⟩ : ∃ wo : World, wo = wr := ⟨_, rfl⟩
        go_wp2_with (first
          | (go_at_call 18; (with_reducible refine (HCt2.out _ (Gr.refl _)).mono ?_); rintro e w6 ⟨rfl, hb6⟩))
        go_loopg [25, 135] m1 (fun gg s25 s135 wr => ∃ j : Nat, j ≤ m1 ∧ m1 - j ≤ gg ∧ s25 = .int .i64 ((al.take j).filter fun t => !hidB day t).length ∧ s135 = .int .i64 j ∧ Gr w6 wr)
        case atStart => exact ⟨0, Nat.zero_le _, by omega, by first | rfl | simp, rfl, Gr.refl w6⟩
        case round =>
          obtain ⟨j, hj, hgj, rfl, rfl, BW2⟩ := hrel
          by_cases hjl : j < m1
          · obtain ⟨hj', b', off', hA', hb', c0, c1, c2, c3, c4⟩ := (HT15.out.gr (BW.trans (hb6.trans BW2))).rd.trc hjl
            subst hA'
            have HFn := hid (filter_snoc (p := fun t => !hidB day t) hj')
            have HNx := hid (filter_next (p := fun t => !hidB day t) hj')
            have hdd := HDy.out _ (mem_get hj')
            have hkb : ((al.take j).filter fun t => !hidB day t).length ≤ j := by
              have h1 := List.length_filter_le (fun t => !hidB day t) (al.take j)
              have h2 := List.length_take_le j al
              omega
            generalize al[j]! = t at c0 c1 c2 c3 c4 HFn HNx hdd
            obtain ⟨x0, x1, x2, x3, x4⟩ := t
            dsimp only at *
            have HHd : Hid (hidB day ⟨x0, x1, x2, x3, x4⟩ = (x4 != 0 || x3 != 1 || decide (day - x2 > 365))) := rfl
            clear hj'
            have hjn : (j : Int) < (m1 : Int) := by omega
            have hj0 : (0 : Int) ≤ (j : Int) := by omega
            obtain ⟨hdd1, hdd2⟩ := hdd
            have hw : IntKind.i64.wrap (day - x2) = day - x2 := by rw [IntKind.wrap_i64]; omega
            by_cases e1 : x4 = 0
            case neg =>
              have e1' : (x4 == 0) = false := by simpa using e1
              have hh : Hid (hidB day ⟨x0, x1, x2, x3, x4⟩ = true) := by show _ = _; rw [HHd.out]; simp [e1]
              clear HHd
              have HHd := hh
              clear hh
              have HSk : Hid (((al.take (j + 1)).filter fun t => !hidB day t) = (al.take j).filter fun t => !hidB day t) := by show _ = _; rw [HFn.out, HHd.out]; simp
              clear HFn HHd HNx
              go_wp2
              go_roundg (m1 - (j + 1))
              case measure => omega
              case rel => exact ⟨j + 1, by omega, by omega, by rw [HSk.out], by go_num, BW2.trans ((Gr.refl wr).alloc _)⟩
            case pos =>
              subst e1
              by_cases e2 : x3 = 1
              case neg =>
                have e2' : (x3 == 1) = false := by simpa using e2
                have hh : Hid (hidB day ⟨x0, x1, x2, x3, 0⟩ = true) := by show _ = _; rw [HHd.out]; simp [e2]
                clear HHd
                have HHd := hh
                clear hh
                have HSk : Hid (((al.take (j + 1)).filter fun t => !hidB day t) = (al.take j).filter fun t => !hidB day t) := by show _ = _; rw [HFn.out, HHd.out]; simp
                clear HFn HHd HNx
                go_wp2
                go_roundg (m1 - (j + 1))
                case measure => omega
                case rel => exact ⟨j + 1, by omega, by omega, by rw [HSk.out], by go_num, BW2.trans ((Gr.refl wr).alloc _)⟩
              case pos =>
                subst e2
                by_cases e3 : day - x2 ≤ 365
                case neg =>
                  have hh : Hid (hidB day ⟨x0, x1, x2, 1, 0⟩ = true) := by show _ = _; rw [HHd.out]; simp; omega
                  clear HHd
                  have HHd := hh
                  clear hh
                  have HSk : Hid (((al.take (j + 1)).filter fun t => !hidB day t) = (al.take j).filter fun t => !hidB day t) := by show _ = _; rw [HFn.out, HHd.out]; simp
                  clear HFn HHd HNx
                  go_wp2
                  go_roundg (m1 - (j + 1))
                  case measure => omega
                  case rel => exact ⟨j + 1, by omega, by omega, by rw [HSk.out], by go_num, BW2.trans ((Gr.refl wr).alloc _)⟩
                case pos =>
                  have hh : hidB day ⟨x0, x1, x2, 1, 0⟩ = false := by rw [HHd.out]; simp; omega
                  obtain ⟨n1, n2⟩ := HNx.out (by show (!hidB day _) = true; rw [hh]; rfl)
                  have HSk : Hid (((al.take (j + 1)).filter fun t => !hidB day t).length = ((al.take j).filter fun t => !hidB day t).length + 1) := by show _ = _; rw [HFn.out, hh]; simp
                  clear HFn HHd HNx hh
                  generalize ((al.take j).filter fun t => !hidB day t).length = kk at *
                  have hkm : kk < m2 := by have := HL2.out; omega
                  obtain ⟨hk2, b2, off2, hA2, hb2, f0, f1, f2, f3, f4⟩ := (HT25.out.gr (BW.trans (hb6.trans BW2))).rd.trc hkm
                  rw [n2] at f0 f1 f2 f3 f4
                  subst hA2
                  clear hk2 n1 n2
                  have q0 := row_cell f0 ((Gr.refl wr).alloc (.cells #[.int .i64 x0, .int .i64 x1, .int .i64 x2, .int .u8 1, .int .u8 0] 72))
                  have q1 := row_cell f1 ((Gr.refl wr).alloc (.cells #[.int .i64 x0, .int .i64 x1, .int .i64 x2, .int .u8 1, .int .u8 0] 72))
                  have q2 := row_cell f2 ((Gr.refl wr).alloc (.cells #[.int .i64 x0, .int .i64 x1, .int .i64 x2, .int .u8 1, .int .u8 0] 72))
                  have q3 := row_cell f3 ((Gr.refl wr).alloc (.cells #[.int .i64 x0, .int .i64 x1, .int .i64 x2, .int .u8 1, .int .u8 0] 72))
                  have q4 := row_cell f4 ((Gr.refl wr).alloc (.cells #[.int .i64 x0, .int .i64 x1, .int .i64 x2, .int .u8 1, .int .u8 0] 72))
                  have hkm' : (kk : Int) < (m2 : Int) := by omega
                  have hk0' : (0 : Int) ≤ (kk : Int) := by omega
                  have hkm2 : decide ((m2 : Int) ≤ (kk : Int)) = false := by simp; omega
                  clear f0 f1 f2 f3 f4
                  go_wp2
                  go_quiet (fail)
                  go_wp2
                  go_roundg (m1 - (j + 1))
                  case measure => omega
                  case rel => exact ⟨j + 1, by omega, by omega, by rw [HSk.out]; first | rfl | go_num, by go_num, by first | exact BW2.trans (((Gr.refl wr).alloc _).drewN _) | exact BW2.trans ((Gr.refl wr).alloc _ |>.drew)⟩
          · have hjn : ¬ (j : Int) < (m1 : Int) := by omega
            have hf : (al.take j) = al := by rw [show j = al.length by have := HL1.out; omega, List.take_length]
            rw [hf, ← HL2.out]
            clear hf
            go_wp2
            go_ret
            exact ⟨by first | rfl | simp, (G5.out.trans BW).trans (hb6.trans BW2)⟩
end Go.Proofs.YtliehlefpodhaaaDoor
