/- InquiryAsks is true: the program's Ask, Traces and Count are those of the reference, and the arguments stay. For every gate, inquiry, inquiries, file, day and purpose. -/
import Derived.Test.YtliehlefpodhaaaDoorQGate
import Derived.Test.YtliehlefpodhaaaDoorQTwin9
import Derived.Test.YtliehlefpodhaaaDoorQRefTraces
namespace Go.Proofs.YtliehlefpodhaaaDoor
open Go.RowKit Go.Shelf Go.Sort

set_option maxRecDepth 100000 in
set_option maxHeartbeats 8000000 in
theorem inquiryAsks_any (g : Gat) (ls : List Lic) (ss : List Sig) (q : Inq) (A : Option Addr) (n c : Nat) (zs : List Inq) (file now pu : Int) (b off cap : Nat) (w : World) (hg : GatIn w g ls ss) (hi : InqsIn w A n zs) (hq : 0 ≤ q.purpose ∧ q.purpose ≤ 255) (hu : 0 ≤ pu ∧ pu ≤ 255) (hR : LaidR w b off cap) (hG : LaidL w) :
    Calls Tryd.prog 3 #[g.val, q.val, .slice A n c, .int .i64 file, .int .i64 now, .int .u8 pu] w fun e w' => e = .returned (.bool true) ∧ Gr w w' := by
  have HGr := hid (fun W => great9_any g A n c W)
  have HTw := hid (fun W (k : Gr w W) (h1 : g.ln ≤ 1000) (h2 : g.sn ≤ 1000) => twin9_any g ls ss W (hg.gr k) h1 h2)
  have HI := hid hi
  have HGi := hid hg
  have HB := hid (greatB_false (n := g.ln) (m := g.sn) (k := n))
  have HAsk := hid (fun (g' : Gat) W (k : Gr w W) (h : GatIn W g' ls ss) (hA : ∀ b o, g'.sa = some ⟨b, o, none⟩ → b < W.heap.size) (hn : g'.sn < 1000) => askTop_any g' ls ss q b off cap W h hA hn (hR.gr k) (hG.gr k) hq)
  have HAsk' := hid (fun W (k : Gr w W) => refAskTop_any g ls ss q W (hg.gr k) hq)
  have HTr := hid (fun (g' : Gat) (A' : Option Addr) (c' : Nat) W (k : Gr w W) (h : GatIn W g' ls ss) (hA : ∀ b o, g'.sa = some ⟨b, o, none⟩ → b < W.heap.size) (hn : g'.sn < 1000) (hi' : InqsIn W A' n zs) => traces_any g' ls ss A' n c' zs file now pu b off cap W h hA hn (hR.gr k) (hG.gr k) hi' hu)
  have HTr' := hid (fun W (k : Gr w W) => refTraces_any g ls ss A n c zs file now pu W (hg.gr k) (hi.gr k) hu)
  have HC := hid (fun (g' : Gat) (A' : Option Addr) (c' : Nat) W (k : Gr w W) (h : GatIn W g' ls ss) (hA : ∀ b o, g'.sa = some ⟨b, o, none⟩ → b < W.heap.size) (hn : g'.sn < 1000) (hi' : InqsIn W A' n zs) => count_any g' ls ss A' n c' zs file now b off cap W h hA hn (hR.gr k) (hG.gr k) hi')
  have HC' := hid (fun W (k : Gr w W) => refCount_any g ls ss A n c zs file now W (hg.gr k) (hi.gr k))
  have hlen := hi.rd.inq_len
  have HL := hid hlen
  have hbig := hi.big
  clear hg hi hR hG hq hu hlen
  generalize greatB g.ln g.sn n = gb at HGr HB
  obtain ⟨i0, hi0, hz0, hs0, hy0⟩ := info_parts info_inq
  have HI0 := hid hi0
  have HZ0 := hid hz0
  have HS0 := hid hs0
  have HY0 := hid hy0
  clear hi0 hz0 hs0 hy0
  obtain ⟨la, ln, lc, sa, sn, sc⟩ := g
  obtain ⟨q0, q1, q2, q3, q4, q5⟩ := q
  generalize inqB ⟨q0, q1, q2, q3, q4, q5⟩ = ib at *
  generalize askN ls ss ⟨q0, q1, q2, q3, q4, q5⟩ = an at *
  generalize tracesN ls ss zs file now pu = tn at *
  generalize tracesR ls ss zs file now pu = tr at *
  generalize countN (tracesR ls ss zs file now 1) = cn at *
  generalize tracesN ls ss zs file now 1 = ce at *
  generalize gateN ls ss = gn at *
  unfold Gat.val Inq.val at *
  dsimp only at *
  obtain ⟨ae, hae⟩ : ∃ x, (if gn = 0 ∧ ib = true then an else 0) = x := ⟨_, rfl⟩
  obtain ⟨ee, hee⟩ : ∃ x, (if gn = 0 then (if ib = true then (0 : Int) else 92) else gn) = x := ⟨_, rfl⟩
  rw [hae, hee] at HAsk HAsk'
  clear hae hee
  cases gb with
  | true =>
    go_enter Tryd.func3, Tryd.ntmps3
    go_wp2_with ((go_at_call 12; (with_reducible refine (HGr.out _).mono ?_); rotate_right; rintro e w1 ⟨rfl, hbw1⟩; obtain ⟨hcw1, hfw1, hzw1⟩ := hbw1.rules; (try simp at hzw1); have hzw1_0 : w.heap.size < w1.heap.size := (by omega); have hyw1_0 : w.heap.size ≤ w1.heap.size := (by omega); have hzw1_1 : w.heap.size + 1 < w1.heap.size := (by omega); have hyw1_1 : w.heap.size + 1 ≤ w1.heap.size := (by omega)))
    go_ret
    exact ⟨rfl, by (repeat (first | with_reducible exact Gr.refl _ | with_reducible refine Gr.trans ?_ hbw1 | with_reducible refine Gr.alloc ?_ _ | with_reducible refine Gr.setCell ?_ (by simp) _ | with_reducible refine Gr.setCell ?_ (by simp; omega) _ | with_reducible refine Gr.drew ?_ | with_reducible refine Gr.drewN ?_ _))⟩
  | false =>
    obtain ⟨hn1, hn2, hn3⟩ := HB.out rfl
    clear HB
    have HTw2 := hid (fun W k => HTw.out W k (by omega) (by omega))
    clear HTw
    go_enter Tryd.func3, Tryd.ntmps3
    go_wp2_with (first
      | (go_at_call 12; (with_reducible refine (HGr.out _).mono ?_); rotate_right; rintro e w1 ⟨rfl, hbw1⟩; obtain ⟨hcw1, hfw1, hzw1⟩ := hbw1.rules; (try simp at hzw1); have hzw1_0 : w.heap.size < w1.heap.size := (by omega); have hyw1_0 : w.heap.size ≤ w1.heap.size := (by omega); have hzw1_1 : w.heap.size + 1 < w1.heap.size := (by omega); have hyw1_1 : w.heap.size + 1 ≤ w1.heap.size := (by omega))
      | (go_at_call 13; (with_reducible refine (HTw2.out _ ?_).mono ?_); rotate_right; rintro e w2 ⟨la', lc', sa', sc', rfl, k1, k2, hbw2⟩; have HK2 := hid (And.intro k1 k2); clear k1 k2; obtain ⟨hcw2, hfw2, hzw2⟩ := hbw2.rules; (try simp at hzw2); have hzw2_0 : w.heap.size < w2.heap.size := (by omega); have hzw2_1 : w.heap.size + 1 < w2.heap.size := (by omega))
      | ((with_reducible show wpList _ _ _ (⟨some 36, _, _, _, _, _⟩ :: _) _ _); go_loud (refine wpList_append_rd _ rfl (.tmp 34) (.tmp 35) 28 rfl w2.heap.size 27 i0 _ 6 40 Tryd.underlying28 HI0.out HZ0.out HS0.out HY0.out rfl (by decide) (.slice (some ⟨w2.heap.size, 0, none⟩) 0 0) 0 [] rfl ?_ A n c (zs.flatMap Inq.cells) rfl ?_ ?_ ?_ ?_ ?_ ?_; rotate_right; intro A1 c1 w3 hown1 hbw3; simp only [Nat.zero_add, List.nil_append] at hown1; have HO1 := hid hown1; clear hown1; obtain ⟨hcw3, hfw3, hzw3⟩ := Below.rules hbw3; (try simp at hzw3); have hzw3_0 : w.heap.size < w3.heap.size := (by omega); have hzw3_1 : w.heap.size + 1 < w3.heap.size := (by omega)))
      | fail)
    · have G3 : Gr w w3 := Gr.trans (by (repeat (first | with_reducible exact Gr.refl _ | with_reducible refine Gr.trans ?_ hbw2 | with_reducible refine Gr.trans ?_ hbw1 | with_reducible refine Gr.alloc ?_ _ | with_reducible refine Gr.setCell ?_ (by simp) _ | with_reducible refine Gr.setCell ?_ (by simp; omega) _ | with_reducible refine Gr.drew ?_ | with_reducible refine Gr.drewN ?_ _))) (show Below w2.heap.size w2 w3 from Below.trans ((Gr.refl w2).alloc _) (by simpa using hbw3))
      have G4 : Hid (Gr w (w3.alloc (.cells #[.slice la' ln lc', .slice sa' sn sc'] 25))) := G3.alloc _
      have hk1 : Gr w2 w3 := show Below w2.heap.size w2 w3 from Below.trans ((Gr.refl w2).alloc _) (by simpa using hbw3)
      have RW := rows2 w (.cells #[.slice la ln lc, .slice sa sn sc] 25) (.cells #[.int .i64 q0, .int .i64 q1, .int .i64 q2, .int .i64 q3, .int .u8 q4, .bool q5] 27)
      have HG4 : Hid (GatIn (w3.alloc (.cells #[.slice la' ln lc', .slice sa' sn sc'] 25)) ⟨la', ln, lc', sa', sn, sc'⟩ ls ss) := HK2.out.1.gr (hk1.alloc _)
      have HA4 : Hid (∀ b o, sa' = some ⟨b, o, none⟩ → b < (w3.alloc (.cells #[.slice la' ln lc', .slice sa' sn sc'] 25)).heap.size) := fun b o e => by
        have := HK2.out.2 b o e; have := hk1.size; simp; omega
      have HI4 : Hid (InqsIn (w3.alloc (.cells #[.slice la' ln lc', .slice sa' sn sc'] 25)) A1 n zs) := ⟨(Rd.of_own HO1.out).gr ((Gr.refl w3).alloc _), HI.out.big, HI.out.u8⟩
      have G1 : Gr w w1 := by (repeat (first | with_reducible exact Gr.refl _ | with_reducible refine Gr.trans ?_ hbw1 | with_reducible refine Gr.alloc ?_ _ | with_reducible refine Gr.setCell ?_ (by simp) _ | with_reducible refine Gr.setCell ?_ (by simp; omega) _ | with_reducible refine Gr.drew ?_ | with_reducible refine Gr.drewN ?_ _))
      have B0 : w3.heap[w.heap.size]? = some (.cells #[.slice la ln lc, .slice sa sn sc] 25 (0, 0)) := row_gr (row_gr (row_gr RW.1 hbw1) hbw2) hk1
      have B1 : w3.heap[w.heap.size + 1]? = some (.cells #[.int .i64 q0, .int .i64 q1, .int .i64 q2, .int .i64 q3, .int .u8 q4, .bool q5] 27 (0, 0)) := row_gr (row_gr (row_gr RW.2 hbw1) hbw2) hk1
      have R0 := row_gr B0 ((Gr.refl w3).alloc (.cells #[.slice la' ln lc', .slice sa' sn sc'] 25))
      have R1 := row_gr B1 ((Gr.refl w3).alloc (.cells #[.slice la' ln lc', .slice sa' sn sc'] 25))
      have R2 := heap_alloc_new w3 (.cells #[.slice la' ln lc', .slice sa' sn sc'] 25)
      obtain ⟨o, ho⟩ : ∃ o, w3.heap.size = o := ⟨_, rfl⟩
      rw [ho] at R2 ⊢
      generalize w3.alloc (.cells #[.slice la' ln lc', .slice sa' sn sc'] 25) = w4 at G4 HG4 HA4 HI4 R0 R1 R2 ⊢
      clear B0 B1 G1 RW hk1 G3 hcw1 hfw1 hzw1 hcw2 hfw2 hzw2 hcw3 hfw3 hzw3 hzw3_0 hzw3_1 hzw2_0 hzw2_1 hbw3 hbw2 hbw1 HO1 HK2 HTw2 ho hzw1_0 hyw1_0 hzw1_1 hyw1_1 HGr HI0 HZ0 HS0 HY0
      have r0 := row_cell_at (v := .slice la ln lc) R0 0 rfl
      have r1 := row_cell_at (v := .slice sa sn sc) R0 1 rfl
      obtain ⟨t0, t1, t2, t3, t4, t5⟩ := cellsat6 R1
      have s0 := row_cell_at (v := .slice la' ln lc') R2 0 rfl
      have s1 := row_cell_at (v := .slice sa' sn sc') R2 1 rfl
      have hz4_0 : w.heap.size < w4.heap.size := block_lt_of_cell r0
      have hz4_1 : w.heap.size + 1 < w4.heap.size := block_lt_of_cell t0
      have hz4_2 : o < w4.heap.size := block_lt_of_cell s0
      clear R0 R1 R2
      obtain ⟨M, hM⟩ : ∃ M, tr.length = M := ⟨_, rfl⟩
      have HM := hid hM
      clear hM
      have HA4' := hid (fun W (k : Gr w4 W) => HAsk.out ⟨la', ln, lc', sa', sn, sc'⟩ W (G4.out.trans k) (HG4.out.gr k) (fun b o e => Nat.lt_of_lt_of_le (HA4.out b o e) k.size) (by show sn < 1000; omega))
      have HB4 := hid (fun W (k : Gr w4 W) => HAsk'.out W (G4.out.trans k))
      have HT4 := hid (fun W (k : Gr w4 W) => HTr.out ⟨la', ln, lc', sa', sn, sc'⟩ A1 c1 W (G4.out.trans k) (HG4.out.gr k) (fun b o e => Nat.lt_of_lt_of_le (HA4.out b o e) k.size) (by show sn < 1000; omega) (HI4.out.gr k))
      have HU4 := hid (fun W (k : Gr w4 W) => HTr'.out W (G4.out.trans k))
      have HC4 := hid (fun W (k : Gr w4 W) => HC.out ⟨la', ln, lc', sa', sn, sc'⟩ A1 c1 W (G4.out.trans k) (HG4.out.gr k) (fun b o e => Nat.lt_of_lt_of_le (HA4.out b o e) k.size) (by show sn < 1000; omega) (HI4.out.gr k))
      have HD4 := hid (fun W (k : Gr w4 W) => HC'.out W (G4.out.trans k))
      have HS4 := hid (fun W (k : Gr w4 W) => same9_any ⟨la', ln, lc', sa', sn, sc'⟩ ⟨la, ln, lc, sa, sn, sc⟩ ls ss W (HG4.out.gr k) (HGi.out.gr (G4.out.trans k)) rfl rfl (by show ln ≤ _; omega) (by show sn ≤ _; omega))
      have HE1 : Hid (Rd w4 6 A1 n (zs.flatMap Inq.cells)) := HI4.out.rd
      have HE2 : Hid (Rd w 6 A n (zs.flatMap Inq.cells)) := HI.out.rd
      clear HAsk HAsk' HTr HTr' HC HC' HGi HA4 HI HG4 HI4
      unfold Gat.val at HA4' HT4 HC4 HS4
      dsimp only at HA4' HT4 HC4 HS4
      have HA4 := HA4'
      clear HA4'
      have hn60 : (n : Int) ≤ 60 := by omega
      go_wp2_with (first
        | (go_at_call 14; (with_reducible refine (HA4.out _ (Gr.refl _)).mono ?_); rintro e w5 ⟨rfl, hbw5⟩; obtain ⟨hcw5, hfw5, hzw5⟩ := hbw5.rules; have hzw5_0 : w.heap.size < w5.heap.size := (by omega); have hzw5_1 : w.heap.size + 1 < w5.heap.size := (by omega); have hzw5_2 : o < w5.heap.size := (by omega))
        | (go_at_call 15; (with_reducible refine (HB4.out _ hbw5).mono ?_); rintro e w6 ⟨rfl, hbw6⟩; obtain ⟨hcw6, hfw6, hzw6⟩ := hbw6.rules; have hzw6_0 : w.heap.size < w6.heap.size := (by omega); have hzw6_1 : w.heap.size + 1 < w6.heap.size := (by omega); have hzw6_2 : o < w6.heap.size := (by omega))
        | (go_at_call 16; (with_reducible refine (HT4.out _ (hbw5.trans hbw6)).mono ?_); rintro e w7 ⟨B1, m1, d1, rfl, hbw7, k2⟩; have hlT := (k2.len.trans HM.out); subst hlT; have HTO := hid k2; clear k2; obtain ⟨hcw7, hfw7, hzw7⟩ := hbw7.rules; have hzw7_0 : w.heap.size < w7.heap.size := (by omega); have hzw7_1 : w.heap.size + 1 < w7.heap.size := (by omega); have hzw7_2 : o < w7.heap.size := (by omega))
        | (go_at_call 17; (with_reducible refine (HU4.out _ ((hbw5.trans hbw6).trans hbw7)).mono ?_); rintro e w8 ⟨B2, m2, d2, rfl, hbw8, k2⟩; have hlU := (k2.len.trans HM.out); subst hlU; have HUO := hid k2; clear k2; obtain ⟨hcw8, hfw8, hzw8⟩ := hbw8.rules; have hzw8_0 : w.heap.size < w8.heap.size := (by omega); have hzw8_1 : w.heap.size + 1 < w8.heap.size := (by omega); have hzw8_2 : o < w8.heap.size := (by omega))
        | (go_at_call 18; (with_reducible refine (HC4.out _ (((hbw5.trans hbw6).trans hbw7).trans hbw8)).mono ?_); rintro e w9 ⟨rfl, hbw9⟩; obtain ⟨hcw9, hfw9, hzw9⟩ := hbw9.rules; have hzw9_0 : w.heap.size < w9.heap.size := (by omega); have hzw9_1 : w.heap.size + 1 < w9.heap.size := (by omega); have hzw9_2 : o < w9.heap.size := (by omega))
        | (go_at_call 19; (with_reducible refine (HD4.out _ ((((hbw5.trans hbw6).trans hbw7).trans hbw8).trans hbw9)).mono ?_); rintro e wa ⟨rfl, hbwa⟩; obtain ⟨hcwa, hfwa, hzwa⟩ := hbwa.rules; have hzwa_0 : w.heap.size < wa.heap.size := (by omega); have hzwa_1 : w.heap.size + 1 < wa.heap.size := (by omega); have hzwa_2 : o < wa.heap.size := (by omega))
        | (go_at_call 20; (with_reducible refine (sameTraces_any B1 _ d1 B2 d2 tr wa (HTO.out.rd.gr ((hbw8.trans hbw9).trans hbwa)) (HUO.out.rd.gr (hbw9.trans hbwa)) (by have := HTO.out.le; have := HTO.out.big; omega)).mono ?_); rintro e wb ⟨rfl, hbwb⟩; obtain ⟨hcwb, hfwb, hzwb⟩ := hbwb.rules; have hzwb_0 : w.heap.size < wb.heap.size := (by omega); have hzwb_1 : w.heap.size + 1 < wb.heap.size := (by omega); have hzwb_2 : o < wb.heap.size := (by omega))
        | (go_at_call 21; (with_reducible refine (HS4.out _ ((((((hbw5.trans hbw6).trans hbw7).trans hbw8).trans hbw9).trans hbwa).trans hbwb)).mono ?_); rintro e wc ⟨rfl, hbwc⟩; obtain ⟨hcwc, hfwc, hzwc⟩ := hbwc.rules; have hzwc_0 : w.heap.size < wc.heap.size := (by omega); have hzwc_1 : w.heap.size + 1 < wc.heap.size := (by omega); have hzwc_2 : o < wc.heap.size := (by omega))
        | fail)
      have GA : Hid (Gr w4 wc) := ((((((hbw5.trans hbw6).trans hbw7).trans hbw8).trans hbw9).trans hbwa).trans hbwb).trans hbwc
      clear hcw5 hfw5 hcw6 hfw6 hcw7 hfw7 hcw8 hfw8 hcw9 hfw9 hcwa hfwa hcwb hfwb hcwc hfwc hzw5 hzw6 hzw7 hzw8 hzw9 hzwa hzwb hzwc hbw5 hbw6 hbw7 hbw8 hbw9 hbwa hbwb hbwc r0 r1 s0 s1 t0 t1 t2 t3 t4 t5
      go_loopg [27, 28, 118] n (fun gg s27 _ s118 wr => ∃ k : Nat, k ≤ n ∧ n - k ≤ gg ∧ s27 = .bool true ∧ s118 = .int .i64 k ∧ Gr wc wr)
      case atStart => exact ⟨0, Nat.zero_le _, by omega, by first | rfl | (simp; done), rfl, Gr.refl wc⟩
      case round =>
        obtain ⟨k, hk, hgk, rfl, rfl, BW⟩ := hrel
        by_cases hlt : k < n
        · obtain ⟨hk1, b1, of1, rfl, hb1, c0, c1', c2, c3, c4, c5⟩ := (HE1.out.gr (GA.out.trans BW)).inq hlt
          obtain ⟨hk2, b2, of2, rfl, hb2, d0, d1', d2', d3, d4, d5⟩ := (HE2.out.gr (G4.out.trans (GA.out.trans BW))).inq hlt
          clear hk1 hk2
          generalize zs[k]! = x at c0 c1' c2 c3 c4 c5 d0 d1' d2' d3 d4 d5
          obtain ⟨x0, x1, x2, x3, x4, x5⟩ := x
          dsimp only at c0 c1' c2 c3 c4 c5 d0 d1' d2' d3 d4 d5
          have hkn : (k : Int) < n := by omega
          have hk0 : (0 : Int) ≤ k := by omega
          go_wp2_with fail
          go_quiet (fail)
          go_wp2
          go_roundg (n - (k + 1))
          case measure => omega
          case rel => exact ⟨k + 1, by omega, by omega, by first | rfl | (simp; done), by go_num, BW.drewN _⟩
        · have hkn : ¬ (k : Int) < n := by omega
          go_wp2
          go_ret
          exact ⟨rfl, G4.out.trans (GA.out.trans BW)⟩
    all_goals first
      | (with_reducible exact own_new _ _ _ _ (by simp))
      | (simp only [maxLen]; omega)
      | omega
      | (intro u x _ hu; exact Inq.one x u hu)
      | (exact flat_one Inq.one _)
      | ((repeat (first | with_reducible exact Gr.refl _ | with_reducible refine Gr.trans ?_ hbw2 | with_reducible refine Gr.trans ?_ hbw1 | with_reducible refine Gr.alloc ?_ _ | with_reducible refine Gr.setCell ?_ (by simp) _ | with_reducible refine Gr.setCell ?_ (by simp; omega) _ | with_reducible refine Gr.drew ?_ | with_reducible refine Gr.drewN ?_ _)); done)
      | (exact (HI.out.rd).gr (by (repeat (first | with_reducible exact Gr.refl _ | with_reducible refine Gr.trans ?_ hbw2 | with_reducible refine Gr.trans ?_ hbw1 | with_reducible refine Gr.alloc ?_ _ | with_reducible refine Gr.setCell ?_ (by simp) _ | with_reducible refine Gr.setCell ?_ (by simp; omega) _ | with_reducible refine Gr.drew ?_ | with_reducible refine Gr.drewN ?_ _))))
      | (simp; done)
      | skip
    all_goals go_goals
end Go.Proofs.YtliehlefpodhaaaDoor
