/- InquiryMerges is true: the program's Check, Merge and State are those of the reference, and the lists stay. For every gate, signals, file and day. (Printed by gen_lawmerges.py.) -/
import Derived.Test.YtliehlefpodhaaaDoorQTwin9
import Derived.Test.YtliehlefpodhaaaDoorQGate
import Derived.Test.YtliehlefpodhaaaDoorQRefMerge
import Derived.Test.YtliehlefpodhaaaDoorQStateTop
namespace Go.Proofs.YtliehlefpodhaaaDoor
open Go.RowKit Go.Shelf Go.Sort

set_option maxRecDepth 100000 in
set_option maxHeartbeats 8000000 in
theorem inquiryMerges_any (g : Gat) (ls : List Lic) (ss : List Sig) (A : Option Addr) (n c : Nat) (zs : List Sig) (file now : Int) (w : World) (hg : GatIn w g ls ss) (hi : SigsIn w A n zs) (hG : LaidL w) :
    Calls Tryd.prog 4 #[g.val, .slice A n c, .int .i64 file, .int .i64 now] w fun e w' => e = .returned (.bool true) ∧ Gr w w' := by
  have HGr := hid (fun W => great9_any g none 0 0 W)
  have HTw := hid (fun W (k : Gr w W) (h1 : g.ln ≤ 1000) (h2 : g.sn ≤ 1000) => twin9_any g ls ss W (hg.gr k) h1 h2)
  have HI := hid hi
  have HGi := hid hg
  have HB := hid (greatB_false (n := g.ln) (m := g.sn) (k := 0))
  have HLd := hid hG
  have hbig := hi.big
  have hls : g.sn = ss.length := by have := hg.sigs.rd.len; rw [flatMap_len Sig.len] at this; omega
  clear hg hi hG
  generalize greatB g.ln g.sn 0 = gb at HGr HB
  obtain ⟨i0, hi0, hz0, hs0, hy0⟩ := info_parts info_sig
  have HI0 := hid hi0
  have HZ0 := hid hz0
  have HS0 := hid hs0
  have HY0 := hid hy0
  clear hi0 hz0 hs0 hy0
  have HLs := hid hls
  clear hls
  obtain ⟨la, ln, lc, sa, sn, sc⟩ := g
  unfold Gat.val at *
  dsimp only at *
  by_cases hbad : gb = true ∨ 60 < n
  case pos =>
    rcases hbad with rfl | h60
    · go_enter Tryd.func4, Tryd.ntmps4
      go_wp2_with ((go_at_call 12; (with_reducible refine (HGr.out _).mono ?_); rotate_right; rintro e w1 ⟨rfl, hbw1⟩; obtain ⟨hcw1, hfw1, hzw1⟩ := hbw1.rules; (try simp at hzw1); have hzw1_0 : w.heap.size < w1.heap.size := (by omega); have hyw1_0 : w.heap.size ≤ w1.heap.size := (by omega)))
      go_ret
      exact ⟨rfl, by (repeat (first | with_reducible exact Gr.refl _ | with_reducible refine Gr.trans ?_ hbw1 | with_reducible refine Gr.alloc ?_ _ | with_reducible refine Gr.setCell ?_ (by simp) _ | with_reducible refine Gr.setCell ?_ (by simp; omega) _ | with_reducible refine Gr.drew ?_ | with_reducible refine Gr.drewN ?_ _))⟩
    · have h60' : (60 : Int) < (n : Int) := by omega
      cases gb
      all_goals
        go_enter Tryd.func4, Tryd.ntmps4
        go_wp2_with ((go_at_call 12; (with_reducible refine (HGr.out _).mono ?_); rotate_right; rintro e w1 ⟨rfl, hbw1⟩; obtain ⟨hcw1, hfw1, hzw1⟩ := hbw1.rules; (try simp at hzw1); have hzw1_0 : w.heap.size < w1.heap.size := (by omega); have hyw1_0 : w.heap.size ≤ w1.heap.size := (by omega)))
        go_ret
        exact ⟨rfl, by (repeat (first | with_reducible exact Gr.refl _ | with_reducible refine Gr.trans ?_ hbw1 | with_reducible refine Gr.alloc ?_ _ | with_reducible refine Gr.setCell ?_ (by simp) _ | with_reducible refine Gr.setCell ?_ (by simp; omega) _ | with_reducible refine Gr.drew ?_ | with_reducible refine Gr.drewN ?_ _))⟩
  case neg =>
    obtain ⟨rfl, hn3⟩ : gb = false ∧ n ≤ 60 := by
      cases gb
      · exact ⟨rfl, by omega⟩
      · exact absurd (.inl rfl) hbad
    obtain ⟨hn1, hn2, _⟩ := HB.out rfl
    have hn60 : (n : Int) ≤ 60 := by omega
    clear HB hbad
    have HTw2 := hid (fun W k => HTw.out W k (by omega) (by omega))
    clear HTw
    go_enter Tryd.func4, Tryd.ntmps4
    go_wp2_with (first
      | (go_at_call 12; (with_reducible refine (HGr.out _).mono ?_); rotate_right; rintro e w1 ⟨rfl, hbw1⟩; obtain ⟨hcw1, hfw1, hzw1⟩ := hbw1.rules; (try simp at hzw1); have hzw1_0 : w.heap.size < w1.heap.size := (by omega); have hyw1_0 : w.heap.size ≤ w1.heap.size := (by omega))
      | (go_at_call 13; (with_reducible refine (HTw2.out _ ?_).mono ?_); rotate_right; rintro e w2 ⟨la', lc', sa', sc', rfl, k1, k2, hbw2⟩; have HK2 := hid (And.intro k1 k2); clear k1 k2; obtain ⟨hcw2, hfw2, hzw2⟩ := hbw2.rules; (try simp at hzw2); have hzw2_0 : w.heap.size < w2.heap.size := (by omega))
      | ((with_reducible show wpList _ _ _ (⟨some 32, _, _, _, _, _⟩ :: _) _ _); go_loud (refine wpList_append_rd _ rfl (.tmp 30) (.tmp 31) 23 rfl w2.heap.size 67 i0 _ 6 48 Tryd.underlying23 HI0.out HZ0.out HS0.out HY0.out rfl (by decide) (.slice (some ⟨w2.heap.size, 0, none⟩) 0 0) 0 [] rfl ?_ A n c (zs.flatMap Sig.cells) rfl ?_ ?_ ?_ ?_ ?_ ?_; rotate_right; intro A1 c1 w3 hown1 hbw3; simp only [Nat.zero_add, List.nil_append] at hown1; have HO1 := hid hown1; clear hown1; obtain ⟨hcw3, hfw3, hzw3⟩ := Below.rules hbw3; (try simp at hzw3); have hzw3_0 : w.heap.size < w3.heap.size := (by omega)))
      | fail)
    · have hk1 : Gr w2 w3 := show Below w2.heap.size w2 w3 from Below.trans ((Gr.refl w2).alloc _) (by simpa using hbw3)
      have G3 : Gr w w3 := Gr.trans (by (repeat (first | with_reducible exact Gr.refl _ | with_reducible refine Gr.trans ?_ hbw2 | with_reducible refine Gr.trans ?_ hbw1 | with_reducible refine Gr.alloc ?_ _ | with_reducible refine Gr.setCell ?_ (by simp) _ | with_reducible refine Gr.setCell ?_ (by simp; omega) _ | with_reducible refine Gr.drew ?_ | with_reducible refine Gr.drewN ?_ _))) hk1
      have G4 : Hid (Gr w (w3.alloc (.cells #[.slice la' ln lc', .slice sa' sn sc'] 25))) := G3.alloc _
      have HG4 : Hid (GatIn (w3.alloc (.cells #[.slice la' ln lc', .slice sa' sn sc'] 25)) ⟨la', ln, lc', sa', sn, sc'⟩ ls ss) := HK2.out.1.gr (hk1.alloc _)
      have HA4 : Hid (∀ b o, sa' = some ⟨b, o, none⟩ → b < (w3.alloc (.cells #[.slice la' ln lc', .slice sa' sn sc'] 25)).heap.size) := fun b o e => by
        have := HK2.out.2 b o e; have := hk1.size; simp; omega
      have HI4 : Hid (SigsIn (w3.alloc (.cells #[.slice la' ln lc', .slice sa' sn sc'] 25)) A1 n zs) := ⟨(Rd.of_own HO1.out).gr ((Gr.refl w3).alloc _), HI.out.big, HI.out.u8⟩
      have B0 : w3.heap[w.heap.size]? = some (.cells #[.slice la ln lc, .slice sa sn sc] 25 (0, 0)) := row_gr (row_gr (row_gr (heap_alloc_new w (.cells #[.slice la ln lc, .slice sa sn sc] 25)) hbw1) hbw2) hk1
      have R0 := row_gr B0 ((Gr.refl w3).alloc (.cells #[.slice la' ln lc', .slice sa' sn sc'] 25))
      have R2 := heap_alloc_new w3 (.cells #[.slice la' ln lc', .slice sa' sn sc'] 25)
      obtain ⟨o, ho⟩ : ∃ o, w3.heap.size = o := ⟨_, rfl⟩
      rw [ho] at R2 ⊢
      generalize w3.alloc (.cells #[.slice la' ln lc', .slice sa' sn sc'] 25) = w4 at G4 HG4 HA4 HI4 R0 R2 ⊢
      clear B0 hk1 G3 hcw1 hfw1 hzw1 hcw2 hfw2 hzw2 hcw3 hfw3 hzw3 hzw3_0 hzw2_0 hbw3 hbw2 hbw1 HO1 HK2 HTw2 ho hzw1_0 hyw1_0 HGr HI0 HZ0 HS0 HY0
      have r0 := row_cell_at (v := .slice la ln lc) R0 0 rfl
      have r1 := row_cell_at (v := .slice sa sn sc) R0 1 rfl
      have s0 := row_cell_at (v := .slice la' ln lc') R2 0 rfl
      have s1 := row_cell_at (v := .slice sa' sn sc') R2 1 rfl
      have hz4_0 : w.heap.size < w4.heap.size := block_lt_of_cell r0
      have hz4_2 : o < w4.heap.size := block_lt_of_cell s0
      have HRR := hid (And.intro R0 R2)
      clear R0 R2
      obtain ⟨M, hM⟩ : ∃ M, (mergeL ss zs).length = M := ⟨_, rfl⟩
      have HM := hid hM
      clear hM
      have HA4' := hid (fun W (k : Gr w4 W) => merge_any sa' sn sc' A1 n c1 ss zs W (HG4.out.sigs.gr k) (HI4.out.gr k) (HLd.out.gr (G4.out.trans k)))
      have HB4 := hid (fun W (k : Gr w4 W) => refMerge_any sa sn sc A n c ss zs W (HGi.out.sigs.gr (G4.out.trans k)) (HI.out.gr (G4.out.trans k)))
      have HT4 := hid (fun W (k : Gr w4 W) => stateTop_any sa' sn sc' ss file now W (HG4.out.sigs.gr k) (fun b o e => Nat.lt_of_lt_of_le (HA4.out b o e) k.size) (HLd.out.gr (G4.out.trans k)) (fun _ => by omega))
      have HU4 := hid (fun W (k : Gr w4 W) => refStateTop_any sa sn sc ss file now W (HGi.out.sigs.gr (G4.out.trans k)))
      have HC4 := hid (fun W (k : Gr w4 W) => gateCheck_any ⟨la', ln, lc', sa', sn, sc'⟩ ls ss W (HG4.out.gr k) (HLd.out.gr (G4.out.trans k)))
      have HD4 := hid (fun W (k : Gr w4 W) => refGateCheck_any ⟨la, ln, lc, sa, sn, sc⟩ ls ss W (HGi.out.gr (G4.out.trans k)))
      have HS4 := hid (fun W (k : Gr w4 W) => same9_any ⟨la', ln, lc', sa', sn, sc'⟩ ⟨la, ln, lc, sa, sn, sc⟩ ls ss W (HG4.out.gr k) (HGi.out.gr (G4.out.trans k)) rfl rfl (by show ln ≤ _; omega) (by show sn ≤ _; omega))
      have HE4 := hid (fun W (k : Gr w4 W) => sameSignals_any A1 n c1 A c zs W (HI4.out.rd.gr k) (HI.out.rd.gr (G4.out.trans k)) (by omega))
      clear HGi HA4 HI HG4 HI4 HLd HLs
      unfold Gat.val at HC4 HD4 HS4
      dsimp only at HC4 HD4 HS4
      have HA4 := HA4'
      clear HA4'
      generalize mergeN ss zs = mn at HA4 HB4
      generalize mergeL ss zs = ml at HA4 HB4 HM
      generalize stFz ss file now = fz at HT4 HU4
      generalize stAl ss file now = al at HT4 HU4
      generalize stN ss file now = sn2 at HT4 HU4
      generalize gateN ls ss = gn at HC4 HD4
      go_wp2_with (first
        | (go_at_call 22; (with_reducible refine (HA4.out _ (Gr.refl _)).mono ?_); rintro e w5 ⟨R1, r1, q1, rfl, hbw5, k2⟩; have hlT := (k2.len.trans HM.out); subst hlT; have HTO := hid k2; clear k2; obtain ⟨hcw5, hfw5, hzw5⟩ := hbw5.rules; have hzw5_0 : w.heap.size < w5.heap.size := (by omega); have hzw5_2 : o < w5.heap.size := (by omega))
        | (go_at_call 23; (with_reducible refine (HB4.out _ hbw5).mono ?_); rintro e w6 ⟨R2, r2, q2, rfl, hbw6, k2⟩; have hlU := (k2.len.trans HM.out); subst hlU; have HUO := hid k2; clear k2; obtain ⟨hcw6, hfw6, hzw6⟩ := hbw6.rules; have hzw6_0 : w.heap.size < w6.heap.size := (by omega); have hzw6_2 : o < w6.heap.size := (by omega))
        | (go_at_call 24; (with_reducible refine (HT4.out _ (hbw5.trans hbw6)).mono ?_); rintro e w7 ⟨rfl, hbw7⟩; obtain ⟨hcw7, hfw7, hzw7⟩ := hbw7.rules; have hzw7_0 : w.heap.size < w7.heap.size := (by omega); have hzw7_2 : o < w7.heap.size := (by omega))
        | (go_at_call 25; (with_reducible refine (HU4.out _ ((hbw5.trans hbw6).trans hbw7)).mono ?_); rintro e w8 ⟨rfl, hbw8⟩; obtain ⟨hcw8, hfw8, hzw8⟩ := hbw8.rules; have hzw8_0 : w.heap.size < w8.heap.size := (by omega); have hzw8_2 : o < w8.heap.size := (by omega))
        | fail)
      have GA : Hid (Gr w4 w8) := ((hbw5.trans hbw6).trans hbw7).trans hbw8
      have HF : Hid (∀ W, Gr w8 W → Calls Tryd.prog 28 #[.slice R1 r2 q1, .slice R2 r2 q2] W fun e w' => e = .returned (.bool true) ∧ Gr W w') := fun W k => sameSignals_any R1 r2 q1 R2 q2 ml W ((HTO.out.rd Sig.len).gr (((hbw6.trans hbw7).trans hbw8).trans k)) ((HUO.out.rd Sig.len).gr ((hbw7.trans hbw8).trans k)) (by have := HTO.out.le; have := HTO.out.big; omega)
      have Q0 := row_gr HRR.out.1 GA.out
      have Q2 := row_gr HRR.out.2 GA.out
      have y0 := GrW.cell (row_cell_at (v := .slice la ln lc) Q0 0 rfl)
      have y1 := GrW.cell (row_cell_at (v := .slice sa sn sc) Q0 1 rfl)
      have y2 := GrW.cell (row_cell_at (v := .slice la' ln lc') Q2 0 rfl)
      have y3 := GrW.cell (row_cell_at (v := .slice sa' sn sc') Q2 1 rfl)
      clear Q0 Q2 HRR HA4 HB4 HT4 HU4 hcw5 hfw5 hcw6 hfw6 hcw7 hfw7 hcw8 hfw8 hzw5 hzw6 hzw7 hzw8 hbw5 hbw6 hbw7 hbw8 r0 r1 s0 s1
      have KC := hid (fun (p : GrW w8) => HC4.out p.W (GA.out.trans p.gr))
      have KD := hid (fun (p : GrW w8) => HD4.out p.W (GA.out.trans p.gr))
      have KS := hid (fun (p : GrW w8) => HS4.out p.W (GA.out.trans p.gr))
      have KE := hid (fun (p : GrW w8) => HE4.out p.W (GA.out.trans p.gr))
      have KF := hid (fun (p : GrW w8) => HF.out p.W p.gr)
      clear HC4 HD4 HS4 HE4 HF
      (refine wp_region_gr (by kernel_rfl) (by kernel_rfl) ?_; (repeat (first | go_big_quiet_step ((first | (go_at_call 26; exact calls_gr (KC.out _)) | (go_at_call 27; exact calls_gr (KD.out _)) | (go_at_call 21; exact calls_gr (KS.out _)) | (go_at_call 28; first | (with_reducible exact calls_gr (KF.out _)) | (with_reducible exact calls_gr (KE.out _)) | exact calls_gr (KF.out _) | exact calls_gr (KE.out _)))) | quiet_step ((first | (go_at_call 26; exact calls_gr (KC.out _)) | (go_at_call 27; exact calls_gr (KD.out _)) | (go_at_call 21; exact calls_gr (KS.out _)) | (go_at_call 28; first | (with_reducible exact calls_gr (KF.out _)) | (with_reducible exact calls_gr (KE.out _)) | exact calls_gr (KF.out _) | exact calls_gr (KE.out _)))))); refine wpQuiet_nil ?_; intro wz hw; obtain ⟨⟨_, hbwz⟩, hw⟩ := hw; subst hw; obtain ⟨hcwz, hfwz, hzwz⟩ := hbwz.rules; (try simp at hzwz))
      go_wp2
      go_ret
      exact ⟨rfl, G4.out.trans (GA.out.trans hbwz)⟩
    all_goals first
      | (with_reducible exact own_new _ _ _ _ (by simp))
      | (simp only [maxLen]; omega)
      | omega
      | (exact flat_one9 _)
      | ((repeat (first | with_reducible exact Gr.refl _ | with_reducible refine Gr.trans ?_ hbw2 | with_reducible refine Gr.trans ?_ hbw1 | with_reducible refine Gr.alloc ?_ _ | with_reducible refine Gr.setCell ?_ (by simp) _ | with_reducible refine Gr.setCell ?_ (by simp; omega) _ | with_reducible refine Gr.drew ?_ | with_reducible refine Gr.drewN ?_ _)); done)
      | (exact (HI.out.rd).gr (by (repeat (first | with_reducible exact Gr.refl _ | with_reducible refine Gr.trans ?_ hbw2 | with_reducible refine Gr.trans ?_ hbw1 | with_reducible refine Gr.alloc ?_ _ | with_reducible refine Gr.setCell ?_ (by simp) _ | with_reducible refine Gr.setCell ?_ (by simp; omega) _ | with_reducible refine Gr.drew ?_ | with_reducible refine Gr.drewN ?_ _))))
      | (simp; done)
      | skip
    all_goals go_goals
end Go.Proofs.YtliehlefpodhaaaDoor
