/- Signals of the reference of layer 9. For every slice of signals. -/
import Derived.Test.YtliehlefpodhaaaDoorQOrder
import Derived.Test.YtliehlefpodhaaaDoorQRegGr
namespace Go.Proofs.YtliehlefpodhaaaDoor
open Go.RowKit

theorem sigBad_two (zs : List Sig) (k : Nat) (x : Sig) (hx : zs[k]! = x) : sigBad zs k = (!sigB x || (decide (0 < k) && !befB zs[k - 1]! x)) := by
  unfold sigBad; rw [hx]
theorem refSigsB_bad {zs : List Sig} {k : Nat} (hk : k < zs.length) (h : sigBad zs k = true) : sigsB zs = false := by
  unfold sigsB
  rw [show (List.range zs.length).any (sigBad zs) = true from List.any_eq_true.2 ⟨k, by simpa using hk, h⟩]
  simp
theorem refSigsB_good {zs : List Sig} (h : ∀ j, j < zs.length → sigBad zs j = false) : sigsB zs = decide (zs.length ≤ 40) := by
  unfold sigsB
  rw [show (List.range zs.length).any (sigBad zs) = false from List.any_eq_false.2 (fun j hj => by simpa using h j (by simpa using hj))]
  simp

set_option maxRecDepth 100000 in
set_option maxHeartbeats 4000000 in
theorem refSignals_any (A : Option Addr) (n c : Nat) (zs : List Sig) (w : World) (hi : SigsIn w A n zs) :
    Calls Tryd.prog 60 #[.slice A n c] w fun e w' => e = .returned (.bool (sigsB zs)) ∧ Gr w w' := by
  have HU := hid hi.u8
  have hr := hi.rd
  have hbig := hi.big
  clear hi
  have HL := hid hr.sig_len
  have HR := hid hr
  clear hr
  by_cases h40 : n ≤ 40
  case neg =>
    have HE : Hid (sigsB zs = false) := by
      show sigsB zs = false
      unfold sigsB
      rw [show decide (zs.length ≤ 40) = false by have := HL.out; simp; omega]
      rfl
    have h40' : (40 : Int) < n := by omega
    clear h40
    go_enter Tryd.func60, Tryd.ntmps60
    go_wp2
    go_ret
    exact ⟨by rw [HE.out]; rfl, Gr.refl w⟩
  have h40' : (n : Int) ≤ 40 := by omega
  go_enter Tryd.func60, Tryd.ntmps60
  go_wp2
  go_loopg [3] n (fun gg s3 wr => ∃ kk : Nat, kk ≤ n ∧ n - kk ≤ gg ∧ s3 = .int .i64 kk ∧ Gr w wr ∧ Hid (∀ j, j < kk → sigBad zs j = false))
  case atStart => exact ⟨0, Nat.zero_le _, by omega, rfl, Gr.refl w, fun j hj => absurd hj (Nat.not_lt_zero _)⟩
  case round =>
    obtain ⟨kk, hkk, hg, rfl, BW, HA⟩ := hrel
    by_cases hlt : kk < n
    · obtain ⟨hk', b, off, rfl, hb, c0, c1, c2, c3, c4, c5⟩ := (HR.out.gr BW).sig hlt
      have HK := hid hk'
      clear hk'
      obtain ⟨x, hx⟩ : ∃ x, zs[kk]! = x := ⟨_, rfl⟩
      have hu : 0 ≤ x.kind ∧ x.kind ≤ 255 := hx ▸ HU.out _ (mem_get HK.out)
      have HS := hid (fun W => refSignal_any x W hu)
      have HP := hid (sigBad_two zs kk x hx)
      rw [hx] at c0 c1 c2 c3 c4 c5
      clear hx hu
      obtain ⟨bs, hbs⟩ : ∃ bs, sigB x = bs := ⟨_, rfl⟩
      rw [hbs] at HS HP
      clear hbs
      have hkn : (kk : Int) < (n : Int) := by omega
      have hk0 : (0 : Int) ≤ (kk : Int) := by omega
      cases bs with
      | false =>
        obtain ⟨x0, x1, x2, x3, x4, x5⟩ := x
        unfold Sig.val at HS
        dsimp only at *
        have p0 := GrW.cell c0
        have p1 := GrW.cell c1
        have p2 := GrW.cell c2
        have p3 := GrW.cell c3
        have p4 := GrW.cell c4
        have p5 := GrW.cell c5
        clear c0 c1 c2 c3 c4 c5
        go_wp2
        (refine wp_region_gr (by kernel_rfl) (by kernel_rfl) ?_; (repeat (first | go_big_quiet_step ((first | (go_at_call 74; exact calls_gr (HS.out _)))) | quiet_step ((first | (go_at_call 74; exact calls_gr (HS.out _)))))); refine wpQuiet_nil ?_; intro wa hw; obtain ⟨⟨_, hbwa⟩, hw⟩ := hw; subst hw; obtain ⟨hcwa, hfwa, hzwa⟩ := hbwa.rules; (try simp at hzwa))
        go_wp2
        go_ret
        refine ⟨?_, BW.trans hbwa⟩
        rw [refSigsB_bad HK.out (by rw [HP.out]; rfl)]
        rfl
      | true =>
        by_cases h0 : kk = 0
        · subst h0
          simp only [Nat.zero_mul, Nat.add_zero] at c0 c1 c2 c3 c4 c5
          obtain ⟨x0, x1, x2, x3, x4, x5⟩ := x
          unfold Sig.val at HS
          dsimp only at *
          have p0 := GrW.cell c0
          have p1 := GrW.cell c1
          have p2 := GrW.cell c2
          have p3 := GrW.cell c3
          have p4 := GrW.cell c4
          have p5 := GrW.cell c5
          clear c0 c1 c2 c3 c4 c5
          go_wp2
          (refine wp_region_gr (by kernel_rfl) (by kernel_rfl) ?_; (repeat (first | go_big_quiet_step ((first | (go_at_call 74; exact calls_gr (HS.out _)))) | quiet_step ((first | (go_at_call 74; exact calls_gr (HS.out _)))))); refine wpQuiet_nil ?_; intro wa hw; obtain ⟨⟨_, hbwa⟩, hw⟩ := hw; subst hw; obtain ⟨hcwa, hfwa, hzwa⟩ := hbwa.rules; (try simp at hzwa))
          go_wp2
          go_roundg (n - (0 + 1))
          case measure => omega
          case rel =>
            refine ⟨0 + 1, by omega, by omega, by go_num, BW.trans hbwa, hid fun j' hj' => ?_⟩
            by_cases e : j' = 0
            · subst e; rw [HP.out]; rfl
            · exact HA.out j' (by omega)
        · obtain ⟨j, rfl⟩ : ∃ j, kk = j + 1 := ⟨kk - 1, by omega⟩
          clear h0
          obtain ⟨_, b', off', hA', _, d0, d1, d2, d3, d4, d5⟩ := (HR.out.gr BW).sig (k := j) (by omega)
          cases hA'
          have hjn : (j : Int) < (n : Int) := by omega
          have hj0 : (0 : Int) ≤ (j : Int) := by omega
          obtain ⟨y, hy⟩ : ∃ y, zs[j]! = y := ⟨_, rfl⟩
          rw [hy] at d0 d1 d2 d3 d4 d5
          have HB := hid (fun W => refBefore_any y x W)
          have HP2 : Hid (sigBad zs (j + 1) = !befB y x) := by
            show sigBad zs (j + 1) = _
            rw [HP.out, Nat.add_sub_cancel, hy]; simp
          obtain ⟨bb, hbb⟩ : ∃ bb, befB y x = bb := ⟨_, rfl⟩
          rw [hbb] at HB HP2
          clear hbb hy HP
          obtain ⟨x0, x1, x2, x3, x4, x5⟩ := x
          obtain ⟨y0, y1, y2, y3, y4, y5⟩ := y
          unfold Sig.val at HS HB
          dsimp only at *
          have p0 := GrW.cell c0
          have p1 := GrW.cell c1
          have p2 := GrW.cell c2
          have p3 := GrW.cell c3
          have p4 := GrW.cell c4
          have p5 := GrW.cell c5
          have s0 := GrW.cell d0
          have s1 := GrW.cell d1
          have s2 := GrW.cell d2
          have s3 := GrW.cell d3
          have s4 := GrW.cell d4
          have s5 := GrW.cell d5
          clear c0 c1 c2 c3 c4 c5 d0 d1 d2 d3 d4 d5
          cases bb with
          | true =>
            go_wp2
            (refine wp_region_gr (by kernel_rfl) (by kernel_rfl) ?_; (repeat (first | go_big_quiet_step ((first | (go_at_call 74; exact calls_gr (HS.out _)) | (go_at_call 61; exact calls_gr (HB.out _)))) | quiet_step ((first | (go_at_call 74; exact calls_gr (HS.out _)) | (go_at_call 61; exact calls_gr (HB.out _)))))); refine wpQuiet_nil ?_; intro wa hw; obtain ⟨⟨_, hbwa⟩, hw⟩ := hw; subst hw; obtain ⟨hcwa, hfwa, hzwa⟩ := hbwa.rules; (try simp at hzwa))
            go_wp2
            go_roundg (n - (j + 1 + 1))
            case measure => omega
            case rel =>
              refine ⟨j + 1 + 1, by omega, by omega, by go_num, BW.trans hbwa, hid fun j' hj' => ?_⟩
              by_cases e : j' = j + 1
              · subst e; rw [HP2.out]; rfl
              · exact HA.out j' (by omega)
          | false =>
            go_wp2
            (refine wp_region_gr (by kernel_rfl) (by kernel_rfl) ?_; (repeat (first | go_big_quiet_step ((first | (go_at_call 74; exact calls_gr (HS.out _)) | (go_at_call 61; exact calls_gr (HB.out _)))) | quiet_step ((first | (go_at_call 74; exact calls_gr (HS.out _)) | (go_at_call 61; exact calls_gr (HB.out _)))))); refine wpQuiet_nil ?_; intro wa hw; obtain ⟨⟨_, hbwa⟩, hw⟩ := hw; subst hw; obtain ⟨hcwa, hfwa, hzwa⟩ := hbwa.rules; (try simp at hzwa))
            go_wp2
            go_ret
            refine ⟨?_, BW.trans hbwa⟩
            rw [refSigsB_bad HK.out (by rw [HP2.out]; rfl)]
            rfl
    · have hltz : ¬ (kk : Int) < (n : Int) := by omega
      have HE : Hid (sigsB zs = true) := by
        show sigsB zs = _
        rw [refSigsB_good (fun j hj => HA.out j (by have := HL.out; omega)), HL.out]
        simpa using h40
      go_wp2
      go_ret
      refine ⟨by rw [HE.out]; rfl, BW⟩
end Go.Proofs.YtliehlefpodhaaaDoor
