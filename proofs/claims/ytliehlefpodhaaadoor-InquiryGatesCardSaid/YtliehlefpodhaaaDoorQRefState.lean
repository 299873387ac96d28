/- state of the reference of layer 9. For every slice of signals. -/
import Derived.Test.YtliehlefpodhaaaDoorQState
import Derived.Test.YtliehlefpodhaaaDoorQRefLatest
namespace Go.Proofs.YtliehlefpodhaaaDoor
open Go.RowKit Go.Shelf

theorem lift_take {zs : List Sig} {k : Nat} (hk : k < zs.length) (p : Sig → Bool) : (zs.take (k + 1)).any p = ((zs.take k).any p || p zs[k]!) := by
  rw [List.take_succ_eq_append_getElem hk, List.any_append, ← getElem!_pos zs k hk]
  simp

set_option maxRecDepth 100000 in
set_option maxHeartbeats 8000000 in
theorem refState_any (A : Option Addr) (n c : Nat) (zs : List Sig) (file now : Int) (w : World) (hi : SigsIn w A n zs) :
    Calls Tryd.prog 63 #[.slice A n c, .int .i64 file, .int .i64 now] w fun e w' => e = .returned (.tuple #[.bool (frozenB zs file now), .bool (alertB zs file now)]) ∧ Gr w w' := by
  have HT := hid (fun W (k : Gr w W) => refLatest_any A n c zs file now 1 2 W (hi.gr k))
  have HT2 := hid (fun W (k : Gr w W) => refLatest_any A n c zs file now 4 5 W (hi.gr k))
  have HI := hid hi
  have HL := hid hi.rd.sig_len
  have hbig := hi.big
  have hbig' : (n : Int) ≤ 9223372036854775807 := by omega
  clear hi
  go_enter Tryd.func63, Tryd.ntmps63
  go_wp2_with (first
    | (go_at_call 78; (with_reducible refine (HT.out _ (Gr.refl w)).mono ?_); rintro e w1 ⟨fi, rfl, hl1, hg1⟩; have G1 := hid hg1; have HL1 := hid hl1.all; clear hl1 hg1)
    | (go_at_call 78; (with_reducible refine (HT2.out _ G1.out).mono ?_); rintro e w2 ⟨ai, rfl, hl2, hg2⟩; have G2 := hid (G1.out.trans hg2); have HL2 := hid hl2.all; clear hl2 hg2; rcases HL1.out with ⟨rfl, h1⟩ | ⟨j, hj, rfl, h1⟩; (case' inl => (have HF : Hid (frozenB zs file now = false) := (by show frozenB zs file now = false; unfold frozenB; rw [h1]); clear h1)); (case' inr => (have hjn : j < n := (by have := HL.out; omega); obtain ⟨_, b, off, hAe, hb, c0, c1, c2, c3, c4, c5⟩ := (HI.out.gr G2.out).rd.sig (k := j) hjn; subst hAe; obtain ⟨y, hy⟩ : ∃ y, zs[j]! = y := ⟨_, rfl⟩; have HF : Hid (frozenB zs file now = (y.kind == 1 && !zs.any (liftB file now y))) := (by show frozenB zs file now = _; unfold frozenB; rw [h1, hy]); rw [hy] at c0 c1 c2 c3 c4 c5; have HY := hid hy; have hj0 : (0 : Int) ≤ (j : Int) := (by omega); have hji : (j : Int) < (n : Int) := (by omega); clear h1 hy))))
  · have HST : Hid ((y.kind == 1) = (y.kind == 1 && !(zs.take 0).any (liftB file now y))) := by show (y.kind == 1) = _; simp
    have HWH : Hid ((zs.take n).any (liftB file now y) = zs.any (liftB file now y)) := by show (zs.take n).any _ = _; rw [← HL.out, List.take_length]
    have HCk := hid (fun k (hk : k < zs.length) => lift_take hk (liftB file now y))
    have HSy := hid (fun x W => refLater_any x y W)
    have HLb : Hid (∀ x, liftB file now y x = (x.kind == 3 && x.file == file && laterB x y && decide (x.day ≤ now) && decide (now ≤ x.till))) := fun _ => rfl
    obtain ⟨y0, y1, y2, y3, y4, y5⟩ := y
    have hrd := hid (And.intro c0 (And.intro c1 (And.intro c2 (And.intro c3 (And.intro c4 c5)))))
    dsimp only at HST HF hrd
    go_loopg [10, 11] n (fun gg s10 s11 wr => ∃ kk : Nat, kk ≤ n ∧ n - kk ≤ gg ∧ s11 = .int .i64 kk ∧ s10 = .bool (y4 == 1 && !(zs.take kk).any (liftB file now ⟨y0, y1, y2, y3, y4, y5⟩)) ∧ Gr w2 wr)
    case atStart => exact ⟨0, Nat.zero_le _, by omega, rfl, congrArg Value.bool HST.out, Gr.refl w2⟩
    case round =>
      obtain ⟨kk, hkk, hg, rfl, rfl, BW⟩ := hrel
      by_cases hlt : kk < n
      · obtain ⟨hk', b', off', hA', hb', g0, g1, g2, g3, g4, g5⟩ := (HI.out.gr (G2.out.trans BW)).rd.sig hlt
        cases hA'
        have HNx := hid (HCk.out kk hk')
        obtain ⟨x, hx⟩ : ∃ x, zs[kk]! = x := ⟨_, rfl⟩
        rw [hx] at g0 g1 g2 g3 g4 g5 HNx
        have HLx := hid (HLb.out x)
        have HS := hid (HSy.out x)
        clear hx hk' c0 c1 c2 c3 c4 c5
        have hkn : (kk : Int) < (n : Int) := by omega
        have hk0 : (0 : Int) ≤ (kk : Int) := by omega
        have HRow := hid (heap_alloc_new wr (.cells x.cells.toArray 67))
        obtain ⟨c0, c1, c2, c3, c4, c5⟩ := hrd.out
        have Q0 := GrW.cell (row_cell (row_cell c0 BW) ((Gr.refl wr).alloc (.cells x.cells.toArray 67)))
        have Q1 := GrW.cell (row_cell (row_cell c1 BW) ((Gr.refl wr).alloc (.cells x.cells.toArray 67)))
        have Q2 := GrW.cell (row_cell (row_cell c2 BW) ((Gr.refl wr).alloc (.cells x.cells.toArray 67)))
        have Q3 := GrW.cell (row_cell (row_cell c3 BW) ((Gr.refl wr).alloc (.cells x.cells.toArray 67)))
        have Q4 := GrW.cell (row_cell (row_cell c4 BW) ((Gr.refl wr).alloc (.cells x.cells.toArray 67)))
        have Q5 := GrW.cell (row_cell (row_cell c5 BW) ((Gr.refl wr).alloc (.cells x.cells.toArray 67)))
        clear c0 c1 c2 c3 c4 c5
        obtain ⟨e1, k1⟩ : ∃ e, (x.kind == 3) = e := ⟨_, rfl⟩
        obtain ⟨e2, k2⟩ : ∃ e, (x.file == file) = e := ⟨_, rfl⟩
        obtain ⟨lt, k3⟩ : ∃ e, laterB x ⟨y0, y1, y2, y3, y4, y5⟩ = e := ⟨_, rfl⟩
        obtain ⟨e3, k4⟩ : ∃ e, decide (x.day ≤ now) = e := ⟨_, rfl⟩
        obtain ⟨e4, k5⟩ : ∃ e, decide (now ≤ x.till) = e := ⟨_, rfl⟩
        rw [k1, k2, k3, k4, k5] at HLx
        rw [k3] at HS
        rw [HLx.out] at HNx
        clear HLx k3
        obtain ⟨r, hr⟩ : ∃ r, (y4 == 1 && !(zs.take kk).any (liftB file now ⟨y0, y1, y2, y3, y4, y5⟩)) = r := ⟨_, rfl⟩
        have HRn : Hid ((y4 == 1 && !(zs.take (kk + 1)).any (liftB file now ⟨y0, y1, y2, y3, y4, y5⟩)) = (r && !((((e1 && e2) && lt) && e3) && e4))) := by
          show (y4 == 1 && !(zs.take (kk + 1)).any (liftB file now ⟨y0, y1, y2, y3, y4, y5⟩)) = _
          rw [HNx.out, Bool.not_or, ← Bool.and_assoc, hr]
        rw [hr]
        clear hr HNx
        obtain ⟨x0, x1, x2, x3, x4, x5⟩ := x
        unfold Sig.cells at HRow Q0 Q1 Q2 Q3 Q4 Q5
        unfold Sig.val at HS
        dsimp only at *
        obtain ⟨r0, r1, r2, r3, r4, r5⟩ := row6 HRow.out
        cases r
        case' true => cases e1
        case' true.true => cases e2
        case' true.true.true => cases lt
        case' true.true.true.true => cases e3
        case' true.true.true.true.true => cases e4
        all_goals
          go_wp2
          (refine wp_region_gr (by kernel_rfl) (by kernel_rfl) ?_; (repeat (first | go_big_quiet_step ((first | (go_at_call 79; exact calls_gr (HS.out _)))) | quiet_step ((first | (go_at_call 79; exact calls_gr (HS.out _)))))); refine wpQuiet_nil ?_; intro wa hw; obtain ⟨⟨_, hbwa⟩, hw⟩ := hw; subst hw; obtain ⟨hcwa, hfwa, hzwa⟩ := hbwa.rules; (try simp at hzwa))
          go_wp2
          go_roundg (n - (kk + 1))
          case measure => omega
          case rel => exact ⟨kk + 1, by omega, by omega, by go_num, by rw [HRn.out]; first | rfl | simp, BW.trans (((Gr.refl wr).alloc _).trans hbwa)⟩
      · have hltz : ¬ (kk : Int) < (n : Int) := by omega
        have hkz : kk = n := by omega
        have HFin : Hid (frozenB zs file now = (y4 == 1 && !(zs.take kk).any (liftB file now ⟨y0, y1, y2, y3, y4, y5⟩))) := by
          show frozenB zs file now = _
          rw [HF.out, hkz, HWH.out]
        generalize (y4 == 1 && !(zs.take kk).any (liftB file now ⟨y0, y1, y2, y3, y4, y5⟩)) = fv at HFin ⊢
        clear c0 c1 c2 c3 c4 c5 hrd
        rcases HL2.out with ⟨rfl, h2⟩ | ⟨j2, hj2, rfl, h2⟩
        · have HAl : Hid (alertB zs file now = false) := by show alertB zs file now = false; unfold alertB; rw [h2]
          clear h2
          go_wp2
          (refine wp_region_gr (by kernel_rfl) (by kernel_rfl) ?_; (repeat (first | go_big_quiet_step ((fail)) | quiet_step ((fail)))); refine wpQuiet_nil ?_; intro wa hw; obtain ⟨⟨_, hbwa⟩, hw⟩ := hw; subst hw; obtain ⟨hcwa, hfwa, hzwa⟩ := hbwa.rules; (try simp at hzwa))
          go_wp2
          go_ret2
          exact ⟨by rw [HFin.out, HAl.out]; rfl, G2.out.trans (BW.trans hbwa)⟩
        · have hj2n : j2 < n := by have := HL.out; omega
          obtain ⟨_, b3, off3, hA3, _, m0, m1, m2, m3, m4, m5⟩ := (HI.out.gr (G2.out.trans BW)).rd.sig (k := j2) hj2n
          cases hA3
          obtain ⟨z, hz⟩ : ∃ z, zs[j2]! = z := ⟨_, rfl⟩
          have HAl : Hid (alertB zs file now = (z.kind == 4 && decide (now ≤ z.till))) := by show alertB zs file now = _; unfold alertB; rw [h2, hz]
          rw [hz] at m0 m1 m2 m3 m4 m5
          have hk0 : (0 : Int) ≤ (j2 : Int) := by omega
          have hki : (j2 : Int) < (n : Int) := by omega
          clear h2 hz
          obtain ⟨z0, z1, z2, z3, z4, z5⟩ := z
          dsimp only at *
          have p4 := GrW.cell m4
          have p5 := GrW.cell m5
          clear m0 m1 m2 m3 m4 m5
          obtain ⟨e4, k4⟩ : ∃ e, (z4 == 4) = e := ⟨_, rfl⟩
          rw [k4] at HAl
          cases e4
          all_goals
            go_wp2
            (refine wp_region_gr (by kernel_rfl) (by kernel_rfl) ?_; (repeat (first | go_big_quiet_step ((fail)) | quiet_step ((fail)))); refine wpQuiet_nil ?_; intro wa hw; obtain ⟨⟨_, hbwa⟩, hw⟩ := hw; subst hw; obtain ⟨hcwa, hfwa, hzwa⟩ := hbwa.rules; (try simp at hzwa))
            go_wp2
            go_ret2
            exact ⟨by rw [HFin.out, HAl.out]; rfl, G2.out.trans (BW.trans hbwa)⟩
  · go_loopg [10, 11] n (fun gg s10 s11 wr => ∃ kk : Nat, kk ≤ n ∧ n - kk ≤ gg ∧ s11 = .int .i64 kk ∧ s10 = .bool false ∧ Gr w2 wr)
    case atStart => exact ⟨0, Nat.zero_le _, by omega, rfl, rfl, Gr.refl w2⟩
    case round =>
      obtain ⟨kk, hkk, hg, rfl, rfl, BW⟩ := hrel
      by_cases hlt : kk < n
      · obtain ⟨hk', b', off', rfl, hb', c0, c1, c2, c3, c4, c5⟩ := (HI.out.gr (G2.out.trans BW)).rd.sig hlt
        obtain ⟨x, hx⟩ : ∃ x, zs[kk]! = x := ⟨_, rfl⟩
        rw [hx] at c0 c1 c2 c3 c4 c5
        clear hx hk'
        have hkn : (kk : Int) < (n : Int) := by omega
        have hk0 : (0 : Int) ≤ (kk : Int) := by omega
        obtain ⟨x0, x1, x2, x3, x4, x5⟩ := x
        dsimp only at *
        go_wp2
        (refine wp_region_gr (by kernel_rfl) (by kernel_rfl) ?_; (repeat (first | go_big_quiet_step ((fail)) | quiet_step ((fail)))); refine wpQuiet_nil ?_; intro wa hw; obtain ⟨⟨_, hbwa⟩, hw⟩ := hw; subst hw; obtain ⟨hcwa, hfwa, hzwa⟩ := hbwa.rules; (try simp at hzwa))
        go_wp2
        go_roundg (n - (kk + 1))
        case measure => omega
        case rel => exact ⟨kk + 1, by omega, by omega, by go_num, rfl, BW.trans (((Gr.refl wr).alloc _).trans hbwa)⟩
      · have hltz : ¬ (kk : Int) < (n : Int) := by omega
        have HFin := hid HF.out
        rcases HL2.out with ⟨rfl, h2⟩ | ⟨j2, hj2, rfl, h2⟩
        · have HAl : Hid (alertB zs file now = false) := by show alertB zs file now = false; unfold alertB; rw [h2]
          clear h2
          go_wp2
          (refine wp_region_gr (by kernel_rfl) (by kernel_rfl) ?_; (repeat (first | go_big_quiet_step ((fail)) | quiet_step ((fail)))); refine wpQuiet_nil ?_; intro wa hw; obtain ⟨⟨_, hbwa⟩, hw⟩ := hw; subst hw; obtain ⟨hcwa, hfwa, hzwa⟩ := hbwa.rules; (try simp at hzwa))
          go_wp2
          go_ret2
          exact ⟨by rw [HFin.out, HAl.out]; rfl, G2.out.trans (BW.trans hbwa)⟩
        · have hj2n : j2 < n := by have := HL.out; omega
          obtain ⟨_, b3, off3, hA3, _, m0, m1, m2, m3, m4, m5⟩ := (HI.out.gr (G2.out.trans BW)).rd.sig (k := j2) hj2n
          subst hA3
          obtain ⟨z, hz⟩ : ∃ z, zs[j2]! = z := ⟨_, rfl⟩
          have HAl : Hid (alertB zs file now = (z.kind == 4 && decide (now ≤ z.till))) := by show alertB zs file now = _; unfold alertB; rw [h2, hz]
          rw [hz] at m0 m1 m2 m3 m4 m5
          have hk0 : (0 : Int) ≤ (j2 : Int) := by omega
          have hki : (j2 : Int) < (n : Int) := by omega
          clear h2 hz
          obtain ⟨z0, z1, z2, z3, z4, z5⟩ := z
          dsimp only at *
          have p4 := GrW.cell m4
          have p5 := GrW.cell m5
          clear m0 m1 m2 m3 m4 m5
          obtain ⟨e4, k4⟩ : ∃ e, (z4 == 4) = e := ⟨_, rfl⟩
          rw [k4] at HAl
          cases e4
          all_goals
            go_wp2
            (refine wp_region_gr (by kernel_rfl) (by kernel_rfl) ?_; (repeat (first | go_big_quiet_step ((fail)) | quiet_step ((fail)))); refine wpQuiet_nil ?_; intro wa hw; obtain ⟨⟨_, hbwa⟩, hw⟩ := hw; subst hw; obtain ⟨hcwa, hfwa, hzwa⟩ := hbwa.rules; (try simp at hzwa))
            go_wp2
            go_ret2
            exact ⟨by rw [HFin.out, HAl.out]; rfl, G2.out.trans (BW.trans hbwa)⟩
end Go.Proofs.YtliehlefpodhaaaDoor
