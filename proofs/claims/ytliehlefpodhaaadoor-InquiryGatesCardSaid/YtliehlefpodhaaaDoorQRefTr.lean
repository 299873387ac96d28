/- traces of the reference of layer 9: the traces of a file, each put in behind those of its day. For every gate and valid inquiries. (Printed by gen_reftr.py.) -/
import Derived.BigRegion
import Derived.Test.YtliehlefpodhaaaDoorQOwnKept
import Derived.Test.YtliehlefpodhaaaDoorQRefInqs
namespace Go.Proofs.YtliehlefpodhaaaDoor
open Go.RowKit Go.Shelf Go.Sort

theorem fold_at (ls : List Lic) (ss : List Sig) (file now pu : Int) {zs : List Inq} {k : Nat} (hk : k < zs.length) (x : Inq) (hx : zs[k]! = x) :
    (zs.take (k + 1)).foldl (trStep ls ss file now pu) [] = trStep ls ss file now pu ((zs.take k).foldl (trStep ls ss file now pu) []) x := by rw [tracesL_take ls ss zs file now pu hk, hx]
theorem keptB_ref (file now : Int) (q : Inq) : keptB file now q = (q.file == file && (!decide (now < q.day) && !decide (q.day < now - 730))) := by
  unfold keptB inB
  rw [Bool.eq_iff_iff]
  simp
  omega
theorem hidB_ref (now : Int) (t : Trc) : hidB now t = (t.became != 0 || t.purpose != 1 || decide (t.day < now - 365)) := by
  unfold hidB
  congr 1
  rw [Bool.eq_iff_iff]
  simp
  omega

set_option maxRecDepth 100000 in
set_option maxHeartbeats 8000000 in
theorem refTr_any (g : Gat) (ls : List Lic) (ss : List Sig) (A : Option Addr) (n c : Nat) (zs : List Inq) (file now pu : Int) (w : World) (hg : GatIn w g ls ss) (hi : InqsIn w A n zs) (hn40 : n ≤ 40) (hn : 0 ≤ now ∧ now ≤ 100000) :
    Calls Tryd.prog 50 #[g.val, .slice A n c, .int .i64 file, .int .i64 now, .int .u8 pu] w fun e w' => ∃ B m d, e = .returned (.slice B m d) ∧ (Gr w w' ∧ TrOwn w w' B m d (tracesL ls ss zs file now pu)) := by
  have HA := hid (fun q W (k : Gr w W) => refAsk_any g ls ss q W (hg.gr k))
  have HI := hid hi
  have HL := hid hi.rd.inq_len
  have hbig := hi.big
  have hbig' : (n : Int) ≤ 9223372036854775807 := by omega
  obtain ⟨hn1, hn2⟩ := hn
  have hw730 : IntKind.i64.wrap (now - 730) = now - 730 := by rw [IntKind.wrap_i64]; omega
  have hw365 : IntKind.i64.wrap (now - 365) = now - 365 := by rw [IntKind.wrap_i64]; omega
  have HF : Hid (tracesL ls ss zs file now pu = zs.foldl (trStep ls ss file now pu) []) := tracesL_fold ls ss zs file now pu
  have HLn : Hid (∀ k, ((zs.take k).foldl (trStep ls ss file now pu) []).length ≤ 40) := fun k => by have h1 := fold_len (ls := ls) (ss := ss) (file := file) (day := now) (pu := pu) (zs.take k); have h2 := List.length_take_le' k zs; have := HL.out; omega
  have HDO : Hid (∀ k, DayOrd ((zs.take k).foldl (trStep ls ss file now pu) [])) := fun k => fold_days _
  obtain ⟨i0, hi0, hz0, hs0, hy0⟩ := info_parts info_trc
  have HI0 := hid hi0
  have HZ0 := hid hz0
  have HS0 := hid hs0
  have HY0 := hid hy0
  clear hg hi hi0 hz0 hs0 hy0
  obtain ⟨la, ln, lc, sa, sn, sc⟩ := g
  unfold Gat.val at *
  dsimp only at *
  go_enter Tryd.func50, Tryd.ntmps50
  go_wp2
  have HRG := hid (heap_alloc_new w (.cells #[.slice la ln lc, .slice sa sn sc] 25))
  have G1 : Hid (Gr w (w.alloc (.cells #[.slice la ln lc, .slice sa sn sc] 25))) := (Gr.refl w).alloc _
  have hsz1 : (w.alloc (.cells #[.slice la ln lc, .slice sa sn sc] 25)).heap.size = w.heap.size + 1 := by simp
  generalize w.alloc (.cells #[.slice la ln lc, .slice sa sn sc] 25) = w1 at HRG G1 hsz1 ⊢
  go_loopg [11, 12] n (fun gg s11 s12 wr => ∃ kk : Nat, kk ≤ n ∧ n - kk ≤ gg ∧ s12 = .int .i64 kk ∧ Gr w1 wr ∧ Hid (wr.ownsRow w1.heap.size 72 5 s11 ((zs.take kk).foldl (trStep ls ss file now pu) []).length (((zs.take kk).foldl (trStep ls ss file now pu) []).flatMap Trc.cells)))
  case atStart => exact ⟨0, Nat.zero_le _, by omega, rfl, Gr.refl w1, ⟨rfl, .inl ⟨rfl, rfl⟩⟩⟩
  case round =>
    obtain ⟨kk, hkk, hg, rfl, BW, HO⟩ := hrel
    by_cases hlt : kk < n
    · obtain ⟨hk', b', off', rfl, hb', c0, c1, c2, c3, c4, c5⟩ := (HI.out.gr (G1.out.trans BW)).rd.inq hlt
      obtain ⟨x, hx⟩ : ∃ x, zs[kk]! = x := ⟨_, rfl⟩
      have HNx := hid (fold_at ls ss file now pu hk' x hx)
      have hol := HLn.out kk
      have HD := hid (HDO.out kk)
      rw [hx] at c0 c1 c2 c3 c4 c5
      generalize (zs.take kk).foldl (trStep ls ss file now pu) [] = o at HO HNx hol HD
      have HAx := hid (HA.out x)
      have HKp := hid (keptB_ref file now x)
      have HHd := hid (hidB_ref now (trcOf ls ss x))
      have HSt : Hid (trStep ls ss file now pu o x = if keptB file now x && (pu == 5 || !hidB now (trcOf ls ss x)) then putT (trcOf ls ss x) o else o) := rfl
      have HTr : Hid (trcOf ls ss x = ⟨x.id, x.who, x.day, x.purpose, askN ls ss x⟩) := rfl
      clear hx hk'
      obtain ⟨a, ha⟩ : ∃ a, askN ls ss x = a := ⟨_, rfl⟩
      rw [ha] at HAx HTr
      clear ha
      generalize trcOf ls ss x = tr at HSt HHd HTr
      rw [HTr.out] at HHd
      generalize keptB file now x = kb at HSt HKp
      obtain ⟨e1, k1⟩ : ∃ e, (x.file == file) = e := ⟨_, rfl⟩
      have k1' : (x.file != file) = !e1 := by rw [← k1]; rfl
      rw [k1] at HKp
      have hkn : (kk : Int) < (n : Int) := by omega
      have hk0 : (0 : Int) ≤ (kk : Int) := by omega
      have g0 := row_cell_at (v := .slice la ln lc) (row_gr HRG.out BW) 0 rfl
      have g1 := row_cell_at (v := .slice sa sn sc) (row_gr HRG.out BW) 1 rfl
      have gz : w.heap.size < wr.heap.size := block_lt_of_cell g0
      obtain ⟨x0, x1, x2, x3, x4, x5⟩ := x
      unfold Inq.val at HAx
      dsimp only at *
      cases e1 with
      | false =>
        have hkb : kb = false := by rw [HKp.out]; rfl
        have HSk : Hid (trStep ls ss file now pu o ⟨x0, x1, x2, x3, x4, x5⟩ = o) := by show trStep ls ss file now pu o _ = o; rw [HSt.out, hkb]; rfl
        clear HSt HHd HTr HAx HKp hkb
        go_wp2
        go_roundg (n - (kk + 1))
        case measure => omega
        case rel => exact ⟨kk + 1, by omega, by omega, by go_num, BW.trans ((Gr.refl wr).alloc _), by unfold Hid; rw [HNx.out, HSk.out]; exact ownT_gr HO.out ((Gr.refl wr).alloc _)⟩
      | true =>
        by_cases d1 : now < x1
        · have d1' : decide (now < x1) = true := by simpa using d1
          have hkb : kb = false := by rw [HKp.out]; rw [d1']; rfl
          have HSk : Hid (trStep ls ss file now pu o ⟨x0, x1, x2, x3, x4, x5⟩ = o) := by show trStep ls ss file now pu o _ = o; rw [HSt.out, hkb]; rfl
          clear HSt HHd HTr HAx HKp hkb
          go_wp2
          go_roundg (n - (kk + 1))
          case measure => omega
          case rel => exact ⟨kk + 1, by omega, by omega, by go_num, BW.trans ((Gr.refl wr).alloc _), by unfold Hid; rw [HNx.out, HSk.out]; exact ownT_gr HO.out ((Gr.refl wr).alloc _)⟩
        · have d1' : decide (now < x1) = false := by simpa using d1
          by_cases d2 : x1 < now - 730
          · have d2' : decide (x1 < now - 730) = true := by simpa using d2
            have hkb : kb = false := by rw [HKp.out]; rw [d1', d2']; rfl
            have HSk : Hid (trStep ls ss file now pu o ⟨x0, x1, x2, x3, x4, x5⟩ = o) := by show trStep ls ss file now pu o _ = o; rw [HSt.out, hkb]; rfl
            clear HSt HHd HTr HAx HKp hkb
            go_wp2
            go_roundg (n - (kk + 1))
            case measure => omega
            case rel => exact ⟨kk + 1, by omega, by omega, by go_num, BW.trans ((Gr.refl wr).alloc _), by unfold Hid; rw [HNx.out, HSk.out]; exact ownT_gr HO.out ((Gr.refl wr).alloc _)⟩
          · have d2' : decide (x1 < now - 730) = false := by simpa using d2
            have hkb : kb = true := by rw [HKp.out, d1', d2']; rfl
            by_cases h5 : pu = 5
            · subst h5
              have HTk : Hid (trStep ls ss file now 5 o ⟨x0, x1, x2, x3, x4, x5⟩ = putT ⟨x0, x2, x1, x4, a⟩ o) := by show trStep ls ss file now 5 o _ = _; rw [HSt.out, hkb, HTr.out]; rfl
              clear HSt HHd HKp hkb
              go_wp2_with (first
                | (go_at_call 41; (with_reducible refine (HAx.out _ ?_).mono ?_); rotate_right; rintro e wd ⟨rfl, hbwd⟩; obtain ⟨hcwd, hfwd, hzwd⟩ := hbwd.rules; (try simp at hzwd); have hzwd_0 : wr.heap.size < wd.heap.size := (by omega); have hywd_0 : wr.heap.size ≤ wd.heap.size := (by omega))
                | (refine wpList_append_own _ rfl (.tmp 64) (.tmp 75) 36 rfl w1.heap.size 72 i0 (.agg #[.int .i64 0, .int .i64 0, .int .i64 0, .int .u8 0, .int .u8 0]) 5 32 Tryd.underlying36 HI0.out HZ0.out HS0.out HY0.out rfl (by decide) _ _ _ rfl (ownT_gr HO.out ((((Gr.refl wr).alloc _).trans hbwd).alloc _)) ⟨wd.heap.size, 0, none⟩ 1 1 [.int .i64 x0, .int .i64 x2, .int .i64 x1, .int .u8 x4, .int .u8 a] rfl rfl (cellsT_new wd _ _ _ rfl) (by intro u hu; simp at hu; rcases hu with rfl | rfl | rfl | rfl | rfl <;> rfl) (by have : maxLen = 9223372036854775807 := rfl; omega) (by omega) (by have h1 := BW.size; have h2 := hbwd.size; simp at h2 ⊢; omega) ?_; intro v' w9 hown' hgrow hnil; obtain ⟨g, cap, rfl, p1, p2, p3, p4, p5⟩ := put_own (t := ⟨x0, x2, x1, x4, a⟩) hown'; have HP9 := hid (And.intro p3 p5); have HW9 := hid (And.intro hown' hgrow); clear hown' hgrow hnil p3 p5))
              all_goals try (exact G1.out.trans (BW.trans ((Gr.refl wr).alloc _)); done)
              have hlo := hol
              obtain ⟨t, ht⟩ : ∃ t : Trc, t = ⟨x0, x2, x1, x4, a⟩ := ⟨_, rfl⟩
              have G9 : Hid (Gr w1 w9) := by
                refine (show Below w1.heap.size w1 _ from ((BW.trans ((Gr.refl wr).alloc _)).trans hbwd).alloc _).grown HW9.out.2 ?_ (fun k e => (HO.out.lt k e).1)
                have h1 := BW.size; have h2 := hbwd.size; simp at h2 ⊢; omega
              obtain ⟨m, hm⟩ : ∃ m, o.length = m := ⟨_, rfl⟩
              have HM := hid hm
              rw [hm] at p1 hol
              rw [hm]
              have HT := hid ht
              clear hm ht hcwd hfwd hzwd hzwd_0 hywd_0 g0 g1 c0 c1 c2 c3 c4 c5
              obtain ⟨wo, rfl⟩ : ∃ wo : World, wo = wr := ⟨_, rfl⟩
              have HO9 := hid HW9.out.1
              clear HW9
              go_loopg [15] m (fun gg s15 wq => ∃ (k : Nat) (d : Array Trc), s15 = .int .i64 k ∧ k ≤ m ∧ k ≤ gg ∧ Hid (PutQ t o k d ∧ SWK Trc.cells 5 w9 g 0 d wq))
              case atStart =>
                refine ⟨m, (o ++ [t]).toArray, by first | rfl | go_num, Nat.le_refl _, Nat.le_refl _, ?_, ?_⟩
                · have := PutQ.start t o; rwa [HM.out] at this
                · rw [HT.out]; exact SWK.start HP9.out.2
              case round =>
                obtain ⟨k, d, rfl, hk, hkg, HQ⟩ := hrel
                obtain ⟨hq1, hq2⟩ := HQ.out
                have hsz := hq1.size
                rw [HM.out] at hsz
                obtain ⟨hs1, hs2⟩ := hsz
                have HH : Hid (HoldsK Trc.cells 5 w9 g 0 (o ++ [t]).toArray) := HT.out ▸ HP9.out.2
                have hs0 : d.size = (o ++ [t]).toArray.size := by simp; have := HM.out; omega
                have HEnd : Hid ((k = 0 ∨ ¬ t.day < d[k - 1]!.day) → ∀ q, Gr w1 (wr.drewN q) ∧ (wr.drewN q).ownsRow w1.heap.size 72 5 (.slice (some ⟨g, 0, none⟩) (m + 1) cap) (putT t o).length ((putT t o).flatMap Trc.cells)) := fun h q => by
                  have e := hq1.done HD.out h
                  have hl : (putT t o).length = m + 1 := by rw [(putT_perm t o).length_eq]; simp; exact HM.out
                  refine ⟨gr_sortT G9.out (hq2.drewN q) HP9.out.1, ?_⟩
                  have h9 := HO9.out
                  rw [HM.out] at h9
                  have := own_back h9 (hq2.drewN q) ((hq2.drewN q).holds p4 HH.out hs0) hs1
                  rw [e] at this
                  rw [hl]
                  simpa using this
                by_cases h0 : k = 0
                · subst h0
                  have HF2 := hid (HEnd.out (.inl rfl))
                  clear hq1 hq2 hs1 hs0 HEnd
                  go_wp2_with fail
                  go_quiet (fail)
                  go_wp2
                  go_roundg (n - (kk + 1))
                  case measure => omega
                  case rel => exact ⟨kk + 1, by omega, by omega, by go_num, (HF2.out _).1, by unfold Hid; rw [HNx.out, HTk.out, ← HT.out]; exact (HF2.out _).2⟩
                · obtain ⟨j, rfl⟩ : ∃ j, k = j + 1 := ⟨k - 1, by omega⟩
                  have cA := swk_cell hq2 p4 HH.out hs0 (i := j + 1) hs2
                  have cB := swk_cell hq2 p4 HH.out hs0 (i := j) (by omega)
                  rw [hq1.at_] at cA
                  obtain ⟨y, hy⟩ : ∃ y, d[j]!.day = y := ⟨_, rfl⟩
                  obtain ⟨td, htd⟩ : ∃ td, t.day = td := ⟨_, rfl⟩
                  rw [hy] at cB
                  rw [htd] at cA
                  rw [htd, Nat.add_sub_cancel, hy] at HEnd
                  have hj0 : (0 : Int) ≤ (j : Int) := by omega
                  have hj1 : (0 : Int) ≤ (j : Int) + 1 := by omega
                  have hjp : (0 : Int) < (j : Int) + 1 := by omega
                  have hjm : (j : Int) < (m : Int) := by omega
                  have hjm1 : (j : Int) < (m : Int) + 1 := by omega
                  have hjm2 : (j : Int) + 1 < (m : Int) + 1 := by omega
                  have hjt : ((j : Int) + 1).toNat = j + 1 := by omega
                  have hjw : IntKind.i64.wrap ((j : Int) + 1 - 1) = (j : Int) := by rw [IntKind.wrap_i64]; omega
                  have hjw2 : IntKind.i64.wrap (j : Int) = (j : Int) := by rw [IntKind.wrap_i64]; omega
                  by_cases hlt2 : td < y
                  · have S2 := hid (fun q => (hq2.drewN q).swapped (row_trc w9 g (o ++ [t]).toArray HH.out p4) (j + 1) j hs2 (by omega))
                    have HPQ := hid (hq1.step (k := j) (by rw [htd, hy]; exact hlt2))
                    obtain ⟨⟨a0, a1, a2, a3, a4⟩, f0, f1, f2, f3, f4⟩ := holdsT_cells (hq2.holds p4 HH.out hs0) hs2
                    obtain ⟨⟨b0, b1, b2, b3, b4⟩, g0, g1, g2, g3, g4⟩ := holdsT_cells (hq2.holds p4 HH.out hs0) (i := j) (by omega)
                    obtain ⟨cI, hI⟩ : ∃ x, d[j + 1]! = x := ⟨_, rfl⟩
                    obtain ⟨cJ, hJ⟩ : ∃ x, d[j]! = x := ⟨_, rfl⟩
                    have HI2 := hid hI
                    have HJ2 := hid hJ
                    simp only [Nat.zero_add] at S2
                    rw [hI] at a0 a1 a2 a3 a4 S2
                    rw [hJ] at b0 b1 b2 b3 b4 S2 hy
                    rw [hq1.at_] at hI
                    subst hI
                    rw [htd] at a2
                    rw [hy] at b2
                    clear hq1 hq2 hs1 hs0 HEnd hJ HH cA cB
                    go_wp2_with fail
                    go_quiet (fail)
                    go_wp2_with fail
                    go_region
                    all_goals go_wp2
                    go_roundg j
                    case measure => omega
                    case rel =>
                      refine ⟨j, swp d (j + 1) j, by first | rfl | go_num, by omega, Nat.le_refl _, HPQ.out, ?_⟩
                      subst hy
                      subst htd
                      exact S2.out nq
                  · have HF2 := hid (HEnd.out (.inr hlt2))
                    have hle2 : y ≤ td := by omega
                    clear hq1 hq2 hs1 hs0 HEnd hlt2 hy htd
                    go_wp2_with fail
                    go_quiet (fail)
                    go_wp2
                    go_roundg (n - (kk + 1))
                    case measure => omega
                    case rel => exact ⟨kk + 1, by omega, by omega, by go_num, (HF2.out _).1, by unfold Hid; rw [HNx.out, HTk.out, ← HT.out]; exact (HF2.out _).2⟩
            · have h5' : (pu == 5) = false := by simpa using h5
              have h5n : (pu != 5) = true := by simpa using h5
              by_cases ea : a = 0
              case neg =>
                have ea' : (a == 0) = false := by simpa using ea
                have ea2 : (a != 0) = true := by simpa using ea
                have hhd : hidB now ⟨x0, x2, x1, x4, a⟩ = true := by rw [HHd.out]; rw [ea2]; rfl
                have HSk : Hid (trStep ls ss file now pu o ⟨x0, x1, x2, x3, x4, x5⟩ = o) := by show trStep ls ss file now pu o _ = o; rw [HSt.out, hkb, HTr.out, hhd, h5']; rfl
                clear HSt HHd HTr HKp hkb hhd
                go_wp2_with (first
                  | (go_at_call 41; (with_reducible refine (HAx.out _ ?_).mono ?_); rotate_right; rintro e wd ⟨rfl, hbwd⟩; obtain ⟨hcwd, hfwd, hzwd⟩ := hbwd.rules; (try simp at hzwd); have hzwd_0 : wr.heap.size < wd.heap.size := (by omega); have hywd_0 : wr.heap.size ≤ wd.heap.size := (by omega)))
                all_goals try (exact G1.out.trans (BW.trans ((Gr.refl wr).alloc _)); done)
                have gg := ((Gr.refl wr).alloc _).trans hbwd
                go_roundg (n - (kk + 1))
                case measure => omega
                case rel => exact ⟨kk + 1, by omega, by omega, by go_num, BW.trans gg, by unfold Hid; rw [HNx.out, HSk.out]; exact ownT_gr HO.out gg⟩
              case pos =>
                subst ea
                by_cases ep : x4 = 1
                case neg =>
                  have ep' : (x4 == 1) = false := by simpa using ep
                  have ep2 : (x4 != 1) = true := by simpa using ep
                  have hhd : hidB now ⟨x0, x2, x1, x4, 0⟩ = true := by rw [HHd.out]; rw [ep2]; simp
                  have HSk : Hid (trStep ls ss file now pu o ⟨x0, x1, x2, x3, x4, x5⟩ = o) := by show trStep ls ss file now pu o _ = o; rw [HSt.out, hkb, HTr.out, hhd, h5']; rfl
                  clear HSt HHd HTr HKp hkb hhd
                  go_wp2_with (first
                    | (go_at_call 41; (with_reducible refine (HAx.out _ ?_).mono ?_); rotate_right; rintro e wd ⟨rfl, hbwd⟩; obtain ⟨hcwd, hfwd, hzwd⟩ := hbwd.rules; (try simp at hzwd); have hzwd_0 : wr.heap.size < wd.heap.size := (by omega); have hywd_0 : wr.heap.size ≤ wd.heap.size := (by omega)))
                  all_goals try (exact G1.out.trans (BW.trans ((Gr.refl wr).alloc _)); done)
                  have gg := ((Gr.refl wr).alloc _).trans hbwd
                  go_roundg (n - (kk + 1))
                  case measure => omega
                  case rel => exact ⟨kk + 1, by omega, by omega, by go_num, BW.trans gg, by unfold Hid; rw [HNx.out, HSk.out]; exact ownT_gr HO.out gg⟩
                case pos =>
                  subst ep
                  by_cases d3 : x1 < now - 365
                  case pos =>
                    have d3' : decide (x1 < now - 365) = true := by simpa using d3
                    have hhd : hidB now ⟨x0, x2, x1, 1, 0⟩ = true := by rw [HHd.out]; rw [d3']; simp
                    have HSk : Hid (trStep ls ss file now pu o ⟨x0, x1, x2, x3, 1, x5⟩ = o) := by show trStep ls ss file now pu o _ = o; rw [HSt.out, hkb, HTr.out, hhd, h5']; rfl
                    clear HSt HHd HTr HKp hkb hhd
                    go_wp2_with (first
                      | (go_at_call 41; (with_reducible refine (HAx.out _ ?_).mono ?_); rotate_right; rintro e wd ⟨rfl, hbwd⟩; obtain ⟨hcwd, hfwd, hzwd⟩ := hbwd.rules; (try simp at hzwd); have hzwd_0 : wr.heap.size < wd.heap.size := (by omega); have hywd_0 : wr.heap.size ≤ wd.heap.size := (by omega)))
                    all_goals try (exact G1.out.trans (BW.trans ((Gr.refl wr).alloc _)); done)
                    have gg := ((Gr.refl wr).alloc _).trans hbwd
                    go_roundg (n - (kk + 1))
                    case measure => omega
                    case rel => exact ⟨kk + 1, by omega, by omega, by go_num, BW.trans gg, by unfold Hid; rw [HNx.out, HSk.out]; exact ownT_gr HO.out gg⟩
                  case neg =>
                    have d3' : decide (x1 < now - 365) = false := by simpa using d3
                    have hhd : hidB now ⟨x0, x2, x1, 1, 0⟩ = false := by rw [HHd.out, d3']; rfl
                    have HTk : Hid (trStep ls ss file now pu o ⟨x0, x1, x2, x3, 1, x5⟩ = putT ⟨x0, x2, x1, 1, 0⟩ o) := by show trStep ls ss file now pu o _ = _; rw [HSt.out, hkb, HTr.out, hhd, h5']; rfl
                    clear hhd
                    clear HSt HHd HKp hkb
                    go_wp2_with (first
                      | (go_at_call 41; (with_reducible refine (HAx.out _ ?_).mono ?_); rotate_right; rintro e wd ⟨rfl, hbwd⟩; obtain ⟨hcwd, hfwd, hzwd⟩ := hbwd.rules; (try simp at hzwd); have hzwd_0 : wr.heap.size < wd.heap.size := (by omega); have hywd_0 : wr.heap.size ≤ wd.heap.size := (by omega))
                      | (refine wpList_append_own _ rfl (.tmp 64) (.tmp 75) 36 rfl w1.heap.size 72 i0 (.agg #[.int .i64 0, .int .i64 0, .int .i64 0, .int .u8 0, .int .u8 0]) 5 32 Tryd.underlying36 HI0.out HZ0.out HS0.out HY0.out rfl (by decide) _ _ _ rfl (ownT_gr HO.out ((((Gr.refl wr).alloc _).trans hbwd).alloc _)) ⟨wd.heap.size, 0, none⟩ 1 1 [.int .i64 x0, .int .i64 x2, .int .i64 x1, .int .u8 1, .int .u8 0] rfl rfl (cellsT_new wd _ _ _ rfl) (by intro u hu; simp at hu; rcases hu with rfl | rfl | rfl | rfl | rfl <;> rfl) (by have : maxLen = 9223372036854775807 := rfl; omega) (by omega) (by have h1 := BW.size; have h2 := hbwd.size; simp at h2 ⊢; omega) ?_; intro v' w9 hown' hgrow hnil; obtain ⟨g, cap, rfl, p1, p2, p3, p4, p5⟩ := put_own (t := ⟨x0, x2, x1, 1, 0⟩) hown'; have HP9 := hid (And.intro p3 p5); have HW9 := hid (And.intro hown' hgrow); clear hown' hgrow hnil p3 p5))
                    all_goals try (exact G1.out.trans (BW.trans ((Gr.refl wr).alloc _)); done)
                    have hlo := hol
                    obtain ⟨t, ht⟩ : ∃ t : Trc, t = ⟨x0, x2, x1, 1, 0⟩ := ⟨_, rfl⟩
                    have G9 : Hid (Gr w1 w9) := by
                      refine (show Below w1.heap.size w1 _ from ((BW.trans ((Gr.refl wr).alloc _)).trans hbwd).alloc _).grown HW9.out.2 ?_ (fun k e => (HO.out.lt k e).1)
                      have h1 := BW.size; have h2 := hbwd.size; simp at h2 ⊢; omega
                    obtain ⟨m, hm⟩ : ∃ m, o.length = m := ⟨_, rfl⟩
                    have HM := hid hm
                    rw [hm] at p1 hol
                    rw [hm]
                    have HT := hid ht
                    clear hm ht hcwd hfwd hzwd hzwd_0 hywd_0 g0 g1 c0 c1 c2 c3 c4 c5
                    obtain ⟨wo, rfl⟩ : ∃ wo : World, wo = wr := ⟨_, rfl⟩
                    have HO9 := hid HW9.out.1
                    clear HW9
                    go_loopg [15] m (fun gg s15 wq => ∃ (k : Nat) (d : Array Trc), s15 = .int .i64 k ∧ k ≤ m ∧ k ≤ gg ∧ Hid (PutQ t o k d ∧ SWK Trc.cells 5 w9 g 0 d wq))
                    case atStart =>
                      refine ⟨m, (o ++ [t]).toArray, by first | rfl | go_num, Nat.le_refl _, Nat.le_refl _, ?_, ?_⟩
                      · have := PutQ.start t o; rwa [HM.out] at this
                      · rw [HT.out]; exact SWK.start HP9.out.2
                    case round =>
                      obtain ⟨k, d, rfl, hk, hkg, HQ⟩ := hrel
                      obtain ⟨hq1, hq2⟩ := HQ.out
                      have hsz := hq1.size
                      rw [HM.out] at hsz
                      obtain ⟨hs1, hs2⟩ := hsz
                      have HH : Hid (HoldsK Trc.cells 5 w9 g 0 (o ++ [t]).toArray) := HT.out ▸ HP9.out.2
                      have hs0 : d.size = (o ++ [t]).toArray.size := by simp; have := HM.out; omega
                      have HEnd : Hid ((k = 0 ∨ ¬ t.day < d[k - 1]!.day) → ∀ q, Gr w1 (wr.drewN q) ∧ (wr.drewN q).ownsRow w1.heap.size 72 5 (.slice (some ⟨g, 0, none⟩) (m + 1) cap) (putT t o).length ((putT t o).flatMap Trc.cells)) := fun h q => by
                        have e := hq1.done HD.out h
                        have hl : (putT t o).length = m + 1 := by rw [(putT_perm t o).length_eq]; simp; exact HM.out
                        refine ⟨gr_sortT G9.out (hq2.drewN q) HP9.out.1, ?_⟩
                        have h9 := HO9.out
                        rw [HM.out] at h9
                        have := own_back h9 (hq2.drewN q) ((hq2.drewN q).holds p4 HH.out hs0) hs1
                        rw [e] at this
                        rw [hl]
                        simpa using this
                      by_cases h0 : k = 0
                      · subst h0
                        have HF2 := hid (HEnd.out (.inl rfl))
                        clear hq1 hq2 hs1 hs0 HEnd
                        go_wp2_with fail
                        go_quiet (fail)
                        go_wp2
                        go_roundg (n - (kk + 1))
                        case measure => omega
                        case rel => exact ⟨kk + 1, by omega, by omega, by go_num, (HF2.out _).1, by unfold Hid; rw [HNx.out, HTk.out, ← HT.out]; exact (HF2.out _).2⟩
                      · obtain ⟨j, rfl⟩ : ∃ j, k = j + 1 := ⟨k - 1, by omega⟩
                        have cA := swk_cell hq2 p4 HH.out hs0 (i := j + 1) hs2
                        have cB := swk_cell hq2 p4 HH.out hs0 (i := j) (by omega)
                        rw [hq1.at_] at cA
                        obtain ⟨y, hy⟩ : ∃ y, d[j]!.day = y := ⟨_, rfl⟩
                        obtain ⟨td, htd⟩ : ∃ td, t.day = td := ⟨_, rfl⟩
                        rw [hy] at cB
                        rw [htd] at cA
                        rw [htd, Nat.add_sub_cancel, hy] at HEnd
                        have hj0 : (0 : Int) ≤ (j : Int) := by omega
                        have hj1 : (0 : Int) ≤ (j : Int) + 1 := by omega
                        have hjp : (0 : Int) < (j : Int) + 1 := by omega
                        have hjm : (j : Int) < (m : Int) := by omega
                        have hjm1 : (j : Int) < (m : Int) + 1 := by omega
                        have hjm2 : (j : Int) + 1 < (m : Int) + 1 := by omega
                        have hjt : ((j : Int) + 1).toNat = j + 1 := by omega
                        have hjw : IntKind.i64.wrap ((j : Int) + 1 - 1) = (j : Int) := by rw [IntKind.wrap_i64]; omega
                        have hjw2 : IntKind.i64.wrap (j : Int) = (j : Int) := by rw [IntKind.wrap_i64]; omega
                        by_cases hlt2 : td < y
                        · have S2 := hid (fun q => (hq2.drewN q).swapped (row_trc w9 g (o ++ [t]).toArray HH.out p4) (j + 1) j hs2 (by omega))
                          have HPQ := hid (hq1.step (k := j) (by rw [htd, hy]; exact hlt2))
                          obtain ⟨⟨a0, a1, a2, a3, a4⟩, f0, f1, f2, f3, f4⟩ := holdsT_cells (hq2.holds p4 HH.out hs0) hs2
                          obtain ⟨⟨b0, b1, b2, b3, b4⟩, g0, g1, g2, g3, g4⟩ := holdsT_cells (hq2.holds p4 HH.out hs0) (i := j) (by omega)
                          obtain ⟨cI, hI⟩ : ∃ x, d[j + 1]! = x := ⟨_, rfl⟩
                          obtain ⟨cJ, hJ⟩ : ∃ x, d[j]! = x := ⟨_, rfl⟩
                          have HI2 := hid hI
                          have HJ2 := hid hJ
                          simp only [Nat.zero_add] at S2
                          rw [hI] at a0 a1 a2 a3 a4 S2
                          rw [hJ] at b0 b1 b2 b3 b4 S2 hy
                          rw [hq1.at_] at hI
                          subst hI
                          rw [htd] at a2
                          rw [hy] at b2
                          clear hq1 hq2 hs1 hs0 HEnd hJ HH cA cB
                          go_wp2_with fail
                          go_quiet (fail)
                          go_wp2_with fail
                          go_region
                          all_goals go_wp2
                          go_roundg j
                          case measure => omega
                          case rel =>
                            refine ⟨j, swp d (j + 1) j, by first | rfl | go_num, by omega, Nat.le_refl _, HPQ.out, ?_⟩
                            subst hy
                            subst htd
                            exact S2.out nq
                        · have HF2 := hid (HEnd.out (.inr hlt2))
                          have hle2 : y ≤ td := by omega
                          clear hq1 hq2 hs1 hs0 HEnd hlt2 hy htd
                          go_wp2_with fail
                          go_quiet (fail)
                          go_wp2
                          go_roundg (n - (kk + 1))
                          case measure => omega
                          case rel => exact ⟨kk + 1, by omega, by omega, by go_num, (HF2.out _).1, by unfold Hid; rw [HNx.out, HTk.out, ← HT.out]; exact (HF2.out _).2⟩
    · have hkn : ¬ (kk : Int) < (n : Int) := by omega
      have hfull : (zs.take kk) = zs := by rw [show kk = n by omega, ← HL.out, List.take_length]
      have HO8 := HO.out
      rw [hfull, ← HF.out] at HO8
      obtain ⟨B, d, rfl, hTO⟩ := trOwn_of HO8
      have HTO := hid (hTO.mono (w0 := w) (by omega))
      clear hTO HO8 HO
      go_wp2
      go_ret
      exact ⟨B, _, d, rfl, G1.out.trans BW, HTO.out⟩
end Go.Proofs.YtliehlefpodhaaaDoor
