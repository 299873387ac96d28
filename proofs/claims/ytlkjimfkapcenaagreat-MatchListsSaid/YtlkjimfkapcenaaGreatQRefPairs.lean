/- Pairs of the reference of layer 1: the pairs that are surely, and perhaps, one person. For every list, and all rules. Great of the reference of layer 1: whether records are more than the statements consider. For every list. SameRecords of the reference: at two lists that hold the same it is true. For all such lists. The pairs of a list, as a law asks for them: sorted, each pair what both are, the same in any order, and with one record fewer: plain functions. No program in sight. -/
import Derived.Test.YtlkjimfkapcenaaGreatQWithin
import Derived.Test.YtlkjimfkapcenaaGreatQBirths
import Derived.Test.YtlkjimfkapcenaaGreatQRegGr
import Derived.Test.YtlkjimfkapcenaaGreatQCompareOne
import Derived.Test.YtlkjimfkapcenaaGreatQPairSpec
namespace Go.Proofs.YtlkjimfkapcenaaGreat
open Go.RowKit

theorem ordE_srt {es : List Elt} (h : ((es.map (·.r)).map (·.id)).Nodup) : es.Pairwise (fun x y => x.r.id ≠ y.r.id) ∧ (ordE es).map (·.r) = srt (es.map (·.r)) := by
  have h1 : es.Pairwise (fun x y => x.r.id ≠ y.r.id) := by
    rw [List.map_map] at h
    unfold List.Nodup at h
    rw [List.pairwise_map] at h
    exact h
  refine ⟨h1, srt_eq ((ordE_perm es).map _) ?_⟩
  rw [List.pairwise_map]
  exact ordE_sorted h1
theorem field_vd (a b c d e : Int) (w : World) : (Instr.field 55 (.agg #[.int .u8 a, .int .u8 b, .int .u8 c, .int .u8 d, .int .u8 e]) 4).run Tryz.prog w = .ok (.int .u8 e) w := by kernel_rfl
/-- A place of an ordered list, as it lies. -/
theorem rd_rdE {w : World} {A : Option Addr} {n : Nat} {es : List Elt} (h : Rd w 8 A n (es.flatMap Elt.cells)) : RdE w A n es := by
  have hl : es.length = n := by
    have := h.len
    rw [flatMap_len Elt.len] at this
    omega
  refine ⟨hl, fun hn => ?_⟩
  obtain ⟨b, off, hA, hb, hc⟩ := h.2 hn
  refine ⟨b, off, hA, hb, fun j e he q u hu => ?_⟩
  rw [Nat.add_assoc]
  refine hc _ _ (flatE_cell he hu ?_)
  have := (List.getElem?_eq_some_iff.1 hu).1
  rw [Elt.len] at this
  exact this

theorem cells2at {W : World} {g : Nat} {t : TypeId} {v0 v1 : Value} (h : W.heap[g]? = some (.cells #[v0, v1] t (0, 0))) : W.cell? ⟨g, 0, none⟩ = some v0 ∧ W.cell? ⟨g, 1, none⟩ = some v1 := ⟨row_cell_at h 0 rfl, row_cell_at h 1 rfl⟩
theorem pairsK_lenB (r : Rul) (rs : List Rcd) (v : Int) {i k n : Nat} (hi : i ≤ n) (hk : k ≤ n) (hn : n ≤ 24) : (pairsK r rs v (i * n + k)).length ≤ 1000 := by
  have h1 := pairsK_len r rs v (i * n + k)
  have h2 : i * n ≤ 24 * 24 := Nat.mul_le_mul (by omega) hn
  omega

/-- What Pairs hands back. -/
def PairsRet (r : Rul) (rs : List Rcd) (w : World) (e : Ending) (w' : World) : Prop :=
  ∃ v1 v2, e = .returned (.tuple #[v1, v2, .int .i64 (pairErr r rs)]) ∧ PairsIn w' v1 (pairsN r rs 2) ∧ PairsIn w' v2 (pairsN r rs 1) ∧ Gr w w'
set_option maxRecDepth 100000 in
set_option maxHeartbeats 8000000 in
theorem refPairs_any (r : Rul) (es : List Elt) (A : Option Addr) (cap n : Nat) (w : World) (hI : RecsIn w A n es) :
    Calls Tryz.prog 7 #[r.val, .slice A n cap] w (PairsRet r (es.map (·.r)) w) := by
  have HRE := hid (fun W (g : Gr w W) => refRecs_any A n cap es W (hI.gr g))
  have HU := hid (fun W => refRules_any r W)
  have HNil : Hid (∀ W, PairsIn W (.slice none 0 0) []) := hid (fun W => ⟨none, 0, rfl, Rd.nil_⟩)
  obtain ⟨rs, hrs⟩ : ∃ rs, rs = es.map (·.r) := ⟨_, rfl⟩
  rw [← hrs] at HRE ⊢
  obtain ⟨Q, hQ⟩ : ∃ Q, Q = PairsRet r rs w := ⟨_, rfl⟩
  rw [← hQ]
  have HQ := hid hQ
  clear hQ
  cases hro : r.ok with
  | false =>
    have he : pairErr r rs = 10 := by unfold pairErr; rw [hro]; rfl
    have h1 : ∀ v, pairsN r rs v = [] := fun v => by unfold pairsN; rw [he]; rfl
    have HE := hid (And.intro he h1)
    rw [hro] at HU
    clear hI HRE he h1 hro
    obtain ⟨l, dg, dy, t⟩ := r
    unfold Rul.val at *
    dsimp only at *
    go_enter Tryz.func7, Tryz.ntmps7
    go_wp2_with ((go_at_call 18; (with_reducible refine (HU.out _).mono ?_); rotate_right; rintro e w1 ⟨rfl, hbw1⟩; obtain ⟨hcw1, hfw1, hzw1⟩ := hbw1.rules; (try simp at hzw1)))
    go_ret3
    rw [HQ.out]
    exact ⟨.slice none 0 0, .slice none 0 0, by rw [HE.out.1]; rfl, by rw [HE.out.2]; exact HNil.out _, by rw [HE.out.2]; exact HNil.out _, by (repeat (first | with_reducible exact Gr.refl _ | with_reducible refine Gr.trans ?_ hbw1 | with_reducible refine Gr.alloc ?_ _ | with_reducible refine Gr.setCell ?_ (by simp) _ | with_reducible refine Gr.setCell ?_ (by simp; omega) _ | with_reducible refine Gr.drew ?_ | with_reducible refine Gr.drewN ?_ _))⟩
  | true =>
    have he : pairErr r rs = recsE rs := by unfold pairErr; rw [hro]; rfl
    have HE := hid he
    rw [hro] at HU
    by_cases hz : recsE rs = 0
    · rw [hz] at HRE
      obtain ⟨h24, hall, hnd⟩ := recsE_zero hz
      have h1 : ∀ v, pairsN r rs v = pairsK r (srt rs) v (n * n) := fun v => by
        unfold pairsN
        rw [he, if_pos hz, hrs, List.length_map, hI.len]
      have HE1 := hid h1
      have hin := hI.len
      have hl24 : n ≤ 24 := by rw [hrs, List.length_map, hin] at h24; exact h24
      rw [hrs] at hnd
      obtain ⟨hap, hos⟩ := ordE_srt hnd
      rw [← hrs] at hos
      have HOR := hid (fun W (g : Gr w W) => refOrdE_any A n cap es W (hI.gr g) (by omega) hap)
      have HSL : Hid ((srt rs).length = n) := by
        show _ = _
        rw [(srt_perm rs).length_eq, hrs, List.length_map, hin]
      have HSO : Hid ((srt rs).Pairwise (fun x y => x.id < y.id)) := srt_sorted (by rw [hrs]; exact hnd)
      have HEL : Hid (∀ e ∈ ordE es, e.r.ok = true ∧ EltIn w e) := fun e he2 => by
        have hm := (ordE_perm es).mem_iff.1 he2
        exact ⟨hall _ (by rw [hrs]; exact List.mem_map_of_mem hm), hI.each e hm⟩
      have HOS := hid hos
      have hC := hid (fun (e1 e2 : Elt) (h1 : e1.r.ok = true ∧ EltIn w e1) (h2 : e2.r.ok = true ∧ EltIn w e2) W (g : Gr w W) => refCompare_one r e1.r e2.r e1.A e1.n e1.c e1.B e1.m e1.d e2.A e2.n e2.c e2.B e2.m e2.d W ((good_of h1.2.at_ h1.2.cap.1 h1.2.cap.2 h1.2.sfx h1.1).gr g) ((good_of h2.2.at_ h2.2.cap.1 h2.2.cap.2 h2.2.sfx h2.1).gr g) hro)
      have n0 : (n : Int) ≤ 24 := by omega
      have hn24 := hl24
      obtain ⟨i0, hi0, hz0, hs0, hy0⟩ := info_parts info_pair
      have HI0 := hid hi0
      have HZ0 := hid hz0
      have HS0 := hid hs0
      have HY0 := hid hy0
      have HZ := hid hz
      clear hi0 hz0 hs0 hy0 hI he h1 hall hnd hro hap hos hz h24 hrs hin
      unfold RefOrdERet at HOR
      generalize srt rs = ts at *
      generalize ordE es = zs at *
      obtain ⟨l, dg, dy, t⟩ := r
      unfold Rul.val at *
      dsimp only at *
      have hfd := field_vd
      go_enter Tryz.func7, Tryz.ntmps7
      go_wp2_with (first
        | (go_at_call 18; (with_reducible refine (HU.out _).mono ?_); rotate_right; rintro e w1 ⟨rfl, hbw1⟩; obtain ⟨hcw1, hfw1, hzw1⟩ := hbw1.rules; (try simp at hzw1); have hzw1_0 : w.heap.size < w1.heap.size := (by omega); have hyw1_0 : w.heap.size ≤ w1.heap.size := (by omega))
        | (go_at_call 19; (with_reducible refine (HRE.out _ ?_).mono ?_); rotate_right; rintro e w2 ⟨rfl, hbw2⟩; obtain ⟨hcw2, hfw2, hzw2⟩ := hbw2.rules; (try simp at hzw2); have hzw2_0 : w.heap.size < w2.heap.size := (by omega); have hyw2_0 : w.heap.size ≤ w2.heap.size := (by omega))
        | (go_at_call 20; (with_reducible refine (HOR.out _ ?_).mono ?_); rotate_right; rintro e w3 ⟨A2, c2, rfl, hbw3, hrd⟩; have HRD := hid hrd; clear hrd; obtain ⟨hcw3, hfw3, hzw3⟩ := hbw3.rules; (try simp at hzw3); have hzw3_0 : w.heap.size < w3.heap.size := (by omega)))
      · have G3 : Gr w w3 := ((Gr.refl w).alloc _).trans (hbw1.trans (hbw2.trans hbw3))
        have HG3 := hid G3
        have hbox : w3.heap[w.heap.size]? = some (.cells #[.int .i64 l, .int .i64 dg, .int .i64 dy, .int .i64 t] 23 (0, 0)) := row_gr (heap_alloc_new w _) (hbw1.trans (hbw2.trans hbw3))
        have HBOX := hid hbox
        have HT0 : Hid (Two2 w3 w3.heap.size (.slice none 0 0) (.slice none 0 0) (pairsK ⟨l, dg, dy, t⟩ ts 2 (0 * n)) (pairsK ⟨l, dg, dy, t⟩ ts 1 (0 * n))) := by
          rw [Nat.zero_mul]
          exact ⟨World.ownsRow_nil _ _ _ _, World.ownsRow_nil _ _ _ _, .inl rfl⟩
        clear hbw1 hbw2 hbw3 hcw1 hfw1 hzw1 hcw2 hfw2 hzw2 hcw3 hfw3 hzw3 G3 hbox
        go_loopg [8, 9, 10] n (fun gg s8 s9 s10 wr => ∃ i : Nat, i ≤ n ∧ n - i ≤ gg ∧ s10 = .int .i64 i ∧ Gr w3 wr ∧ Hid (Two2 wr w3.heap.size s8 s9 (pairsK ⟨l, dg, dy, t⟩ ts 2 (i * n)) (pairsK ⟨l, dg, dy, t⟩ ts 1 (i * n))))
        case atStart => exact ⟨0, Nat.zero_le _, by omega, rfl, Gr.refl _, HT0⟩
        case round =>
          clear HT0
          obtain ⟨i, hi, hgi, rfl, BW, HT⟩ := hrel
          by_cases hil : i < n
          · have hiz : (i : Int) < (n : Int) := by omega
            have hi0 : (0 : Int) ≤ (i : Int) := by omega
            obtain ⟨wo, rfl⟩ : ∃ wo : World, wo = wr := ⟨_, rfl⟩
            go_wp2_with fail
            go_loopg [8, 9, 11] n (fun gg s8 s9 s11 wr => ∃ k : Nat, i + 1 ≤ k ∧ k ≤ n ∧ n - k ≤ gg ∧ s11 = .int .i64 k ∧ Gr w3 wr ∧ Hid (Two2 wr w3.heap.size s8 s9 (pairsK ⟨l, dg, dy, t⟩ ts 2 (i * n + k)) (pairsK ⟨l, dg, dy, t⟩ ts 1 (i * n + k))))
            case atStart =>
              refine ⟨i + 1, Nat.le_refl _, by omega, by omega, by go_num, BW, ?_⟩
              have hl := HSL.out
              have e : ∀ v, pairsK ⟨l, dg, dy, t⟩ ts v (i * n + (i + 1)) = pairsK ⟨l, dg, dy, t⟩ ts v (i * n) := fun v => by
                have := pairsR_low (r := ⟨l, dg, dy, t⟩) (v := v) HSO.out (i := i) (by omega) (i + 1) (Nat.le_refl _)
                rwa [hl] at this
              rw [e, e]
              exact HT
            case round =>
              clear HT BW
              obtain ⟨k, hik, hk, hgk, rfl, BW, HT⟩ := hrel
              by_cases hlt : k < n
              · have hltz : (k : Int) < (n : Int) := by omega
                have hk0 : (0 : Int) ≤ (k : Int) := by omega
                have hl := HSL.out
                have hst := hid (fun v => (by
                  have h1 := pairsR_at (r := ⟨l, dg, dy, t⟩) (rs := ts) (v := v) (i := i) (k := k) (by omega)
                  rw [pairAt_up HSO.out (by omega) (by omega), hl] at h1
                  exact h1 : pairsK ⟨l, dg, dy, t⟩ ts v (i * n + (k + 1)) = pairsK ⟨l, dg, dy, t⟩ ts v (i * n + k) ++ if (cmpN ⟨l, dg, dy, t⟩ ts[i]! ts[k]!).vd = v then [(ts[i]!.id, ts[k]!.id)] else []))
                have hzl : zs.length = n := (rd_rdE HRD.out).1
                have hti : ∀ j, j < n → ts[j]! = zs[j]!.r := fun j hj => by
                  rw [← HOS.out, getElem!_pos _ j (by rw [List.length_map]; omega), getElem!_pos zs j (by omega)]
                  simp
                rw [hti i hil, hti k hlt] at hst
                obtain ⟨b, off, rfl, hb, hh⟩ := (RdE.gr (rd_rdE HRD.out) BW).2 (by omega)
                have he1 : zs[i]? = some zs[i]! := by rw [getElem!_pos zs i (by omega)]; exact List.getElem?_eq_getElem _
                have he2 : zs[k]? = some zs[k]! := by rw [getElem!_pos zs k (by omega)]; exact List.getElem?_eq_getElem _
                have S1 := (hh _ _ he1).all
                have S2 := (hh _ _ he2).all
                have hc1 := hC.out zs[i]! zs[k]! (HEL.out _ (mem_get (by omega))) (HEL.out _ (mem_get (by omega)))
                generalize zs[i]! = x at hst S1 hc1
                generalize zs[k]! = y at hst S2 hc1
                clear hh he1 he2 hti hzl hl
                obtain ⟨⟨i1, N1, u1, l1, h1, p1, t1, Y1⟩, A3, n3, c3, B3, m3, d3⟩ := x
                obtain ⟨⟨i2, N2, u2, l2, h2, p2, t2, Y2⟩, A4, n4, c4, B4, m4, d4⟩ := y
                unfold Rcd.val at hc1
                dsimp only at hst S1 S2 hc1
                have hcv := cmpN_range ⟨l, dg, dy, t⟩ ⟨i1, N1, u1, l1, h1, p1, t1, Y1⟩ ⟨i2, N2, u2, l2, h2, p2, t2, Y2⟩
                generalize cmpN ⟨l, dg, dy, t⟩ ⟨i1, N1, u1, l1, h1, p1, t1, Y1⟩ ⟨i2, N2, u2, l2, h2, p2, t2, Y2⟩ = cv at hst hc1 hcv
                obtain ⟨nm, nu, bi, pl, vd⟩ := cv
                unfold Cmp.val at hc1
                dsimp only at hst hc1 hcv
                obtain ⟨_, _, _, _, hvd⟩ := hcv
                have hvd3 : vd = 0 ∨ vd = 1 ∨ vd = 2 := by omega
                clear hvd
                have HC1 := hid hc1
                clear hc1
                obtain ⟨a0, a1, a2, a3, a4, a5, a6, a7⟩ := S1
                obtain ⟨b0, b1, b2, b3, b4, b5, b6, b7⟩ := S2
                go_upto_region 14 with fail
                go_cut [12] (fun s12 wx => ∃ g12 : Nat, s12 = .pointer (some ⟨g12, 0, none⟩) ∧ Gr wr wx ∧ wx.heap[g12]? = some (.cells #[.int .i64 i1, .int .i64 i2] 53 (0, 0)))
                case first =>
                  go_region
                  all_goals
                    go_wp2
                    go_meet
                    exact ⟨_, rfl, by (repeat (first | with_reducible exact Gr.refl _ | with_reducible refine Gr.alloc ?_ _ | with_reducible refine Gr.setCell ?_ (by simp) _ | with_reducible refine Gr.setCell ?_ (by simp; omega) _ | with_reducible refine Gr.drew ?_ | with_reducible refine Gr.drewN ?_ _)), heap_alloc_new wr _⟩
                case rest =>
                  obtain ⟨g12, rfl, GW, F12⟩ := hcut
                  obtain ⟨W6, rfl⟩ : ∃ W6 : World, W6 = wc := ⟨_, rfl⟩
                  have B6 := hid (BW.trans GW)
                  have HT6 := hid (Two2.gr HT.out GW)
                  have zb : w.heap.size < W6.heap.size := (Array.getElem?_eq_some_iff.1 (row_gr HBOX.out B6.out)).1
                  have zw : w3.heap.size ≤ W6.heap.size := B6.out.size
                  have HF12 := hid F12
                  obtain ⟨r0, r1, r2, r3⟩ := row4 (row_gr HBOX.out B6.out)
                  have g0 := GrW.cell (row_cell a0 GW)
                  have g1 := GrW.cell (row_cell a1 GW)
                  have g2 := GrW.cell (row_cell a2 GW)
                  have g3 := GrW.cell (row_cell a3 GW)
                  have g4 := GrW.cell (row_cell a4 GW)
                  have g5 := GrW.cell (row_cell a5 GW)
                  have g6 := GrW.cell (row_cell a6 GW)
                  have g7 := GrW.cell (row_cell a7 GW)
                  have k0 := GrW.cell (row_cell b0 GW)
                  have k1 := GrW.cell (row_cell b1 GW)
                  have k2 := GrW.cell (row_cell b2 GW)
                  have k3 := GrW.cell (row_cell b3 GW)
                  have k4 := GrW.cell (row_cell b4 GW)
                  have k5 := GrW.cell (row_cell b5 GW)
                  have k6 := GrW.cell (row_cell b6 GW)
                  have k7 := GrW.cell (row_cell b7 GW)
                  have HCC : Hid (∀ p : GrW W6, Calls Tryz.prog 21 #[.agg #[.int .i64 l, .int .i64 dg, .int .i64 dy, .int .i64 t], .agg #[.int .i64 i1, .slice A3 n3 c3, .int .u8 u1, .int .i64 l1, .int .i64 h1, .string p1, .bool t1, .slice B3 m3 d3], .agg #[.int .i64 i2, .slice A4 n4 c4, .int .u8 u2, .int .i64 l2, .int .i64 h2, .string p2, .bool t2, .slice B4 m4 d4]] p.W fun e w' => e = .returned (.agg #[.int .u8 nm, .int .u8 nu, .int .u8 bi, .int .u8 pl, .int .u8 vd]) ∧ Gr p.W w') := fun p => HC1.out p.W (HG3.out.trans (B6.out.trans p.gr))
                  clear GW F12 HT a0 a1 a2 a3 a4 a5 a6 a7 b0 b1 b2 b3 b4 b5 b6 b7 hb
                  rcases hvd3 with rfl | rfl | rfl
                  · have HST : Hid (pairsK ⟨l, dg, dy, t⟩ ts 2 (i * n + (k + 1)) = pairsK ⟨l, dg, dy, t⟩ ts 2 (i * n + k) ∧ pairsK ⟨l, dg, dy, t⟩ ts 1 (i * n + (k + 1)) = pairsK ⟨l, dg, dy, t⟩ ts 1 (i * n + k)) := ⟨by rw [hst.out]; simp, by rw [hst.out]; simp⟩
                    clear hst
                    go_wp2_with fail
                    (refine wp_region_gr (by kernel_rfl) (by kernel_rfl) ?_; (repeat (first | go_big_quiet_step ((go_at_call 21; exact calls_gr (HCC.out _))) | quiet_step ((go_at_call 21; exact calls_gr (HCC.out _))))); refine wpQuiet_nil ?_; intro w7 hw; obtain ⟨⟨_, hbw7⟩, hw⟩ := hw; subst hw; obtain ⟨hcw7, hfw7, hzw7⟩ := hbw7.rules; (try simp at hzw7))
                    go_wp2
                    go_roundg (n - (k + 1))
                    case measure => omega
                    case rel => exact ⟨k + 1, by omega, by omega, by omega, by go_num, B6.out.trans hbw7, hid (by rw [HST.out.1, HST.out.2]; exact HT6.out.gr hbw7)⟩
                  · have HST : Hid (pairsK ⟨l, dg, dy, t⟩ ts 2 (i * n + (k + 1)) = pairsK ⟨l, dg, dy, t⟩ ts 2 (i * n + k) ∧ pairsK ⟨l, dg, dy, t⟩ ts 1 (i * n + (k + 1)) = pairsK ⟨l, dg, dy, t⟩ ts 1 (i * n + k) ++ [(i1, i2)]) := ⟨by rw [hst.out]; simp, by rw [hst.out]; simp⟩
                    clear hst
                    go_wp2_with fail
                    (refine wp_region_gr (by kernel_rfl) (by kernel_rfl) ?_; (repeat (first | go_big_quiet_step ((go_at_call 21; exact calls_gr (HCC.out _))) | quiet_step ((go_at_call 21; exact calls_gr (HCC.out _))))); refine wpQuiet_nil ?_; intro w7 hw; obtain ⟨⟨_, hbw7⟩, hw⟩ := hw; subst hw; obtain ⟨hcw7, hfw7, hzw7⟩ := hbw7.rules; (try simp at hzw7))
                    obtain ⟨x0, x1⟩ := cells2at (row_gr HF12.out hbw7)
                    have hle := pairsK_lenB ⟨l, dg, dy, t⟩ ts 1 hi hk hn24
                    have zw7 := hbw7.size
                    go_wp2_with ((with_reducible show wpList _ _ _ (⟨some 64, _, _, _, _, _⟩ :: _) _ _); (refine wpList_append_own_at _ rfl (.tmp 61) (.tmp 63) 27 rfl w3.heap.size 53 i0 _ 2 16 Tryz.underlying27 HI0.out HZ0.out HS0.out HY0.out rfl (by decide) _ _ _ rfl (own_gr (own_gr HT6.out.two hbw7) ?_) ⟨_, 0, none⟩ 1 1 [.int .i64 i1, .int .i64 i2] rfl rfl ?_ ?_ ?_ ?_ ?_ ?_); rotate_right; intro v' w9 hown hgrow _ hat)
                    · have GG : Gr W6 (w7.alloc (Obj.cells #[Value.int IntKind.i64 i1, Value.int IntKind.i64 i2] 53)) := by (repeat (first | with_reducible exact Gr.refl _ | with_reducible refine Gr.trans ?_ hbw7 | with_reducible refine Gr.alloc ?_ _ | with_reducible refine Gr.setCell ?_ (by simp) _ | with_reducible refine Gr.setCell ?_ (by simp; omega) _ | with_reducible refine Gr.drew ?_ | with_reducible refine Gr.drewN ?_ _))
                      go_roundg (n - (k + 1))
                      case measure => omega
                      case rel =>
                        refine ⟨k + 1, by omega, by omega, by omega, by go_num, (B6.out.trans GG).grown hgrow (fun kk hkk => ((own_gr HT6.out.two GG).lt kk hkk).1), hid ?_⟩
                        rw [HST.out.1, HST.out.2]
                        exact Two2.push2 (HT6.out.gr GG) hown hgrow hat
                    · (repeat (first | with_reducible exact Gr.refl _ | with_reducible refine Gr.alloc ?_ _ | with_reducible refine Gr.setCell ?_ (by simp) _ | with_reducible refine Gr.setCell ?_ (by simp; omega) _ | with_reducible refine Gr.drew ?_ | with_reducible refine Gr.drewN ?_ _))
                    · exact World.news_of_block (cs := #[.int .i64 i1, .int .i64 i2]) (t := 53) (fr := (0, 0)) (heap_alloc_new _ _)
                    · simp [Value.oneCell']
                    · unfold maxLen
                      omega
                    · omega
                    · simp; omega
                  · have HST : Hid (pairsK ⟨l, dg, dy, t⟩ ts 2 (i * n + (k + 1)) = pairsK ⟨l, dg, dy, t⟩ ts 2 (i * n + k) ++ [(i1, i2)] ∧ pairsK ⟨l, dg, dy, t⟩ ts 1 (i * n + (k + 1)) = pairsK ⟨l, dg, dy, t⟩ ts 1 (i * n + k)) := ⟨by rw [hst.out]; simp, by rw [hst.out]; simp⟩
                    clear hst
                    go_wp2_with fail
                    (refine wp_region_gr (by kernel_rfl) (by kernel_rfl) ?_; (repeat (first | go_big_quiet_step ((go_at_call 21; exact calls_gr (HCC.out _))) | quiet_step ((go_at_call 21; exact calls_gr (HCC.out _))))); refine wpQuiet_nil ?_; intro w7 hw; obtain ⟨⟨_, hbw7⟩, hw⟩ := hw; subst hw; obtain ⟨hcw7, hfw7, hzw7⟩ := hbw7.rules; (try simp at hzw7))
                    obtain ⟨x0, x1⟩ := cells2at (row_gr HF12.out hbw7)
                    have hle := pairsK_lenB ⟨l, dg, dy, t⟩ ts 2 hi hk hn24
                    have zw7 := hbw7.size
                    go_wp2_with ((with_reducible show wpList _ _ _ (⟨some 70, _, _, _, _, _⟩ :: _) _ _); (refine wpList_append_own_at _ rfl (.tmp 67) (.tmp 69) 27 rfl w3.heap.size 53 i0 _ 2 16 Tryz.underlying27 HI0.out HZ0.out HS0.out HY0.out rfl (by decide) _ _ _ rfl (own_gr (own_gr HT6.out.one hbw7) ?_) ⟨_, 0, none⟩ 1 1 [.int .i64 i1, .int .i64 i2] rfl rfl ?_ ?_ ?_ ?_ ?_ ?_); rotate_right; intro v' w9 hown hgrow _ hat)
                    · have GG : Gr W6 (w7.alloc (Obj.cells #[Value.int IntKind.i64 i1, Value.int IntKind.i64 i2] 53)) := by (repeat (first | with_reducible exact Gr.refl _ | with_reducible refine Gr.trans ?_ hbw7 | with_reducible refine Gr.alloc ?_ _ | with_reducible refine Gr.setCell ?_ (by simp) _ | with_reducible refine Gr.setCell ?_ (by simp; omega) _ | with_reducible refine Gr.drew ?_ | with_reducible refine Gr.drewN ?_ _))
                      go_roundg (n - (k + 1))
                      case measure => omega
                      case rel =>
                        refine ⟨k + 1, by omega, by omega, by omega, by go_num, (B6.out.trans GG).grown hgrow (fun kk hkk => ((own_gr HT6.out.one GG).lt kk hkk).1), hid ?_⟩
                        rw [HST.out.1, HST.out.2]
                        exact Two2.push1 (HT6.out.gr GG) hown hgrow hat
                    · (repeat (first | with_reducible exact Gr.refl _ | with_reducible refine Gr.alloc ?_ _ | with_reducible refine Gr.setCell ?_ (by simp) _ | with_reducible refine Gr.setCell ?_ (by simp; omega) _ | with_reducible refine Gr.drew ?_ | with_reducible refine Gr.drewN ?_ _))
                    · exact World.news_of_block (cs := #[.int .i64 i1, .int .i64 i2]) (t := 53) (fr := (0, 0)) (heap_alloc_new _ _)
                    · simp [Value.oneCell']
                    · unfold maxLen
                      omega
                    · omega
                    · simp; omega
              · obtain rfl : k = n := by omega
                have hkz : ¬ (k : Int) < (k : Int) := by omega
                go_wp2
                go_roundg (k - (i + 1))
                case measure => omega
                case rel => exact ⟨i + 1, by omega, by omega, by go_num, BW, by rw [Nat.succ_mul]; exact HT⟩
          · obtain rfl : i = n := by omega
            have hiz : ¬ (i : Int) < (i : Int) := by omega
            go_wp2
            go_ret3
            rw [HQ.out]
            refine ⟨_, _, by rw [HE.out, HZ.out]; rfl, ?_, ?_, HG3.out.trans BW⟩
            · rw [HE1.out]; exact own_pairs HT.out.one
            · rw [HE1.out]; exact own_pairs HT.out.two
      · (repeat (first | with_reducible exact Gr.refl _ | with_reducible refine Gr.trans ?_ hbw2 | with_reducible refine Gr.trans ?_ hbw1 | with_reducible refine Gr.alloc ?_ _ | with_reducible refine Gr.setCell ?_ (by simp) _ | with_reducible refine Gr.setCell ?_ (by simp; omega) _ | with_reducible refine Gr.drew ?_ | with_reducible refine Gr.drewN ?_ _))
      · (repeat (first | with_reducible exact Gr.refl _ | with_reducible refine Gr.trans ?_ hbw1 | with_reducible refine Gr.alloc ?_ _ | with_reducible refine Gr.setCell ?_ (by simp) _ | with_reducible refine Gr.setCell ?_ (by simp; omega) _ | with_reducible refine Gr.drew ?_ | with_reducible refine Gr.drewN ?_ _))
    · have h1 : ∀ v, pairsN r rs v = [] := fun v => by
        unfold pairsN
        rw [he, if_neg hz]
      have HE1 := hid h1
      generalize recsE rs = E at HRE HE hz
      clear hI he h1 hrs hro
      obtain ⟨l, dg, dy, t⟩ := r
      unfold Rul.val at *
      dsimp only at *
      go_enter Tryz.func7, Tryz.ntmps7
      go_wp2_with (first
        | (go_at_call 18; (with_reducible refine (HU.out _).mono ?_); rotate_right; rintro e w1 ⟨rfl, hbw1⟩; obtain ⟨hcw1, hfw1, hzw1⟩ := hbw1.rules; (try simp at hzw1); have hzw1_0 : w.heap.size < w1.heap.size := (by omega); have hyw1_0 : w.heap.size ≤ w1.heap.size := (by omega))
        | (go_at_call 19; (with_reducible refine (HRE.out _ ?_).mono ?_); rotate_right; rintro e w2 ⟨rfl, hbw2⟩; obtain ⟨hcw2, hfw2, hzw2⟩ := hbw2.rules; (try simp at hzw2); have hzw2_0 : w.heap.size < w2.heap.size := (by omega); have hyw2_0 : w.heap.size ≤ w2.heap.size := (by omega)))
      · go_ret3
        rw [HQ.out]
        exact ⟨_, _, by rw [HE.out]; rfl, by rw [HE1.out]; exact HNil.out _, by rw [HE1.out]; exact HNil.out _, by (repeat (first | with_reducible exact Gr.refl _ | with_reducible refine Gr.trans ?_ hbw2 | with_reducible refine Gr.trans ?_ hbw1 | with_reducible refine Gr.alloc ?_ _ | with_reducible refine Gr.setCell ?_ (by simp) _ | with_reducible refine Gr.setCell ?_ (by simp; omega) _ | with_reducible refine Gr.drew ?_ | with_reducible refine Gr.drewN ?_ _))⟩
      · (repeat (first | with_reducible exact Gr.refl _ | with_reducible refine Gr.trans ?_ hbw1 | with_reducible refine Gr.alloc ?_ _ | with_reducible refine Gr.setCell ?_ (by simp) _ | with_reducible refine Gr.setCell ?_ (by simp; omega) _ | with_reducible refine Gr.drew ?_ | with_reducible refine Gr.drewN ?_ _))
end Go.Proofs.YtlkjimfkapcenaaGreat
namespace Go.Proofs.YtlkjimfkapcenaaGreat
open Go.RowKit

def greatL (rs : List Rcd) : Bool := decide (30 < rs.length) || rs.any Rcd.great
set_option maxRecDepth 100000 in
set_option maxHeartbeats 1000000 in
theorem greatL_any (A : Option Addr) (n c : Nat) (es : List Elt) (w : World) (hi : RecsIn w A n es) :
    Calls Tryz.prog 4 #[.slice A n c] w fun e w' => e = .returned (.bool (greatL (es.map (·.r)))) ∧ Gr w w' := by
  have HI := hid hi
  have hl := hi.len
  have hbig := hi.big
  have hbig' : (n : Int) ≤ 9223372036854775807 := by omega
  unfold greatL
  rw [List.length_map, hl]
  clear hi
  by_cases h30 : 30 < n
  · have h30' : (30 : Int) < (n : Int) := by omega
    rw [decide_eq_true h30, Bool.true_or]
    go_enter Tryz.func4, Tryz.ntmps4
    go_wp2
    go_ret
    exact ⟨rfl, Gr.refl w⟩
  · have h30' : ¬ (30 : Int) < (n : Int) := by omega
    rw [decide_eq_false h30, Bool.false_or]
    obtain ⟨V, hV⟩ : ∃ V, V = (es.map (·.r)).any Rcd.great := ⟨_, rfl⟩
    rw [← hV]
    have HV := hid hV
    clear hV
    have HL := hid hl
    clear hl
    go_enter Tryz.func4, Tryz.ntmps4
    go_wp2_with fail
    go_loopg [3] n (fun gg s3 wr => ∃ k : Nat, k ≤ n ∧ n - k ≤ gg ∧ s3 = .int .i64 k ∧ Gr w wr ∧ Hid (∀ j, j < k → (es[j]!.r).great = false))
    case atStart => exact ⟨0, Nat.zero_le _, by omega, rfl, Gr.refl w, fun j hj => absurd hj (Nat.not_lt_zero _)⟩
    case round =>
      obtain ⟨k, hk, hgk, rfl, BW, HF⟩ := hrel
      by_cases hkl : k < n
      · obtain ⟨hk', hE, b, off, rfl, hbl, c0, c1, c2, c3, c4, c5, c6, c7⟩ := (HI.out.gr BW).at_ hkl
        have HK := hid hk'
        have HG := hid (fun W (g : Gr wr W) => greatOne_any es[k]!.r es[k]!.A es[k]!.n es[k]!.c es[k]!.B es[k]!.m es[k]!.d W (hE.at_.gr g))
        obtain ⟨q, hq⟩ : ∃ q, (es[k]!.r).great = q := ⟨_, rfl⟩
        rw [hq] at HG
        have HQ := hid hq
        generalize es[k]! = e at c0 c1 c2 c3 c4 c5 c6 c7 HG
        obtain ⟨⟨id, names, suf, lo, hi, num, tw, stays⟩, A1, n1, c1', B1, m1, d1⟩ := e
        unfold Rcd.val at HG
        dsimp only at *
        have hkn : (k : Int) < (n : Int) := by omega
        have hk0 : (0 : Int) ≤ (k : Int) := by omega
        clear hE hq hk'
        cases q with
        | true =>
          have HT : Hid ((es.map (·.r)).any Rcd.great = true) := by
            show _ = true
            rw [List.any_eq_true]
            exact ⟨es[k]!.r, List.mem_map.2 ⟨es[k]!, mem_get HK.out, rfl⟩, HQ.out⟩
          go_wp2_with (go_at_call 13; (with_reducible refine (HG.out _ (Gr.refl _)).mono ?_); rotate_right; rintro e w2 ⟨rfl, hbw2⟩; obtain ⟨hcw2, hfw2, hzw2⟩ := hbw2.rules; (try simp at hzw2))
          go_ret
          exact ⟨by rw [HV.out, HT.out]; rfl, BW.trans hbw2⟩
        | false =>
          go_wp2_with (go_at_call 13; (with_reducible refine (HG.out _ (Gr.refl _)).mono ?_); rotate_right; rintro e w2 ⟨rfl, hbw2⟩; obtain ⟨hcw2, hfw2, hzw2⟩ := hbw2.rules; (try simp at hzw2))
          go_roundg (n - (k + 1))
          case measure => omega
          case rel => exact ⟨k + 1, by omega, by omega, by go_num, BW.trans hbw2, fun j hj => by
            rcases Nat.lt_or_ge j k with h | h
            · exact HF.out j h
            · have e : j = k := by omega
              rw [e]; exact HQ.out⟩
      · have hkn : ¬ (k : Int) < (n : Int) := by omega
        have HT : Hid ((es.map (·.r)).any Rcd.great = false) := by
          show _ = false
          rw [List.any_eq_false]
          intro x hx
          obtain ⟨e, he, rfl⟩ := List.mem_map.1 hx
          obtain ⟨j, hj, rfl⟩ := List.getElem_of_mem he
          have := HF.out j (by have := HL.out; omega)
          rw [getElem!_pos es j hj] at this
          simp [this]
        go_wp2
        go_ret
        exact ⟨by rw [HV.out, HT.out]; rfl, BW⟩
end Go.Proofs.YtlkjimfkapcenaaGreat
namespace Go.Proofs.YtlkjimfkapcenaaGreat
open Go.RowKit

set_option maxRecDepth 100000 in
set_option maxHeartbeats 4000000 in
theorem sameRecs_any (es zs : List Elt) (n : Nat) (A : Option Addr) (c : Nat) (A' : Option Addr) (c' : Nat) (w : World) (h : RecsIn w A n es) (h' : RecsIn w A' n zs) (he : es.map (·.r) = zs.map (·.r)) :
    Calls Tryz.prog 12 #[.slice A n c, .slice A' n c'] w fun e w' => e = .returned (.bool true) ∧ Gr w w' := by
  have hnz : (n : Int) ≤ 9223372036854775807 := by have := h.big; omega
  have HR := hid h
  have HR' := hid h'
  have HEQ : Hid (∀ k, k < n → zs[k]!.r = es[k]!.r) := fun k hk => by
    have h1 := h.len
    have h2 := h'.len
    have := congrArg (fun l : List Rcd => l[k]?) he
    simp only [List.getElem?_map, List.getElem?_eq_getElem (show k < es.length by omega), List.getElem?_eq_getElem (show k < zs.length by omega), Option.map_some, Option.some.injEq] at this
    rw [getElem!_pos es k (by omega), getElem!_pos zs k (by omega)]
    exact this.symm
  clear h h' he
  go_enter Tryz.func12, Tryz.ntmps12
  go_wp2
  go_loopg [5] n (fun gg i wr => ∃ k : Nat, k ≤ n ∧ n - k ≤ gg ∧ i = .int .i64 k ∧ Gr w wr)
  case atStart => exact ⟨0, Nat.zero_le _, by omega, rfl, Gr.refl w⟩
  case round =>
    obtain ⟨k, hk, hg, rfl, BW⟩ := hrel
    by_cases hlt : k < n
    · obtain ⟨_, hE, b, off, rfl, hbl, c0, c1, c2, c3, c4, c5, c6, c7⟩ := (HR.out.gr BW).at_ hlt
      obtain ⟨_, hE', b', off', rfl, hbl', d0, d1, d2, d3, d4, d5, d6, d7⟩ := (HR'.out.gr BW).at_ hlt
      have hr := HEQ.out k hlt
      rw [hr] at d0 d2 d3 d4 d5 d6
      have HC := hid (fun W (g : Gr wr W) => sameRecord_any es[k]!.r es[k]!.A es[k]!.n es[k]!.c es[k]!.B es[k]!.m es[k]!.d zs[k]!.A zs[k]!.c zs[k]!.B zs[k]!.d W (hE.at_.gr g) (by
        have h1 := hE'.at_
        have hn := h1.nlen
        have hm := h1.mlen
        rw [hr] at h1 hn hm
        have e1 : zs[k]!.n = es[k]!.n := by have := hE.at_.nlen; omega
        have e2 : zs[k]!.m = es[k]!.m := by have := hE.at_.mlen; omega
        rw [e1, e2] at h1
        exact h1.gr g))
      have e1 : zs[k]!.n = es[k]!.n := by
        have h1 := hE'.at_.nlen
        rw [hr] at h1
        have := hE.at_.nlen
        omega
      have e2 : zs[k]!.m = es[k]!.m := by
        have h1 := hE'.at_.mlen
        rw [hr] at h1
        have := hE.at_.mlen
        omega
      rw [e1] at d1
      rw [e2] at d7
      generalize es[k]! = x at c0 c1 c2 c3 c4 c5 c6 c7 d0 d1 d2 d3 d4 d5 d6 d7 HC
      generalize zs[k]! = y at d0 d1 d2 d3 d4 d5 d6 d7 HC
      obtain ⟨⟨id, names, suf, lo, hi, num, tw, stays⟩, A1, n1, c1', B1, m1, d1'⟩ := x
      obtain ⟨_, A2, n2, c2', B2, m2, d2'⟩ := y
      unfold Rcd.val at HC
      dsimp only at *
      clear hE hE' hr e1 e2
      have a0 := GrW.cell c0
      have a1 := GrW.cell c1
      have a2 := GrW.cell c2
      have a3 := GrW.cell c3
      have a4 := GrW.cell c4
      have a5 := GrW.cell c5
      have a6 := GrW.cell c6
      have a7 := GrW.cell c7
      have b0 := GrW.cell d0
      have b1 := GrW.cell d1
      have b2 := GrW.cell d2
      have b3 := GrW.cell d3
      have b4 := GrW.cell d4
      have b5 := GrW.cell d5
      have b6 := GrW.cell d6
      have b7 := GrW.cell d7
      clear c0 c1 c2 c3 c4 c5 c6 c7 d0 d1 d2 d3 d4 d5 d6 d7
      have hkn : (k : Int) < n := by omega
      have hk0 : (0 : Int) ≤ k := by omega
      go_wp2
      (refine wp_region_gr (by kernel_rfl) (by kernel_rfl) ?_; (repeat (first | go_big_quiet_step ((go_at_call 27; exact calls_gr (HC.out _ (GrW.gr _)))) | quiet_step ((go_at_call 27; exact calls_gr (HC.out _ (GrW.gr _)))))); refine wpQuiet_nil ?_; intro w1 hw; obtain ⟨⟨_, hbw1⟩, hw⟩ := hw; subst hw; obtain ⟨hcw1, hfw1, hzw1⟩ := hbw1.rules; (try simp at hzw1))
      go_wp2
      go_roundg (n - (k + 1))
      case measure => omega
      case rel => exact ⟨k + 1, by omega, by omega, by go_num, BW.trans hbw1⟩
    · have hkn : ¬ (k : Int) < n := by omega
      go_wp2
      go_ret
      exact ⟨rfl, BW⟩
end Go.Proofs.YtlkjimfkapcenaaGreat
namespace Go.Proofs.YtlkjimfkapcenaaGreat
open Go.RowKit

def lexlt (p q : Int × Int) : Prop := p.1 < q.1 ∨ (p.1 = q.1 ∧ p.2 < q.2)
theorem lexlt_trans {p q s : Int × Int} (h : lexlt p q) (k : lexlt q s) : lexlt p s := by
  unfold lexlt at *
  omega
theorem lexlt_irrefl {p : Int × Int} (h : lexlt p p) : False := by
  unfold lexlt at h
  omega
theorem pairAt_mem {r : Rul} {v : Int} {x y : Rcd} {p : Int × Int} : p ∈ pairAt r v x y ↔ x.id < y.id ∧ (cmpN r x y).vd = v ∧ p = (x.id, y.id) := by
  unfold pairAt
  split
  · rename_i h
    simp [h.1, h.2]
  · rename_i h
    constructor
    · intro h2; cases h2
    · rintro ⟨h1, h2, _⟩; exact absurd ⟨h1, h2⟩ h
theorem pairsK_mem {r : Rul} {rs : List Rcd} {v : Int} {p : Int × Int} : p ∈ pairsK r rs v (rs.length * rs.length) ↔ ∃ x ∈ rs, ∃ y ∈ rs, x.id < y.id ∧ (cmpN r x y).vd = v ∧ p = (x.id, y.id) := by
  unfold pairsK
  rw [List.mem_flatMap]
  constructor
  · rintro ⟨t, ht, hp⟩
    have ht := List.mem_range.1 ht
    have hn : 0 < rs.length := by
      rcases Nat.eq_zero_or_pos rs.length with h | h
      · rw [h] at ht; omega
      · exact h
    have h1 : t / rs.length < rs.length := Nat.div_lt_of_lt_mul ht
    have h2 : t % rs.length < rs.length := Nat.mod_lt _ hn
    obtain ⟨a, b, c⟩ := pairAt_mem.1 hp
    rw [getElem!_pos rs _ h1, getElem!_pos rs _ h2] at *
    exact ⟨_, List.getElem_mem h1, _, List.getElem_mem h2, a, b, c⟩
  · rintro ⟨x, hx, y, hy, a, b, c⟩
    obtain ⟨i, hi, rfl⟩ := List.getElem_of_mem hx
    obtain ⟨j, hj, rfl⟩ := List.getElem_of_mem hy
    refine ⟨i * rs.length + j, List.mem_range.2 ?_, ?_⟩
    · have : i * rs.length + rs.length ≤ rs.length * rs.length := by
        rw [← Nat.succ_mul]; exact Nat.mul_le_mul_right _ hi
      omega
    · have hn : 0 < rs.length := by omega
      rw [show (i * rs.length + j) / rs.length = i by rw [Nat.mul_comm, Nat.mul_add_div hn, Nat.div_eq_of_lt hj]; rfl, show (i * rs.length + j) % rs.length = j by rw [Nat.mul_comm, Nat.mul_add_mod, Nat.mod_eq_of_lt hj]]
      rw [getElem!_pos rs i hi, getElem!_pos rs j hj]
      exact pairAt_mem.2 ⟨a, b, c⟩
theorem pairsK_sorted {r : Rul} {rs : List Rcd} {v : Int} (hs : rs.Pairwise (fun x y => x.id < y.id)) : (pairsK r rs v (rs.length * rs.length)).Pairwise lexlt := by
  unfold pairsK
  rw [List.pairwise_flatMap]
  refine ⟨fun t _ => ?_, ?_⟩
  · unfold pairAt
    split <;> simp
  · refine List.Pairwise.imp_of_mem ?_ (List.pairwise_lt_range (n := rs.length * rs.length))
    intro t u ht hu htu p hp q hq
    have ht := List.mem_range.1 ht
    have hu := List.mem_range.1 hu
    have hn : 0 < rs.length := by
      rcases Nat.eq_zero_or_pos rs.length with h | h
      · rw [h] at ht; omega
      · exact h
    obtain ⟨a, b, c⟩ := pairAt_mem.1 hp
    obtain ⟨a', b', c'⟩ := pairAt_mem.1 hq
    have h1 : t / rs.length < rs.length := Nat.div_lt_of_lt_mul ht
    have h2 : t % rs.length < rs.length := Nat.mod_lt _ hn
    have h3 : u / rs.length < rs.length := Nat.div_lt_of_lt_mul hu
    have h4 : u % rs.length < rs.length := Nat.mod_lt _ hn
    rw [getElem!_pos rs _ h1, getElem!_pos rs _ h2] at *
    rw [getElem!_pos rs _ h3, getElem!_pos rs _ h4] at *
    subst c c'
    unfold lexlt
    have key := List.pairwise_iff_getElem.1 hs
    have hd : t / rs.length ≤ u / rs.length := Nat.div_le_div_right (by omega)
    rcases Nat.lt_or_eq_of_le hd with h | h
    · exact .inl (key _ _ h1 h3 h)
    · have e1 := Nat.div_add_mod t rs.length
      have e2 := Nat.div_add_mod u rs.length
      have hm : t % rs.length < u % rs.length := by
        rw [h] at e1
        generalize rs.length * (u / rs.length) = z at *
        omega
      refine .inr ⟨?_, key _ _ h2 h4 hm⟩
      show rs[t / rs.length].id = rs[u / rs.length].id
      congr 1
      congr 1
theorem lex_eq {l l' : List (Int × Int)} (h : l.Pairwise lexlt) (h' : l'.Pairwise lexlt) (hm : ∀ p, p ∈ l ↔ p ∈ l') : l = l' := by
  have nd : l.Nodup := List.Pairwise.imp (fun {a b} (k : lexlt a b) => (fun (e : a = b) => by subst e; exact lexlt_irrefl k : a ≠ b)) h
  have nd' : l'.Nodup := List.Pairwise.imp (fun {a b} (k : lexlt a b) => (fun (e : a = b) => by subst e; exact lexlt_irrefl k : a ≠ b)) h'
  exact ((List.perm_ext_iff_of_nodup nd nd').2 hm).eq_of_pairwise (fun a b _ _ h1 h2 => (lexlt_irrefl (lexlt_trans h1 h2)).elim) h h'
theorem recsE_perm {rs ts : List Rcd} (h : ts.Perm rs) : recsE ts = recsE rs := by
  have e1 := h.length_eq
  have e2 : ts.all Rcd.ok = rs.all Rcd.ok := by
    rw [Bool.eq_iff_iff, List.all_eq_true, List.all_eq_true]
    exact ⟨fun k x hx => k x (h.mem_iff.2 hx), fun k x hx => k x (h.mem_iff.1 hx)⟩
  have e3 : (ts.map (·.id)).Nodup ↔ (rs.map (·.id)).Nodup := List.Perm.nodup_iff (h.map _)
  unfold recsE
  rw [e1, e2]
  by_cases h3 : (rs.map (·.id)).Nodup
  · simp [h3, e3.2 h3]
  · have h4 : ¬ (ts.map (·.id)).Nodup := fun k => h3 (e3.1 k)
    simp [h3, h4]
theorem srt_of_perm {rs ts : List Rcd} (h : ts.Perm rs) (hn : (rs.map (·.id)).Nodup) : srt ts = srt rs := by
  have hn' : (ts.map (·.id)).Nodup := (List.Perm.nodup_iff (h.map _)).2 hn
  exact srt_eq ((srt_perm ts).trans h) (srt_sorted hn')
theorem pairsN_perm {r : Rul} {rs ts : List Rcd} {v : Int} (h : ts.Perm rs) (hn : (rs.map (·.id)).Nodup) : pairsN r ts v = pairsN r rs v := by
  unfold pairsN pairErr
  rw [recsE_perm h, srt_of_perm h hn, h.length_eq]
theorem id_inj {rs : List Rcd} (h0 : recsE rs = 0) {x y : Rcd} (hx : x ∈ rs) (hy : y ∈ rs) (e : x.id = y.id) : x = y := by
  obtain ⟨i, hi, rfl⟩ := List.getElem_of_mem hx
  obtain ⟨j, hj, rfl⟩ := List.getElem_of_mem hy
  have nd := (recsE_zero h0).2.2
  unfold List.Nodup at nd
  rw [List.pairwise_map] at nd
  have key := List.pairwise_iff_getElem.1 nd
  rcases Nat.lt_trichotomy i j with h | h | h
  · exact absurd e (key i j hi hj h)
  · subst h; rfl
  · exact absurd e.symm (key j i hj hi h)
section
variable {r : Rul} {rs : List Rcd} (hr : r.ok = true) (h0 : recsE rs = 0)
include hr h0
theorem pairsN_is (v : Int) : pairsN r rs v = pairsK r (srt rs) v ((srt rs).length * (srt rs).length) := by
  unfold pairsN pairErr
  rw [hr, if_pos rfl, if_pos h0, (srt_perm rs).length_eq]
theorem pairsN_mem {v : Int} {p : Int × Int} : p ∈ pairsN r rs v ↔ ∃ x ∈ rs, ∃ y ∈ rs, x.id < y.id ∧ (cmpN r x y).vd = v ∧ p = (x.id, y.id) := by
  rw [pairsN_is hr h0, pairsK_mem]
  constructor
  · rintro ⟨x, hx, y, hy, k⟩
    exact ⟨x, (srt_perm rs).mem_iff.1 hx, y, (srt_perm rs).mem_iff.1 hy, k⟩
  · rintro ⟨x, hx, y, hy, k⟩
    exact ⟨x, (srt_perm rs).mem_iff.2 hx, y, (srt_perm rs).mem_iff.2 hy, k⟩
theorem pairsN_sorted (v : Int) : (pairsN r rs v).Pairwise lexlt := by
  rw [pairsN_is hr h0]
  exact pairsK_sorted (srt_sorted (recsE_zero h0).2.2)
theorem pairsN_len (v : Int) : (pairsN r rs v).length ≤ 576 := by
  rw [pairsN_is hr h0]
  refine Nat.le_trans (pairsK_len _ _ _ _) ?_
  have := (recsE_zero h0).1
  rw [(srt_perm rs).length_eq]
  exact Nat.mul_le_mul this this
/-- What is found of a pair. -/
theorem found_is {x y : Rcd} (hx : x ∈ rs) (hy : y ∈ rs) (v : Int) : (x.id, y.id) ∈ pairsN r rs v ↔ x.id < y.id ∧ (cmpN r x y).vd = v := by
  rw [pairsN_mem hr h0]
  constructor
  · rintro ⟨a, ha, b, hb, h1, h2, h3⟩
    injection h3 with e1 e2
    have ea := id_inj h0 hx ha e1
    have eb := id_inj h0 hy hb e2
    subst ea eb
    exact ⟨h1, h2⟩
  · rintro ⟨h1, h2⟩
    exact ⟨x, hx, y, hy, h1, h2, rfl⟩
end
/-- One record fewer: its pairs are left out. -/
theorem pairsN_tail {r : Rul} {z : Rcd} {rs : List Rcd} (hr : r.ok = true) (h0 : recsE (z :: rs) = 0) : recsE rs = 0 ∧ ∀ v, pairsN r rs v = (pairsN r (z :: rs) v).filter (fun p => decide (p.1 ≠ z.id) && decide (p.2 ≠ z.id)) := by
  obtain ⟨k1, k2, k3⟩ := recsE_zero h0
  rw [List.map_cons, List.nodup_cons] at k3
  have k0 : recsE rs = 0 := by
    unfold recsE
    rw [if_neg (by simp at k1; omega), if_pos (List.all_eq_true.2 (fun x hx => k2 x (by simp [hx]))), if_pos k3.2]
  refine ⟨k0, fun v => lex_eq (pairsN_sorted hr k0 v) ((pairsN_sorted hr h0 v).filter _) (fun p => ?_)⟩
  have hz : ∀ x ∈ rs, x.id ≠ z.id := fun x hx e => k3.1 (by show z.id ∈ _; rw [← e]; exact List.mem_map_of_mem hx)
  rw [List.mem_filter, pairsN_mem hr k0, pairsN_mem hr h0]
  simp only [Bool.and_eq_true, decide_eq_true_eq]
  constructor
  · rintro ⟨x, hx, y, hy, h1, h2, rfl⟩
    exact ⟨⟨x, by simp [hx], y, by simp [hy], h1, h2, rfl⟩, hz x hx, hz y hy⟩
  · rintro ⟨⟨x, hx, y, hy, h1, h2, rfl⟩, h3, h4⟩
    rcases List.mem_cons.1 hx with rfl | hx
    · exact absurd rfl h3
    · rcases List.mem_cons.1 hy with rfl | hy
      · exact absurd rfl h4
      · exact ⟨x, hx, y, hy, h1, h2, rfl⟩
/-- What is found: 1 for those of the one list, 2 for those of the other one. -/
def foundV (o s : List (Int × Int)) (p : Int × Int) : Int := if p ∈ s then 2 else if p ∈ o then 1 else 0
theorem foundV_is {r : Rul} {rs : List Rcd} (hr : r.ok = true) (h0 : recsE rs = 0) {x y : Rcd} (hx : x ∈ rs) (hy : y ∈ rs) (hv : (cmpN r x y).vd = 0 ∨ (cmpN r x y).vd = 1 ∨ (cmpN r x y).vd = 2) : foundV (pairsN r rs 1) (pairsN r rs 2) (x.id, y.id) = if x.id < y.id then (cmpN r x y).vd else 0 := by
  unfold foundV
  by_cases h : x.id < y.id
  · rcases hv with e | e | e
    · rw [if_neg (fun k => by have := ((found_is hr h0 hx hy 2).1 k).2; omega), if_neg (fun k => by have := ((found_is hr h0 hx hy 1).1 k).2; omega), if_pos h, e]
    · rw [if_neg (fun k => by have := ((found_is hr h0 hx hy 2).1 k).2; omega), if_pos ((found_is hr h0 hx hy 1).2 ⟨h, e⟩), if_pos h, e]
    · rw [if_pos ((found_is hr h0 hx hy 2).2 ⟨h, e⟩), if_pos h, e]
  · rw [if_neg (fun k => h ((found_is hr h0 hx hy 2).1 k).1), if_neg (fun k => h ((found_is hr h0 hx hy 1).1 k).1), if_neg h]
end Go.Proofs.YtlkjimfkapcenaaGreat
