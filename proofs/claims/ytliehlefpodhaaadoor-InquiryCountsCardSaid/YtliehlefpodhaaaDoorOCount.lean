/- Count of the package inquiry: how many inquiries count for credit. For every gate and inquiries. Inquiry, Inquiries and Licensed of the reference of layer 9. For all inquiries and gates. Inquiries, ask and Ask of the reference of layer 9. For all inquiries and gates. (Printed by gen_refinqs.py.) -/
import Derived.Deep.LoopGhost
import Derived.Test.YtliehlefpodhaaaDoorORegGr
import Derived.Test.YtliehlefpodhaaaDoorOOrder
import Derived.Test.YtliehlefpodhaaaDoorOAmong9
import Derived.Test.YtliehlefpodhaaaDoorORefLater
import Derived.Test.YtliehlefpodhaaaDoorOGate
import Derived.Test.YtliehlefpodhaaaDoorOAsk
import Derived.Test.YtliehlefpodhaaaDoorOTrRow
import Derived.Test.YtliehlefpodhaaaDoorOTraces
namespace Go.Proofs.YtliehlefpodhaaaDoor
open Go.RowKit Go.Shelf Go.Sort

theorem flatT_drop (s : List Trc) (k : Nat) : (s.flatMap Trc.cells).drop (k * 5) = (s.drop k).flatMap Trc.cells := by
  induction s generalizing k with
  | nil => simp
  | cons x s ih =>
    cases k with
    | zero => simp
    | succ k =>
      rw [List.flatMap_cons, List.drop_succ_cons, ← ih k]
      have hx : x.cells.length = 5 := x.len
      rw [List.drop_append, hx, show (k + 1) * 5 - 5 = k * 5 by omega, List.drop_of_length_le (by rw [hx]; omega), List.nil_append]
theorem cntQ_cut {l s : List Trc} {m : Int} {k : Nat} (h : CntQ l m s) (h0 : 0 < s.length) (hk : k < s.length) (hp : decide (s[k]!.day > s[0]!.day + 14) = true) (hb : ∀ j, j < k → decide (s[j]!.day > s[0]!.day + 14) = false) : 1 ≤ k ∧ CntQ l (m + 1) (s.drop k) := by
  have hk0 : k ≠ 0 := fun e => by subst e; simp at hp; omega
  refine ⟨by omega, ?_⟩
  cases s with
  | nil => simp at h0
  | cons x r =>
    obtain ⟨j, rfl⟩ : ∃ j, k = j + 1 := ⟨k - 1, by omega⟩
    have e : r = r.take j ++ r.drop j := (List.take_append_drop j r).symm
    have hx : (x :: r)[0]! = x := rfl
    rw [hx] at hp hb
    rw [e] at h
    rw [List.drop_succ_cons]
    refine CntQ.step h (fun t ht => ?_) (fun y r' hy => ?_)
    · obtain ⟨i, hi, rfl⟩ := List.getElem_of_mem ht
      have hi' : i < j := by simp at hi; omega
      have := hb (i + 1) (by omega)
      rw [getElem!_pos (x :: r) (i + 1) (by simp at hk ⊢; omega)] at this
      simp at this
      simpa using this
    · have hj : j < r.length := by simp at hk; omega
      rw [getElem!_pos (x :: r) (j + 1) hk] at hp
      rw [List.drop_eq_getElem_cons hj] at hy
      obtain ⟨rfl, _⟩ := List.cons.inj hy
      simpa using hp
theorem cntQ_last {l s : List Trc} {m : Int} (h : CntQ l m s) (h0 : 0 < s.length) (hb : ∀ x ∈ s, decide (x.day > s[0]!.day + 14) = false) : m + 1 = countN l := by
  cases s with
  | nil => simp at h0
  | cons x r => exact h.last (fun t ht => by have := hb t (List.mem_cons_of_mem _ ht); simpa using this)
theorem tracesR_day {ls : List Lic} {ss : List Sig} {zs : List Inq} {file now pu : Int} {t : Trc} (h : t ∈ tracesR ls ss zs file now pu) : 0 ≤ t.day ∧ t.day ≤ 100000 := by
  unfold tracesR at h
  split at h
  · rename_i h0
    have hz : inqsB zs = true := by
      unfold tracesN at h0
      by_cases hge : gateN ls ss = 0
      · rw [if_pos hge] at h0
        cases e : inqsB zs with
        | true => rfl
        | false => rw [e] at h0; simp at h0
      · rw [if_neg hge] at h0; exact absurd h0 hge
    unfold tracesL at h
    have h2 := (sortT_perm _).mem_iff.1 h
    obtain ⟨y, hy, rfl⟩ := keptL_mem (List.mem_filter.1 h2).1
    exact inqB_day (inqsB_mem hz hy)
  · simp at h

set_option maxRecDepth 100000 in
set_option maxHeartbeats 8000000 in
theorem count_any (g : Gat) (ls : List Lic) (ss : List Sig) (A : Option Addr) (n c : Nat) (zs : List Inq) (file now : Int) (b off cap : Nat) (w : World) (hg : GatIn w g ls ss) (hA : ∀ b o, g.sa = some ⟨b, o, none⟩ → b < w.heap.size) (hn : g.sn < 1000) (hR : LaidR w b off cap) (hG : LaidL w)
    (hi : InqsIn w A n zs) :
    Calls Tryd.prog 18 #[g.val, .slice A n c, .int .i64 file, .int .i64 now] w fun e w' => e = .returned (.tuple #[.int .i64 (countN (tracesR ls ss zs file now 1)), .int .i64 (tracesN ls ss zs file now 1)]) ∧ Gr w w' := by
  have HT := hid (fun W (k : Gr w W) => traces_any g ls ss A n c zs file now 1 b off cap W (hg.gr k) (fun b o e => Nat.lt_of_lt_of_le (hA b o e) k.size) hn (hR.gr k) (hG.gr k) (hi.gr k) (by omega))
  have HD : Hid (∀ t ∈ tracesR ls ss zs file now 1, 0 ≤ t.day ∧ t.day ≤ 100000) := fun t ht => tracesR_day ht
  have HB : Hid (tracesN ls ss zs file now 1 ≠ 0 → tracesR ls ss zs file now 1 = []) := fun h => tracesR_bad rfl h
  have hle := hi.rd.inq_len
  clear hg hA hn hR hG hi hle
  generalize tracesR ls ss zs file now 1 = l at *
  generalize tracesN ls ss zs file now 1 = te at *
  obtain ⟨la, ln, lc, sa, sn, sc⟩ := g
  unfold Gat.val at *
  dsimp only at *
  obtain ⟨i0, hi0, hz0, hs0, hy0⟩ := info_parts info_trc
  have HI0 := hid hi0
  have HS0 := hid hs0
  clear hi0 hz0 hs0 hy0
  have hte : te = 0 ∨ te ≠ 0 := by omega
  by_cases h0 : te = 0
  case neg =>
    have h0' : (te == 0) = false := by simpa using h0
    have HL : Hid (countN l = 0) := by show countN l = 0; rw [HB.out h0]; rfl
    go_enter Tryd.func18, Tryd.ntmps18
    go_wp2_with (go_at_call 16; refine (HT.out _ ((Gr.refl w).alloc _)).mono ?_; rintro e w1 ⟨B, m, d, rfl, k1, k2⟩; have HK := hid (And.intro k1 k2); clear k1 k2)
    go_ret2
    exact ⟨by rw [HL.out]; rfl, ((Gr.refl w).alloc _ |>.trans HK.out.1).alloc _⟩
  case pos =>
    subst h0
    go_enter Tryd.func18, Tryd.ntmps18
    go_wp2_with (go_at_call 16; refine (HT.out _ ((Gr.refl w).alloc _)).mono ?_; rintro e w1 ⟨B, m, d, rfl, k1, k2⟩; have HK := hid (And.intro k1 k2); clear k1 k2)
    obtain ⟨hW1, hT1⟩ := HK.out
    have hrd := hT1.rd
    have hlen := hT1.len
    have hcap := hT1.le
    have hbig := hT1.big
    subst hlen
    have HR1 := hid hrd
    have HW1 := hid hW1
    have HBx := hid (Boxed.new w1 36 (.slice B l.length d))
    have hbig' : (l.length : Int) ≤ 9223372036854775807 := by omega
    clear HK hW1 hT1 hrd HT HB hte
    go_loopg [12] l.length (fun gg s12 wr => ∃ (s : List Trc) (k : Int) (A' : Option Addr) (c' : Nat), s12 = .int .i64 k ∧ s.length ≤ gg ∧ s.length ≤ c' ∧ c' ≤ 9223372036854775807 ∧ Gr w1 wr ∧ Boxed wr w1.heap.size 36 (.slice A' s.length c') ∧ Hid (CntQ l k s ∧ (∀ t ∈ s, t ∈ l) ∧ Rd w1 5 A' s.length (s.flatMap Trc.cells)))
    case atStart => exact ⟨l, 0, B, d, rfl, Nat.le_refl _, hcap, hbig, (Gr.refl w1).alloc _, HBx.out, CntQ.start l, fun t h => h, HR1.out⟩
    case round =>
      obtain ⟨s, k, A', c', rfl, hg, hc', hb', BW, hbx, HQ⟩ := hrel
      obtain ⟨kk, hkk⟩ : ∃ kk, s.length = kk := ⟨_, rfl⟩
      have HKK := hid hkk
      rw [hkk] at hg hc' hbx
      obtain ⟨hq1, hq2, hq3⟩ := HQ.out
      rw [hkk] at hq3
      have hk0 : 0 ≤ k := hq1.1
      have hk1 : k + kk ≤ (l.length : Int) := by have := hq1.2.1; omega
      have cP := Boxed.cell hbx
      have zP := Boxed.lt hbx
      have hbig2 : (kk : Int) ≤ 9223372036854775807 := by omega
      clear hkk
      by_cases hpos : 0 < kk
      · have hpos' : (0 : Int) < (kk : Int) := by omega
        have hkw : IntKind.i64.wrap (k + 1) = k + 1 := by rw [IntKind.wrap_i64]; omega
        obtain ⟨x, hx⟩ : ∃ x, s[0]! = x := ⟨_, rfl⟩
        have hxd := HD.out x (hq2 x (hx ▸ mem_get (by have := HKK.out; omega)))
        have HC := hid (indexFunc_trc 52 #[.pointer (some ⟨w1.heap.size, 0, none⟩)] (enters_of Tryd.func52 (by kernel_rfl) rfl) (fun t => decide (t.day > x.day + 14)) A' kk c' s wr
          (fun W t _ g => past_any t x w1.heap.size A' kk c' s W (row_cell cP g) ((hq3.gr BW).gr g) hpos hx (by omega) hxd) (hq3.gr BW) (by omega))
        have HX := hid hx
        have HBW := hid hbx
        clear hx hxd hq1 hq2 hq3 hbx
        rcases fidx_spec (fun t : Trc => decide (t.day > x.day + 14)) s with ⟨e1, e2⟩ | ⟨j, hj, e1, e2, e3⟩
        · rw [e1] at HC
          have HN : Hid (k + 1 = countN l) := cntQ_last HQ.out.1 (by have := HKK.out; omega) (by rw [HX.out]; exact e2)
          clear e1 e2
          go_wp2_with (go_at_call 51; refine HC.out.mono ?_; rintro e w3 ⟨rfl, hb3⟩; have HB3 := hid hb3; clear hb3)
          go_ret2
          refine ⟨by rw [← HN.out]; rfl, ((Gr.refl w).alloc _).trans (HW1.out.trans (BW.trans HB3.out))⟩
        · rw [e1] at HC
          have HN := hid (cntQ_cut HQ.out.1 (by have := HKK.out; omega) hj (by rw [HX.out]; exact e2) (by rw [HX.out]; exact e3))
          have hj0 : ¬ ((j : Int) < 0) := by omega
          have hjk : j < kk := by have := HKK.out; omega
          clear e1 e2 e3 hj
          go_wp2_with (first
            | (go_at_call 51; refine HC.out.mono ?_; rintro e w3 ⟨rfl, hb3⟩; have cR := Boxed.cell (boxed_gr HBW.out hb3); have fR := Boxed.frozen (boxed_gr HBW.out hb3); have HB3 := hid hb3; clear hb3)
            | (refine wpList_slice_from rfl (.tmp 35) (.tmp 36) 36 rfl 72 i0 5 Tryd.underlying36 HI0.out HS0.out A' kk c' j .i64 j rfl rfl rfl (Nat.le_of_lt hjk) hc' ?_; intro A1 hA1; have HA1 := hid hA1; clear hA1))
          go_roundg (kk - j)
          case measure => have := HN.out.1; omega
          case rel =>
            have hsl : (s.drop j).length = kk - j := by rw [List.length_drop, HKK.out]
            refine ⟨s.drop j, k + 1, A1, c' - j, by first | rfl | go_num, by rw [hsl]; exact Nat.le_refl _, by rw [hsl]; omega, by omega, ?_, ?_, HN.out.2, fun t h => HQ.out.2.1 t (List.mem_of_mem_drop h), ?_⟩
            · exact Gr.setCell (BW.trans HB3.out) (p := ⟨w1.heap.size, 0, none⟩) (by simp) _
            · rw [hsl]; exact Boxed.set _ (boxed_gr HBW.out HB3.out)
            · rw [hsl]
              have h := HA1.out w1 (s.flatMap Trc.cells) (by have h := HQ.out.2.2; rwa [HKK.out] at h)
              rwa [flatT_drop] at h
      · have hz : kk = 0 := by omega
        subst hz
        have hs : s = [] := List.length_eq_zero_iff.1 HKK.out
        subst hs
        have HN := hid (CntQ.done HQ.out.1)
        go_wp2
        go_ret2
        refine ⟨by rw [← HN.out]; rfl, ((Gr.refl w).alloc _).trans (HW1.out.trans BW)⟩
end Go.Proofs.YtliehlefpodhaaaDoor
namespace Go.Proofs.YtliehlefpodhaaaDoor
open Go.RowKit Go.Shelf

theorem inqB_ref (q : Inq) : inqB q = (inB 0 999999 q.id && inB 0 999999 q.who && inB 0 999999 q.file && inB 0 100000 q.day && inB 1 6 q.purpose) := by
  unfold inqB
  simp only [Bool.and_assoc]

set_option maxRecDepth 100000 in
set_option maxHeartbeats 4000000 in
theorem refInquiry_any (q : Inq) (w : World) (hu : 0 ≤ q.purpose ∧ q.purpose ≤ 255) :
    Calls Tryd.prog 36 #[q.val] w fun e w' => e = .returned (.bool (inqB q)) ∧ Gr w w' := by
  rw [inqB_ref]
  obtain ⟨x0, x1, x2, x3, x4, x5⟩ := q
  unfold Inq.val
  dsimp only at *
  obtain ⟨u1, u2⟩ := hu
  obtain ⟨b1, h1⟩ : ∃ b, inB 0 999999 x0 = b := ⟨_, rfl⟩
  obtain ⟨b2, h2⟩ : ∃ b, inB 0 999999 x2 = b := ⟨_, rfl⟩
  obtain ⟨b3, h3⟩ : ∃ b, inB 0 999999 x3 = b := ⟨_, rfl⟩
  obtain ⟨b4, h4⟩ : ∃ b, inB 0 100000 x1 = b := ⟨_, rfl⟩
  obtain ⟨b5, h5⟩ : ∃ b, inB 1 6 x4 = b := ⟨_, rfl⟩
  rw [h1, h2, h3, h4, h5]
  have H1 := hid h1
  have H2 := hid h2
  have H3 := hid h3
  have H4 := hid h4
  have H5 := hid h5
  clear h1 h2 h3 h4 h5
  cases b1
  case' true => cases b2
  case' true.true => cases b3
  case' true.true.true => cases b4
  all_goals
    go_enter Tryd.func36, Tryd.ntmps36
    go_wp2_with (first
      | (go_at_call 49; (with_reducible refine (refWithin_any x0 0 999999 _ H1.out _).mono ?_); rotate_right; rintro e w' ⟨rfl, rfl⟩)
      | (go_at_call 49; (with_reducible refine (refWithin_any x2 0 999999 _ H2.out _).mono ?_); rotate_right; rintro e w' ⟨rfl, rfl⟩)
      | (go_at_call 49; (with_reducible refine (refWithin_any x3 0 999999 _ H3.out _).mono ?_); rotate_right; rintro e w' ⟨rfl, rfl⟩)
      | (go_at_call 49; (with_reducible refine (refWithin_any x1 0 100000 _ H4.out _).mono ?_); rotate_right; rintro e w' ⟨rfl, rfl⟩)
      | (go_at_call 49; (with_reducible refine (refWithin_any x4 1 6 _ H5.out _).mono ?_); rotate_right; rintro e w' ⟨rfl, rfl⟩))
    go_ret
    exact ⟨by rfl, by (repeat (first | with_reducible exact Gr.refl _ | with_reducible refine Gr.alloc ?_ _ | with_reducible refine Gr.setCell ?_ (by simp) _ | with_reducible refine Gr.setCell ?_ (by simp; omega) _ | with_reducible refine Gr.drew ?_ | with_reducible refine Gr.drewN ?_ _))⟩

theorem licB_none {ls : List Lic} {p : Lic → Bool} (h : ∀ j, j < ls.length → p ls[j]! = false) : ls.any p = false := by
  rw [List.any_eq_false]
  intro x hx
  obtain ⟨j, hj, rfl⟩ := List.getElem_of_mem hx
  have := h j hj
  rw [getElem!_pos ls j hj] at this
  simp [this]
theorem licB_some {ls : List Lic} {p : Lic → Bool} {k : Nat} (hk : k < ls.length) (h : p ls[k]! = true) : ls.any p = true := List.any_eq_true.2 ⟨ls[k]!, mem_get hk, h⟩

set_option maxRecDepth 100000 in
set_option maxHeartbeats 4000000 in
theorem refLicensed_any (g : Gat) (ls : List Lic) (ss : List Sig) (q : Inq) (w : World) (hg : GatIn w g ls ss) :
    Calls Tryd.prog 35 #[g.val, q.val] w fun e w' => e = .returned (.bool (licensedB ls q)) ∧ Gr w w' := by
  have hl := hg.lics
  clear hg
  obtain ⟨la, ln, lc, sa, sn, sc⟩ := g
  unfold Gat.val
  dsimp only at hl ⊢
  by_cases h5 : q.purpose = 5
  · have HN : Hid (licensedB ls q = (q.who == q.file)) := by show licensedB ls q = _; unfold licensedB; rw [if_pos h5]
    clear hl
    obtain ⟨q0, q1, q2, q3, q4, q5⟩ := q
    unfold Inq.val
    dsimp only at *
    subst h5
    go_enter Tryd.func35, Tryd.ntmps35
    go_wp2
    go_ret
    exact ⟨by rw [HN.out]; rfl, by (repeat (first | with_reducible exact Gr.refl _ | with_reducible refine Gr.alloc ?_ _ | with_reducible refine Gr.setCell ?_ (by simp) _ | with_reducible refine Gr.setCell ?_ (by simp; omega) _ | with_reducible refine Gr.drew ?_ | with_reducible refine Gr.drewN ?_ _))⟩
  · have HN := hid (licensedB_neg ls q h5)
    have HL := hid hl
    have HLen := hid hl.rd.lic_len
    have hbig := hl.big
    have hbig' : (ln : Int) ≤ 9223372036854775807 := by omega
    clear hl
    obtain ⟨q0, q1, q2, q3, q4, q5⟩ := q
    have h5' : (q4 == 5) = false := by simpa using h5
    unfold Inq.val
    dsimp only at *
    clear h5
    go_enter Tryd.func35, Tryd.ntmps35
    go_wp2
    have HR2 := hid (rows2 w (.cells #[.slice la ln lc, .slice sa sn sc] 25) (.cells #[.int .i64 q0, .int .i64 q1, .int .i64 q2, .int .i64 q3, .int .u8 q4, .bool q5] 27))
    have G2 : Hid (Gr w ((w.alloc (.cells #[.slice la ln lc, .slice sa sn sc] 25)).alloc (.cells #[.int .i64 q0, .int .i64 q1, .int .i64 q2, .int .i64 q3, .int .u8 q4, .bool q5] 27))) := ((Gr.refl w).alloc _).alloc _
    generalize (w.alloc (.cells #[.slice la ln lc, .slice sa sn sc] 25)).alloc (.cells #[.int .i64 q0, .int .i64 q1, .int .i64 q2, .int .i64 q3, .int .u8 q4, .bool q5] 27) = w1 at HR2 G2 ⊢
    go_loopg [5] ln (fun gg s5 wr => ∃ kk : Nat, kk ≤ ln ∧ ln - kk ≤ gg ∧ s5 = .int .i64 kk ∧ Gr w1 wr ∧ Hid (∀ j, j < kk → (ls[j]!.who == q2 && ls[j]!.purpose == q4 && inB ls[j]!.lo ls[j]!.hi q1) = false))
    case atStart => exact ⟨0, Nat.zero_le _, by omega, rfl, Gr.refl w1, fun j hj => absurd hj (Nat.not_lt_zero _)⟩
    case round =>
      obtain ⟨kk, hkk, hg, rfl, BW, HA⟩ := hrel
      have s0 := row_cell_at (v := .slice la ln lc) (row_gr HR2.out.1 BW) 0 rfl
      obtain ⟨t0, t1, t2, t3, t4, t5⟩ := cellsat6 (row_gr HR2.out.2 BW)
      have z0 : w.heap.size < wr.heap.size := block_lt_of_cell s0
      have z1 : w.heap.size + 1 < wr.heap.size := block_lt_of_cell t0
      by_cases hlt : kk < ln
      · obtain ⟨hk', b', off', rfl, hb', c0, c1, c2, c3⟩ := (HL.out.gr (G2.out.trans BW)).rd.lic hlt
        have HK := hid hk'
        clear hk'
        obtain ⟨x, hx⟩ : ∃ x, ls[kk]! = x := ⟨_, rfl⟩
        have HP : Hid ((ls[kk]!.who == q2 && ls[kk]!.purpose == q4 && inB ls[kk]!.lo ls[kk]!.hi q1) = (x.who == q2 && x.purpose == q4 && inB x.lo x.hi q1)) := by
          show (ls[kk]!.who == q2 && ls[kk]!.purpose == q4 && inB ls[kk]!.lo ls[kk]!.hi q1) = _
          rw [hx]
        rw [hx] at c0 c1 c2 c3
        clear hx
        have hkn : (kk : Int) < (ln : Int) := by omega
        obtain ⟨x0, x1, x2, x3⟩ := x
        dsimp only at *
        obtain ⟨e1, k1⟩ : ∃ e, (x0 == q2) = e := ⟨_, rfl⟩
        obtain ⟨e2, k2⟩ : ∃ e, (x1 == q4) = e := ⟨_, rfl⟩
        obtain ⟨e3, k3⟩ : ∃ e, inB x2 x3 q1 = e := ⟨_, rfl⟩
        rw [k1, k2, k3] at HP
        have H3 := hid k3
        clear k3
        cases e1
        case' true => cases e2
        case' true.true => cases e3
        case' true.true.true =>
          have HE : Hid (licensedB ls ⟨q0, q1, q2, q3, q4, q5⟩ = true) := by
            show licensedB ls _ = true
            rw [HN.out]
            exact licB_some (p := fun x => x.who == q2 && x.purpose == q4 && inB x.lo x.hi q1) HK.out HP.out
          go_wp2_with (first
            | (go_at_call 49; (with_reducible refine (refWithin_any q1 x2 x3 _ H3.out _).mono ?_); rotate_right; rintro e w' ⟨rfl, rfl⟩))
          go_ret
          exact ⟨by rw [HE.out]; rfl, G2.out.trans (BW.trans (by (repeat (first | with_reducible exact Gr.refl _ | with_reducible refine Gr.alloc ?_ _ | with_reducible refine Gr.setCell ?_ (by simp) _ | with_reducible refine Gr.setCell ?_ (by simp; omega) _ | with_reducible refine Gr.drew ?_ | with_reducible refine Gr.drewN ?_ _))))⟩
        all_goals
          have HP' := hid HP.out
          go_wp2_with (first
            | (go_at_call 49; (with_reducible refine (refWithin_any q1 x2 x3 _ H3.out _).mono ?_); rotate_right; rintro e w' ⟨rfl, rfl⟩))
          go_roundg (ln - (kk + 1))
          case measure => omega
          case rel =>
            refine ⟨kk + 1, by omega, by omega, by go_num, BW.trans (by (repeat (first | with_reducible exact Gr.refl _ | with_reducible refine Gr.alloc ?_ _ | with_reducible refine Gr.setCell ?_ (by simp) _ | with_reducible refine Gr.setCell ?_ (by simp; omega) _ | with_reducible refine Gr.drew ?_ | with_reducible refine Gr.drewN ?_ _))), hid fun j' hj' => ?_⟩
            by_cases e : j' = kk
            · subst e; exact HP'.out.trans (by simp)
            · exact HA.out j' (by omega)
      · have hltz : ¬ (kk : Int) < (ln : Int) := by omega
        have HE : Hid (licensedB ls ⟨q0, q1, q2, q3, q4, q5⟩ = false) := by
          show licensedB ls _ = false
          rw [HN.out]
          exact licB_none (p := fun x => x.who == q2 && x.purpose == q4 && inB x.lo x.hi q1) (fun j hj => HA.out j (by have := HLen.out; omega))
        go_wp2
        go_ret
        exact ⟨by rw [HE.out]; rfl, G2.out.trans BW⟩
end Go.Proofs.YtliehlefpodhaaaDoor
namespace Go.Proofs.YtliehlefpodhaaaDoor
open Go.RowKit Go.Shelf

set_option maxRecDepth 100000 in
set_option maxHeartbeats 4000000 in
theorem refInquiries_any (A : Option Addr) (n c : Nat) (zs : List Inq) (w : World) (hi : InqsIn w A n zs) :
    Calls Tryd.prog 38 #[.slice A n c] w fun e w' => e = .returned (.bool (inqsB zs)) ∧ Gr w w' := by
  have HU := hid hi.u8
  have hr := hi.rd
  have hbig := hi.big
  have hbig' : (n : Int) ≤ 9223372036854775807 := by omega
  clear hi
  have HL := hid hr.inq_len
  have HR := hid hr
  clear hr
  by_cases h40 : n ≤ 40
  case neg =>
    have HE : Hid (inqsB zs = false) := inqsB_many (by have := HL.out; omega)
    have h40' : (40 : Int) < n := by omega
    clear h40
    go_enter Tryd.func38, Tryd.ntmps38
    go_wp2
    go_ret
    exact ⟨by rw [HE.out]; rfl, Gr.refl w⟩
  have h40' : (n : Int) ≤ 40 := by omega
  go_enter Tryd.func38, Tryd.ntmps38
  go_wp2
  go_loopg [3] n (fun gg s3 wr => ∃ kk : Nat, kk ≤ n ∧ n - kk ≤ gg ∧ s3 = .int .i64 kk ∧ Gr w wr ∧ Hid (∀ j, j < kk → inqBad zs j = false))
  case atStart => exact ⟨0, Nat.zero_le _, by omega, rfl, Gr.refl w, fun j hj => absurd hj (Nat.not_lt_zero _)⟩
  case round =>
    obtain ⟨kk, hkk, hg, rfl, BW, HA⟩ := hrel
    by_cases hlt : kk < n
    · obtain ⟨hk', b, off, rfl, hb, c0, c1, c2, c3, c4, c5⟩ := (HR.out.gr BW).inq hlt
      have HK := hid hk'
      clear hk'
      obtain ⟨x, hx⟩ : ∃ x, zs[kk]! = x := ⟨_, rfl⟩
      have hu : 0 ≤ x.purpose ∧ x.purpose ≤ 255 := hx ▸ HU.out _ (mem_get HK.out)
      have HS := hid (fun W => refInquiry_any x W hu)
      have HP : Hid (inqBad zs kk = (!inqB x || (decide (0 < kk) && decide (x.id ≤ zs[kk - 1]!.id)))) := by show inqBad zs kk = _; unfold inqBad; rw [hx]
      rw [hx] at c0 c1 c2 c3 c4 c5
      clear hx hu
      obtain ⟨bs, hbs⟩ : ∃ bs, inqB x = bs := ⟨_, rfl⟩
      rw [hbs] at HS HP
      clear hbs
      have hkn : (kk : Int) < (n : Int) := by omega
      have hk0 : (0 : Int) ≤ (kk : Int) := by omega
      cases bs with
      | false =>
        obtain ⟨x0, x1, x2, x3, x4, x5⟩ := x
        unfold Inq.val at HS
        dsimp only at *
        have p0 := GrW.cell c0
        have p1 := GrW.cell c1
        have p2 := GrW.cell c2
        have p3 := GrW.cell c3
        have p4 := GrW.cell c4
        have p5 := GrW.cell c5
        clear c0 c1 c2 c3 c4 c5
        go_wp2
        (refine wp_region_gr (by kernel_rfl) (by kernel_rfl) ?_; (repeat (first | go_big_quiet_step ((first | (go_at_call 36; exact calls_gr (HS.out _)))) | quiet_step ((first | (go_at_call 36; exact calls_gr (HS.out _)))))); refine wpQuiet_nil ?_; intro wa hw; obtain ⟨⟨_, hbwa⟩, hw⟩ := hw; subst hw; obtain ⟨hcwa, hfwa, hzwa⟩ := hbwa.rules; (try simp at hzwa))
        go_wp2
        go_ret
        refine ⟨?_, BW.trans hbwa⟩
        rw [inqsB_bad HK.out (by rw [HP.out]; rfl)]
        rfl
      | true =>
        by_cases h0 : kk = 0
        · subst h0
          simp only [Nat.zero_mul, Nat.add_zero] at c0 c1 c2 c3 c4 c5
          obtain ⟨x0, x1, x2, x3, x4, x5⟩ := x
          unfold Inq.val at HS
          dsimp only at *
          have p0 := GrW.cell c0
          have p1 := GrW.cell c1
          have p2 := GrW.cell c2
          have p3 := GrW.cell c3
          have p4 := GrW.cell c4
          have p5 := GrW.cell c5
          clear c0 c1 c2 c3 c4 c5
          go_wp2
          (refine wp_region_gr (by kernel_rfl) (by kernel_rfl) ?_; (repeat (first | go_big_quiet_step ((first | (go_at_call 36; exact calls_gr (HS.out _)))) | quiet_step ((first | (go_at_call 36; exact calls_gr (HS.out _)))))); refine wpQuiet_nil ?_; intro wa hw; obtain ⟨⟨_, hbwa⟩, hw⟩ := hw; subst hw; obtain ⟨hcwa, hfwa, hzwa⟩ := hbwa.rules; (try simp at hzwa))
          go_wp2
          go_roundg (n - (0 + 1))
          case measure => omega
          case rel =>
            refine ⟨0 + 1, by omega, by omega, by go_num, BW.trans hbwa, hid fun j' hj' => ?_⟩
            by_cases e : j' = 0
            · subst e; rw [HP.out]; rfl
            · exact HA.out j' (by omega)
        · obtain ⟨j, rfl⟩ : ∃ j, kk = j + 1 := ⟨kk - 1, by omega⟩
          clear h0
          obtain ⟨_, b', off', hA', _, d0, _⟩ := (HR.out.gr BW).inq (k := j) (by omega)
          cases hA'
          have hjn : (j : Int) < (n : Int) := by omega
          have hj0 : (0 : Int) ≤ (j : Int) := by omega
          obtain ⟨y, hy⟩ : ∃ y, zs[j]!.id = y := ⟨_, rfl⟩
          rw [hy] at d0
          have HP2 : Hid (inqBad zs (j + 1) = decide (x.id ≤ y)) := by
            show inqBad zs (j + 1) = _
            rw [HP.out, Nat.add_sub_cancel, hy]; simp
          clear hy HP
          have s0 := GrW.cell d0
          clear d0
          obtain ⟨x0, x1, x2, x3, x4, x5⟩ := x
          unfold Inq.val at HS
          dsimp only at *
          have p0 := GrW.cell c0
          have p1 := GrW.cell c1
          have p2 := GrW.cell c2
          have p3 := GrW.cell c3
          have p4 := GrW.cell c4
          have p5 := GrW.cell c5
          clear c0 c1 c2 c3 c4 c5
          by_cases hb3 : x0 ≤ y
          · have HP3 : Hid (inqBad zs (j + 1) = true) := by show inqBad zs (j + 1) = true; rw [HP2.out]; simpa using hb3
            go_wp2
            (refine wp_region_gr (by kernel_rfl) (by kernel_rfl) ?_; (repeat (first | go_big_quiet_step ((first | (go_at_call 36; exact calls_gr (HS.out _)))) | quiet_step ((first | (go_at_call 36; exact calls_gr (HS.out _)))))); refine wpQuiet_nil ?_; intro wa hw; obtain ⟨⟨_, hbwa⟩, hw⟩ := hw; subst hw; obtain ⟨hcwa, hfwa, hzwa⟩ := hbwa.rules; (try simp at hzwa))
            go_wp2
            go_ret
            refine ⟨?_, BW.trans hbwa⟩
            rw [inqsB_bad HK.out (HP3.out)]
            rfl
          · have HP3 : Hid (inqBad zs (j + 1) = false) := by show inqBad zs (j + 1) = false; rw [HP2.out]; simpa using hb3
            go_wp2
            (refine wp_region_gr (by kernel_rfl) (by kernel_rfl) ?_; (repeat (first | go_big_quiet_step ((first | (go_at_call 36; exact calls_gr (HS.out _)))) | quiet_step ((first | (go_at_call 36; exact calls_gr (HS.out _)))))); refine wpQuiet_nil ?_; intro wa hw; obtain ⟨⟨_, hbwa⟩, hw⟩ := hw; subst hw; obtain ⟨hcwa, hfwa, hzwa⟩ := hbwa.rules; (try simp at hzwa))
            go_wp2
            go_roundg (n - (j + 1 + 1))
            case measure => omega
            case rel =>
              refine ⟨j + 1 + 1, by omega, by omega, by go_num, BW.trans hbwa, hid fun j' hj' => ?_⟩
              by_cases e : j' = j + 1
              · subst e; exact HP3.out
              · exact HA.out j' (by omega)
    · have hltz : ¬ (kk : Int) < (n : Int) := by omega
      have HE : Hid (inqsB zs = true) := inqsB_good (by have := HL.out; omega) (fun j hj => HA.out j (by have := HL.out; omega))
      go_wp2
      go_ret
      exact ⟨by rw [HE.out]; rfl, BW⟩

set_option maxRecDepth 100000 in
set_option maxHeartbeats 4000000 in
theorem refAsk_any (g : Gat) (ls : List Lic) (ss : List Sig) (q : Inq) (w : World) (hg : GatIn w g ls ss) :
    Calls Tryd.prog 41 #[g.val, q.val] w fun e w' => e = .returned (.int .u8 (askN ls ss q)) ∧ Gr w w' := by
  have H1 := hid (fun W (k : Gr w W) => refLicensed_any g ls ss q W (hg.gr k))
  have H2 := hid (fun W (k : Gr w W) => refState_any g.sa g.sn g.sc ss q.file q.day W (hg.gr k).sigs)
  clear hg
  have HN : Hid (askN ls ss q = if (!licensedB ls q) then 1 else if (frozenB ss q.file q.day && (q.purpose == 1 || q.purpose == 3 || q.purpose == 6)) then 2 else if (alertB ss q.file q.day && (q.purpose == 6 || (q.purpose == 1 && !q.called))) then 3 else 0) := rfl
  generalize licensedB ls q = r1 at H1 HN
  generalize frozenB ss q.file q.day = fz at H2 HN
  generalize alertB ss q.file q.day = al at H2 HN
  generalize askN ls ss q = res at HN ⊢
  obtain ⟨la, ln, lc, sa, sn, sc⟩ := g
  obtain ⟨q0, q1, q2, q3, q4, q5⟩ := q
  unfold Gat.val Inq.val at *
  dsimp only at *
  obtain ⟨e1, k1⟩ : ∃ e, (q4 == 1) = e := ⟨_, rfl⟩
  obtain ⟨e3, k3⟩ : ∃ e, (q4 == 3) = e := ⟨_, rfl⟩
  obtain ⟨e6, k6⟩ : ∃ e, (q4 == 6) = e := ⟨_, rfl⟩
  rw [k1, k3, k6] at HN
  cases r1
  case' true => cases fz
  case' true.true => cases e1
  case' true.true.false => cases e3
  case' true.true.false.false => cases e6
  case' true.false => cases e1 <;> cases e6
  all_goals (try cases al)
  all_goals (try cases q5)
  all_goals
    have HV : Hid (res = _) := HN.out.trans (by simp only [Bool.not_true, Bool.not_false, Bool.and_true, Bool.true_and, Bool.false_and, Bool.and_false, Bool.or_true, Bool.true_or, Bool.or_false, Bool.false_or, if_true, Bool.false_eq_true, if_false]; rfl)
    clear HN
    go_enter Tryd.func41, Tryd.ntmps41
    go_wp2_with (first
      | (go_at_call 35; (with_reducible refine (H1.out _ ?_).mono ?_); rotate_right; rintro e w1 ⟨rfl, hbw1⟩; obtain ⟨hcw1, hfw1, hzw1⟩ := hbw1.rules; (try simp at hzw1); have hzw1_0 : w.heap.size < w1.heap.size := (by omega); have hyw1_0 : w.heap.size ≤ w1.heap.size := (by omega); have hzw1_1 : w.heap.size + 1 < w1.heap.size := (by omega); have hyw1_1 : w.heap.size + 1 ≤ w1.heap.size := (by omega))
      | (go_at_call 63; (with_reducible refine (H2.out _ ?_).mono ?_); rotate_right; rintro e w2 ⟨rfl, hbw2⟩; obtain ⟨hcw2, hfw2, hzw2⟩ := hbw2.rules; (try simp at hzw2); have hzw2_0 : w.heap.size < w2.heap.size := (by omega); have hyw2_0 : w.heap.size ≤ w2.heap.size := (by omega); have hzw2_1 : w.heap.size + 1 < w2.heap.size := (by omega); have hyw2_1 : w.heap.size + 1 ≤ w2.heap.size := (by omega)))
  all_goals first
    | ((repeat (first | with_reducible exact Gr.refl _ | with_reducible refine Gr.trans ?_ hbw1 | with_reducible refine Gr.alloc ?_ _ | with_reducible refine Gr.setCell ?_ (by simp) _ | with_reducible refine Gr.setCell ?_ (by simp; omega) _ | with_reducible refine Gr.drew ?_ | with_reducible refine Gr.drewN ?_ _)); done)
    | (go_ret
       exact ⟨by rw [HV.out]; rfl, by (repeat (first | with_reducible exact Gr.refl _ | with_reducible refine Gr.trans ?_ hbw2 | with_reducible refine Gr.trans ?_ hbw1 | with_reducible refine Gr.alloc ?_ _ | with_reducible refine Gr.setCell ?_ (by simp) _ | with_reducible refine Gr.setCell ?_ (by simp; omega) _ | with_reducible refine Gr.drew ?_ | with_reducible refine Gr.drewN ?_ _))⟩)

set_option maxRecDepth 100000 in
set_option maxHeartbeats 4000000 in
theorem refAskTop_any (g : Gat) (ls : List Lic) (ss : List Sig) (q : Inq) (w : World) (hg : GatIn w g ls ss) (hu : 0 ≤ q.purpose ∧ q.purpose ≤ 255) :
    Calls Tryd.prog 15 #[g.val, q.val] w fun e w' => e = .returned (.tuple #[.int .u8 (if gateN ls ss = 0 ∧ inqB q = true then askN ls ss q else 0), .int .i64 (if gateN ls ss = 0 then (if inqB q then 0 else 92) else gateN ls ss)]) ∧ Gr w w' := by
  have HC := hid (fun W (k : Gr w W) => refGateCheck_any g ls ss W (hg.gr k))
  have HS := hid (fun W => refInquiry_any q W hu)
  have HA := hid (fun W (k : Gr w W) => refAsk_any g ls ss q W (hg.gr k))
  have hz : gateN ls ss = 0 ∨ gateN ls ss = 90 ∨ gateN ls ss = 91 := by unfold gateN; (repeat' split) <;> simp
  generalize gateN ls ss = e at HC hz ⊢
  generalize inqB q = bs at HS ⊢
  generalize askN ls ss q = a at HA ⊢
  clear hg hu
  obtain ⟨la, ln, lc, sa, sn, sc⟩ := g
  obtain ⟨q0, q1, q2, q3, q4, q5⟩ := q
  unfold Gat.val Inq.val at *
  dsimp only at *
  obtain rfl | rfl | rfl := hz
  case' inl => cases bs
  all_goals
    go_enter Tryd.func15, Tryd.ntmps15
    go_wp2_with (first
      | (go_at_call 27; (with_reducible refine (HC.out _ ?_).mono ?_); rotate_right; rintro e w1 ⟨rfl, hbw1⟩; obtain ⟨hcw1, hfw1, hzw1⟩ := hbw1.rules; (try simp at hzw1); have hzw1_0 : w.heap.size < w1.heap.size := (by omega); have hyw1_0 : w.heap.size ≤ w1.heap.size := (by omega); have hzw1_1 : w.heap.size + 1 < w1.heap.size := (by omega); have hyw1_1 : w.heap.size + 1 ≤ w1.heap.size := (by omega))
      | (go_at_call 36; (with_reducible refine (HS.out _).mono ?_); rotate_right; rintro e w2 ⟨rfl, hbw2⟩; obtain ⟨hcw2, hfw2, hzw2⟩ := hbw2.rules; (try simp at hzw2); have hzw2_0 : w.heap.size < w2.heap.size := (by omega); have hyw2_0 : w.heap.size ≤ w2.heap.size := (by omega); have hzw2_1 : w.heap.size + 1 < w2.heap.size := (by omega); have hyw2_1 : w.heap.size + 1 ≤ w2.heap.size := (by omega))
      | (go_at_call 41; (with_reducible refine (HA.out _ ?_).mono ?_); rotate_right; rintro e w3 ⟨rfl, hbw3⟩; obtain ⟨hcw3, hfw3, hzw3⟩ := hbw3.rules; (try simp at hzw3); have hzw3_0 : w.heap.size < w3.heap.size := (by omega); have hyw3_0 : w.heap.size ≤ w3.heap.size := (by omega)))
    all_goals first
      | (go_ret2
         refine ⟨by rfl, ?_⟩
         (repeat (first | with_reducible exact Gr.refl _ | with_reducible refine Gr.trans ?_ hbw3 | with_reducible refine Gr.trans ?_ hbw2 | with_reducible refine Gr.trans ?_ hbw1 | with_reducible refine Gr.alloc ?_ _ | with_reducible refine Gr.setCell ?_ (by simp) _ | with_reducible refine Gr.setCell ?_ (by simp; omega) _ | with_reducible refine Gr.drew ?_ | with_reducible refine Gr.drewN ?_ _)); done)
      | ((repeat (first | with_reducible exact Gr.refl _ | with_reducible refine Gr.trans ?_ hbw2 | with_reducible refine Gr.trans ?_ hbw1 | with_reducible refine Gr.alloc ?_ _ | with_reducible refine Gr.setCell ?_ (by simp) _ | with_reducible refine Gr.setCell ?_ (by simp; omega) _ | with_reducible refine Gr.drew ?_ | with_reducible refine Gr.drewN ?_ _)); done)
end Go.Proofs.YtliehlefpodhaaaDoor
