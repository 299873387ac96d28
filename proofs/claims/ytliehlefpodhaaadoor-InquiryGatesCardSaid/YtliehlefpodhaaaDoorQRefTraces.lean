/- Traces of the reference of layer 9: the traces of a file that are shown, or the error. For every gate and inquiries. Count of the package inquiry: how many inquiries count for credit. For every gate and inquiries. Count of the reference of layer 9: how many inquiries count for credit. For every gate and inquiries. -/
import Derived.Test.YtliehlefpodhaaaDoorQCutFrom
import Derived.Test.YtliehlefpodhaaaDoorQTraces
import Derived.Test.YtliehlefpodhaaaDoorQRefTr
namespace Go.Proofs.YtliehlefpodhaaaDoor
open Go.RowKit Go.Shelf Go.Sort

theorem inqsB_len {zs : List Inq} (h : inqsB zs = true) : zs.length ≤ 40 := by
  unfold inqsB at h
  simp only [Bool.and_eq_true, decide_eq_true_eq] at h
  exact h.1

set_option maxRecDepth 100000 in
set_option maxHeartbeats 4000000 in
theorem refTraces_any (g : Gat) (ls : List Lic) (ss : List Sig) (A : Option Addr) (n c : Nat) (zs : List Inq) (file now pu : Int) (w : World) (hg : GatIn w g ls ss) (hi : InqsIn w A n zs) (hu : 0 ≤ pu ∧ pu ≤ 255) :
    Calls Tryd.prog 17 #[g.val, .slice A n c, .int .i64 file, .int .i64 now, .int .u8 pu] w fun e w' => ∃ B m d, e = .returned (.tuple #[.slice B m d, .int .i64 (tracesN ls ss zs file now pu)]) ∧
      (Gr w w' ∧ TrOwn w w' B m d (tracesR ls ss zs file now pu)) := by
  have HC := hid (fun W (k : Gr w W) => refGateCheck_any g ls ss W (hg.gr k))
  have HI := hid (fun W (k : Gr w W) => refInquiries_any A n c zs W (hi.gr k))
  have HT := hid (fun W (k : Gr w W) (h : n ≤ 40) (h' : 0 ≤ now ∧ now ≤ 100000) => refTr_any g ls ss A n c zs file now pu W (hg.gr k) (hi.gr k) h h')
  have hlen := hi.rd.inq_len
  have HN : Hid (tracesN ls ss zs file now pu = if gateN ls ss = 0 then (if inqsB zs then (if inB 0 999999 file && inB 0 100000 now && inB 1 6 pu then 0 else 2) else 92) else gateN ls ss) := rfl
  have HL : Hid (inqsB zs = true → n ≤ 40) := fun h => by have := inqsB_len h; omega
  have HR : Hid (tracesN ls ss zs file now pu = 0 → tracesR ls ss zs file now pu = tracesL ls ss zs file now pu) := fun h => by unfold tracesR; rw [if_pos h]
  have HB : Hid (tracesN ls ss zs file now pu ≠ 0 → tracesR ls ss zs file now pu = []) := fun h => tracesR_bad rfl h
  have hz : gateN ls ss = 0 ∨ gateN ls ss = 90 ∨ gateN ls ss = 91 := by unfold gateN; (repeat' split) <;> simp
  obtain ⟨hu1, hu2⟩ := hu
  generalize gateN ls ss = ge at HC hz HN
  generalize tracesR ls ss zs file now pu = tr at HR HB ⊢
  generalize tracesL ls ss zs file now pu = tl at HT HR
  generalize tracesN ls ss zs file now pu = te at HN HR HB ⊢
  obtain ⟨bi, hbi⟩ : ∃ bi, inqsB zs = bi := ⟨_, rfl⟩
  rw [hbi] at HI HN HL
  obtain ⟨b1, h1⟩ : ∃ b, inB 0 999999 file = b := ⟨_, rfl⟩
  obtain ⟨b2, h2⟩ : ∃ b, inB 0 100000 now = b := ⟨_, rfl⟩
  obtain ⟨b3, h3⟩ : ∃ b, inB 1 6 pu = b := ⟨_, rfl⟩
  rw [h1, h2, h3] at HN
  have H1 := hid (fun W => refWithin_any file 0 999999 _ h1 W)
  have H2 := hid (fun W => refWithin_any now 0 100000 _ h2 W)
  have H3 := hid (fun W => refWithin_any pu 1 6 _ h3 W)
  have HNow : Hid (b2 = true → 0 ≤ now ∧ now ≤ 100000) := fun h => by
    rw [h] at h2; unfold inB at h2; simpa using h2
  clear hg hi hlen hbi h1 h2 h3
  obtain ⟨la, ln, lc, sa, sn, sc⟩ := g
  unfold Gat.val at *
  dsimp only at *
  obtain rfl | rfl | rfl := hz
  case' inl => cases bi
  case' inl.true => cases b1
  case' inl.true.true => cases b2
  case' inl.true.true.true => cases b3
  case inl.true.true.true.true =>
    have HE : Hid (te = 0) := HN.out
    have HT2 := hid (fun W k => HT.out W k (HL.out rfl) (HNow.out rfl))
    have HR2 := hid (HR.out HN.out)
    clear HT HL HNow HR HB HN
    go_enter Tryd.func17, Tryd.ntmps17
    go_wp2_with (first
      | (go_at_call 27; (with_reducible refine (HC.out _ ?_).mono ?_); rotate_right; rintro e w1 ⟨rfl, hbw1⟩; obtain ⟨hcw1, hfw1, hzw1⟩ := hbw1.rules; (try simp at hzw1); have hzw1_0 : w.heap.size < w1.heap.size := (by omega); have hyw1_0 : w.heap.size ≤ w1.heap.size := (by omega))
      | (go_at_call 38; (with_reducible refine (HI.out _ ?_).mono ?_); rotate_right; rintro e w2 ⟨rfl, hbw2⟩; obtain ⟨hcw2, hfw2, hzw2⟩ := hbw2.rules; (try simp at hzw2); have hzw2_0 : w.heap.size < w2.heap.size := (by omega); have hyw2_0 : w.heap.size ≤ w2.heap.size := (by omega))
      | (go_at_call 49; (with_reducible refine (H1.out _).mono ?_); rotate_right; rintro e w' ⟨rfl, rfl⟩)
      | (go_at_call 49; (with_reducible refine (H2.out _).mono ?_); rotate_right; rintro e w' ⟨rfl, rfl⟩)
      | (go_at_call 49; (with_reducible refine (H3.out _).mono ?_); rotate_right; rintro e w' ⟨rfl, rfl⟩)
      | (go_at_call 50; (with_reducible refine (HT2.out _ ?_).mono ?_); rotate_right; rintro e w4 ⟨B, m, d, rfl, k1, k2⟩; have HK := hid (And.intro k1 k2); clear k1 k2))
    all_goals try ((repeat (first | with_reducible exact Gr.refl _ | with_reducible refine Gr.trans ?_ hbw2 | with_reducible refine Gr.trans ?_ hbw1 | with_reducible refine Gr.alloc ?_ _ | with_reducible refine Gr.setCell ?_ (by simp) _ | with_reducible refine Gr.setCell ?_ (by simp; omega) _ | with_reducible refine Gr.drew ?_ | with_reducible refine Gr.drewN ?_ _)); done)
    go_ret2
    have G : Gr w w2 := by (repeat (first | with_reducible exact Gr.refl _ | with_reducible refine Gr.trans ?_ hbw2 | with_reducible refine Gr.trans ?_ hbw1 | with_reducible refine Gr.alloc ?_ _ | with_reducible refine Gr.setCell ?_ (by simp) _ | with_reducible refine Gr.setCell ?_ (by simp; omega) _ | with_reducible refine Gr.drew ?_ | with_reducible refine Gr.drewN ?_ _))
    refine ⟨B, m, d, by rw [HE.out]; rfl, G.trans HK.out.1, ?_⟩
    rw [HR2.out]
    exact HK.out.2.mono G.size
  all_goals
    have HE : Hid (te = _) := HN.out
    have HB2 : Hid (tr = []) := HB.out (by rw [HN.out]; simp)
    clear HT HL HNow HR HB HN
    go_enter Tryd.func17, Tryd.ntmps17
    go_wp2_with (first
      | (go_at_call 27; (with_reducible refine (HC.out _ ?_).mono ?_); rotate_right; rintro e w1 ⟨rfl, hbw1⟩; obtain ⟨hcw1, hfw1, hzw1⟩ := hbw1.rules; (try simp at hzw1); have hzw1_0 : w.heap.size < w1.heap.size := (by omega); have hyw1_0 : w.heap.size ≤ w1.heap.size := (by omega))
      | (go_at_call 38; (with_reducible refine (HI.out _ ?_).mono ?_); rotate_right; rintro e w2 ⟨rfl, hbw2⟩; obtain ⟨hcw2, hfw2, hzw2⟩ := hbw2.rules; (try simp at hzw2); have hzw2_0 : w.heap.size < w2.heap.size := (by omega); have hyw2_0 : w.heap.size ≤ w2.heap.size := (by omega))
      | (go_at_call 49; (with_reducible refine (H1.out _).mono ?_); rotate_right; rintro e w' ⟨rfl, rfl⟩)
      | (go_at_call 49; (with_reducible refine (H2.out _).mono ?_); rotate_right; rintro e w' ⟨rfl, rfl⟩)
      | (go_at_call 49; (with_reducible refine (H3.out _).mono ?_); rotate_right; rintro e w' ⟨rfl, rfl⟩))
    all_goals first
      | ((repeat (first | with_reducible exact Gr.refl _ | with_reducible refine Gr.trans ?_ hbw2 | with_reducible refine Gr.trans ?_ hbw1 | with_reducible refine Gr.alloc ?_ _ | with_reducible refine Gr.setCell ?_ (by simp) _ | with_reducible refine Gr.setCell ?_ (by simp; omega) _ | with_reducible refine Gr.drew ?_ | with_reducible refine Gr.drewN ?_ _)); done)
      | (go_ret2
         refine ⟨none, 0, 0, by rw [HE.out]; rfl, by (repeat (first | with_reducible exact Gr.refl _ | with_reducible refine Gr.trans ?_ hbw2 | with_reducible refine Gr.trans ?_ hbw1 | with_reducible refine Gr.alloc ?_ _ | with_reducible refine Gr.setCell ?_ (by simp) _ | with_reducible refine Gr.setCell ?_ (by simp; omega) _ | with_reducible refine Gr.drew ?_ | with_reducible refine Gr.drewN ?_ _)), ?_⟩
         rw [HB2.out]
         exact ⟨rfl, by omega, by omega, .inl ⟨rfl, rfl, rfl⟩⟩)
end Go.Proofs.YtliehlefpodhaaaDoor
namespace Go.Proofs.YtliehlefpodhaaaDoor
open Go.RowKit Go.Shelf Go.Sort

theorem flatT_drop (s : List Trc) (k : Nat) : (s.flatMap Trc.cells).drop (k * 5) = (s.drop k).flatMap Trc.cells := by
  induction s generalizing k with
  | nil => simp
  | cons x s ih =>
    cases k with
    | zero => simp
    | succ k =>
      rw [List.flatMap_cons, List.drop_succ_cons, ← ih k]
      have hx : x.cells.length = 5 := x.len
      rw [List.drop_append, hx, show (k + 1) * 5 - 5 = k * 5 by omega, List.drop_of_length_le (by rw [hx]; omega), List.nil_append]
theorem cntQ_cut {l s : List Trc} {m : Int} {k : Nat} (h : CntQ l m s) (h0 : 0 < s.length) (hk : k < s.length) (hp : decide (s[k]!.day > s[0]!.day + 14) = true) (hb : ∀ j, j < k → decide (s[j]!.day > s[0]!.day + 14) = false) : 1 ≤ k ∧ CntQ l (m + 1) (s.drop k) := by
  have hk0 : k ≠ 0 := fun e => by subst e; simp at hp; omega
  refine ⟨by omega, ?_⟩
  cases s with
  | nil => simp at h0
  | cons x r =>
    obtain ⟨j, rfl⟩ : ∃ j, k = j + 1 := ⟨k - 1, by omega⟩
    have e : r = r.take j ++ r.drop j := (List.take_append_drop j r).symm
    have hx : (x :: r)[0]! = x := rfl
    rw [hx] at hp hb
    rw [e] at h
    rw [List.drop_succ_cons]
    refine CntQ.step h (fun t ht => ?_) (fun y r' hy => ?_)
    · obtain ⟨i, hi, rfl⟩ := List.getElem_of_mem ht
      have hi' : i < j := by simp at hi; omega
      have := hb (i + 1) (by omega)
      rw [getElem!_pos (x :: r) (i + 1) (by simp at hk ⊢; omega)] at this
      simp at this
      simpa using this
    · have hj : j < r.length := by simp at hk; omega
      rw [getElem!_pos (x :: r) (j + 1) hk] at hp
      rw [List.drop_eq_getElem_cons hj] at hy
      obtain ⟨rfl, _⟩ := List.cons.inj hy
      simpa using hp
theorem cntQ_last {l s : List Trc} {m : Int} (h : CntQ l m s) (h0 : 0 < s.length) (hb : ∀ x ∈ s, decide (x.day > s[0]!.day + 14) = false) : m + 1 = countN l := by
  cases s with
  | nil => simp at h0
  | cons x r => exact h.last (fun t ht => by have := hb t (List.mem_cons_of_mem _ ht); simpa using this)
theorem tracesR_day {ls : List Lic} {ss : List Sig} {zs : List Inq} {file now pu : Int} {t : Trc} (h : t ∈ tracesR ls ss zs file now pu) : 0 ≤ t.day ∧ t.day ≤ 100000 := by
  unfold tracesR at h
  split at h
  · rename_i h0
    have hz : inqsB zs = true := by
      unfold tracesN at h0
      by_cases hge : gateN ls ss = 0
      · rw [if_pos hge] at h0
        cases e : inqsB zs with
        | true => rfl
        | false => rw [e] at h0; simp at h0
      · rw [if_neg hge] at h0; exact absurd h0 hge
    unfold tracesL at h
    have h2 := (sortT_perm _).mem_iff.1 h
    obtain ⟨y, hy, rfl⟩ := keptL_mem (List.mem_filter.1 h2).1
    exact inqB_day (inqsB_mem hz hy)
  · simp at h

set_option maxRecDepth 100000 in
set_option maxHeartbeats 8000000 in
theorem count_any (g : Gat) (ls : List Lic) (ss : List Sig) (A : Option Addr) (n c : Nat) (zs : List Inq) (file now : Int) (b off cap : Nat) (w : World) (hg : GatIn w g ls ss) (hA : ∀ b o, g.sa = some ⟨b, o, none⟩ → b < w.heap.size) (hn : g.sn < 1000) (hR : LaidR w b off cap) (hG : LaidL w)
    (hi : InqsIn w A n zs) :
    Calls Tryd.prog 18 #[g.val, .slice A n c, .int .i64 file, .int .i64 now] w fun e w' => e = .returned (.tuple #[.int .i64 (countN (tracesR ls ss zs file now 1)), .int .i64 (tracesN ls ss zs file now 1)]) ∧ Gr w w' := by
  have HT := hid (fun W (k : Gr w W) => traces_any g ls ss A n c zs file now 1 b off cap W (hg.gr k) (fun b o e => Nat.lt_of_lt_of_le (hA b o e) k.size) hn (hR.gr k) (hG.gr k) (hi.gr k) (by omega))
  have HD : Hid (∀ t ∈ tracesR ls ss zs file now 1, 0 ≤ t.day ∧ t.day ≤ 100000) := fun t ht => tracesR_day ht
  have HB : Hid (tracesN ls ss zs file now 1 ≠ 0 → tracesR ls ss zs file now 1 = []) := fun h => tracesR_bad rfl h
  have hle := hi.rd.inq_len
  clear hg hA hn hR hG hi hle
  generalize tracesR ls ss zs file now 1 = l at *
  generalize tracesN ls ss zs file now 1 = te at *
  obtain ⟨la, ln, lc, sa, sn, sc⟩ := g
  unfold Gat.val at *
  dsimp only at *
  obtain ⟨i0, hi0, hz0, hs0, hy0⟩ := info_parts info_trc
  have HI0 := hid hi0
  have HS0 := hid hs0
  clear hi0 hz0 hs0 hy0
  have hte : te = 0 ∨ te ≠ 0 := by omega
  by_cases h0 : te = 0
  case neg =>
    have h0' : (te == 0) = false := by simpa using h0
    have HL : Hid (countN l = 0) := by show countN l = 0; rw [HB.out h0]; rfl
    go_enter Tryd.func18, Tryd.ntmps18
    go_wp2_with (go_at_call 16; refine (HT.out _ ((Gr.refl w).alloc _)).mono ?_; rintro e w1 ⟨B, m, d, rfl, k1, k2⟩; have HK := hid (And.intro k1 k2); clear k1 k2)
    go_ret2
    exact ⟨by rw [HL.out]; rfl, ((Gr.refl w).alloc _ |>.trans HK.out.1).alloc _⟩
  case pos =>
    subst h0
    go_enter Tryd.func18, Tryd.ntmps18
    go_wp2_with (go_at_call 16; refine (HT.out _ ((Gr.refl w).alloc _)).mono ?_; rintro e w1 ⟨B, m, d, rfl, k1, k2⟩; have HK := hid (And.intro k1 k2); clear k1 k2)
    obtain ⟨hW1, hT1⟩ := HK.out
    have hrd := hT1.rd
    have hlen := hT1.len
    have hcap := hT1.le
    have hbig := hT1.big
    subst hlen
    have HR1 := hid hrd
    have HW1 := hid hW1
    have HBx := hid (Boxed.new w1 36 (.slice B l.length d))
    have hbig' : (l.length : Int) ≤ 9223372036854775807 := by omega
    clear HK hW1 hT1 hrd HT HB hte
    go_loopg [12] l.length (fun gg s12 wr => ∃ (s : List Trc) (k : Int) (A' : Option Addr) (c' : Nat), s12 = .int .i64 k ∧ s.length ≤ gg ∧ s.length ≤ c' ∧ c' ≤ 9223372036854775807 ∧ Gr w1 wr ∧ Boxed wr w1.heap.size 36 (.slice A' s.length c') ∧ Hid (CntQ l k s ∧ (∀ t ∈ s, t ∈ l) ∧ Rd w1 5 A' s.length (s.flatMap Trc.cells)))
    case atStart => exact ⟨l, 0, B, d, rfl, Nat.le_refl _, hcap, hbig, (Gr.refl w1).alloc _, HBx.out, CntQ.start l, fun t h => h, HR1.out⟩
    case round =>
      obtain ⟨s, k, A', c', rfl, hg, hc', hb', BW, hbx, HQ⟩ := hrel
      obtain ⟨kk, hkk⟩ : ∃ kk, s.length = kk := ⟨_, rfl⟩
      have HKK := hid hkk
      rw [hkk] at hg hc' hbx
      obtain ⟨hq1, hq2, hq3⟩ := HQ.out
      rw [hkk] at hq3
      have hk0 : 0 ≤ k := hq1.1
      have hk1 : k + kk ≤ (l.length : Int) := by have := hq1.2.1; omega
      have cP := Boxed.cell hbx
      have zP := Boxed.lt hbx
      have hbig2 : (kk : Int) ≤ 9223372036854775807 := by omega
      clear hkk
      by_cases hpos : 0 < kk
      · have hpos' : (0 : Int) < (kk : Int) := by omega
        have hkw : IntKind.i64.wrap (k + 1) = k + 1 := by rw [IntKind.wrap_i64]; omega
        obtain ⟨x, hx⟩ : ∃ x, s[0]! = x := ⟨_, rfl⟩
        have hxd := HD.out x (hq2 x (hx ▸ mem_get (by have := HKK.out; omega)))
        have HC := hid (indexFunc_trc 52 #[.pointer (some ⟨w1.heap.size, 0, none⟩)] (enters_of Tryd.func52 (by kernel_rfl) rfl) (fun t => decide (t.day > x.day + 14)) A' kk c' s wr
          (fun W t _ g => past_any t x w1.heap.size A' kk c' s W (row_cell cP g) ((hq3.gr BW).gr g) hpos hx (by omega) hxd) (hq3.gr BW) (by omega))
        have HX := hid hx
        have HBW := hid hbx
        clear hx hxd hq1 hq2 hq3 hbx
        rcases fidx_spec (fun t : Trc => decide (t.day > x.day + 14)) s with ⟨e1, e2⟩ | ⟨j, hj, e1, e2, e3⟩
        · rw [e1] at HC
          have HN : Hid (k + 1 = countN l) := cntQ_last HQ.out.1 (by have := HKK.out; omega) (by rw [HX.out]; exact e2)
          clear e1 e2
          go_wp2_with (go_at_call 51; refine HC.out.mono ?_; rintro e w3 ⟨rfl, hb3⟩; have HB3 := hid hb3; clear hb3)
          go_ret2
          refine ⟨by rw [← HN.out]; rfl, ((Gr.refl w).alloc _).trans (HW1.out.trans (BW.trans HB3.out))⟩
        · rw [e1] at HC
          have HN := hid (cntQ_cut HQ.out.1 (by have := HKK.out; omega) hj (by rw [HX.out]; exact e2) (by rw [HX.out]; exact e3))
          have hj0 : ¬ ((j : Int) < 0) := by omega
          have hjk : j < kk := by have := HKK.out; omega
          clear e1 e2 e3 hj
          go_wp2_with (first
            | (go_at_call 51; refine HC.out.mono ?_; rintro e w3 ⟨rfl, hb3⟩; have cR := Boxed.cell (boxed_gr HBW.out hb3); have fR := Boxed.frozen (boxed_gr HBW.out hb3); have HB3 := hid hb3; clear hb3)
            | (refine wpList_slice_from rfl (.tmp 35) (.tmp 36) 36 rfl 72 i0 5 Tryd.underlying36 HI0.out HS0.out A' kk c' j .i64 j rfl rfl rfl (Nat.le_of_lt hjk) hc' ?_; intro A1 hA1; have HA1 := hid hA1; clear hA1))
          go_roundg (kk - j)
          case measure => have := HN.out.1; omega
          case rel =>
            have hsl : (s.drop j).length = kk - j := by rw [List.length_drop, HKK.out]
            refine ⟨s.drop j, k + 1, A1, c' - j, by first | rfl | go_num, by rw [hsl]; exact Nat.le_refl _, by rw [hsl]; omega, by omega, ?_, ?_, HN.out.2, fun t h => HQ.out.2.1 t (List.mem_of_mem_drop h), ?_⟩
            · exact Gr.setCell (BW.trans HB3.out) (p := ⟨w1.heap.size, 0, none⟩) (by simp) _
            · rw [hsl]; exact Boxed.set _ (boxed_gr HBW.out HB3.out)
            · rw [hsl]
              have h := HA1.out w1 (s.flatMap Trc.cells) (by have h := HQ.out.2.2; rwa [HKK.out] at h)
              rwa [flatT_drop] at h
      · have hz : kk = 0 := by omega
        subst hz
        have hs : s = [] := List.length_eq_zero_iff.1 HKK.out
        subst hs
        have HN := hid (CntQ.done HQ.out.1)
        go_wp2
        go_ret2
        refine ⟨by rw [← HN.out]; rfl, ((Gr.refl w).alloc _).trans (HW1.out.trans BW)⟩
end Go.Proofs.YtliehlefpodhaaaDoor
namespace Go.Proofs.YtliehlefpodhaaaDoor
open Go.RowKit Go.Shelf Go.Sort

theorem count_take {l : List Trc} {k : Nat} (hk : k < l.length) : (l.take (k + 1)).foldl countStep (0, 0) = countStep ((l.take k).foldl countStep (0, 0)) l[k]! := by
  rw [List.take_succ_eq_append_getElem hk, List.foldl_append, getElem!_pos l k hk]; rfl
theorem count_bound {l : List Trc} (h : ∀ t ∈ l, 0 ≤ t.day ∧ t.day ≤ 100000) : 0 ≤ (l.foldl countStep (0, 0)).1 ∧ (l.foldl countStep (0, 0)).1 ≤ l.length ∧ 0 ≤ (l.foldl countStep (0, 0)).2 ∧ (l.foldl countStep (0, 0)).2 ≤ 100000 := by
  have : ∀ (l : List Trc) (p : Int × Int), (∀ t ∈ l, 0 ≤ t.day ∧ t.day ≤ 100000) → 0 ≤ p.1 → 0 ≤ p.2 → p.2 ≤ 100000 → 0 ≤ (l.foldl countStep p).1 ∧ (l.foldl countStep p).1 ≤ p.1 + l.length ∧ 0 ≤ (l.foldl countStep p).2 ∧ (l.foldl countStep p).2 ≤ 100000 := by
    intro l
    induction l with
    | nil => intro p _ h1 h2 h3; simp; omega
    | cons t l ih =>
      intro p h h1 h2 h3
      obtain ⟨h4, h5⟩ := h t (by simp)
      have hc : 0 ≤ (countStep p t).1 ∧ (countStep p t).1 ≤ p.1 + 1 ∧ 0 ≤ (countStep p t).2 ∧ (countStep p t).2 ≤ 100000 := by
        unfold countStep
        split
        · simp only; omega
        · omega
      have := ih (countStep p t) (fun x hx => h x (by simp [hx])) hc.1 hc.2.2.1 hc.2.2.2
      rw [List.foldl_cons]
      simp only [List.length_cons]
      omega
  have := this l (0, 0) h (by simp) (by simp) (by simp)
  simpa using this

set_option maxRecDepth 100000 in
set_option maxHeartbeats 4000000 in
theorem refCount_any (g : Gat) (ls : List Lic) (ss : List Sig) (A : Option Addr) (n c : Nat) (zs : List Inq) (file now : Int) (w : World) (hg : GatIn w g ls ss) (hi : InqsIn w A n zs) :
    Calls Tryd.prog 19 #[g.val, .slice A n c, .int .i64 file, .int .i64 now] w fun e w' => e = .returned (.tuple #[.int .i64 (countN (tracesR ls ss zs file now 1)), .int .i64 (tracesN ls ss zs file now 1)]) ∧ Gr w w' := by
  have HT := hid (fun W (k : Gr w W) => refTraces_any g ls ss A n c zs file now 1 W (hg.gr k) (hi.gr k) (by omega))
  have HD : Hid (∀ t ∈ tracesR ls ss zs file now 1, 0 ≤ t.day ∧ t.day ≤ 100000) := fun t ht => tracesR_day ht
  have HB : Hid (tracesN ls ss zs file now 1 ≠ 0 → tracesR ls ss zs file now 1 = []) := fun h => tracesR_bad rfl h
  clear hg hi
  generalize tracesR ls ss zs file now 1 = l at *
  generalize tracesN ls ss zs file now 1 = te at *
  obtain ⟨la, ln, lc, sa, sn, sc⟩ := g
  unfold Gat.val at *
  dsimp only at *
  have hte : te = 0 ∨ te ≠ 0 := by omega
  by_cases h0 : te = 0
  case neg =>
    have h0' : (te == 0) = false := by simpa using h0
    have h0n : (te != 0) = true := by simpa using h0
    have HL : Hid (countN l = 0) := by show countN l = 0; rw [HB.out h0]; rfl
    go_enter Tryd.func19, Tryd.ntmps19
    go_wp2_with (go_at_call 17; refine (HT.out _ ((Gr.refl w).alloc _)).mono ?_; rintro e w1 ⟨B, m, d, rfl, k1, k2⟩; have HK := hid (And.intro k1 k2); clear k1 k2)
    go_ret2
    exact ⟨by rw [HL.out]; rfl, ((Gr.refl w).alloc _ |>.trans HK.out.1)⟩
  case pos =>
    subst h0
    go_enter Tryd.func19, Tryd.ntmps19
    go_wp2_with (go_at_call 17; refine (HT.out _ ((Gr.refl w).alloc _)).mono ?_; rintro e w1 ⟨B, m, d, rfl, k1, k2⟩; have HK := hid (And.intro k1 k2); clear k1 k2)
    obtain ⟨hW1, hT1⟩ := HK.out
    have hrd := hT1.rd
    have hlen := hT1.len
    have hcap := hT1.le
    have hbig := hT1.big
    have HR1 := hid hrd
    have HW1 := hid hW1
    have HLn := hid hlen
    have hbig' : (m : Int) ≤ 9223372036854775807 := by omega
    clear HK hW1 hT1 hrd HT HB hte hlen
    go_loopg [12, 13, 14] m (fun gg s12 s13 s14 wr => ∃ (k : Nat) (a b : Int), k ≤ m ∧ m - k ≤ gg ∧ s12 = .int .i64 a ∧ s13 = .int .i64 b ∧ s14 = .int .i64 k ∧ Gr w1 wr ∧ Hid ((l.take k).foldl countStep (0, 0) = (a, b)))
    case atStart => exact ⟨0, 0, 0, Nat.zero_le _, by omega, rfl, rfl, rfl, Gr.refl w1, rfl⟩
    case round =>
      obtain ⟨k, a, b, hk, hg, rfl, rfl, rfl, BW, HQ⟩ := hrel
      by_cases hlt : k < m
      · obtain ⟨hk', b0, off, rfl, hb0, c0, c1, c2, c3, c4⟩ := (HR1.out.gr BW).trc hlt
        have HS := hid (count_take hk')
        have hbd := count_bound (l := l.take k) (fun t ht => HD.out t (List.mem_of_mem_take ht))
        rw [HQ.out] at hbd HS
        have hlt2 := List.length_take_le k l
        obtain ⟨hb1, hb2, hb3, hb4⟩ := hbd
        dsimp only at hb1 hb2 hb3 hb4
        have hb2' : a ≤ (k : Int) := by omega
        have hxd := HD.out l[k]! (mem_get hk')
        clear hk' c0 c1 c3 c4 hb2 hlt2
        generalize l[k]! = x at c2 HS hxd
        obtain ⟨x0, x1, x2, x3, x4⟩ := x
        dsimp only at *
        obtain ⟨x5, x6⟩ := hxd
        have hkn : (k : Int) < (m : Int) := by omega
        have hk0 : (0 : Int) ≤ (k : Int) := by omega
        have hw14 : IntKind.i64.wrap (b + 14) = b + 14 := by rw [IntKind.wrap_i64]; omega
        by_cases ha : a = 0
        · subst ha
          have HS2 : Hid ((l.take (k + 1)).foldl countStep (0, 0) = (0 + 1, x2)) := by show _ = _; rw [HS.out]; unfold countStep; rw [if_pos (.inl rfl)]
          clear HS
          go_wp2
          go_roundg (m - (k + 1))
          case measure => omega
          case rel => exact ⟨k + 1, 0 + 1, x2, by omega, by omega, by first | rfl | go_num, by first | rfl | go_num, by go_num, by first | exact BW | (repeat first | exact BW | refine Gr.drew ?_ | refine Gr.drewN ?_ _), HS2.out⟩
        · have ha' : (a == 0) = false := by simpa using ha
          by_cases hd : b + 14 < x2
          · have HS2 : Hid ((l.take (k + 1)).foldl countStep (0, 0) = (a + 1, x2)) := by show _ = _; rw [HS.out]; unfold countStep; rw [if_pos (.inr hd)]
            clear HS
            go_wp2
            go_roundg (m - (k + 1))
            case measure => omega
            case rel => exact ⟨k + 1, a + 1, x2, by omega, by omega, by first | rfl | go_num, by first | rfl | go_num, by go_num, by first | exact BW | (repeat first | exact BW | refine Gr.drew ?_ | refine Gr.drewN ?_ _), HS2.out⟩
          · have HS2 : Hid ((l.take (k + 1)).foldl countStep (0, 0) = (a, b)) := by show _ = _; rw [HS.out]; unfold countStep; rw [if_neg (by simp only; omega)]
            have hd' : x2 ≤ b + 14 := by omega
            clear HS
            go_wp2
            go_roundg (m - (k + 1))
            case measure => omega
            case rel => exact ⟨k + 1, a, b, by omega, by omega, by first | rfl | go_num, by first | rfl | go_num, by go_num, by first | exact BW | (repeat first | exact BW | refine Gr.drew ?_ | refine Gr.drewN ?_ _), HS2.out⟩
      · have hltz : ¬ (k : Int) < (m : Int) := by omega
        have HV : Hid (countN l = a) := by
          have h := HQ.out
          rw [show l.take k = l from List.take_of_length_le (by have := HLn.out; omega)] at h
          show countN l = a
          unfold countN; rw [h]
        go_wp2
        go_ret2
        exact ⟨by rw [HV.out]; rfl, ((Gr.refl w).alloc _ |>.trans HW1.out).trans BW⟩
end Go.Proofs.YtliehlefpodhaaaDoor
