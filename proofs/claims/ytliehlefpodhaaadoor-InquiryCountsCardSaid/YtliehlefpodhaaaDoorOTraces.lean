/- Traces of the package inquiry: the traces of a file that are shown. For every gate and inquiries. -/
import Derived.Deep.LoopGhost
import Derived.Laws.AppendOwn
import Derived.Test.YtliehlefpodhaaaDoorORegGr
import Derived.Test.YtliehlefpodhaaaDoorOMix
import Derived.Test.YtliehlefpodhaaaDoorOAsk
import Derived.Test.YtliehlefpodhaaaDoorOTrRow
import Derived.Test.YtliehlefpodhaaaDoorOOwnKept
namespace Go.Proofs.YtliehlefpodhaaaDoor
open Go.RowKit Go.Shelf Go.Sort

theorem inqsB_bad {zs : List Inq} {k : Nat} (hk : k < zs.length) (h : inqBad zs k = true) : inqsB zs = false := by
  unfold inqsB
  rw [show (List.range zs.length).any (inqBad zs) = true from List.any_eq_true.2 ⟨k, by simpa using hk, h⟩]
  simp
theorem inqsB_many {zs : List Inq} (h : 40 < zs.length) : inqsB zs = false := by
  unfold inqsB
  rw [show decide (zs.length ≤ 40) = false by simp; omega]
  rfl
theorem inqsB_good {zs : List Inq} (h40 : zs.length ≤ 40) (h : ∀ j, j < zs.length → inqBad zs j = false) : inqsB zs = true := by
  unfold inqsB
  rw [show (List.range zs.length).any (inqBad zs) = false from List.any_eq_false.2 (fun j hj => by simpa using h j (by simpa using hj))]
  simpa using h40
/-- What is handed back. -/
def tracesR (ls : List Lic) (ss : List Sig) (zs : List Inq) (file now pu : Int) : List Trc := if tracesN ls ss zs file now pu = 0 then tracesL ls ss zs file now pu else []
theorem tracesR_bad {ls : List Lic} {ss : List Sig} {zs : List Inq} {file now pu e : Int} (h : tracesN ls ss zs file now pu = e) (he : e ≠ 0) : tracesR ls ss zs file now pu = [] := by
  unfold tracesR; rw [if_neg (by rw [h]; exact he)]

set_option maxRecDepth 100000 in
set_option maxHeartbeats 8000000 in
theorem traces_any (g : Gat) (ls : List Lic) (ss : List Sig) (A : Option Addr) (n c : Nat) (zs : List Inq) (file now pu : Int) (b off cap : Nat) (w : World) (hg : GatIn w g ls ss) (hA : ∀ b o, g.sa = some ⟨b, o, none⟩ → b < w.heap.size) (hn : g.sn < 1000) (hR : LaidR w b off cap) (hG : LaidL w)
    (hi : InqsIn w A n zs) (hu : 0 ≤ pu ∧ pu ≤ 255) :
    Calls Tryd.prog 16 #[g.val, .slice A n c, .int .i64 file, .int .i64 now, .int .u8 pu] w fun e w' => ∃ B m d, e = .returned (.tuple #[.slice B m d, .int .i64 (tracesN ls ss zs file now pu)]) ∧
      (Gr w w' ∧ TrOwn w w' B m d (tracesR ls ss zs file now pu)) := by
  have HC := hid (fun W (k : Gr w W) => gateCheck_any g ls ss W (hg.gr k) (hG.gr k))
  have HA := hid (fun q W (k : Gr w W) => ask_any g ls ss q b off cap W (hg.gr k) (fun b o e => Nat.lt_of_lt_of_le (hA b o e) k.size) hn (hR.gr k))
  have HI := hid hi
  have HL := hid hi.rd.inq_len
  have hbig := hi.big
  have hbig' : (n : Int) ≤ 9223372036854775807 := by omega
  have hz : gateN ls ss = 0 ∨ gateN ls ss = 90 ∨ gateN ls ss = 91 := by unfold gateN; (repeat' split) <;> simp
  have HN : Hid (tracesN ls ss zs file now pu = if gateN ls ss = 0 then (if inqsB zs then (if inB 0 999999 file && inB 0 100000 now && inB 1 6 pu then 0 else 2) else 92) else gateN ls ss) := rfl
  generalize gateN ls ss = ge at HC hz HN
  clear hg hA hn hR hG hi
  by_cases hge : ge = 0
  case neg =>
    have HE : Hid (tracesN ls ss zs file now pu = ge) := by show tracesN ls ss zs file now pu = ge; rw [HN.out, if_neg hge]
    have HZ := hid hge
    obtain ⟨la, ln, lc, sa, sn, sc⟩ := g
    unfold Gat.val at *
    dsimp only at *
    obtain rfl | rfl | rfl := hz
    · exact absurd rfl hge
    all_goals
      clear HA HI HL hbig hbig' HN hge
      go_enter Tryd.func16, Tryd.ntmps16
      go_wp2_with (first
        | (go_at_call 26; (with_reducible refine (HC.out _ ?_).mono ?_); rotate_right; rintro e w1 ⟨rfl, hbw1⟩; obtain ⟨hcw1, hfw1, hzw1⟩ := hbw1.rules; (try simp at hzw1); have hzw1_0 : w.heap.size < w1.heap.size := (by omega); have hyw1_0 : w.heap.size ≤ w1.heap.size := (by omega); have hzw1_1 : w.heap.size + 1 < w1.heap.size := (by omega); have hyw1_1 : w.heap.size + 1 ≤ w1.heap.size := (by omega)))
      all_goals try ((repeat (first | with_reducible exact Gr.refl _ | with_reducible refine Gr.alloc ?_ _ | with_reducible refine Gr.setCell ?_ (by simp) _ | with_reducible refine Gr.setCell ?_ (by simp; omega) _ | with_reducible refine Gr.drew ?_ | with_reducible refine Gr.drewN ?_ _)); done)
      go_ret2
      refine ⟨none, 0, 0, by rw [HE.out]; rfl, by (repeat (first | with_reducible exact Gr.refl _ | with_reducible refine Gr.trans ?_ hbw1 | with_reducible refine Gr.alloc ?_ _ | with_reducible refine Gr.setCell ?_ (by simp) _ | with_reducible refine Gr.setCell ?_ (by simp; omega) _ | with_reducible refine Gr.drew ?_ | with_reducible refine Gr.drewN ?_ _)), ?_⟩
      rw [tracesR_bad HE.out (by omega)]
      exact ⟨rfl, by omega, by omega, .inl ⟨rfl, rfl, rfl⟩⟩
  case pos =>
    subst hge
    have HN92 : Hid (inqsB zs = false → tracesN ls ss zs file now pu = 92) := fun h => by rw [HN.out, if_pos rfl, h]; rfl
    have HN2 : Hid (inqsB zs = true → (inB 0 999999 file && inB 0 100000 now && inB 1 6 pu) = false → tracesN ls ss zs file now pu = 2) := fun h h' => by rw [HN.out, if_pos rfl, h, h']; rfl
    have HN0 : Hid (inqsB zs = true → (inB 0 999999 file && inB 0 100000 now && inB 1 6 pu) = true → tracesN ls ss zs file now pu = 0) := fun h h' => by rw [HN.out, if_pos rfl, h, h']; rfl
    clear hz HN
    obtain ⟨la, ln, lc, sa, sn, sc⟩ := g
    unfold Gat.val at *
    dsimp only at *
    go_enter Tryd.func16, Tryd.ntmps16
    go_wp2_with (first
      | (go_at_call 26; (with_reducible refine (HC.out _ ?_).mono ?_); rotate_right; rintro e w1 ⟨rfl, hbw1⟩; obtain ⟨hcw1, hfw1, hzw1⟩ := hbw1.rules; (try simp at hzw1); have hzw1_0 : w.heap.size < w1.heap.size := (by omega); have hyw1_0 : w.heap.size ≤ w1.heap.size := (by omega); have hzw1_1 : w.heap.size + 1 < w1.heap.size := (by omega); have hyw1_1 : w.heap.size + 1 ≤ w1.heap.size := (by omega)))
    all_goals try ((repeat (first | with_reducible exact Gr.refl _ | with_reducible refine Gr.alloc ?_ _ | with_reducible refine Gr.setCell ?_ (by simp) _ | with_reducible refine Gr.setCell ?_ (by simp; omega) _ | with_reducible refine Gr.drew ?_ | with_reducible refine Gr.drewN ?_ _)); done)
    have G1 : Hid (Gr w w1) := (((Gr.refl w).alloc _).alloc _).trans hbw1
    have RW := hid (rows2 w (.cells #[.slice la ln lc, .slice sa sn sc] 25) (.cells #[.int .i64 now] 3))
    have HRG : Hid (w1.heap[w.heap.size]? = some (.cells #[.slice la ln lc, .slice sa sn sc] 25 (0, 0)) ∧ w1.heap[w.heap.size + 1]? = some (.cells #[.int .i64 now] 3 (0, 0))) := ⟨row_gr RW.out.1 hbw1, row_gr RW.out.2 hbw1⟩
    clear RW hcw1 hfw1 hzw1 hzw1_0 hyw1_0 hzw1_1 hyw1_1 hbw1 HC
    go_loopg [25] n (fun gg s25 wr => ∃ kk : Nat, kk ≤ n ∧ kk ≤ 40 ∧ n - kk ≤ gg ∧ s25 = .int .i64 kk ∧ Gr w1 wr ∧ Hid (∀ j, j < kk → inqBad zs j = false))
    case atStart => exact ⟨0, Nat.zero_le _, by omega, by omega, rfl, Gr.refl w1, fun j hj => absurd hj (Nat.not_lt_zero _)⟩
    case round =>
      obtain ⟨kk, hkk, h40, hg, rfl, BW, HA1⟩ := hrel
      by_cases hlt : kk < n
      · obtain ⟨hk', b', off', hA', hb', c0, c1, c2, c3, c4, c5⟩ := (HI.out.gr (G1.out.trans BW)).rd.inq hlt
        subst hA'
        have HK := hid hk'
        clear hk'
        obtain ⟨x, hx⟩ : ∃ x, zs[kk]! = x := ⟨_, rfl⟩
        have hu1 : 0 ≤ x.purpose ∧ x.purpose ≤ 255 := hx ▸ HI.out.u8 _ (mem_get HK.out)
        have HS := hid (fun W => sound_any x W hu1)
        have HP : Hid (inqBad zs kk = (!inqB x || (decide (0 < kk) && decide (x.id ≤ zs[kk - 1]!.id)))) := by show inqBad zs kk = _; unfold inqBad; rw [hx]
        rw [hx] at c0 c1 c2 c3 c4 c5
        clear hx hu1
        obtain ⟨bs, hbs⟩ : ∃ bs, inqB x = bs := ⟨_, rfl⟩
        rw [hbs] at HS HP
        clear hbs
        have hkn : (kk : Int) < (n : Int) := by omega
        have hk0 : (0 : Int) ≤ (kk : Int) := by omega
        cases bs with
        | false =>
          obtain ⟨x0, x1, x2, x3, x4, x5⟩ := x
          unfold Inq.val at HS
          dsimp only at *
          have q0 := GrW.cell (row_cell c0 ((Gr.refl wr).alloc (.cells #[.int .i64 x0, .int .i64 x1, .int .i64 x2, .int .i64 x3, .int .u8 x4, .bool x5] 27)))
          obtain ⟨r0, r1, r2, r3, r4, r5⟩ := row6 (heap_alloc_new wr (.cells #[.int .i64 x0, .int .i64 x1, .int .i64 x2, .int .i64 x3, .int .u8 x4, .bool x5] 27))
          go_wp2
          (refine wp_region_gr (by kernel_rfl) (by kernel_rfl) ?_; (repeat (first | go_big_quiet_step ((first | (go_at_call 39; exact calls_gr (HS.out _)))) | quiet_step ((first | (go_at_call 39; exact calls_gr (HS.out _)))))); refine wpQuiet_nil ?_; intro wa hw; obtain ⟨⟨_, hbwa⟩, hw⟩ := hw; subst hw; obtain ⟨hcwa, hfwa, hzwa⟩ := hbwa.rules; (try simp at hzwa))
          go_wp2
          go_ret2
          have he := HN92.out (inqsB_bad HK.out (by rw [HP.out]; rfl))
          refine ⟨none, 0, 0, by rw [he]; rfl, G1.out.trans (BW.trans (((Gr.refl wr).alloc _).trans hbwa)), ?_⟩
          rw [tracesR_bad he (by omega)]
          exact ⟨rfl, by omega, by omega, .inl ⟨rfl, rfl, rfl⟩⟩
        | true =>
          by_cases h0 : kk = 0
          · subst h0
            simp only [Nat.zero_mul, Nat.add_zero] at c0 c1 c2 c3 c4 c5
            obtain ⟨x0, x1, x2, x3, x4, x5⟩ := x
            unfold Inq.val at HS
            dsimp only at *
            have q0 := GrW.cell (row_cell c0 ((Gr.refl wr).alloc (.cells #[.int .i64 x0, .int .i64 x1, .int .i64 x2, .int .i64 x3, .int .u8 x4, .bool x5] 27)))
            obtain ⟨r0, r1, r2, r3, r4, r5⟩ := row6 (heap_alloc_new wr (.cells #[.int .i64 x0, .int .i64 x1, .int .i64 x2, .int .i64 x3, .int .u8 x4, .bool x5] 27))
            go_wp2
            (refine wp_region_gr (by kernel_rfl) (by kernel_rfl) ?_; (repeat (first | go_big_quiet_step ((first | (go_at_call 39; exact calls_gr (HS.out _)))) | quiet_step ((first | (go_at_call 39; exact calls_gr (HS.out _)))))); refine wpQuiet_nil ?_; intro wa hw; obtain ⟨⟨_, hbwa⟩, hw⟩ := hw; subst hw; obtain ⟨hcwa, hfwa, hzwa⟩ := hbwa.rules; (try simp at hzwa))
            go_wp2
            go_roundg (n - (0 + 1))
            case measure => omega
            case rel =>
              refine ⟨0 + 1, by omega, by omega, by omega, by go_num, BW.trans (((Gr.refl wr).alloc _).trans hbwa), hid fun j' hj' => ?_⟩
              by_cases e : j' = 0
              · subst e; rw [HP.out]; rfl
              · exact HA1.out j' (by omega)
          · obtain ⟨j, rfl⟩ : ∃ j, kk = j + 1 := ⟨kk - 1, by omega⟩
            clear h0
            obtain ⟨_, b2, off2, hA2, _, d0, _⟩ := (HI.out.gr (G1.out.trans BW)).rd.inq (k := j) (by omega)
            cases hA2
            obtain ⟨y, hy⟩ : ∃ y, zs[j]!.id = y := ⟨_, rfl⟩
            rw [hy] at d0
            have HP2 : Hid (inqBad zs (j + 1) = decide (x.id ≤ y)) := by
              show inqBad zs (j + 1) = _
              rw [HP.out, Nat.add_sub_cancel, hy]; simp
            have hj0 : (0 : Int) ≤ (j : Int) := by omega
            have hjn : (j : Int) < (n : Int) := by omega
            have hjs : (0 : Int) < (j : Int) + 1 := by omega
            clear hy HP
            obtain ⟨x0, x1, x2, x3, x4, x5⟩ := x
            unfold Inq.val at HS
            dsimp only at *
            have q0 := GrW.cell (row_cell c0 ((Gr.refl wr).alloc (.cells #[.int .i64 x0, .int .i64 x1, .int .i64 x2, .int .i64 x3, .int .u8 x4, .bool x5] 27)))
            obtain ⟨r0, r1, r2, r3, r4, r5⟩ := row6 (heap_alloc_new wr (.cells #[.int .i64 x0, .int .i64 x1, .int .i64 x2, .int .i64 x3, .int .u8 x4, .bool x5] 27))
            have s0 := GrW.cell (row_cell d0 ((Gr.refl wr).alloc (.cells #[.int .i64 x0, .int .i64 x1, .int .i64 x2, .int .i64 x3, .int .u8 x4, .bool x5] 27)))
            by_cases hb : x0 ≤ y
            · have HP3 : Hid (inqBad zs (j + 1) = true) := by show inqBad zs (j + 1) = true; rw [HP2.out]; simpa using hb
              go_wp2
              (refine wp_region_gr (by kernel_rfl) (by kernel_rfl) ?_; (repeat (first | go_big_quiet_step ((first | (go_at_call 39; exact calls_gr (HS.out _)))) | quiet_step ((first | (go_at_call 39; exact calls_gr (HS.out _)))))); refine wpQuiet_nil ?_; intro wa hw; obtain ⟨⟨_, hbwa⟩, hw⟩ := hw; subst hw; obtain ⟨hcwa, hfwa, hzwa⟩ := hbwa.rules; (try simp at hzwa))
              go_wp2
              go_ret2
              have he := HN92.out (inqsB_bad HK.out HP3.out)
              refine ⟨none, 0, 0, by rw [he]; rfl, G1.out.trans (BW.trans (((Gr.refl wr).alloc _).trans hbwa)), ?_⟩
              rw [tracesR_bad he (by omega)]
              exact ⟨rfl, by omega, by omega, .inl ⟨rfl, rfl, rfl⟩⟩
            · have HP3 : Hid (inqBad zs (j + 1) = false) := by show inqBad zs (j + 1) = false; rw [HP2.out]; simpa using hb
              by_cases h4 : j + 1 < 40
              · have h4' : ¬ (40 : Int) ≤ (j : Int) + 1 := by omega
                go_wp2
                (refine wp_region_gr (by kernel_rfl) (by kernel_rfl) ?_; (repeat (first | go_big_quiet_step ((first | (go_at_call 39; exact calls_gr (HS.out _)))) | quiet_step ((first | (go_at_call 39; exact calls_gr (HS.out _)))))); refine wpQuiet_nil ?_; intro wa hw; obtain ⟨⟨_, hbwa⟩, hw⟩ := hw; subst hw; obtain ⟨hcwa, hfwa, hzwa⟩ := hbwa.rules; (try simp at hzwa))
                go_wp2
                go_roundg (n - (j + 1 + 1))
                case measure => omega
                case rel =>
                  refine ⟨j + 1 + 1, by omega, by omega, by omega, by go_num, BW.trans (((Gr.refl wr).alloc _).trans hbwa), hid fun j' hj' => ?_⟩
                  by_cases e : j' = j + 1
                  · subst e; exact HP3.out
                  · exact HA1.out j' (by omega)
              · have h4' : (40 : Int) ≤ (j : Int) + 1 := by omega
                go_wp2
                (refine wp_region_gr (by kernel_rfl) (by kernel_rfl) ?_; (repeat (first | go_big_quiet_step ((first | (go_at_call 39; exact calls_gr (HS.out _)))) | quiet_step ((first | (go_at_call 39; exact calls_gr (HS.out _)))))); refine wpQuiet_nil ?_; intro wa hw; obtain ⟨⟨_, hbwa⟩, hw⟩ := hw; subst hw; obtain ⟨hcwa, hfwa, hzwa⟩ := hbwa.rules; (try simp at hzwa))
                go_wp2
                go_ret2
                have he := HN92.out (inqsB_many (by have := HL.out; omega))
                refine ⟨none, 0, 0, by rw [he]; rfl, G1.out.trans (BW.trans (((Gr.refl wr).alloc _).trans hbwa)), ?_⟩
                rw [tracesR_bad he (by omega)]
                exact ⟨rfl, by omega, by omega, .inl ⟨rfl, rfl, rfl⟩⟩
      · have hltz : ¬ (kk : Int) < (n : Int) := by omega
        have HGD := hid (inqsB_good (zs := zs) (by have := HL.out; omega) (fun j hj => HA1.out j (by have := HL.out; omega)))
        have hn40 : n ≤ 40 := by omega
        obtain ⟨wm, rfl⟩ : ∃ wm : World, wm = wr := ⟨_, rfl⟩
        have n0 := row_cell_at (v := .int .i64 now) (row_gr HRG.out.2 BW) 0 rfl
        have nz : w.heap.size + 1 < wm.heap.size := block_lt_of_cell n0
        have nz0 : w.heap.size < wm.heap.size := by omega
        obtain ⟨u1, u2⟩ := hu
        obtain ⟨b1, h1⟩ : ∃ e, inB 0 999999 file = e := ⟨_, rfl⟩
        obtain ⟨b2, h2⟩ : ∃ e, inB 0 100000 now = e := ⟨_, rfl⟩
        obtain ⟨b3, h3⟩ : ∃ e, inB 1 6 pu = e := ⟨_, rfl⟩
        rw [h1, h2, h3] at HN2 HN0
        have H1 := hid h1
        have H2 := hid h2
        have H3 := hid h3
        clear h1 h2 h3
        by_cases hall : (b1 && b2 && b3) = true
        case neg =>
          have he := HN2.out HGD.out (by simpa using hall)
          have HE := hid he
          clear he hlt HA HN92 HN2 HN0
          cases b1
          case' true => cases b2
          case' true.true => cases b3
          case' true.true.true => exact absurd rfl hall
          all_goals
            clear hall
            go_wp2_with (first
              | (go_at_call 42; (with_reducible refine (in_one 0 999999 file _ H1.out _ _ _ ?_ ?_).mono ?_); rotate_right; rintro e wa ⟨rfl, hbwa⟩; obtain ⟨hcwa, hfwa, hzwa⟩ := hbwa.rules; (try simp at hzwa); have hzwa_0 : w.heap.size < wa.heap.size := (by omega); have hywa_0 : w.heap.size ≤ wa.heap.size := (by omega); have hzwa_1 : w.heap.size + 1 < wa.heap.size := (by omega); have hywa_1 : w.heap.size + 1 ≤ wa.heap.size := (by omega))
              | (go_at_call 42; (with_reducible refine (in_one 0 100000 now _ H2.out _ _ _ ?_ ?_).mono ?_); rotate_right; rintro e wb ⟨rfl, hbwb⟩; obtain ⟨hcwb, hfwb, hzwb⟩ := hbwb.rules; (try simp at hzwb); have hzwb_0 : w.heap.size < wb.heap.size := (by omega); have hywb_0 : w.heap.size ≤ wb.heap.size := (by omega); have hzwb_1 : w.heap.size + 1 < wb.heap.size := (by omega); have hywb_1 : w.heap.size + 1 ≤ wb.heap.size := (by omega))
              | (go_at_call 42; (with_reducible refine (in_one 1 6 pu _ H3.out _ _ _ ?_ ?_).mono ?_); rotate_right; rintro e wc ⟨rfl, hbwc⟩; obtain ⟨hcwc, hfwc, hzwc⟩ := hbwc.rules; (try simp at hzwc); have hzwc_0 : w.heap.size < wc.heap.size := (by omega); have hywc_0 : w.heap.size ≤ wc.heap.size := (by omega); have hzwc_1 : w.heap.size + 1 < wc.heap.size := (by omega); have hywc_1 : w.heap.size + 1 ≤ wc.heap.size := (by omega)))
          all_goals first
            | (simp; done)
            | (rw [cell_top _ _ _ _ _ (by simp)]; rfl)
            | (go_ret2
               refine ⟨none, 0, 0, by rw [HE.out]; rfl, G1.out.trans (BW.trans ?_), ?_⟩
               · (repeat (first | with_reducible exact Gr.refl _ | with_reducible refine Gr.trans ?_ hbwc | with_reducible refine Gr.trans ?_ hbwb | with_reducible refine Gr.trans ?_ hbwa | with_reducible refine Gr.alloc ?_ _ | with_reducible refine Gr.setCell ?_ (by simp) _ | with_reducible refine Gr.setCell ?_ (by simp; omega) _ | with_reducible refine Gr.drew ?_ | with_reducible refine Gr.drewN ?_ _))
               · rw [tracesR_bad HE.out (by omega)]
                 exact ⟨rfl, by omega, by omega, .inl ⟨rfl, rfl, rfl⟩⟩)
        case pos =>
          have HE := hid (HN0.out HGD.out hall)
          clear hlt HN92 HN2 HN0
          simp only [Bool.and_eq_true] at hall
          obtain ⟨⟨rfl, rfl⟩, rfl⟩ := hall
          go_wp2_with (first
            | (go_at_call 42; (with_reducible refine (in_one 0 999999 file _ H1.out _ _ _ ?_ ?_).mono ?_); rotate_right; rintro e wa ⟨rfl, hbwa⟩; obtain ⟨hcwa, hfwa, hzwa⟩ := hbwa.rules; (try simp at hzwa); have hzwa_0 : w.heap.size < wa.heap.size := (by omega); have hywa_0 : w.heap.size ≤ wa.heap.size := (by omega); have hzwa_1 : w.heap.size + 1 < wa.heap.size := (by omega); have hywa_1 : w.heap.size + 1 ≤ wa.heap.size := (by omega))
            | (go_at_call 42; (with_reducible refine (in_one 0 100000 now _ H2.out _ _ _ ?_ ?_).mono ?_); rotate_right; rintro e wb ⟨rfl, hbwb⟩; obtain ⟨hcwb, hfwb, hzwb⟩ := hbwb.rules; (try simp at hzwb); have hzwb_0 : w.heap.size < wb.heap.size := (by omega); have hywb_0 : w.heap.size ≤ wb.heap.size := (by omega); have hzwb_1 : w.heap.size + 1 < wb.heap.size := (by omega); have hywb_1 : w.heap.size + 1 ≤ wb.heap.size := (by omega))
            | (go_at_call 42; (with_reducible refine (in_one 1 6 pu _ H3.out _ _ _ ?_ ?_).mono ?_); rotate_right; rintro e wc ⟨rfl, hbwc⟩; obtain ⟨hcwc, hfwc, hzwc⟩ := hbwc.rules; (try simp at hzwc); have hzwc_0 : w.heap.size < wc.heap.size := (by omega); have hywc_0 : w.heap.size ≤ wc.heap.size := (by omega); have hzwc_1 : w.heap.size + 1 < wc.heap.size := (by omega); have hywc_1 : w.heap.size + 1 ≤ wc.heap.size := (by omega)))
          all_goals try first
            | (simp; done)
            | (rw [cell_top _ _ _ _ _ (by simp)]; rfl)
          have G2 : Hid (Gr w wc) := G1.out.trans (BW.trans (by (repeat (first | with_reducible exact Gr.refl _ | with_reducible refine Gr.trans ?_ hbwc | with_reducible refine Gr.trans ?_ hbwb | with_reducible refine Gr.trans ?_ hbwa | with_reducible refine Gr.alloc ?_ _ | with_reducible refine Gr.setCell ?_ (by simp) _ | with_reducible refine Gr.setCell ?_ (by simp; omega) _ | with_reducible refine Gr.drew ?_ | with_reducible refine Gr.drewN ?_ _))))
          have GM : Hid (Gr w1 wc) := BW.trans (by (repeat (first | with_reducible exact Gr.refl _ | with_reducible refine Gr.trans ?_ hbwc | with_reducible refine Gr.trans ?_ hbwb | with_reducible refine Gr.trans ?_ hbwa | with_reducible refine Gr.alloc ?_ _ | with_reducible refine Gr.setCell ?_ (by simp) _ | with_reducible refine Gr.setCell ?_ (by simp; omega) _ | with_reducible refine Gr.drew ?_ | with_reducible refine Gr.drewN ?_ _)))
          have HR2 : Hid (wc.heap[w.heap.size]? = some (.cells #[.slice la ln lc, .slice sa sn sc] 25 (0, 0)) ∧ wc.heap[w.heap.size + 1]? = some (.cells #[.int .i64 now] 3 (0, 0))) := ⟨row_gr HRG.out.1 GM.out, row_gr HRG.out.2 GM.out⟩
          have hzc : w.heap.size + 1 < wc.heap.size := hzwc_1
          have hnow : 0 ≤ now ∧ now ≤ 100000 := by have h := H2.out; unfold inB at h; simpa using h
          obtain ⟨hn1, hn2⟩ := hnow
          have hw730 : IntKind.i64.wrap (now - 730) = now - 730 := by rw [IntKind.wrap_i64]; omega
          obtain ⟨i0, hi0, hz0, hs0, hy0⟩ := info_parts info_trc
          have HI0 := hid hi0
          have HZ0 := hid hz0
          have HS0 := hid hs0
          have HY0 := hid hy0
          clear hcwa hfwa hzwa hzwa_0 hywa_0 hzwa_1 hywa_1 hbwa hcwb hfwb hzwb hzwb_0 hywb_0 hzwb_1 hywb_1 hbwb hcwc hfwc hzwc hzwc_0 hywc_0 hzwc_1 hywc_1 hbwc H1 H2 H3 hltz HA1 n0 nz nz0 hi0 hz0 hs0 hy0 h40
          go_loopg [15, 72] n (fun gg s15 s72 wr => ∃ kk : Nat, kk ≤ n ∧ n - kk ≤ gg ∧ s72 = .int .i64 kk ∧ Gr wc wr ∧ Hid (wr.ownsRow wc.heap.size 72 5 s15 (keptL ls ss file now (zs.take kk)).length ((keptL ls ss file now (zs.take kk)).flatMap Trc.cells)))
          case atStart => exact ⟨0, Nat.zero_le _, by omega, rfl, Gr.refl wc, ⟨rfl, .inl ⟨rfl, rfl⟩⟩⟩
          case round =>
            obtain ⟨q, hkq, hgq, rfl, BV, HO⟩ := hrel
            by_cases hltq : q < n
            · obtain ⟨hk', b', off', hA', hb', c0, c1, c2, c3, c4, c5⟩ := (HI.out.gr (G2.out.trans BV)).rd.inq hltq
              subst hA'
              have HK := hid hk'
              clear hk'
              obtain ⟨x, hx⟩ : ∃ x, zs[q]! = x := ⟨_, rfl⟩
              have hxm : x ∈ zs := hx ▸ mem_get HK.out
              have hdx := inqB_day (inqsB_mem HGD.out hxm)
              have HAx := hid (HA.out x)
              have HSk : Hid (keptB file now x = false → keptL ls ss file now (zs.take (q + 1)) = keptL ls ss file now (zs.take q)) := fun h => keptL_skip HK.out (by rw [hx]; exact h)
              have HPt : Hid (keptB file now x = true → keptL ls ss file now (zs.take (q + 1)) = keptL ls ss file now (zs.take q) ++ [trcOf ls ss x]) := fun h => by have := keptL_put (ls := ls) (ss := ss) (file := file) (now := now) HK.out (by rw [hx]; exact h); rwa [hx] at this
              have HKp : Hid (keptB file now x = (x.file == file && inB (now - 730) now x.day)) := rfl
              have HTr : Hid (trcOf ls ss x = ⟨x.id, x.who, x.day, x.purpose, askN ls ss x⟩) := rfl
              rw [hx] at c0 c1 c2 c3 c4 c5
              clear hx hxm
              obtain ⟨a, ha⟩ : ∃ a, askN ls ss x = a := ⟨_, rfl⟩
              rw [ha] at HAx HTr
              clear ha
              generalize trcOf ls ss x = tr at HPt HTr
              generalize keptB file now x = kb at HSk HPt HKp
              obtain ⟨e1, k1⟩ : ∃ e, (x.file == file) = e := ⟨_, rfl⟩
              obtain ⟨e2, k2⟩ : ∃ e, inB (now - 730) now x.day = e := ⟨_, rfl⟩
              rw [k1, k2] at HKp
              have H4 := hid k2
              clear k2
              obtain ⟨x0, x1, x2, x3, x4, x5⟩ := x
              unfold Inq.val at HAx
              dsimp only at *
              have g0 := row_cell_at (v := .int .i64 now) (row_gr HR2.out.2 BV) 0 rfl
              have gz : w.heap.size + 1 < wr.heap.size := block_lt_of_cell g0
              have gz0 : w.heap.size < wr.heap.size := by omega
              have HRow := hid (heap_alloc_new wr (.cells #[.int .i64 x0, .int .i64 x1, .int .i64 x2, .int .i64 x3, .int .u8 x4, .bool x5] 27))
              cases e1 with
              | false =>
                have HQ := HSk.out HKp.out
                have HQ2 := hid HQ
                clear HQ HPt HSk
                go_wp2
                go_roundg (n - (q + 1))
                case measure => omega
                case rel => exact ⟨q + 1, by omega, by omega, by go_num, BV.trans ((Gr.refl wr).alloc _), by rw [HQ2.out]; exact ownT_gr HO.out ((Gr.refl wr).alloc _)⟩
              | true =>
                cases e2 with
                | false =>
                  have HQ := HSk.out HKp.out
                  have HQ2 := hid HQ
                  clear HQ HPt HSk
                  go_wp2_with (first
                    | (go_at_call 42; (with_reducible refine (in_one (now - 730) now x1 _ H4.out _ _ _ ?_ ?_).mono ?_); rotate_right; rintro e wd ⟨rfl, hbwd⟩; obtain ⟨hcwd, hfwd, hzwd⟩ := hbwd.rules; (try simp at hzwd); have hzwd_0 : w.heap.size < wd.heap.size := (by omega); have hywd_0 : w.heap.size ≤ wd.heap.size := (by omega); have hzwd_1 : w.heap.size + 1 < wd.heap.size := (by omega); have hywd_1 : w.heap.size + 1 ≤ wd.heap.size := (by omega)))
                  all_goals try first
                    | (simp; done)
                    | (rw [cell_top _ _ _ _ _ (by simp)]; rfl)
                  have gg := (((Gr.refl wr).alloc _).alloc _).trans hbwd
                  go_roundg (n - (q + 1))
                  case measure => omega
                  case rel => exact ⟨q + 1, by omega, by omega, by go_num, BV.trans gg, by rw [HQ2.out]; exact ownT_gr HO.out gg⟩
                | true =>
                  have HQ := HPt.out HKp.out
                  have HQ2 := hid HQ
                  clear HQ HPt HSk
                  go_wp2_with (first
                    | (go_at_call 42; (with_reducible refine (in_one (now - 730) now x1 _ H4.out _ _ _ ?_ ?_).mono ?_); rotate_right; rintro e wd ⟨rfl, hbwd⟩; obtain ⟨hcwd, hfwd, hzwd⟩ := hbwd.rules; (try simp at hzwd); have hzwd_0 : w.heap.size < wd.heap.size := (by omega); have hywd_0 : w.heap.size ≤ wd.heap.size := (by omega); have hzwd_1 : w.heap.size + 1 < wd.heap.size := (by omega); have hywd_1 : w.heap.size + 1 ≤ wd.heap.size := (by omega)))
                  all_goals try first
                    | (simp; done)
                    | (rw [cell_top _ _ _ _ _ (by simp)]; rfl)
                  have gg := (((Gr.refl wr).alloc _).alloc _).trans hbwd
                  have RA : wd.drew.heap[w.heap.size]? = some (.cells #[.slice la ln lc, .slice sa sn sc] 25 (0, 0)) := row_gr (row_gr HR2.out.1 BV) gg.drew
                  have RB : wd.drew.heap[wr.heap.size]? = some (.cells #[.int .i64 x0, .int .i64 x1, .int .i64 x2, .int .i64 x3, .int .u8 x4, .bool x5] 27 (0, 0)) := row_gr (row_gr HRow.out ((Gr.refl _).alloc _)) hbwd.drew
                  have pa0 := fun p : KeepW wd.drew w.heap.size wr.heap.size => p.fst RA 0 (v := .slice la ln lc) rfl
                  have pa1 := fun p : KeepW wd.drew w.heap.size wr.heap.size => p.fst RA 1 (v := .slice sa sn sc) rfl
                  have pb0 := fun p : KeepW wd.drew w.heap.size wr.heap.size => p.snd RB 0 (v := .int .i64 x0) rfl
                  have pb1 := fun p : KeepW wd.drew w.heap.size wr.heap.size => p.snd RB 1 (v := .int .i64 x1) rfl
                  have pb2 := fun p : KeepW wd.drew w.heap.size wr.heap.size => p.snd RB 2 (v := .int .i64 x2) rfl
                  have pb3 := fun p : KeepW wd.drew w.heap.size wr.heap.size => p.snd RB 3 (v := .int .i64 x3) rfl
                  have pb4 := fun p : KeepW wd.drew w.heap.size wr.heap.size => p.snd RB 4 (v := .int .u8 x4) rfl
                  have pb5 := fun p : KeepW wd.drew w.heap.size wr.heap.size => p.snd RB 5 (v := .bool x5) rfl
                  have HG := hid gg
                  have zA : w.heap.size < wd.drew.heap.size := (Array.getElem?_eq_some_iff.1 RA).1
                  have zB : wr.heap.size < wd.drew.heap.size := (Array.getElem?_eq_some_iff.1 RB).1
                  have HZ := hid (And.intro zA zB)
                  clear gg RA RB hcwd hfwd hbwd zA zB c0 c1 c2 c3 c4 c5 g0
                  refine wp_region_mixN (C := fun w' => ∃ p : KeepW wd.drew w.heap.size wr.heap.size, w' = p.W) [12, 14, 15] (by rfl) (by kernel_rfl) ⟨⟨wd.drew, rfl, rfl⟩, rfl⟩ ?_
                  (repeat (first | ((with_reducible refine mixL_read0 ?_ ?_ (fun K hK => ?_)); rfl; rfl; go_big_quiet_op; (with_reducible refine hK _ ?_); clear hK K) | ((with_reducible refine' mixL_skipG ?_ ?_ ?_ ?_ ?_); rotate_left 4; rfl; rfl; rfl; rfl; simp only [Act.put, List.setIfInBounds_toArray, List.set_cons_zero, List.set_cons_succ]) | ((with_reducible refine' mixL_skipU ?_ ?_ ?_ ?_); rotate_left 3; rfl; rfl; rfl; simp only [Act.put, List.setIfInBounds_toArray, List.set_cons_zero, List.set_cons_succ]) | ((with_reducible refine' mixL_readG ?_ ?_ ?_ ?_ ?_ (fun K hK => ?_)); rotate_left 4; rfl; rfl; rfl; rfl; rfl; go_big_quiet_op; (with_reducible refine hK _ ?_); clear hK K)))
                  (first | ((with_reducible refine mixL_mut0 ?_ ?_ (fun K hK => ?_)); rfl; rfl) | ((with_reducible refine' mixL_mutG ?_ ?_ ?_ ?_ ?_ (fun K hK => ?_)); rotate_left 4; rfl; rfl; rfl; rfl; rfl))
                  go_simp
                  refine (HAx.out _ ?_).mono ?_
                  · exact (G2.out.trans BV).trans HG.out.drew
                  rintro e w6 ⟨rfl, hk6⟩
                  have GK := hid hk6
                  refine hK.out _ _ ⟨KeepW.gr ⟨wd.drew, rfl, rfl⟩ GK.out HZ.out.1 HZ.out.2, rfl⟩ ?_
                  clear hK K hk6
                  (repeat (first | ((with_reducible refine mixL_read0 ?_ ?_ (fun K hK => ?_)); rfl; rfl; go_big_quiet_op; (with_reducible refine hK _ ?_); clear hK K) | ((with_reducible refine' mixL_skipG ?_ ?_ ?_ ?_ ?_); rotate_left 4; rfl; rfl; rfl; rfl; simp only [Act.put, List.setIfInBounds_toArray, List.set_cons_zero, List.set_cons_succ]) | ((with_reducible refine' mixL_skipU ?_ ?_ ?_ ?_); rotate_left 3; rfl; rfl; rfl; simp only [Act.put, List.setIfInBounds_toArray, List.set_cons_zero, List.set_cons_succ]) | ((with_reducible refine' mixL_readG ?_ ?_ ?_ ?_ ?_ (fun K hK => ?_)); rotate_left 4; rfl; rfl; rfl; rfl; rfl; go_big_quiet_op; (with_reducible refine hK _ ?_); clear hK K)))
                  (first | ((with_reducible refine mixL_mut0 ?_ ?_ (fun K hK => ?_)); rfl; rfl) | ((with_reducible refine' mixL_mutG ?_ ?_ ?_ ?_ ?_ (fun K hK => ?_)); rotate_left 4; rfl; rfl; rfl; rfl; rfl))
                  go_simp
                  refine hK.out _ _ ⟨KeepW.gr ⟨wd.drew, rfl, rfl⟩ (GK.out.trans ((Gr.refl w6).alloc _)) HZ.out.1 HZ.out.2, rfl⟩ ?_
                  clear hK K
                  (first | ((with_reducible refine mixL_mut0 ?_ ?_ (fun K hK => ?_)); rfl; rfl) | ((with_reducible refine' mixL_mutG ?_ ?_ ?_ ?_ ?_ (fun K hK => ?_)); rotate_left 4; rfl; rfl; rfl; rfl; rfl))
                  have hkl := keptL_len ls ss file now (zs.take q)
                  have hkl2 := List.length_take_le q zs
                  refine wp_append_own _ (.tmp 89) (.tmp 103) 36 rfl wc.heap.size 72 i0 (.agg #[.int .i64 0, .int .i64 0, .int .i64 0, .int .u8 0, .int .u8 0]) 5 32 Tryd.underlying36 HI0.out HZ0.out HS0.out HY0.out rfl (by decide) _ _ _ rfl (ownT_gr HO.out ((HG.out.drew.trans GK.out).alloc _)) ⟨w6.heap.size, 0, none⟩ 1 1 [.int .i64 x0, .int .i64 x2, .int .i64 x1, .int .u8 x4, .int .u8 a] rfl rfl (cellsT_new w6 _ _ _ rfl) (by intro u hu; simp at hu; rcases hu with rfl | rfl | rfl | rfl | rfl <;> rfl) (by have : maxLen = 9223372036854775807 := rfl; omega) (by omega) (by have h1 := BV.size; have h2 := HG.out.size; have h3 := GK.out.size; have h4 : wd.drew.heap.size = wd.heap.size := rfl; simp; omega) ?_
                  intro v' w9 hown' hgrow hnil
                  have HW9 := hid (And.intro hown' hgrow)
                  have hb1 : w9.heap[w.heap.size]? = wd.drew.heap[w.heap.size]? := by
                    refine (HW9.out.2.block _ (by have h3 := GK.out.size; have h4 := HZ.out.1; simp; omega) (fun e => by have := (HO.out.lt _ e.symm).1; omega)).trans ?_
                    exact Gr.heap (GK.out.alloc _) HZ.out.1
                  have hb2 : w9.heap[wr.heap.size]? = wd.drew.heap[wr.heap.size]? := by
                    refine (HW9.out.2.block _ (by have h3 := GK.out.size; have h4 := HZ.out.2; simp; omega) (fun e => by have := (HO.out.lt _ e.symm).2; omega)).trans ?_
                    exact Gr.heap (GK.out.alloc _) HZ.out.2
                  refine hK.out _ _ ⟨⟨w9, hb1, hb2⟩, rfl⟩ ?_
                  clear hK K hown' hgrow hnil hb1 hb2 hkl hkl2
                  simp only [Act.put, List.setIfInBounds_toArray, List.set_cons_zero, List.set_cons_succ]
                  (repeat (first | ((with_reducible refine mixL_read0 ?_ ?_ (fun K hK => ?_)); rfl; rfl; go_big_quiet_op; (with_reducible refine hK _ ?_); clear hK K) | ((with_reducible refine' mixL_skipG ?_ ?_ ?_ ?_ ?_); rotate_left 4; rfl; rfl; rfl; rfl; simp only [Act.put, List.setIfInBounds_toArray, List.set_cons_zero, List.set_cons_succ]) | ((with_reducible refine' mixL_skipU ?_ ?_ ?_ ?_); rotate_left 3; rfl; rfl; rfl; simp only [Act.put, List.setIfInBounds_toArray, List.set_cons_zero, List.set_cons_succ]) | ((with_reducible refine' mixL_readG ?_ ?_ ?_ ?_ ?_ (fun K hK => ?_)); rotate_left 4; rfl; rfl; rfl; rfl; rfl; go_big_quiet_op; (with_reducible refine hK _ ?_); clear hK K)))
                  (with_reducible refine mixN_nil ?_)
                  go_wp2
                  go_roundg (n - (q + 1))
                  case measure => omega
                  case rel =>
                    refine ⟨q + 1, by omega, by omega, by go_num, ?_, ?_⟩
                    · refine (show Below wc.heap.size wc _ from (BV.trans (HG.out.drew.trans GK.out)).alloc _).grown HW9.out.2 ?_ (fun k e => (HO.out.lt k e).1)
                      have h1 := BV.size; have h2 := HG.out.size; have h3 := GK.out.size; have h4 : wd.drew.heap.size = wd.heap.size := rfl; simp; omega
                    · unfold Hid
                      rw [HQ2.out, HTr.out]
                      have h := HW9.out.1
                      simpa [Trc.cells] using h
            · have hltq' : ¬ (q : Int) < (n : Int) := by omega
              have HTk : zs.take q = zs := by rw [show q = n by omega, ← HL.out, List.take_length]
              have hown := HO.out
              rw [HTk] at hown
              have hlen : (keptL ls ss file now zs).length ≤ 40 := by have h1 := keptL_len ls ss file now zs; have h2 := HL.out; omega
              have hpw := keptL_pairwise (ls := ls) (ss := ss) (file := file) (now := now) HGD.out
              have hday : ∀ t ∈ keptL ls ss file now zs, 0 ≤ t.day ∧ t.day ≤ 100000 := fun t ht => by
                obtain ⟨y, hy, rfl⟩ := keptL_mem ht
                exact inqB_day (inqsB_mem HGD.out hy)
              have HF : Hid (tracesR ls ss zs file now pu = sortT ((keptL ls ss file now zs).filter fun t => pu == 5 || !hidB now t)) := by
                show tracesR ls ss zs file now pu = _
                unfold tracesR
                rw [if_pos HE.out]
                rfl
              generalize keptL ls ss file now zs = l at hown hlen hpw hday HF
              obtain ⟨B, d, rfl, hTO⟩ := trOwn_of hown
              have BV' := hid BV
              have c8 := row_cell_at (v := .int .i64 now) HR2.out.2 0 rfl
              have hpred : PredG Tryd.prog 44 #[.pointer (some ⟨w.heap.size + 1, 0, none⟩)] Trc.val (hidB now) l wc := fun W t ht k => hidden_any t now (w.heap.size + 1) W (row_cell c8 k) ⟨hn1, hn2⟩ (hday t ht)
              have HDel := hid (delete_own 44 #[.pointer (some ⟨w.heap.size + 1, 0, none⟩)] (enters_of Tryd.func44 (by kernel_rfl) rfl) (hidB now) l B l.length d wc wr hpred BV hTO)
              have HS1 := hid (fun (h : (l.filter fun _ => true) = l) => sortStable_trc l B l.length d wc wr BV hTO hlen (by have := hpw (fun _ => true); rwa [h] at this))
              have HS2 := hid (fun W (k : Gr wc W) (hT : TrOwn wc W B (l.filter fun t => !hidB now t).length d (l.filter fun t => !hidB now t)) => sortStable_trc (l.filter fun t => !hidB now t) B _ d wc W k hT (Nat.le_trans (List.length_filter_le _ _) hlen) (hpw _))
              clear hown hlen hpw hday hTO hpred c8 HTk HO HGD HA
              by_cases h5 : pu = 5
              · subst h5
                have HS := hid (HS1.out (by simp))
                have HF2 : Hid (tracesR ls ss zs file now 5 = sortT l) := by
                  show tracesR ls ss zs file now 5 = _
                  rw [HF.out]
                  congr 1
                  simp
                clear HS1 HS2 HDel
                go_wp2_with (go_at_call 45; refine HS.out.mono ?_; rintro e w9 ⟨rfl, k1, k2⟩; have HT9 := hid (And.intro k1 k2); clear k1 k2)
                go_ret2
                refine ⟨B, l.length, d, by rw [HE.out]; rfl, G2.out.trans HT9.out.1, ?_⟩
                rw [HF2.out]
                exact HT9.out.2.mono G2.out.size
              · have h5' : (pu == 5) = false := by simpa using h5
                have HF2 : Hid (tracesR ls ss zs file now pu = sortT (l.filter fun t => !hidB now t)) := by
                  show tracesR ls ss zs file now pu = _
                  rw [HF.out, h5']
                  simp
                clear HS1
                go_wp2_with (first
                  | (go_at_call 43; refine HDel.out.mono ?_; rintro e w8 ⟨rfl, k1, k2⟩; have HT8 := hid (And.intro k1 k2); clear k1 k2)
                  | (go_at_call 45; refine (HS2.out _ HT8.out.1 HT8.out.2).mono ?_; rintro e w9 ⟨rfl, k1, k2⟩; have HT9 := hid (And.intro k1 k2); clear k1 k2))
                go_ret2
                refine ⟨B, (l.filter fun t => !hidB now t).length, d, by rw [HE.out]; rfl, G2.out.trans HT9.out.1, ?_⟩
                rw [HF2.out]
                exact HT9.out.2.mono G2.out.size
end Go.Proofs.YtliehlefpodhaaaDoor
