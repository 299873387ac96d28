/- InquiryHolds is true: what is signalled after a day changes nothing of the day, and a freeze holds until the person tells otherwise. For every list of signals, file, day, later day and bureau. (Printed by gen_lawholds.py.) -/
import Derived.Test.YtliehlefpodhaaaDoorOAlive9
import Derived.Test.YtliehlefpodhaaaDoorOReady9
import Derived.Test.YtliehlefpodhaaaDoorQHoldsPure
import Derived.Test.YtliehlefpodhaaaDoorOStateTop
import Derived.Test.YtliehlefpodhaaaDoorOMerge
import Derived.Test.YtliehlefpodhaaaDoorOTwin9
import Derived.Test.YtliehlefpodhaaaDoorQTwoOwn
import Derived.Test.YtliehlefpodhaaaDoorOGate9
import Derived.Deep.LoopGhost
namespace Go.Proofs.YtliehlefpodhaaaDoor
open Go.RowKit Go.Shelf Go.Sort

theorem st_ok {zs : List Sig} {file now : Int} (h : sigsB zs = true) (hf : 0 ≤ file ∧ file ≤ 999999) (hd : 0 ≤ now ∧ now ≤ 100000) : stFz zs file now = frozenB zs file now ∧ stAl zs file now = alertB zs file now ∧ stN zs file now = 0 := by
  unfold stFz stAl stN inB
  rw [h]
  simp [hf, hd]
theorem own_capS {w : World} {base : Nat} {e : TypeId} {size n c : Nat} {A : Option Addr} {xs : List Value} (h : w.ownsRow base e size (.slice A n c) n xs) : n ≤ c ∧ c ≤ 9223372036854775807 := by
  rcases h.2 with ⟨hv, h0⟩ | ⟨g, cap, cur, hv, _, _, hnc, hcm, _⟩
  · injection hv with _ _ hc
    omega
  · injection hv with _ _ hc
    unfold maxLen at hcm
    omega
/-- What a list of signals reads as, of the call's own. -/
theorem sigs_own {W : World} {base : Nat} {t : TypeId} {v : Value} {l : List Sig} (h : W.ownsRow base t 6 v l.length (l.flatMap Sig.cells)) (hu : ∀ x ∈ l, 0 ≤ x.kind ∧ x.kind ≤ 255) : ∃ A c, v = .slice A l.length c ∧ SigsIn W A l.length l ∧ (∀ b o, A = some ⟨b, o, none⟩ → b < W.heap.size) := by
  obtain ⟨A, c, rfl⟩ := own_slice h
  refine ⟨A, c, rfl, ⟨Rd.of_own h, ?_, hu⟩, fun b o e => ?_⟩
  · have := own_capS h
    omega
  · subst e
    exact (h.lt b rfl).2
theorem u8_of_sigs {l : List Sig} (h : sigsB l = true) : ∀ x ∈ l, 0 ≤ x.kind ∧ x.kind ≤ 255 := by
  intro x hx
  have := sigsB_mem h hx
  unfold sigB inB at this
  simp at this
  omega

set_option maxRecDepth 100000 in
set_option maxHeartbeats 16000000 in
theorem inquiryHolds_any (A : Option Addr) (n c : Nat) (zs : List Sig) (file day later bu : Int) (b off cap : Nat) (w : World) (hi : SigsIn w A n zs) (hA : ∀ b o, A = some ⟨b, o, none⟩ → b < w.heap.size) (hbu : 0 ≤ bu ∧ bu ≤ 255) (hR : LaidR w b off cap) (hG : LaidL w) :
    Calls Tryd.prog 9 #[.slice A n c, .int .i64 file, .int .i64 day, .int .i64 later, .int .u8 bu] w fun e w' => e = .returned (.bool true) ∧ Gr w w' := by
  have HAl := hid (fun W (k : Gr w W) => alive9_any b off cap W (hR.gr k) (hG.gr k))
  have HRd := hid (fun W (k : Gr w W) => ready_any ⟨none, 0, 0, A, n, c⟩ [] zs none 0 0 [] file day W ⟨⟨⟨rfl, fun h => absurd h (Nat.lt_irrefl 0)⟩, Nat.zero_le _, by simp⟩, hi.gr k⟩ ⟨⟨rfl, fun h => absurd h (Nat.lt_irrefl 0)⟩, Nat.zero_le _, by simp⟩)
  have HRT := hid (fun (h : readyB 0 n 0 [] zs [] file day = true) => readyB_true h)
  have HSt := hid (fun A' n' c' zs' W (k : Gr w W) (hi' : SigsIn W A' n' zs') (hA' : ∀ b o, A' = some ⟨b, o, none⟩ → b < W.heap.size) (h : n' < 1000) => stateTop_any A' n' c' zs' file later W hi' hA' (hG.gr k) (fun _ => h))
  have HMg := hid (fun B m d zs' W (k : Gr w W) (h' : SigsIn W B m zs') => merge_any A n c B m d zs zs' W (hi.gr k) h' (hG.gr k))
  have HI := hid hi
  have HA := hid hA
  have HL := hid hi.rd.sig_len
  have hbig := hi.big
  have hbig' : (n : Int) ≤ 9223372036854775807 := by omega
  clear hi hA hR hG
  unfold Gat.val at HRd
  dsimp only at HRd
  generalize readyB 0 n 0 [] zs [] file day = rb at *
  by_cases hbad : rb = true ∧ day ≤ later ∧ later ≤ 100000 ∧ n < 40
  case neg =>
    have hcs : rb = false ∨ (rb = true ∧ later < day) ∨ (rb = true ∧ ¬ later < day ∧ 100000 < later) ∨ (rb = true ∧ ¬ later < day ∧ ¬ 100000 < later ∧ (40 : Int) ≤ (n : Int)) := by
      cases rb
      · exact .inl rfl
      · simp at hbad ⊢; omega
    clear HSt HMg HRT hbad
    rcases hcs with rfl | ⟨rfl, h1⟩ | ⟨rfl, h1, h2⟩ | ⟨rfl, h1, h2, h3⟩
    all_goals
      go_enter Tryd.func9, Tryd.ntmps9
      go_wp2_with (first
        | (go_at_call 29; (with_reducible refine (HAl.out _ ?_).mono ?_); rotate_right; rintro e w1 ⟨rfl, hbw1⟩; obtain ⟨hcw1, hfw1, hzw1⟩ := hbw1.rules; (try simp at hzw1))
        | (go_at_call 34; (with_reducible refine (HRd.out _ ?_).mono ?_); rotate_right; rintro e w2 ⟨rfl, hbw2⟩; obtain ⟨hcw2, hfw2, hzw2⟩ := hbw2.rules; (try simp at hzw2)))
      all_goals first
        | (go_ret
           exact ⟨rfl, by (repeat (first | with_reducible exact Gr.refl _ | with_reducible refine Gr.trans ?_ hbw2 | with_reducible refine Gr.trans ?_ hbw1 | with_reducible refine Gr.alloc ?_ _ | with_reducible refine Gr.setCell ?_ (by simp) _ | with_reducible refine Gr.setCell ?_ (by simp; omega) _ | with_reducible refine Gr.drew ?_ | with_reducible refine Gr.drewN ?_ _))⟩)
        | ((repeat (first | with_reducible exact Gr.refl _ | with_reducible refine Gr.trans ?_ hbw1 | with_reducible refine Gr.alloc ?_ _ | with_reducible refine Gr.setCell ?_ (by simp) _ | with_reducible refine Gr.setCell ?_ (by simp; omega) _ | with_reducible refine Gr.drew ?_ | with_reducible refine Gr.drewN ?_ _)); done)
  case pos =>
    obtain ⟨rfl, hdl, hl1, hn40⟩ := hbad
    have F := HRT.out rfl
    have hz := F.sigs
    obtain ⟨hd1, hd2⟩ := F.day
    have hf := F.file
    obtain ⟨hf1, hf2⟩ := hf
    have g1 : ¬ later < day := by omega
    have g2 : ¬ (100000 : Int) < later := by omega
    have g3 : ¬ (40 : Int) ≤ (n : Int) := by omega
    have s0 := st_ok hz F.file (now := later) (by omega)
    have s1 := st_ok (sigsB_filter hz (fun x => decide (x.day ≤ later))) F.file (now := later) (by omega)
    have s2 := st_ok (sigsB_filter hz (fun x => decide (x.file = file))) F.file (now := later) (by omega)
    have e1 := frozen_filter (l := zs) (file := file) (day := later) (p := fun x => decide (x.day ≤ later)) (fun x _ _ h => by simpa using h)
    have e2 := alert_filter (l := zs) (file := file) (day := later) (p := fun x => decide (x.day ≤ later)) (fun x _ _ h => by simpa using h)
    have e3 := frozen_filter (l := zs) (file := file) (day := later) (p := fun x => decide (x.file = file)) (fun x _ h _ => by simpa using h)
    have e4 := alert_filter (l := zs) (file := file) (day := later) (p := fun x => decide (x.file = file)) (fun x _ h _ => by simpa using h)
    have HT0 := hid (fun W (k : Gr w W) => HSt.out A n c zs W k (HI.out.gr k) (fun b o e => Nat.lt_of_lt_of_le (HA.out b o e) k.size) (by omega))
    have HT1 := hid (fun A' n' c' W (k : Gr w W) hi' hA' hn' => HSt.out A' n' c' (zs.filter fun x => decide (x.day ≤ later)) W k hi' hA' hn')
    have HT2 := hid (fun A' n' c' W (k : Gr w W) hi' hA' hn' => HSt.out A' n' c' (zs.filter fun x => decide (x.file = file)) W k hi' hA' hn')
    rw [s0.1, s0.2.1, s0.2.2] at HT0
    rw [s1.1, s1.2.1, s1.2.2, e1, e2] at HT1
    rw [s2.1, s2.2.1, s2.2.2, e3, e4] at HT2
    have HZ := hid hz
    have hlz : zs.length = n := HL.out
    have hbr : 0 ≤ bu % 10 ∧ bu % 10 ≤ 9 := by omega
    have hidr := idN_rev zs
    have hid6 : idN zs ≤ 1000000 := hidr.2.2 (fun x hx => (sigB_place (sigsB_mem hz hx)).2.2)
    have hid0 : 0 ≤ idN zs := hidr.1
    have hmf := merge_frz (l := zs) (bu := bu % 10) (id := idN zs) (file := file) (day := day) hz (by omega) hidr.2.1 hbr hid0 F.file ⟨hd1, hd2⟩
    have HM2 := hid (fun B m d W k h' => HMg.out B m d [frzS (bu % 10) (idN zs) file day] W k h')
    rw [hmf.1] at HM2
    have HMe := hid hmf.2
    have HPv : Hid (idN zs ≤ 999999 → sigsB (putS (frzS (bu % 10) (idN zs) file day) zs) = true) := fun h => putS_valid hz (by omega) (by rw [frz_sigB hbr hid0 F.file ⟨hd1, hd2⟩]; simpa using h) (fun y hy => by
      have := hidr.2.1 y hy
      cases e : samePl (frzS (bu % 10) (idN zs) file day) y with
      | false => rfl
      | true => rw [samePl_iff] at e; have : idN zs = y.id := e.2; omega)
    have HT3 := hid (fun (h9 : idN zs ≤ 999999) (hh : ∀ x ∈ zs, x.file = file → day ≤ x.day → 3 < x.kind) A' n' c' W (k : Gr w W) hi' hA' hn' => by
      have h := HSt.out A' n' c' (putS (frzS (bu % 10) (idN zs) file day) zs) W k hi' hA' hn'
      have s3 := st_ok (HPv.out h9) F.file (now := later) (by omega)
      have s4 := holds_frz (l := zs) (bu := bu % 10) (id := idN zs) (file := file) (day := day) (later := later) hdl hh
      rw [s3.1, s3.2.1, s3.2.2, s4.1, s4.2] at h
      exact h)
    have HIt := hid (idN_take (l := zs) (fun x hx => (sigB_place (sigsB_mem hz hx)).2))
    have HU1 := hid (u8_of_sigs (sigsB_filter hz (fun x => decide (x.day ≤ later))))
    have HU2 := hid (u8_of_sigs (sigsB_filter hz (fun x => decide (x.file = file))))
    generalize frozenB zs file later = fz at *
    generalize alertB zs file later = al at *
    clear HSt HMg HRT F s0 s1 s2 e1 e2 e3 e4 hmf hidr
    obtain ⟨i0, hi0, hz0, hs0, hy0⟩ := info_parts info_sig
    have HI0 := hid hi0
    have HZ0 := hid hz0
    have HS0 := hid hs0
    have HY0 := hid hy0
    clear hi0 hz0 hs0 hy0
    go_enter Tryd.func9, Tryd.ntmps9
    go_wp2_with (first
      | (go_at_call 29; (with_reducible refine (HAl.out _ ?_).mono ?_); rotate_right; rintro e w1 ⟨rfl, hbw1⟩; obtain ⟨hcw1, hfw1, hzw1⟩ := hbw1.rules; (try simp at hzw1))
      | (go_at_call 34; (with_reducible refine (HRd.out _ ?_).mono ?_); rotate_right; rintro e w2 ⟨rfl, hbw2⟩; obtain ⟨hcw2, hfw2, hzw2⟩ := hbw2.rules; (try simp at hzw2))
      | (go_at_call 24; (with_reducible refine (HT0.out _ ?_).mono ?_); rotate_right; rintro e w4 ⟨rfl, hb4⟩))
    all_goals try ((repeat (first | with_reducible exact Gr.refl _ | with_reducible refine Gr.trans ?_ hbw2 | with_reducible refine Gr.trans ?_ hbw1 | with_reducible refine Gr.alloc ?_ _ | with_reducible refine Gr.setCell ?_ (by simp) _ | with_reducible refine Gr.setCell ?_ (by simp; omega) _ | with_reducible refine Gr.drew ?_ | with_reducible refine Gr.drewN ?_ _)); done)
    have G4 : Hid (Gr w w4) := by
      show Gr w w4
      (repeat (first | with_reducible exact Gr.refl _ | with_reducible refine Gr.trans ?_ hb4 | with_reducible refine Gr.trans ?_ hbw2 | with_reducible refine Gr.trans ?_ hbw1 | with_reducible refine Gr.alloc ?_ _ | with_reducible refine Gr.setCell ?_ (by simp) _ | with_reducible refine Gr.setCell ?_ (by simp; omega) _ | with_reducible refine Gr.drew ?_ | with_reducible refine Gr.drewN ?_ _))
    clear hb4 hbw1 hbw2 hcw1 hfw1 hzw1 hcw2 hfw2 hzw2 HAl HRd HT0
    go_loopg [15, 16, 17, 70] n (fun gg s15 s16 s17 s70 wr => ∃ k : Nat, k ≤ n ∧ n - k ≤ gg ∧ s70 = .int .i64 k ∧ s17 = .int .i64 (idN (zs.take k)) ∧ Gr w4 wr ∧ Hid (TwoOwn wr w4.heap.size 67 6 s15 ((zs.take k).filter (fun x => decide (x.day ≤ later))).length (((zs.take k).filter (fun x => decide (x.day ≤ later))).flatMap Sig.cells) s16 ((zs.take k).filter (fun x => decide (x.file = file))).length (((zs.take k).filter (fun x => decide (x.file = file))).flatMap Sig.cells)))
    case atStart => exact ⟨0, Nat.zero_le _, by omega, rfl, rfl, Gr.refl w4, TwoOwn.new _ _ _ _⟩
    case round =>
      obtain ⟨k, hk, hgk, rfl, rfl, BW, HO⟩ := hrel
      by_cases hkl : k < n
      · obtain ⟨hk', b', off', hA', hb', c0, c1, c2, c3, c4, c5⟩ := (HI.out.gr (G4.out.trans BW)).rd.sig hkl
        subst hA'
        have HF1 := hid (filter_snoc (p := fun x => decide (x.day ≤ later)) hk')
        have HF2 := hid (filter_snoc (p := fun x => decide (x.file = file)) hk')
        have HIdn : Hid (idN (zs.take (k + 1)) = max (idN (zs.take k)) (zs[k]!.id + 1)) := by
          show _ = _
          rw [List.take_succ_eq_append_getElem hk', idN_snoc, getElem!_pos zs k hk']
        have hit := HIt.out k
        have hpx := (sigB_place (sigsB_mem HZ.out (mem_get hk'))).2
        have ol1 : ((zs.take k).filter (fun x => decide (x.day ≤ later))).length ≤ 60 := by
          have h1 := List.length_filter_le (fun x : Sig => decide (x.day ≤ later)) (zs.take k)
          have h2 := List.length_take_le k zs
          omega
        have ol2 : ((zs.take k).filter (fun x => decide (x.file = file))).length ≤ 60 := by
          have h1 := List.length_filter_le (fun x : Sig => decide (x.file = file)) (zs.take k)
          have h2 := List.length_take_le k zs
          omega
        generalize zs[k]! = x at c0 c1 c2 c3 c4 c5 HF1 HF2 HIdn hpx
        generalize idN (zs.take k) = id1 at *
        obtain ⟨x0, x1, x2, x3, x4, x5⟩ := x
        dsimp only at *
        have hkn : (k : Int) < (n : Int) := by omega
        have hk0 : (0 : Int) ≤ (k : Int) := by omega
        have S0 : Hid (StepF w4 (wr.alloc (.cells #[.int .i64 x0, .int .i64 x1, .int .i64 x2, .int .i64 x3, .int .u8 x4, .int .i64 x5] 67)) wr.heap.size (.cells #[.int .i64 x0, .int .i64 x1, .int .i64 x2, .int .i64 x3, .int .u8 x4, .int .i64 x5] 67) 67 6 _ _ _ _ _ _) := StepF.start BW HO.out
        have hw1 : IntKind.i64.wrap (x1 + 1) = x1 + 1 := by rw [IntKind.wrap_i64]; omega
        by_cases p1 : x3 ≤ later
        · have HP1 : Hid ((zs.take (k + 1)).filter (fun x => decide (x.day ≤ later)) = (zs.take k).filter (fun x => decide (x.day ≤ later)) ++ [⟨x0, x1, x2, x3, x4, x5⟩]) := by show _ = _; rw [HF1.out, if_pos (by simpa using p1)]
          clear HF1
          by_cases p2 : x2 = file
          · have HP2 : Hid ((zs.take (k + 1)).filter (fun x => decide (x.file = file)) = (zs.take k).filter (fun x => decide (x.file = file)) ++ [⟨x0, x1, x2, x3, x4, x5⟩]) := by show _ = _; rw [HF2.out, if_pos (by simpa using p2)]
            clear HF2
            generalize (zs.take k).filter (fun x => decide (x.day ≤ later)) = o1 at *
            generalize (zs.take k).filter (fun x => decide (x.file = file)) = o2 at *
            subst p2
            go_wp2_with (first
              | (refine wpList_append_own_at _ rfl (.tmp 78) (.tmp 80) 23 rfl w4.heap.size 67 i0 (.agg #[.int .i64 0, .int .i64 0, .int .i64 0, .int .i64 0, .int .u8 0, .int .i64 0]) 6 48 Tryd.underlying23 HI0.out HZ0.out HS0.out HY0.out rfl (by decide) _ _ _ rfl (ownT_gr S0.out.two.fst ((Gr.refl _).alloc _)) ⟨wr.heap.size + 1, 0, none⟩ 1 1 [.int .i64 x0, .int .i64 x1, .int .i64 x2, .int .i64 x3, .int .u8 x4, .int .i64 x5] rfl rfl (cellsT_at (wr.alloc (.cells #[.int .i64 x0, .int .i64 x1, .int .i64 x2, .int .i64 x3, .int .u8 x4, .int .i64 x5] 67)) _ _ _ _ (by simp) rfl) (by intro u hu; simp at hu; rcases hu with rfl | rfl | rfl | rfl | rfl | rfl <;> rfl) (by have : maxLen = 9223372036854775807 := rfl; omega) (by omega) (by have h1 := S0.out.gr.size; simp at h1 ⊢; omega) ?_; intro v1 w9 hown' hgrow _ hat; have S1 := hid (S0.out.push hown' hgrow hat); clear hown' hgrow hat; have hrow := S1.out.row; have q0 := row_cell_at hrow 0 rfl; have q1 := row_cell_at hrow 1 rfl; have q2 := row_cell_at hrow 2 rfl; have q3 := row_cell_at hrow 3 rfl; have q4 := row_cell_at hrow 4 rfl; have q5 := row_cell_at hrow 5 rfl; clear hrow; have hb9 := S1.out.lt)
              | (refine wpList_append_own_at _ rfl (.tmp 86) (.tmp 88) 23 rfl w4.heap.size 67 i0 (.agg #[.int .i64 0, .int .i64 0, .int .i64 0, .int .i64 0, .int .u8 0, .int .i64 0]) 6 48 Tryd.underlying23 HI0.out HZ0.out HS0.out HY0.out rfl (by decide) _ _ _ rfl (ownT_gr S1.out.two.snd ((Gr.refl _).alloc _)) ⟨w9.heap.size, 0, none⟩ 1 1 [.int .i64 x0, .int .i64 x1, .int .i64 x2, .int .i64 x3, .int .u8 x4, .int .i64 x5] rfl rfl (cellsT_at (w9) _ _ _ _ (by simp) rfl) (by intro u hu; simp at hu; rcases hu with rfl | rfl | rfl | rfl | rfl | rfl <;> rfl) (by have : maxLen = 9223372036854775807 := rfl; omega) (by omega) (by have h1 := S1.out.gr.size; simp at h1 ⊢; omega) ?_; intro v2 w10 hown' hgrow _ hat; have S2 := hid ((S1.out.symm.push hown' hgrow hat).symm); clear hown' hgrow hat; have hrow := S2.out.row; have q0 := row_cell_at hrow 0 rfl; have q1 := row_cell_at hrow 1 rfl; have q2 := row_cell_at hrow 2 rfl; have q3 := row_cell_at hrow 3 rfl; have q4 := row_cell_at hrow 4 rfl; have q5 := row_cell_at hrow 5 rfl; clear hrow; have hb9 := S2.out.lt))
            go_roundg (n - (k + 1))
            case measure => omega
            case rel =>
              refine ⟨k + 1, by omega, by omega, by go_num, ?_, S2.out.gr, ?_⟩
              · rw [HIdn.out]
              · unfold Hid
                rw [HP1.out, HP2.out]
                have h := S2.out.two
                simpa [Sig.cells] using h
          · have HP2 : Hid ((zs.take (k + 1)).filter (fun x => decide (x.file = file)) = (zs.take k).filter (fun x => decide (x.file = file))) := by show _ = _; rw [HF2.out, if_neg (by simpa using p2), List.append_nil]
            clear HF2
            generalize (zs.take k).filter (fun x => decide (x.day ≤ later)) = o1 at *
            generalize (zs.take k).filter (fun x => decide (x.file = file)) = o2 at *
            go_wp2_with (first
              | (refine wpList_append_own_at _ rfl (.tmp 78) (.tmp 80) 23 rfl w4.heap.size 67 i0 (.agg #[.int .i64 0, .int .i64 0, .int .i64 0, .int .i64 0, .int .u8 0, .int .i64 0]) 6 48 Tryd.underlying23 HI0.out HZ0.out HS0.out HY0.out rfl (by decide) _ _ _ rfl (ownT_gr S0.out.two.fst ((Gr.refl _).alloc _)) ⟨wr.heap.size + 1, 0, none⟩ 1 1 [.int .i64 x0, .int .i64 x1, .int .i64 x2, .int .i64 x3, .int .u8 x4, .int .i64 x5] rfl rfl (cellsT_at (wr.alloc (.cells #[.int .i64 x0, .int .i64 x1, .int .i64 x2, .int .i64 x3, .int .u8 x4, .int .i64 x5] 67)) _ _ _ _ (by simp) rfl) (by intro u hu; simp at hu; rcases hu with rfl | rfl | rfl | rfl | rfl | rfl <;> rfl) (by have : maxLen = 9223372036854775807 := rfl; omega) (by omega) (by have h1 := S0.out.gr.size; simp at h1 ⊢; omega) ?_; intro v1 w9 hown' hgrow _ hat; have S1 := hid (S0.out.push hown' hgrow hat); clear hown' hgrow hat; have hrow := S1.out.row; have q0 := row_cell_at hrow 0 rfl; have q1 := row_cell_at hrow 1 rfl; have q2 := row_cell_at hrow 2 rfl; have q3 := row_cell_at hrow 3 rfl; have q4 := row_cell_at hrow 4 rfl; have q5 := row_cell_at hrow 5 rfl; clear hrow; have hb9 := S1.out.lt))
            go_roundg (n - (k + 1))
            case measure => omega
            case rel =>
              refine ⟨k + 1, by omega, by omega, by go_num, ?_, S1.out.gr, ?_⟩
              · rw [HIdn.out]
              · unfold Hid
                rw [HP1.out, HP2.out]
                have h := S1.out.two
                simpa [Sig.cells] using h
        · have HP1 : Hid ((zs.take (k + 1)).filter (fun x => decide (x.day ≤ later)) = (zs.take k).filter (fun x => decide (x.day ≤ later))) := by show _ = _; rw [HF1.out, if_neg (by simpa using p1), List.append_nil]
          clear HF1
          by_cases p2 : x2 = file
          · have HP2 : Hid ((zs.take (k + 1)).filter (fun x => decide (x.file = file)) = (zs.take k).filter (fun x => decide (x.file = file)) ++ [⟨x0, x1, x2, x3, x4, x5⟩]) := by show _ = _; rw [HF2.out, if_pos (by simpa using p2)]
            clear HF2
            generalize (zs.take k).filter (fun x => decide (x.day ≤ later)) = o1 at *
            generalize (zs.take k).filter (fun x => decide (x.file = file)) = o2 at *
            subst p2
            go_wp2_with (first
              | (refine wpList_append_own_at _ rfl (.tmp 86) (.tmp 88) 23 rfl w4.heap.size 67 i0 (.agg #[.int .i64 0, .int .i64 0, .int .i64 0, .int .i64 0, .int .u8 0, .int .i64 0]) 6 48 Tryd.underlying23 HI0.out HZ0.out HS0.out HY0.out rfl (by decide) _ _ _ rfl (ownT_gr S0.out.two.snd ((Gr.refl _).alloc _)) ⟨wr.heap.size + 1, 0, none⟩ 1 1 [.int .i64 x0, .int .i64 x1, .int .i64 x2, .int .i64 x3, .int .u8 x4, .int .i64 x5] rfl rfl (cellsT_at (wr.alloc (.cells #[.int .i64 x0, .int .i64 x1, .int .i64 x2, .int .i64 x3, .int .u8 x4, .int .i64 x5] 67)) _ _ _ _ (by simp) rfl) (by intro u hu; simp at hu; rcases hu with rfl | rfl | rfl | rfl | rfl | rfl <;> rfl) (by have : maxLen = 9223372036854775807 := rfl; omega) (by omega) (by have h1 := S0.out.gr.size; simp at h1 ⊢; omega) ?_; intro v2 w10 hown' hgrow _ hat; have S2 := hid ((S0.out.symm.push hown' hgrow hat).symm); clear hown' hgrow hat; have hrow := S2.out.row; have q0 := row_cell_at hrow 0 rfl; have q1 := row_cell_at hrow 1 rfl; have q2 := row_cell_at hrow 2 rfl; have q3 := row_cell_at hrow 3 rfl; have q4 := row_cell_at hrow 4 rfl; have q5 := row_cell_at hrow 5 rfl; clear hrow; have hb9 := S2.out.lt))
            go_roundg (n - (k + 1))
            case measure => omega
            case rel =>
              refine ⟨k + 1, by omega, by omega, by go_num, ?_, S2.out.gr, ?_⟩
              · rw [HIdn.out]
              · unfold Hid
                rw [HP1.out, HP2.out]
                have h := S2.out.two
                simpa [Sig.cells] using h
          · have HP2 : Hid ((zs.take (k + 1)).filter (fun x => decide (x.file = file)) = (zs.take k).filter (fun x => decide (x.file = file))) := by show _ = _; rw [HF2.out, if_neg (by simpa using p2), List.append_nil]
            clear HF2
            generalize (zs.take k).filter (fun x => decide (x.day ≤ later)) = o1 at *
            generalize (zs.take k).filter (fun x => decide (x.file = file)) = o2 at *
            go_wp2
            go_roundg (n - (k + 1))
            case measure => omega
            case rel =>
              refine ⟨k + 1, by omega, by omega, by go_num, ?_, S0.out.gr, ?_⟩
              · rw [HIdn.out]
              · unfold Hid
                rw [HP1.out, HP2.out]
                have h := S0.out.two
                simpa [Sig.cells] using h
      · have hkn : ¬ (k : Int) < (n : Int) := by omega
        have hfull : zs.take k = zs := by rw [show k = n by omega, ← HL.out, List.take_length]
        rw [hfull] at HO ⊢
        clear hfull HIt
        have ol1 : (zs.filter (fun x => decide (x.day ≤ later))).length ≤ 60 := by
          have h1 := List.length_filter_le (fun x : Sig => decide (x.day ≤ later)) zs
          omega
        have ol2 : (zs.filter (fun x => decide (x.file = file))).length ≤ 60 := by
          have h1 := List.length_filter_le (fun x : Sig => decide (x.file = file)) zs
          omega
        obtain ⟨A1, c1, rfl, hin1, hlt1⟩ := sigs_own HO.out.fst HU1.out
        obtain ⟨A2, c2, rfl, hin2, hlt2⟩ := sigs_own HO.out.snd HU2.out
        clear HO
        obtain ⟨wo, rfl⟩ : ∃ wo : World, wo = wr := ⟨_, rfl⟩
        have G5 : Hid (Gr w wo) := G4.out.trans BW
        have HC1 := hid (fun W (kk : Gr wo W) => HT1.out A1 _ c1 W (G5.out.trans kk) (hin1.gr kk) (fun b o e => Nat.lt_of_lt_of_le (hlt1 b o e) kk.size) (by omega))
        have HC2 := hid (fun W (kk : Gr wo W) => HT2.out A2 _ c2 W (G5.out.trans kk) (hin2.gr kk) (fun b o e => Nat.lt_of_lt_of_le (hlt2 b o e) kk.size) (by omega))
        have HIn2 := hid hin2
        have HL2 := hid hin2.rd.sig_len
        have HOw := hid (fun (x : Sig) (hx : x ∈ zs) (hf : x.file = file) => (List.mem_filter.2 ⟨hx, by simpa using hf⟩ : x ∈ zs.filter (fun x => decide (x.file = file))))
        clear hin1 hin2 hlt1 hlt2 HT1 HT2 HU1 HU2 BW G4 HI0 HZ0 HS0 HY0 ol1
        generalize zs.filter (fun x => decide (x.file = file)) = ow at *
        generalize (zs.filter (fun x => decide (x.day ≤ later))).length = t1 at *
        generalize hol : ow.length = t2 at *
        have ht2 : (t2 : Int) ≤ 9223372036854775807 := by omega
        generalize hidz : idN zs = idz at *
        have hr1 : Int.tmod bu 10 = bu % 10 := Int.tmod_eq_emod_of_nonneg hbu.1
        obtain ⟨r, hr⟩ : ∃ r, bu % 10 = r := ⟨_, rfl⟩
        rw [hr] at hr1 hbr HM2 HMe HPv HT3
        have hr8 : IntKind.u8.wrap r = r := by rw [IntKind.wrap_u8]; omega
        have hr64 : IntKind.i64.wrap r = r := by rw [IntKind.wrap_i64]; omega
        have h10 : ¬ (10 : Int) = 0 := by omega
        go_wp2_with (first
          | (go_at_call 24; (with_reducible refine (HC1.out _ ?_).mono ?_); rotate_right; rintro e w5 ⟨rfl, hb5⟩)
          | (go_at_call 24; (with_reducible refine (HC2.out _ ?_).mono ?_); rotate_right; rintro e w6 ⟨rfl, hb6⟩))
        all_goals try (first | exact Gr.refl _ | exact hb5)
        have G6 : Hid (Gr w w6) := G5.out.trans (hb5.trans hb6)
        have HIn6 : Hid (SigsIn w6 A2 t2 ow) := HIn2.out.gr (hb5.trans hb6)
        clear hb5 hb6 HC1 HC2 HIn2 G5
        go_loopg [151] t2 (fun gg s151 wr => ∃ j : Nat, j ≤ t2 ∧ t2 - j ≤ gg ∧ s151 = .int .i64 j ∧ Gr (w6.alloc (.cells #[.int .i64 r, .int .i64 idz, .int .i64 file, .int .i64 day, .int .u8 1, .int .i64 0] 67)) wr ∧ Hid (∀ i, i < j → day ≤ ow[i]!.day → 3 < ow[i]!.kind))
        case atStart => exact ⟨0, Nat.zero_le _, by omega, rfl, Gr.refl _, fun i hi => absurd hi (Nat.not_lt_zero _)⟩
        case round =>
          obtain ⟨j, hj, hgj, rfl, BW2, HQ⟩ := hrel
          by_cases hjl : j < t2
          · obtain ⟨hj', b', off', hA', hb', c0, c1', c2', c3, c4, c5⟩ := (HIn6.out.gr (((Gr.refl w6).alloc _).trans BW2)).rd.sig hjl
            subst hA'
            have HQ0 := hid (fun (h : day ≤ ow[j]!.day → 3 < ow[j]!.kind) => (fun i (hi : i < j + 1) => by
              rcases Nat.lt_succ_iff_lt_or_eq.1 hi with hi | rfl
              · exact HQ.out i hi
              · exact h : ∀ i, i < j + 1 → day ≤ ow[i]!.day → 3 < ow[i]!.kind))
            generalize ow[j]! = x at c0 c1' c2' c3 c4 c5 HQ0
            obtain ⟨x0, x1, x2, x3, x4, x5⟩ := x
            dsimp only at *
            have hjn : (j : Int) < (t2 : Int) := by omega
            have hj0 : (0 : Int) ≤ (j : Int) := by omega
            have gg := ((Gr.refl w6).alloc (.cells #[.int .i64 r, .int .i64 idz, .int .i64 file, .int .i64 day, .int .u8 1, .int .i64 0] 67)).trans BW2
            by_cases q1 : day ≤ x3
            · by_cases q2 : x4 ≤ 3
              · go_wp2
                go_ret
                exact ⟨rfl, (G6.out.trans gg).trans ((Gr.refl wr).alloc _)⟩
              · have HQ1 := hid (HQ0.out (fun _ => by omega))
                go_wp2
                go_roundg (t2 - (j + 1))
                case measure => omega
                case rel => exact ⟨j + 1, by omega, by omega, by go_num, BW2.trans ((Gr.refl wr).alloc _), HQ1⟩
            · have HQ1 := hid (HQ0.out (fun h => absurd h q1))
              go_wp2
              go_roundg (t2 - (j + 1))
              case measure => omega
              case rel => exact ⟨j + 1, by omega, by omega, by go_num, BW2.trans ((Gr.refl wr).alloc _), HQ1⟩
          · have hjn : ¬ (j : Int) < (t2 : Int) := by omega
            have gg := ((Gr.refl w6).alloc (.cells #[.int .i64 r, .int .i64 idz, .int .i64 file, .int .i64 day, .int .u8 1, .int .i64 0] 67)).trans BW2
            have hfr : wr.heap[w6.heap.size]? = some (.cells #[.int .i64 r, .int .i64 idz, .int .i64 file, .int .i64 day, .int .u8 1, .int .i64 0] 67 (0, 0)) := row_gr (heap_alloc_new w6 _) BW2
            have q0 := row_cell_at hfr 0 rfl
            have q1 := row_cell_at hfr 1 rfl
            have q2 := row_cell_at hfr 2 rfl
            have q3 := row_cell_at hfr 3 rfl
            have q4 := row_cell_at hfr 4 rfl
            have q5 := row_cell_at hfr 5 rfl
            have HOn : Hid (∀ x ∈ zs, x.file = file → day ≤ x.day → 3 < x.kind) := by
              intro x hx hf
              obtain ⟨i, hi, rfl⟩ := List.getElem_of_mem (HOw.out x hx hf)
              have := HQ.out i (by omega)
              rw [getElem!_pos ow i hi] at this
              exact this
            have HM3 := hid (fun W (kk : Gr wr W) (bz : Nat) (hrow : W.heap[bz]? = some (.cells #[.int .i64 r, .int .i64 idz, .int .i64 file, .int .i64 day, .int .u8 1, .int .i64 0] 67 (0, 0))) =>
              HM2.out (some ⟨bz, 0, none⟩) 1 1 W ((G6.out.trans gg).trans kk) ⟨rd_row hrow 6 1 rfl, by omega, by intro x hx; simp at hx; subst hx; show (0 : Int) ≤ 1 ∧ (1 : Int) ≤ 255; decide⟩)
            clear HM2 hfr HQ HOw HIn6 hol
            by_cases h9 : idz ≤ 999999
            · have h9' : ¬ 999999 < idz := by omega
              have HT4 := hid (HT3.out h9 HOn.out)
              have HL4 := hid (HPv.out h9)
              have hml := HMe.out h9
              rw [if_pos h9, hml] at HM3
              clear hml HT3 HPv HMe HOn
              go_wp2_with (first
                | (go_at_call 22; (with_reducible refine (HM3.out _ ?_ _ ?_).mono ?_); rotate_right; rintro e w7 ⟨R, rn, rc, rfl, hb7, hown⟩; have HRn : Hid (SigsIn w7 R rn _ ∧ (∀ b o, R = some ⟨b, o, none⟩ → b < w7.heap.size) ∧ rn < 1000) := ⟨⟨hown.rd Sig.len, by have := hown.le; have := hown.big; omega, u8_of_sigs HL4.out⟩, hown.addr, by have := sigsB_len HL4.out; have := hown.len; omega⟩; clear hown)
                | (go_at_call 24; (with_reducible refine (HT4.out _ _ _ _ ?_ HRn.out.1 HRn.out.2.1 HRn.out.2.2).mono ?_); rotate_right; rintro e w8 ⟨rfl, hb8⟩))
              all_goals first
                | exact heap_alloc_new _ _
                | (have h := heap_alloc_new wr (.cells #[.int .i64 r, .int .i64 idz, .int .i64 file, .int .i64 day, .int .u8 1, .int .i64 0] 67); simpa using h)
                | exact (Gr.refl wr).alloc _
                | exact (G6.out.trans gg).trans (((Gr.refl wr).alloc _).trans hb7)
                | skip
              go_ret
              exact ⟨by first | rfl | simp, (G6.out.trans gg).trans ((((Gr.refl wr).alloc _).trans hb7).trans hb8)⟩
            · have h9' : (999999 : Int) < idz := by omega
              rw [if_neg h9] at HM3
              clear HT3 HPv HMe HOn
              go_wp2_with (first
                | (go_at_call 22; (with_reducible refine (HM3.out _ ?_ _ ?_).mono ?_); rotate_right; rintro e w7 ⟨R, rn, rc, rfl, hb7, hown⟩; clear hown))
              all_goals first
                | exact heap_alloc_new _ _
                | (have h := heap_alloc_new wr (.cells #[.int .i64 r, .int .i64 idz, .int .i64 file, .int .i64 day, .int .u8 1, .int .i64 0] 67); simpa using h)
                | exact (Gr.refl wr).alloc _
                | skip
              go_ret
              exact ⟨by first | rfl | simp, (G6.out.trans gg).trans (((Gr.refl wr).alloc _).trans hb7)⟩
end Go.Proofs.YtliehlefpodhaaaDoor
