/- InquiryMarks is true: what is told has a licence, and each inquiry of a file has just one trace, which the person is shown. For every gate, inquiries, file and day. (Printed by gen_lawmarks.py.) -/
import Derived.Test.YtliehlefpodhaaaDoorOAlive9
import Derived.Test.YtliehlefpodhaaaDoorOReady9
import Derived.Test.YtliehlefpodhaaaDoorQMarksPure
import Derived.Test.YtliehlefpodhaaaDoorOCount
import Derived.Test.YtliehlefpodhaaaDoorOMapIs
import Derived.Deep.LoopGhost
import Derived.Deep.DeepCutAuto
import Derived.Deep.CutRange
import Derived.WalkMore
namespace Go.Proofs.YtliehlefpodhaaaDoor
open Go.RowKit Go.Shelf Go.Sort Go.Maps

theorem keyed_int9 : Keyed Tryd.prog 3 := int_keyed Tryd.underlying3
theorem key_id {x : Int} (h : 0 ≤ x ∧ x ≤ 999999) : keyOf Tryd.prog 3 (.int .i64 x) = some (.int .i64 x) :=
  keyOf_int_mk Tryd.underlying3 (WalkArith.wf_i64 (by omega))
theorem marks_id {ls : List Lic} {ss : List Sig} {zs : List Inq} (h : inqsB zs = true) {file day : Int} : ∀ t ∈ tracesL ls ss zs file day 5, 0 ≤ t.inq ∧ t.inq ≤ 999999 := by
  intro t ht
  rw [traces5_eq, (sortT_perm _).mem_iff, List.mem_map] at ht
  obtain ⟨q, hq, rfl⟩ := ht
  have hb := inqsB_mem h (List.mem_filter.1 hq).1
  unfold inqB inB at hb
  unfold trcOf
  simp at hb ⊢
  omega

set_option maxRecDepth 100000 in
set_option maxHeartbeats 16000000 in
theorem inquiryMarks_any (g : Gat) (ls : List Lic) (ss : List Sig) (A : Option Addr) (n c : Nat) (zs : List Inq) (file day : Int) (b off cap : Nat) (w : World) (hg : GatIn w g ls ss) (hA : ∀ b o, g.sa = some ⟨b, o, none⟩ → b < w.heap.size) (hi : InqsIn w A n zs) (hR : LaidR w b off cap) (hG : LaidL w) :
    Calls Tryd.prog 6 #[g.val, .slice A n c, .int .i64 file, .int .i64 day] w fun e w' => e = .returned (.bool true) ∧ Gr w w' := by
  have HAl := hid (fun W (k : Gr w W) => alive9_any b off cap W (hR.gr k) (hG.gr k))
  have HRd := hid (fun W (k : Gr w W) => ready_any g ls ss A n c zs file day W (hg.gr k) (hi.gr k))
  have HRT := hid (fun (h : readyB g.ln g.sn n ls ss zs file day = true) => readyB_true h)
  have HTr := hid (fun W (k : Gr w W) (h : g.sn < 1000) => traces_any g ls ss A n c zs file day 5 b off cap W (hg.gr k) (fun b o e => Nat.lt_of_lt_of_le (hA b o e) k.size) h (hR.gr k) (hG.gr k) (hi.gr k) (by omega))
  have HAs := hid (fun q W (k : Gr w W) (h : g.sn < 1000) (hq : 0 ≤ q.purpose ∧ q.purpose ≤ 255) => askTop_any g ls ss q b off cap W (hg.gr k) (fun b o e => Nat.lt_of_lt_of_le (hA b o e) k.size) h (hR.gr k) (hG.gr k) hq)
  have HLc := hid (fun q W (k : Gr w W) => refLicensed_any g ls ss q W (hg.gr k))
  have HI := hid hi
  have HL := hid hi.rd.inq_len
  have hbig := hi.big
  have hbig' : (n : Int) ≤ 9223372036854775807 := by omega
  clear hg hA hi hR hG
  generalize readyB g.ln g.sn n ls ss zs file day = rb at *
  cases rb with
  | false =>
    clear HTr HAs HLc HRT
    obtain ⟨la, ln, lc, sa, sn, sc⟩ := g
    unfold Gat.val at *
    dsimp only at *
    go_enter Tryd.func6, Tryd.ntmps6
    go_wp2_with (first
      | (go_at_call 29; (with_reducible refine (HAl.out _ ?_).mono ?_); rotate_right; rintro e w1 ⟨rfl, hbw1⟩; obtain ⟨hcw1, hfw1, hzw1⟩ := hbw1.rules; (try simp at hzw1); have hzw1_0 : w.heap.size < w1.heap.size := (by omega); have hyw1_0 : w.heap.size ≤ w1.heap.size := (by omega))
      | (go_at_call 34; (with_reducible refine (HRd.out _ ?_).mono ?_); rotate_right; rintro e w2 ⟨rfl, hbw2⟩; obtain ⟨hcw2, hfw2, hzw2⟩ := hbw2.rules; (try simp at hzw2); have hzw2_0 : w.heap.size < w2.heap.size := (by omega); have hyw2_0 : w.heap.size ≤ w2.heap.size := (by omega)))
    all_goals first
      | (go_ret
         exact ⟨rfl, by (repeat (first | with_reducible exact Gr.refl _ | with_reducible refine Gr.trans ?_ hbw2 | with_reducible refine Gr.trans ?_ hbw1 | with_reducible refine Gr.alloc ?_ _ | with_reducible refine Gr.setCell ?_ (by simp) _ | with_reducible refine Gr.setCell ?_ (by simp; omega) _ | with_reducible refine Gr.drew ?_ | with_reducible refine Gr.drewN ?_ _))⟩)
      | ((repeat (first | with_reducible exact Gr.refl _ | with_reducible refine Gr.trans ?_ hbw1 | with_reducible refine Gr.alloc ?_ _ | with_reducible refine Gr.setCell ?_ (by simp) _ | with_reducible refine Gr.setCell ?_ (by simp; omega) _ | with_reducible refine Gr.drew ?_ | with_reducible refine Gr.drewN ?_ _)); done)
  | true =>
    have F := HRT.out rfl
    obtain ⟨g1, g2, g3⟩ := F.great
    have hz := F.inqs
    have hge := F.gate
    obtain ⟨hd1, hd2⟩ := F.day
    have t5 := tracesN_ok (pu := 5) hge hz F.file F.day (by omega)
    have HT5 := hid (fun W k => HTr.out W k (by omega))
    rw [t5, tracesR_ok t5] at HT5
    have HAx0 := hid (fun q W k (hb : inqB q = true) => by
      have h := HAs.out q W k (by omega) (by unfold inqB inB at hb; simp at hb; omega)
      rw [hge, hb] at h
      simpa using h)
    have HZ := hid hz
    have HSo := hid (marks_sorted (ls := ls) (ss := ss) hz file day)
    have HAp := hid (marks_apart (ls := ls) (ss := ss) hz file day)
    have HLe := hid (marks_length ls ss zs file day)
    have HSe := hid (fun (q : Inq) (hq : q ∈ zs) => seen_at (ls := ls) (ss := ss) (file := file) (day := day) hz hq)
    have HId := hid (marks_id (ls := ls) (ss := ss) (file := file) (day := day) hz)
    generalize tracesL ls ss zs file day 5 = al at *
    clear HTr HAs HRT F hz hge t5 g1 g2
    have hmm := @run_makeMap Tryd.prog
    obtain ⟨la, ln, lc, sa, sn, sc⟩ := g
    unfold Gat.val at *
    dsimp only at *
    go_enter Tryd.func6, Tryd.ntmps6
    go_wp2_with (first
      | (go_at_call 29; (with_reducible refine (HAl.out _ ?_).mono ?_); rotate_right; rintro e w1 ⟨rfl, hbw1⟩; obtain ⟨hcw1, hfw1, hzw1⟩ := hbw1.rules; (try simp at hzw1); have hzw1_0 : w.heap.size < w1.heap.size := (by omega); have hyw1_0 : w.heap.size ≤ w1.heap.size := (by omega))
      | (go_at_call 34; (with_reducible refine (HRd.out _ ?_).mono ?_); rotate_right; rintro e w2 ⟨rfl, hbw2⟩; obtain ⟨hcw2, hfw2, hzw2⟩ := hbw2.rules; (try simp at hzw2); have hzw2_0 : w.heap.size < w2.heap.size := (by omega); have hyw2_0 : w.heap.size ≤ w2.heap.size := (by omega))
      | (go_at_call 16; (with_reducible refine (HT5.out _ ?_).mono ?_); rotate_right; rintro e w3 ⟨B1, m1, d1, rfl, hb3, T1⟩; have HT1 := hid T1; clear T1; obtain ⟨hcw3, hfw3, hzw3⟩ := hb3.rules; have hzw3_0 : w.heap.size < w3.heap.size := (by omega)))
    all_goals try ((repeat (first | with_reducible exact Gr.refl _ | with_reducible refine Gr.trans ?_ hb3 | with_reducible refine Gr.trans ?_ hbw2 | with_reducible refine Gr.trans ?_ hbw1 | with_reducible refine Gr.alloc ?_ _ | with_reducible refine Gr.setCell ?_ (by simp) _ | with_reducible refine Gr.setCell ?_ (by simp; omega) _ | with_reducible refine Gr.drew ?_ | with_reducible refine Gr.drewN ?_ _)); done)
    have G3 : Hid (Gr w w3) := by
      show Gr w w3
      (repeat (first | with_reducible exact Gr.refl _ | with_reducible refine Gr.trans ?_ hb3 | with_reducible refine Gr.trans ?_ hbw2 | with_reducible refine Gr.trans ?_ hbw1 | with_reducible refine Gr.alloc ?_ _ | with_reducible refine Gr.setCell ?_ (by simp) _ | with_reducible refine Gr.setCell ?_ (by simp; omega) _ | with_reducible refine Gr.drew ?_ | with_reducible refine Gr.drewN ?_ _))
    have HRG : Hid (w3.heap[w.heap.size]? = some (.cells #[.slice la ln lc, .slice sa sn sc] 25 (0, 0))) := row_gr (row_gr (row_gr (heap_alloc_new w (.cells #[.slice la ln lc, .slice sa sn sc] 25)) hbw1) hbw2) hb3
    have hl1 := HT1.out.len
    have HL1 := hid hl1
    have hm1 : (m1 : Int) ≤ 9223372036854775807 := by have := HT1.out.le; have := HT1.out.big; omega
    clear hb3 hbw1 hbw2 hcw1 hfw1 hzw1 hcw2 hfw2 hzw2 hcw3 hfw3 hzw3 hzw1_0 hyw1_0 hzw2_0 hyw2_0 HAl HRd HT5 hl1 hmm
    go_loopg [50] m1 (fun gg s50 wr => ∃ k : Nat, k ≤ m1 ∧ m1 - k ≤ gg ∧ s50 = .int .i64 k ∧ Gr w3 wr ∧ Hid (MapIs Tryd.prog 3 (Value.int .i64) wr w3.heap.size (seenF (al.take k))))
    case atStart => exact ⟨0, Nat.zero_le _, by omega, rfl, (Gr.refl w3).alloc _, hid ((MapIs.new w3).congr (fun q => rfl))⟩
    case round =>
      obtain ⟨k, hk, hgk, rfl, BW, HM⟩ := hrel
      by_cases hkl : k < m1
      · obtain ⟨hk', b', off', hA', hb', c0, c1, c2, c3, c4⟩ := (HT1.out.gr BW).rd.trc hkl
        have HNone0 := hid (seen_new HAp.out hk')
        have HPut0 := hid (seen_put HAp.out hk')
        have HSt0 := hid (fun h0 => marks_step HSo.out hk' h0)
        have hkid := HId.out _ (mem_get hk')
        have hkn : (k : Int) < (m1 : Int) := by omega
        have hk0 : (0 : Int) ≤ (k : Int) := by omega
        by_cases h0 : k = 0
        · subst h0
          simp only [Nat.zero_mul, Nat.add_zero] at c0 c1 c2 c3 c4
          generalize al[0]! = t at c0 c1 c2 c3 c4 HNone0 HPut0 hkid
          obtain ⟨x0, x1, x2, x3, x4⟩ := t
          subst hA'
          unfold Trc.val at HPut0
          dsimp only at *
          have HNone := HNone0
          have HPut := HPut0
          have HKey := hid (key_id hkid)
          clear HNone0 HPut0 HSt0 hk'
          have hz0 : ¬ (0 : Int) < ((0 : Nat) : Int) := by omega
          have hm0 := HM.out.gr ((Gr.refl wr).alloc (.cells #[.int .i64 x0, .int .i64 x1, .int .i64 x2, .int .u8 x3, .int .u8 x4] 72))
          go_wp2_with (first
            | ((with_reducible show wpList _ _ _ (⟨some 59, _, _, _, _, _⟩ :: _) _ _); refine wpList_lookup_is_ok (Value.int .i64) _ rfl (.tmp 56) (.tmp 58) 70 rfl keyed_int9 (fun p q h => int_inj p q h) Tryd.underlying70 w3.heap.size (seenF (al.take 0)) rfl hm0 x0 (.int .i64 x0) (.agg #[.int .i64 0, .int .i64 0, .int .i64 0, .int .u8 0, .int .u8 0]) rfl HKey.out (by kernel_rfl) ?_; rw [HNone.out]; dsimp only [Option.getD_none, Option.isSome_none]))
          go_quiet (fail)
          obtain ⟨w9, hrun, hm9, hg9, hs9⟩ := ((hm0.alloc (.cells #[.int .i64 0, .int .i64 0, .int .i64 0, .int .u8 0, .int .u8 0] 72)).drewN nq).put keyed_int9 (fun p q h => int_inj p q h) Tryd.underlying70 HKey.out (.agg #[.int .i64 x0, .int .i64 x1, .int .i64 x2, .int .u8 x3, .int .u8 x4])
          have HM9 := hid (And.intro hm9 (And.intro hg9 hs9))
          clear hm9 hg9 hs9
          go_wp2_with fail
          go_roundg (m1 - (0 + 1))
          case measure => omega
          case rel =>
            refine ⟨0 + 1, by omega, by omega, by go_num, ?_, ?_⟩
            · refine Gr.grown ((BW.trans (((Gr.refl wr).alloc _).alloc _)).drewN _) HM9.out.2.1 (fun q e => by cases e; exact Nat.le_refl _)
            · exact HM9.out.1.congr HPut.out
        · obtain ⟨j, rfl⟩ : ∃ j, k = j + 1 := ⟨k - 1, by omega⟩
          have hst := HSt0.out (by omega)
          rw [Nat.add_sub_cancel] at hst
          obtain ⟨_, b2, off2, hA2, _, d0, _, d2, _, _⟩ := (HT1.out.gr BW).rd.trc (k := j) (by omega)
          subst hA'
          cases hA2
          generalize al[j + 1]! = t at c0 c1 c2 c3 c4 HNone0 HPut0 hkid hst
          generalize al[j]! = u at d0 d2 hst
          obtain ⟨x0, x1, x2, x3, x4⟩ := t
          obtain ⟨y0, y1, y2, y3, y4⟩ := u
          unfold Trc.val at HPut0
          dsimp only at *
          have HNone := HNone0
          have HPut := HPut0
          have HKey := hid (key_id hkid)
          clear HNone0 HPut0 HSt0 hk'
          have hq0 := row_cell d0 (((Gr.refl wr).alloc (.cells #[.int .i64 x0, .int .i64 x1, .int .i64 x2, .int .u8 x3, .int .u8 x4] 72)).alloc (.cells #[.int .i64 0, .int .i64 0, .int .i64 0, .int .u8 0, .int .u8 0] 72))
          have hq2 := row_cell d2 (((Gr.refl wr).alloc (.cells #[.int .i64 x0, .int .i64 x1, .int .i64 x2, .int .u8 x3, .int .u8 x4] 72)).alloc (.cells #[.int .i64 0, .int .i64 0, .int .i64 0, .int .u8 0, .int .u8 0] 72))
          have hjn : (j : Int) < (m1 : Int) := by omega
          have hj0 : (0 : Int) ≤ (j : Int) := by omega
          have hp0 : (0 : Int) < ((j + 1 : Nat) : Int) := by omega
          have hp1 : (0 : Int) < (j : Int) + 1 := by omega
          have hw : IntKind.i64.wrap ((j : Int) + 1 - 1) = (j : Int) := by rw [IntKind.wrap_i64]; omega
          have hw2 : IntKind.i64.wrap (j : Int) = (j : Int) := by rw [IntKind.wrap_i64]; omega
          rcases hst with h | ⟨h, h'⟩
          · have e1 : ¬ x2 < y2 := by omega
            have e2 : ¬ x2 = y2 := by omega
            clear h
            have hm0 := HM.out.gr ((Gr.refl wr).alloc (.cells #[.int .i64 x0, .int .i64 x1, .int .i64 x2, .int .u8 x3, .int .u8 x4] 72))
            go_wp2_with (first
              | ((with_reducible show wpList _ _ _ (⟨some 59, _, _, _, _, _⟩ :: _) _ _); refine wpList_lookup_is_ok (Value.int .i64) _ rfl (.tmp 56) (.tmp 58) 70 rfl keyed_int9 (fun p q h => int_inj p q h) Tryd.underlying70 w3.heap.size (seenF (al.take (j + 1))) rfl hm0 x0 (.int .i64 x0) (.agg #[.int .i64 0, .int .i64 0, .int .i64 0, .int .u8 0, .int .u8 0]) rfl HKey.out (by kernel_rfl) ?_; rw [HNone.out]; dsimp only [Option.getD_none, Option.isSome_none]))
            go_quiet (fail)
            obtain ⟨w9, hrun, hm9, hg9, hs9⟩ := ((hm0.alloc (.cells #[.int .i64 0, .int .i64 0, .int .i64 0, .int .u8 0, .int .u8 0] 72)).drewN nq).put keyed_int9 (fun p q h => int_inj p q h) Tryd.underlying70 HKey.out (.agg #[.int .i64 x0, .int .i64 x1, .int .i64 x2, .int .u8 x3, .int .u8 x4])
            have HM9 := hid (And.intro hm9 (And.intro hg9 hs9))
            clear hm9 hg9 hs9
            go_wp2_with fail
            go_roundg (m1 - ((j + 1) + 1))
            case measure => omega
            case rel =>
              refine ⟨(j + 1) + 1, by omega, by omega, by go_num, ?_, ?_⟩
              · refine Gr.grown ((BW.trans (((Gr.refl wr).alloc _).alloc _)).drewN _) HM9.out.2.1 (fun q e => by cases e; exact Nat.le_refl _)
              · exact HM9.out.1.congr HPut.out
          · have h := h.symm
            subst h
            have e1 : ¬ x2 < x2 := by omega
            have e2 : ¬ x0 ≤ y0 := by omega
            have hm0 := HM.out.gr ((Gr.refl wr).alloc (.cells #[.int .i64 x0, .int .i64 x1, .int .i64 x2, .int .u8 x3, .int .u8 x4] 72))
            go_wp2_with (first
              | ((with_reducible show wpList _ _ _ (⟨some 59, _, _, _, _, _⟩ :: _) _ _); refine wpList_lookup_is_ok (Value.int .i64) _ rfl (.tmp 56) (.tmp 58) 70 rfl keyed_int9 (fun p q h => int_inj p q h) Tryd.underlying70 w3.heap.size (seenF (al.take (j + 1))) rfl hm0 x0 (.int .i64 x0) (.agg #[.int .i64 0, .int .i64 0, .int .i64 0, .int .u8 0, .int .u8 0]) rfl HKey.out (by kernel_rfl) ?_; rw [HNone.out]; dsimp only [Option.getD_none, Option.isSome_none]))
            go_quiet (fail)
            obtain ⟨w9, hrun, hm9, hg9, hs9⟩ := ((hm0.alloc (.cells #[.int .i64 0, .int .i64 0, .int .i64 0, .int .u8 0, .int .u8 0] 72)).drewN nq).put keyed_int9 (fun p q h => int_inj p q h) Tryd.underlying70 HKey.out (.agg #[.int .i64 x0, .int .i64 x1, .int .i64 x2, .int .u8 x3, .int .u8 x4])
            have HM9 := hid (And.intro hm9 (And.intro hg9 hs9))
            clear hm9 hg9 hs9
            go_wp2_with fail
            go_roundg (m1 - ((j + 1) + 1))
            case measure => omega
            case rel =>
              refine ⟨(j + 1) + 1, by omega, by omega, by go_num, ?_, ?_⟩
              · refine Gr.grown ((BW.trans (((Gr.refl wr).alloc _).alloc _)).drewN _) HM9.out.2.1 (fun q e => by cases e; exact Nat.le_refl _)
              · exact HM9.out.1.congr HPut.out
      · have hkn : ¬ (k : Int) < (m1 : Int) := by omega
        have hfull : al.take k = al := by rw [show k = al.length by have := HL1.out; omega, List.take_length]
        have HMf := HM
        rw [hfull] at HMf
        clear HM hfull HSo HAp HId
        obtain ⟨wo, rfl⟩ : ∃ wo : World, wo = wr := ⟨_, rfl⟩
        go_wp2_with fail
        go_loopg [17, 107] n (fun gg s17 s107 wr => ∃ j : Nat, j ≤ n ∧ n - j ≤ gg ∧ s17 = .int .i64 ((zs.take j).filter (keptB file day)).length ∧ s107 = .int .i64 j ∧ Gr wo wr)
        case atStart => exact ⟨0, Nat.zero_le _, by omega, by first | rfl | simp, rfl, Gr.refl wo⟩
        case round =>
          obtain ⟨j, hj, hgj, rfl, rfl, BW2⟩ := hrel
          by_cases hjl : j < n
          · obtain ⟨hj', b', off', hA', hb', c0, c1, c2, c3, c4, c5⟩ := (HI.out.gr (G3.out.trans (BW.trans BW2))).rd.inq hjl
            subst hA'
            have HFn := hid (filter_snoc (p := keptB file day) hj')
            have hqx := inqsB_mem HZ.out (mem_get hj')
            have HSeen0 := hid (HSe.out _ (mem_get hj'))
            have hcl : ((zs.take j).filter (keptB file day)).length ≤ j := by
              have h1 := List.length_filter_le (keptB file day) (zs.take j)
              have h2 := List.length_take_le j zs
              omega
            generalize zs[j]! = x at c0 c1 c2 c3 c4 c5 HFn hqx HSeen0
            have HAx := hid (fun W kk => HAx0.out x W kk hqx)
            have HLx := hid (fun W kk => HLc.out x W kk)
            have hcs : (licensedB ls x = false ∧ askN ls ss x = 1) ∨ (licensedB ls x = true ∧ askN ls ss x = 0) ∨ (licensedB ls x = true ∧ ¬ askN ls ss x = 0 ∧ ¬ askN ls ss x = 1 ∧ ¬ 3 < askN ls ss x) := by
              have h1 := ask_one ls ss x
              have h2 := ask_le ls ss x
              cases e : licensedB ls x
              · exact .inl ⟨rfl, h1.2 e⟩
              · have : ¬ askN ls ss x = 1 := fun h => by rw [h1.1 h] at e; cases e
                simp only [Bool.true_eq_false, false_and, true_and, false_or]
                omega
            have hkp := kept_parts file day x
            have hT : trcOf ls ss x = ⟨x.id, x.who, x.day, x.purpose, askN ls ss x⟩ := rfl
            rw [hT] at HSeen0
            obtain ⟨hx1, hx2⟩ : (0 ≤ x.id ∧ x.id ≤ 999999) ∧ (0 ≤ x.day ∧ x.day ≤ 100000) := by
              unfold inqB inB at hqx
              simp at hqx
              omega
            have HKey := hid (key_id hx1)
            clear hT hqx hj'
            have hjn : (j : Int) < (n : Int) := by omega
            have hj0 : (0 : Int) ≤ (j : Int) := by omega
            have r0 := row_cell_at (v := .slice la ln lc) (row_gr (row_gr HRG.out BW) BW2) 0 rfl
            have r1 := row_cell_at (v := .slice sa sn sc) (row_gr (row_gr HRG.out BW) BW2) 1 rfl
            have rz : w.heap.size < wr.heap.size := block_lt_of_cell r0
            have hkb : (keptB file day x = true ∧ x.file = file ∧ x.day ≤ day ∧ day - x.day ≤ 730) ∨ (keptB file day x = false ∧ ¬ x.file = file) ∨ (keptB file day x = false ∧ x.file = file ∧ ¬ x.day ≤ day) ∨ (keptB file day x = false ∧ x.file = file ∧ x.day ≤ day ∧ ¬ day - x.day ≤ 730) := by
              rw [hkp]
              by_cases a1 : x.file = file
              · by_cases a2 : x.day ≤ day
                · by_cases a3 : day - x.day ≤ 730
                  · exact .inl ⟨by simp [a1, a2, a3], a1, a2, a3⟩
                  · exact .inr (.inr (.inr ⟨by simp [a3], a1, a2, a3⟩))
                · exact .inr (.inr (.inl ⟨by simp [a2], a1, a2⟩))
              · exact .inr (.inl ⟨by simp [a1], a1⟩)
            clear hkp
            have HSt : Hid (((zs.take (j + 1)).filter (keptB file day)).length = ((zs.take j).filter (keptB file day)).length + if keptB file day x = true then 1 else 0) := by
              show _ = _
              rw [HFn.out, List.length_append]
              split <;> rfl
            clear HFn
            generalize keptB file day x = kb at *
            generalize askN ls ss x = an at *
            generalize licensedB ls x = lb at *
            generalize ((zs.take j).filter (keptB file day)).length = cnt at *
            obtain ⟨x0, x1, x2, x3, x4, x5⟩ := x
            unfold Inq.val at HAx HLx
            unfold Trc.val at HSeen0
            dsimp only at *
            have hwd : IntKind.i64.wrap (day - x1) = day - x1 := by rw [IntKind.wrap_i64]; omega
            have gd0 := G3.out.trans (BW.trans (BW2.trans ((Gr.refl wr).alloc (.cells #[.int .i64 x0, .int .i64 x1, .int .i64 x2, .int .i64 x3, .int .u8 x4, .bool x5] 27))))
            go_upto_region 21 with (first
              | (go_at_call 14; (with_reducible refine (HAx.out _ ?_).mono ?_); rotate_right; rintro e wd ⟨rfl, hbwd⟩; obtain ⟨hcwd, hfwd, hzwd⟩ := hbwd.rules; (try simp at hzwd); have hzwd_0 : wr.heap.size < wd.heap.size := (by omega); have hywd_0 : wr.heap.size ≤ wd.heap.size := (by omega)))
            all_goals try (exact gd0; done)
            have GD := hid (gd0.trans hbwd)
            have HMd := hid (HMf.out.gr (BW2.trans (((Gr.refl wr).alloc _).trans hbwd)))
            clear gd0
            go_cut [141] (fun s141 wx => s141 = .bool false ∧ Gr wd wx)
            case first =>
              rcases hcs with ⟨rfl, rfl⟩ | ⟨rfl, rfl⟩ | ⟨rfl, n0, n1, n3⟩
              all_goals
                go_wp2_with (first
                  | (go_at_call 35; (with_reducible refine (HLx.out _ ?_).mono ?_); rotate_right; rintro e we ⟨rfl, hbwe⟩; obtain ⟨hcwe, hfwe, hzwe⟩ := hbwe.rules; (try simp at hzwe); have hzwe_0 : wr.heap.size < we.heap.size := (by omega); have hywe_0 : wr.heap.size ≤ we.heap.size := (by omega)))
                all_goals try (exact GD.out; done)
                go_meet
                exact ⟨by first | rfl | (simp; omega), by first | exact hbwe | exact Gr.refl _⟩
            case rest =>
              obtain ⟨rfl, hbwc⟩ := hcut
              obtain ⟨hcwc, hfwc, hzwc⟩ := hbwc.rules
              have hzwc_0 : wr.heap.size < wc.heap.size := by omega
              have hm0 := HMd.out.gr hbwc
              clear hcs
              rcases hkb with ⟨rfl, rfl, a2, a3⟩ | ⟨rfl, a1⟩ | ⟨rfl, rfl, a2⟩ | ⟨rfl, rfl, a2, a3⟩
              all_goals
                have HSeen := HSeen0.out
                have HCn := HSt.out
                simp only [if_true, if_false, Bool.false_eq_true, Nat.add_zero] at HSeen HCn
                have HSeen := hid HSeen
                have HCn := hid HCn
                clear HSeen0 HSt
                go_wp2_with (first
                  | ((with_reducible show wpList _ _ _ (⟨some 163, _, _, _, _, _⟩ :: _) _ _); refine wpList_lookup_is_ok (Value.int .i64) _ rfl (.tmp 160) (.tmp 162) 70 rfl keyed_int9 (fun p q h => int_inj p q h) Tryd.underlying70 w3.heap.size (seenF al) rfl hm0 x0 (.int .i64 x0) (.agg #[.int .i64 0, .int .i64 0, .int .i64 0, .int .u8 0, .int .u8 0]) rfl HKey.out (by kernel_rfl) ?_; rw [HSeen.out]; dsimp only [Option.getD_none, Option.isSome_none, Option.getD_some, Option.isSome_some]))
                go_roundg (n - (j + 1))
                case measure => omega
                case rel => exact ⟨j + 1, by omega, by omega, by first | (rw [HCn.out]; done) | (rw [HCn.out]; first | rfl | go_num), by go_num, by (repeat (first | with_reducible exact Gr.refl _ | with_reducible refine Gr.trans ?_ hbwc | with_reducible refine Gr.trans ?_ hbwd | with_reducible refine Gr.trans ?_ BW2 | with_reducible refine Gr.alloc ?_ _ | with_reducible refine Gr.setCell ?_ (by simp) _ | with_reducible refine Gr.setCell ?_ (by simp; omega) _ | with_reducible refine Gr.drew ?_ | with_reducible refine Gr.drewN ?_ _))⟩
          · have hjn : ¬ (j : Int) < (n : Int) := by omega
            have hf : zs.take j = zs := by rw [show j = n by omega, ← HL.out, List.take_length]
            rw [hf, ← HLe.out, ← HL1.out]
            clear hf
            go_wp2
            go_ret
            exact ⟨by first | rfl | simp, G3.out.trans (BW.trans BW2)⟩
end Go.Proofs.YtliehlefpodhaaaDoor
