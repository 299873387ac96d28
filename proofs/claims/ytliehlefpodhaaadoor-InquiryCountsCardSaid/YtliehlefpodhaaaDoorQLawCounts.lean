/- InquiryCounts is true: asking around counts once. For every gate, inquiries, file, day, and an inquiry more. (Printed by gen_lawcounts.py.) -/
import Derived.Test.YtliehlefpodhaaaDoorOAlive9
import Derived.Test.YtliehlefpodhaaaDoorOReady9
import Derived.Test.YtliehlefpodhaaaDoorQCountsPure
import Derived.Test.YtliehlefpodhaaaDoorQPlan
import Derived.Test.YtliehlefpodhaaaDoorOTrRow
import Derived.Test.YtliehlefpodhaaaDoorOTwin9
import Derived.Test.YtliehlefpodhaaaDoorOCount
import Derived.Deep.LoopGhost
import Derived.Deep.DeepCutAuto
import Derived.Deep.CutRange
namespace Go.Proofs.YtliehlefpodhaaaDoor
open Go.RowKit Go.Shelf Go.Sort

theorem own_capC {w : World} {base : Nat} {e : TypeId} {size n c : Nat} {A : Option Addr} {xs : List Value} (h : w.ownsRow base e size (.slice A n c) n xs) : n ≤ c ∧ c ≤ 9223372036854775807 := by
  rcases h.2 with ⟨hv, h0⟩ | ⟨g, cap, cur, hv, _, _, hnc, hcm, _⟩
  · injection hv with _ _ hc
    omega
  · injection hv with _ _ hc
    unfold maxLen at hcm
    omega
theorem own_lower {w : World} {base base' : Nat} {e : TypeId} {size n : Nat} {v : Value} {xs : List Value} (h : w.ownsRow base e size v n xs) (hb : base' ≤ base) : w.ownsRow base' e size v n xs :=
  ⟨h.1, h.2.imp id (fun ⟨g, cap, cur, h1, h2, h3⟩ => ⟨g, cap, cur, h1, Nat.le_trans hb h2, h3⟩)⟩
theorem inq_cells (l : List Inq) : ∀ u ∈ l.flatMap Inq.cells, u.oneCell' = true := by
  intro u hu
  obtain ⟨x, _, hx⟩ := List.mem_flatMap.1 hu
  simp [Inq.cells] at hx
  rcases hx with rfl | rfl | rfl | rfl | rfl | rfl <;> rfl
theorem flatMap_take {α : Type} {f : α → List Value} {m : Nat} (hf : ∀ x, (f x).length = m) (l : List α) (k : Nat) : (l.flatMap f).take (k * m) = (l.take k).flatMap f := by
  induction k generalizing l with
  | zero => simp
  | succ k ih =>
    cases l with
    | nil => simp
    | cons a r =>
      have h1 : (k + 1) * m - m = k * m := by rw [Nat.succ_mul]; omega
      have h2 : m ≤ (k + 1) * m := by rw [Nat.succ_mul]; omega
      rw [List.flatMap_cons, List.take_succ_cons, List.flatMap_cons, ← ih, List.take_append, hf, h1, List.take_of_length_le (by rw [hf]; exact h2)]
theorem flatMap_drop {α : Type} {f : α → List Value} {m : Nat} (hf : ∀ x, (f x).length = m) (l : List α) (k : Nat) : (l.flatMap f).drop (k * m) = (l.drop k).flatMap f := by
  induction k generalizing l with
  | zero => simp
  | succ k ih =>
    cases l with
    | nil => simp
    | cons a r =>
      have h1 : (k + 1) * m - m = k * m := by rw [Nat.succ_mul]; omega
      have h2 : m ≤ (k + 1) * m := by rw [Nat.succ_mul]; omega
      rw [List.flatMap_cons, List.drop_succ_cons, ← ih, List.drop_append, hf, h1, List.drop_of_length_le (by rw [hf]; exact h2), List.nil_append]
theorem inq_take (l : List Inq) (k : Nat) : (l.flatMap Inq.cells).take (k * 6) = (l.take k).flatMap Inq.cells := flatMap_take Inq.len l k
theorem inq_drop (l : List Inq) (k : Nat) : (l.flatMap Inq.cells).drop (k * 6) = (l.drop k).flatMap Inq.cells := flatMap_drop Inq.len l k

set_option maxRecDepth 100000 in
set_option maxHeartbeats 16000000 in
theorem inquiryCounts_any (g : Gat) (ls : List Lic) (ss : List Sig) (A : Option Addr) (n c : Nat) (zs : List Inq) (file day : Int) (q : Inq) (b off cap : Nat) (w : World) (hg : GatIn w g ls ss) (hA : ∀ b o, g.sa = some ⟨b, o, none⟩ → b < w.heap.size) (hi : InqsIn w A n zs) (hnc : n ≤ c) (hq : 0 ≤ q.purpose ∧ q.purpose ≤ 255) (hR : LaidR w b off cap) (hG : LaidL w) :
    Calls Tryd.prog 11 #[g.val, .slice A n c, .int .i64 file, .int .i64 day, q.val] w fun e w' => e = .returned (.bool true) ∧ Gr w w' := by
  have HAl := hid (fun W (k : Gr w W) => alive9_any b off cap W (hR.gr k) (hG.gr k))
  have HRd := hid (fun W (k : Gr w W) => ready_any g ls ss A n c zs file day W (hg.gr k) (hi.gr k))
  have HRT := hid (fun (h : readyB g.ln g.sn n ls ss zs file day = true) => readyB_true h)
  have HTr := hid (fun W (k : Gr w W) (h : g.sn < 1000) => traces_any g ls ss A n c zs file day 1 b off cap W (hg.gr k) (fun b o e => Nat.lt_of_lt_of_le (hA b o e) k.size) h (hR.gr k) (hG.gr k) (hi.gr k) (by omega))
  have HCt := hid (fun A' n' c' zs' W (k : Gr w W) (h : g.sn < 1000) (hi' : InqsIn W A' n' zs') => count_any g ls ss A' n' c' zs' file day b off cap W (hg.gr k) (fun b o e => Nat.lt_of_lt_of_le (hA b o e) k.size) h (hR.gr k) (hG.gr k) hi')
  have HIq := hid (fun A' n' c' zs' W (hi' : InqsIn W A' n' zs') => refInquiries_any A' n' c' zs' W hi')
  have HI := hid hi
  have HNC := hid hnc
  have HL := hid hi.rd.inq_len
  have hbig := hi.big
  have hbig' : (n : Int) ≤ 9223372036854775807 := by omega
  clear hg hA hi hnc hR hG
  generalize readyB g.ln g.sn n ls ss zs file day = rb at *
  obtain ⟨z0, z1, z2, z3, z4, z5⟩ := q
  unfold Inq.val at *
  dsimp only at *
  cases rb with
  | false =>
    clear HTr HCt HIq HRT
    obtain ⟨la, ln, lc, sa, sn, sc⟩ := g
    unfold Gat.val at *
    dsimp only at *
    go_enter Tryd.func11, Tryd.ntmps11
    go_wp2_with (first
      | (go_at_call 29; (with_reducible refine (HAl.out _ ?_).mono ?_); rotate_right; rintro e w1 ⟨rfl, hbw1⟩; obtain ⟨hcw1, hfw1, hzw1⟩ := hbw1.rules; (try simp at hzw1); have hzw1_0 : w.heap.size < w1.heap.size := (by omega); have hyw1_0 : w.heap.size ≤ w1.heap.size := (by omega); have hzw1_1 : w.heap.size + 1 < w1.heap.size := (by omega); have hyw1_1 : w.heap.size + 1 ≤ w1.heap.size := (by omega))
      | (go_at_call 34; (with_reducible refine (HRd.out _ ?_).mono ?_); rotate_right; rintro e w2 ⟨rfl, hbw2⟩; obtain ⟨hcw2, hfw2, hzw2⟩ := hbw2.rules; (try simp at hzw2); have hzw2_0 : w.heap.size < w2.heap.size := (by omega); have hyw2_0 : w.heap.size ≤ w2.heap.size := (by omega); have hzw2_1 : w.heap.size + 1 < w2.heap.size := (by omega); have hyw2_1 : w.heap.size + 1 ≤ w2.heap.size := (by omega)))
    all_goals first
      | (go_ret
         exact ⟨rfl, by (repeat (first | with_reducible exact Gr.refl _ | with_reducible refine Gr.trans ?_ hbw2 | with_reducible refine Gr.trans ?_ hbw1 | with_reducible refine Gr.alloc ?_ _ | with_reducible refine Gr.setCell ?_ (by simp) _ | with_reducible refine Gr.setCell ?_ (by simp; omega) _ | with_reducible refine Gr.drew ?_ | with_reducible refine Gr.drewN ?_ _))⟩)
      | ((repeat (first | with_reducible exact Gr.refl _ | with_reducible refine Gr.trans ?_ hbw1 | with_reducible refine Gr.alloc ?_ _ | with_reducible refine Gr.setCell ?_ (by simp) _ | with_reducible refine Gr.setCell ?_ (by simp; omega) _ | with_reducible refine Gr.drew ?_ | with_reducible refine Gr.drewN ?_ _)); done)
  | true =>
    have F := HRT.out rfl
    obtain ⟨g1, g2, g3⟩ := F.great
    have hz := F.inqs
    have hge := F.gate
    obtain ⟨hd1, hd2⟩ := F.day
    have t1 := tracesN_ok (pu := 1) hge hz F.file F.day (by omega)
    have HT1 := hid (fun W k => HTr.out W k (by omega))
    have HC1 := hid (fun W k => HCt.out A n c zs W k (by omega) (HI.out.gr k))
    rw [t1, tracesR_ok t1] at HT1 HC1
    have HCp := hid (fun j A' n' c' (hp : inqsB (plusL zs ⟨z0, z1, z2, z3, z4, z5⟩ j) = true) W k (hi' : InqsIn W A' n' (plusL zs ⟨z0, z1, z2, z3, z4, z5⟩ j)) => by
      have h := HCt.out A' n' c' (plusL zs ⟨z0, z1, z2, z3, z4, z5⟩ j) W k (by omega) hi'
      have tp := tracesN_ok (pu := 1) hge hp F.file F.day (by omega)
      rw [tp, tracesR_ok tp] at h
      exact h)
    have HMo := hid (fun j (hp : inqsB (plusL zs ⟨z0, z1, z2, z3, z4, z5⟩ j) = true) => counts_more (ls := ls) (ss := ss) hz hp file day)
    have HCs := hid (counts_same (traces_days ls ss zs file day 1) (traces_bound (ls := ls) (ss := ss) hz file day 1))
    have HBd := hid (traces_bound (ls := ls) (ss := ss) hz file day 1)
    have HU8 := hid (fun x (hx : x ∈ zs) => (by have hb := inqsB_mem hz hx; unfold inqB inB at hb; simp at hb; omega : 0 ≤ x.purpose ∧ x.purpose ≤ 255))
    have HAl2 : Hid ((tracesL ls ss zs file day 1).length ≤ zs.length) := by
      show _ ≤ _
      unfold tracesL
      rw [(sortT_perm _).length_eq]
      refine Nat.le_trans (List.length_filter_le _ _) ?_
      rw [List.length_map]
      exact List.length_filter_le _ _
    generalize tracesL ls ss zs file day 1 = al at *
    clear HTr HCt HRT F hge t1 g1
    obtain ⟨la, ln, lc, sa, sn, sc⟩ := g
    unfold Gat.val at *
    dsimp only at *
    go_enter Tryd.func11, Tryd.ntmps11
    go_wp2_with (first
      | (go_at_call 29; (with_reducible refine (HAl.out _ ?_).mono ?_); rotate_right; rintro e w1 ⟨rfl, hbw1⟩; obtain ⟨hcw1, hfw1, hzw1⟩ := hbw1.rules; (try simp at hzw1); have hzw1_0 : w.heap.size < w1.heap.size := (by omega); have hyw1_0 : w.heap.size ≤ w1.heap.size := (by omega); have hzw1_1 : w.heap.size + 1 < w1.heap.size := (by omega); have hyw1_1 : w.heap.size + 1 ≤ w1.heap.size := (by omega))
      | (go_at_call 34; (with_reducible refine (HRd.out _ ?_).mono ?_); rotate_right; rintro e w2 ⟨rfl, hbw2⟩; obtain ⟨hcw2, hfw2, hzw2⟩ := hbw2.rules; (try simp at hzw2); have hzw2_0 : w.heap.size < w2.heap.size := (by omega); have hyw2_0 : w.heap.size ≤ w2.heap.size := (by omega); have hzw2_1 : w.heap.size + 1 < w2.heap.size := (by omega); have hyw2_1 : w.heap.size + 1 ≤ w2.heap.size := (by omega))
      | (go_at_call 18; (with_reducible refine (HC1.out _ ?_).mono ?_); rotate_right; rintro e w3 ⟨rfl, hbw3⟩; obtain ⟨hcw3, hfw3, hzw3⟩ := hbw3.rules; (try simp at hzw3); have hzw3_0 : w.heap.size < w3.heap.size := (by omega); have hyw3_0 : w.heap.size ≤ w3.heap.size := (by omega); have hzw3_1 : w.heap.size + 1 < w3.heap.size := (by omega); have hyw3_1 : w.heap.size + 1 ≤ w3.heap.size := (by omega))
      | (go_at_call 16; (with_reducible refine (HT1.out _ ?_).mono ?_); rotate_right; rintro e w4 ⟨B1, m1, d1, rfl, hb4, T1⟩; have HTO := hid T1; clear T1))
    all_goals try ((repeat (first | with_reducible exact Gr.refl _ | with_reducible refine Gr.trans ?_ hbw3 | with_reducible refine Gr.trans ?_ hbw2 | with_reducible refine Gr.trans ?_ hbw1 | with_reducible refine Gr.alloc ?_ _ | with_reducible refine Gr.setCell ?_ (by simp) _ | with_reducible refine Gr.setCell ?_ (by simp; omega) _ | with_reducible refine Gr.drew ?_ | with_reducible refine Gr.drewN ?_ _)); done)
    have G4 : Hid (Gr w w4) := by
      show Gr w w4
      (repeat (first | with_reducible exact Gr.refl _ | with_reducible refine Gr.trans ?_ hb4 | with_reducible refine Gr.trans ?_ hbw3 | with_reducible refine Gr.trans ?_ hbw2 | with_reducible refine Gr.trans ?_ hbw1 | with_reducible refine Gr.alloc ?_ _ | with_reducible refine Gr.setCell ?_ (by simp) _ | with_reducible refine Gr.setCell ?_ (by simp; omega) _ | with_reducible refine Gr.drew ?_ | with_reducible refine Gr.drewN ?_ _))
    have hr := rows2 w (.cells #[.slice la ln lc, .slice sa sn sc] 25) (.cells #[.int .i64 z0, .int .i64 z1, .int .i64 z2, .int .i64 z3, .int .u8 z4, .bool z5] 27)
    have g14 : Gr ((w.alloc (.cells #[.slice la ln lc, .slice sa sn sc] 25)).alloc (.cells #[.int .i64 z0, .int .i64 z1, .int .i64 z2, .int .i64 z3, .int .u8 z4, .bool z5] 27)) w4 := ((hbw1.trans hbw2).trans hbw3).trans hb4
    have HRG : Hid (w4.heap[w.heap.size]? = some (.cells #[.slice la ln lc, .slice sa sn sc] 25 (0, 0))) := row_gr hr.1 g14
    have HRQ : Hid (w4.heap[w.heap.size + 1]? = some (.cells #[.int .i64 z0, .int .i64 z1, .int .i64 z2, .int .i64 z3, .int .u8 z4, .bool z5] 27 (0, 0))) := row_gr hr.2 g14
    have hl1 := HTO.out.len
    have HL1 := hid hl1
    have hm1 : (m1 : Int) ≤ 9223372036854775807 := by have := HTO.out.le; have := HTO.out.big; omega
    have hmm60 : (m1 : Int) ≤ 60 := by have := HL1.out; have := HAl2.out; have := HL.out; omega
    have hcs := HCs.out
    rw [← hl1] at hcs
    obtain ⟨e1, e2, e3, e4, e5⟩ := hcs
    have HE1 := hid e1
    have HE2 := hid e2
    have HE5 := hid e5
    clear hb4 hbw1 hbw2 hbw3 hcw1 hfw1 hzw1 hcw2 hfw2 hzw2 hcw3 hfw3 hzw3 hzw1_0 hyw1_0 hzw2_0 hyw2_0 hzw3_0 hyw3_0 HAl HRd HT1 HC1 hr g14 e1 e2 e5 HCs hl1
    try clear hzw1_1 hyw1_1 hzw2_1 hyw2_1 hzw3_1 hyw3_1
    generalize hcn : countN al = cn at *
    go_loopg [16, 17, 64] m1 (fun gg s16 s17 s64 wr => ∃ k : Nat, k ≤ m1 ∧ m1 - k ≤ gg ∧ s16 = .int .i64 ((al.take k).foldl farStep (0, -1000)).1 ∧ s17 = .int .i64 ((al.take k).foldl farStep (0, -1000)).2 ∧ s64 = .int .i64 k ∧ Gr w4 wr)
    case atStart => exact ⟨0, Nat.zero_le _, by omega, rfl, rfl, rfl, Gr.refl w4⟩
    case round =>
      obtain ⟨k, hk, hgk, rfl, rfl, rfl, BW⟩ := hrel
      by_cases hkl : k < m1
      · obtain ⟨hk', b', off', hA', hb', c0, c1, c2, c3, c4⟩ := (HTO.out.gr BW).rd.trc hkl
        subst hA'
        have HSt := hid (fold_at (f := farStep) (s := ((0 : Int), (-1000 : Int))) hk')
        have hin := far_in (l := al.take k) (fun t ht => HBd.out t (List.mem_of_mem_take ht))
        have hdd := HBd.out _ (mem_get hk')
        have hlt := List.length_take_le k al
        have hm60 : al.length ≤ 9223372036854775807 := by have := HTO.out.le; have := HTO.out.big; have := HL1.out; omega
        generalize al[k]! = t at c0 c1 c2 c3 c4 HSt hdd
        generalize (al.take k).foldl farStep (0, -1000) = st at *
        obtain ⟨s0, s1⟩ := st
        obtain ⟨x0, x1, x2, x3, x4⟩ := t
        dsimp only at *
        clear hk'
        have hkn : (k : Int) < (m1 : Int) := by omega
        have hk0 : (0 : Int) ≤ (k : Int) := by omega
        obtain ⟨hdd1, hdd2⟩ := hdd
        obtain ⟨hin0, hin1, hin2, hin3⟩ := hin
        have hw : IntKind.i64.wrap (x2 - s1) = x2 - s1 := by rw [IntKind.wrap_i64]; omega
        have hw2 : IntKind.i64.wrap (s0 + 1) = s0 + 1 := by rw [IntKind.wrap_i64]; omega
        by_cases p1 : 14 < x2 - s1
        · have HS1 : Hid ((al.take (k + 1)).foldl farStep (0, -1000) = (s0 + 1, x2)) := by
            show _ = _
            rw [HSt.out]
            exact if_pos p1
          clear HSt
          go_wp2_with fail
          go_quiet (fail)
          go_wp2
          go_roundg (m1 - (k + 1))
          case measure => omega
          case rel => exact ⟨k + 1, by omega, by omega, by rw [HS1.out], by rw [HS1.out], by go_num, by first | exact BW.trans (((Gr.refl wr).alloc _).drewN _) | exact BW.trans ((Gr.refl wr).alloc _).drew⟩
        · have HS1 : Hid ((al.take (k + 1)).foldl farStep (0, -1000) = (s0, s1)) := by
            show _ = _
            rw [HSt.out]
            exact if_neg p1
          clear HSt
          go_wp2
          go_roundg (m1 - (k + 1))
          case measure => omega
          case rel => exact ⟨k + 1, by omega, by omega, by rw [HS1.out], by rw [HS1.out], by go_num, BW.trans ((Gr.refl wr).alloc _)⟩
      · have hkn : ¬ (k : Int) < (m1 : Int) := by omega
        have htk : al.take k = al := by rw [show k = al.length by have := HL1.out; omega, List.take_length]
        rw [htk, HE1.out]
        clear htk
        obtain ⟨wo, rfl⟩ : ∃ wo : World, wo = wr := ⟨_, rfl⟩
        go_wp2_with fail
        go_loopg [20, 21, 80] m1 (fun gg s20 s21 s80 wr => ∃ k : Nat, k ≤ m1 ∧ m1 - k ≤ gg ∧ s20 = .int .i64 ((al.reverse.take k).foldl backStep (0, 101000)).1 ∧ s21 = .int .i64 ((al.reverse.take k).foldl backStep (0, 101000)).2 ∧ s80 = .int .i64 k ∧ Gr wo wr)
        case atStart => exact ⟨0, Nat.zero_le _, by omega, rfl, rfl, rfl, Gr.refl wo⟩
        case round =>
          obtain ⟨k, hk, hgk, rfl, rfl, rfl, BW2⟩ := hrel
          by_cases hkl : k < m1
          · obtain ⟨ti, hti⟩ : ∃ ti : Nat, ti = m1 - 1 - k := ⟨_, rfl⟩
            obtain ⟨hk', b', off', hA', hb', c0, c1, c2, c3, c4⟩ := (HTO.out.gr (BW.trans BW2)).rd.trc (k := ti) (by omega)
            subst hA'
            have hll := HL1.out
            have HSt := hid (fold_at (f := backStep) (s := ((0 : Int), (101000 : Int))) (l := al.reverse) (k := k) (by simp; omega))
            rw [rev_at (by omega), ← hll, ← hti] at HSt
            have hin := back_in (l := al.reverse.take k) (fun t ht => HBd.out t (List.mem_reverse.1 (List.mem_of_mem_take ht)))
            have hdd := HBd.out _ (mem_get hk')
            have hlt := List.length_take_le k al.reverse
            have hm60 : al.length ≤ 9223372036854775807 := by have := HTO.out.le; have := HTO.out.big; omega
            generalize al[ti]! = t at c0 c1 c2 c3 c4 HSt hdd
            generalize (al.reverse.take k).foldl backStep (0, 101000) = st at *
            obtain ⟨s0, s1⟩ := st
            obtain ⟨x0, x1, x2, x3, x4⟩ := t
            dsimp only at *
            clear hk'
            have hkn : (k : Int) < (m1 : Int) := by omega
            have hk0 : (0 : Int) ≤ (k : Int) := by omega
            have hti1 : (ti : Int) < (m1 : Int) := by omega
            have hti0 : (0 : Int) ≤ (ti : Int) := by omega
            have hwa : IntKind.i64.wrap ((m1 : Int) - 1) = (m1 : Int) - 1 := by rw [IntKind.wrap_i64]; omega
            have hwb : IntKind.i64.wrap ((m1 : Int) - 1 - (k : Int)) = (ti : Int) := by rw [IntKind.wrap_i64]; omega
            obtain ⟨hdd1, hdd2⟩ := hdd
            obtain ⟨hin0, hin1, hin2, hin3⟩ := hin
            have hw : IntKind.i64.wrap (s1 - x2) = s1 - x2 := by rw [IntKind.wrap_i64]; omega
            have hw2 : IntKind.i64.wrap (s0 + 1) = s0 + 1 := by rw [IntKind.wrap_i64]; omega
            clear hti hll
            by_cases p1 : 14 < s1 - x2
            · have HS1 : Hid ((al.reverse.take (k + 1)).foldl backStep (0, 101000) = (s0 + 1, x2)) := by
                show _ = _
                rw [HSt.out]
                exact if_pos p1
              clear HSt
              go_wp2_with fail
              go_quiet (fail)
              go_wp2
              go_roundg (m1 - (k + 1))
              case measure => omega
              case rel => exact ⟨k + 1, by omega, by omega, by rw [HS1.out], by rw [HS1.out], by go_num, by first | exact BW2.trans (((Gr.refl wr).alloc _).drewN _) | exact BW2.trans ((Gr.refl wr).alloc _).drew⟩
            · have HS1 : Hid ((al.reverse.take (k + 1)).foldl backStep (0, 101000) = (s0, s1)) := by
                show _ = _
                rw [HSt.out]
                exact if_neg p1
              clear HSt
              go_wp2
              go_roundg (m1 - (k + 1))
              case measure => omega
              case rel => exact ⟨k + 1, by omega, by omega, by rw [HS1.out], by rw [HS1.out], by go_num, BW2.trans ((Gr.refl wr).alloc _)⟩
          · have hkn : ¬ (k : Int) < (m1 : Int) := by omega
            have htk : al.reverse.take k = al.reverse := by rw [show k = al.reverse.length by have := HL1.out; simp; omega, List.take_length]
            rw [htk, HE2.out]
            clear htk
            obtain ⟨w8, rfl⟩ : ∃ w8 : World, w8 = wr := ⟨_, rfl⟩
            have hdec : (cn == 0) = ((m1 : Int) == 0) := by
              rw [Bool.eq_iff_iff, beq_iff_eq, beq_iff_eq, HE5.out]
              omega
            have hle : ¬ (m1 : Int) < cn := by omega
            have G8 : Hid (Gr w w8) := G4.out.trans (BW.trans BW2)
            have HG8 : Hid (w8.heap[w.heap.size]? = some (.cells #[.slice la ln lc, .slice sa sn sc] 25 (0, 0))) := row_gr (row_gr HRG.out BW) BW2
            have HQ8 : Hid (w8.heap[w.heap.size + 1]? = some (.cells #[.int .i64 z0, .int .i64 z1, .int .i64 z2, .int .i64 z3, .int .u8 z4, .bool z5] 27 (0, 0))) := row_gr (row_gr HRQ.out BW) BW2
            clear HRG HRQ BW BW2 HBd HE1 HE2 HE5 HTO HL1 G4
            go_wp2_with fail
            obtain ⟨i0, hi0, hz0, hs0, hy0⟩ := info_parts info_inq
            have HI0 := hid hi0
            have HZ0 := hid hz0
            have HS0 := hid hs0
            have HY0 := hid hy0
            clear hi0 hz0 hs0 hy0 hdec hle
            go_loopg [24] n (fun gg s24 wr => ∃ j : Nat, j ≤ n ∧ n - j ≤ gg ∧ s24 = .int .i64 j ∧ Gr w8 wr)
            case atStart => exact ⟨0, Nat.zero_le _, by omega, rfl, Gr.refl w8⟩
            case round =>
              obtain ⟨j, hj, hgj, rfl, BW⟩ := hrel
              obtain ⟨wi, rfl⟩ : ∃ wi : World, wi = wr := ⟨_, rfl⟩
              have y0 := row_cell_at (v := .int .i64 z0) (row_gr HQ8.out BW) 0 rfl
              obtain ⟨bb, hbb⟩ : ∃ bb : Bool, bb = decide (j < n ∧ zs[j]!.id < z0) := ⟨_, rfl⟩
              have hj0 : (0 : Int) ≤ (j : Int) := by omega
              go_upto_region 26 with fail
              go_cut [136] (fun s136 wx => s136 = .bool bb ∧ Gr wi wx)
              case first =>
                by_cases hjl : j < n
                · obtain ⟨hj', b', off', hA', hb', c0, _, _, _, _, _⟩ := (HI.out.gr (G8.out.trans BW)).rd.inq hjl
                  subst hA'
                  have hjn : (j : Int) < (n : Int) := by omega
                  generalize zs[j]!.id = xi at c0 hbb
                  by_cases hid1 : xi < z0
                  · have hbt : bb = true := by rw [hbb]; simp [hjl, hid1]
                    subst hbt
                    clear hbb
                    go_quiet (fail)
                    go_wp2
                    go_meet
                    exact ⟨rfl, by first | exact (Gr.refl wi).drewN _ | exact (Gr.refl wi).drew⟩
                  · have hbt : bb = false := by rw [hbb]; simp [hid1]
                    subst hbt
                    clear hbb
                    go_quiet (fail)
                    go_wp2
                    go_meet
                    exact ⟨rfl, by first | exact (Gr.refl wi).drewN _ | exact (Gr.refl wi).drew⟩
                · have hjn : ¬ (j : Int) < (n : Int) := by omega
                  have hbt : bb = false := by rw [hbb]; simp [hjl]
                  subst hbt
                  clear hbb
                  go_quiet (fail)
                  go_wp2
                  go_meet
                  exact ⟨rfl, by first | exact (Gr.refl wi).drewN _ | exact (Gr.refl wi).drew⟩
              case rest =>
                obtain ⟨rfl, hbwc⟩ := hcut
                cases bb with
                | true =>
                  have hjl : j < n := by
                    have := hbb.symm
                    simp at this
                    exact this.1
                  go_wp2
                  go_roundg (n - (j + 1))
                  case measure => omega
                  case rel => exact ⟨j + 1, by omega, by omega, by go_num, BW.trans hbwc⟩
                | false =>
                  clear hbb y0
                  obtain ⟨w9, rfl⟩ : ∃ w9 : World, w9 = wc := ⟨_, rfl⟩
                  have G9 : Hid (Gr w w9) := G8.out.trans (BW.trans hbwc)
                  have HQ9 : Hid (w9.heap[w.heap.size + 1]? = some (.cells #[.int .i64 z0, .int .i64 z1, .int .i64 z2, .int .i64 z3, .int .u8 z4, .bool z5] 27 (0, 0))) := row_gr HQ8.out (BW.trans hbwc)
                  have HG9 : Hid (w9.heap[w.heap.size]? = some (.cells #[.slice la ln lc, .slice sa sn sc] 25 (0, 0))) := row_gr HG8.out (BW.trans hbwc)
                  have HI9 := hid (HI.out.gr G9.out)
                  have HFst : Hid (Rd w9 6 A j ((zs.take j).flatMap Inq.cells)) := by
                    have h := HI9.out.rd.first hj
                    rw [inq_take] at h
                    exact h
                  clear HG8 HQ8 G8 BW hbwc
                  go_upto_region 28 with fail
                  obtain ⟨u0, u1, u2, u3, u4, u5⟩ := (⟨row_cell_at (v := .int .i64 z0) HQ9.out 0 rfl, row_cell_at (v := .int .i64 z1) HQ9.out 1 rfl, row_cell_at (v := .int .i64 z2) HQ9.out 2 rfl, row_cell_at (v := .int .i64 z3) HQ9.out 3 rfl, row_cell_at (v := .int .u8 z4) HQ9.out 4 rfl, row_cell_at (v := .bool z5) HQ9.out 5 rfl⟩ : _ ∧ _ ∧ _ ∧ _ ∧ _ ∧ _)
                  go_cut [25] (fun s25 wx => ∃ (X : Option Addr) (cx : Nat), s25 = .slice X (n + 1) cx ∧ Gr w9 wx ∧ wx.ownsRow w9.heap.size 27 6 (.slice X (n + 1) cx) (n + 1) ((plusL zs ⟨z0, z1, z2, z3, z4, z5⟩ j).flatMap Inq.cells))
                  case first =>
                    have p0 := GrW.cell u0
                    have p1 := GrW.cell u1
                    have p2 := GrW.cell u2
                    have p3 := GrW.cell u3
                    have p4 := GrW.cell u4
                    have p5 := GrW.cell u5
                    refine wp_region_plan (C := fun w' => ∃ p : GrW w9, w' = p.W) (.take 1 (.take 2 (.take 3 (.take 5 (.take 8 (.take 9 (.take 10 (.two 0 (.two 4 (.one 6 (.one 7 (.one 11 (.take 12 .done)))) 6 (.one 4 (.one 7 (.one 11 (.take 12 .done))))) 6 (.one 0 (.one 4 (.one 7 (.one 11 (.take 12 .done))))))))))))) (by rfl) (by kernel_rfl) (by kernel_rfl) ⟨⟨_, (Gr.refl w9).drew⟩, rfl⟩ ?_
                    (refine plan_read rfl rfl (fun K hK => ?_))
                    go_big_quiet_op
                    (with_reducible refine hK _ ?_)
                    clear hK K
                    (refine plan_read rfl rfl (fun K hK => ?_))
                    go_big_quiet_op
                    (with_reducible refine hK _ ?_)
                    clear hK K
                    refine plan_slice_to rfl 28 27 _ _ rfl i0 Tryd.underlying28 HI0.out A n c j .i64 rfl rfl (by omega) HNC.out ?_
                    simp only [Act.put, List.setIfInBounds_toArray, List.set_cons_zero, List.set_cons_succ]
                    (refine plan_read rfl rfl (fun K hK => ?_))
                    go_big_quiet_op
                    (with_reducible refine hK _ ?_)
                    clear hK K
                    (refine plan_read rfl rfl (fun K hK => ?_))
                    go_big_quiet_op
                    (with_reducible refine hK _ ?_)
                    clear hK K
                    (refine plan_read rfl rfl (fun K hK => ?_))
                    go_big_quiet_op
                    (with_reducible refine hK _ ?_)
                    clear hK K
                    refine plan_slice_from rfl 28 27 _ _ rfl i0 6 Tryd.underlying28 HI0.out HS0.out A n c j .i64 rfl rfl (by omega) HNC.out ?_
                    intro A2 hcut2
                    have HCutF : Hid (Rd w9 6 A2 (n - j) ((zs.drop j).flatMap Inq.cells)) := by
                      have h := hcut2 w9 _ HI9.out.rd
                      rw [inq_drop] at h
                      exact h
                    clear hcut2
                    simp only [Act.put, List.setIfInBounds_toArray, List.set_cons_zero, List.set_cons_succ]
                    refine plan_two ?_ ?_
                    · (refine plan_one rfl (fun K hK => ?_))
                      go_simp
                      refine hK.out _ _ ⟨⟨_, (Gr.refl w9).drew.alloc _⟩, rfl⟩ ?_
                      clear hK K
                      refine plan_two ?_ ?_
                      · (refine plan_one rfl (fun K hK => ?_))
                        refine wp_append_rd (.tmp 139) (.tmp 142) 28 rfl w9.heap.size 27 i0 (.agg #[.int .i64 0, .int .i64 0, .int .i64 0, .int .i64 0, .int .u8 0, .bool false]) 6 40 Tryd.underlying28 HI0.out HZ0.out HS0.out HY0.out rfl (by decide) _ _ _ rfl (own_new w9.drew w9.heap.size 27 6 rfl) A j c _ rfl (HFst.out.gr ((Gr.refl w9).drew.alloc _)) (inq_cells _) (by have : maxLen = 9223372036854775807 := rfl; omega) (by omega) (by simp; try omega) ?_
                        intro A3 c3 w3 hown hgrow hbel
                        have G3 := hid (show Gr w9 w3 from Below.trans ((Gr.refl w9).drew.alloc _) hbel)
                        rw [Nat.zero_add, List.nil_append] at hown
                        have K3 := hid hown
                        refine hK.out _ _ ⟨⟨w3, G3.out⟩, rfl⟩ ?_
                        clear hK K hown hgrow hbel
                        simp only [Act.put, List.setIfInBounds_toArray, List.set_cons_zero, List.set_cons_succ, Nat.zero_add]
                        (refine plan_one rfl (fun K hK => ?_))
                        go_simp
                        have G4 := hid (show Gr w9 (w3.alloc (.cells #[.int .i64 z0, .int .i64 z1, .int .i64 z2, .int .i64 z3, .int .u8 z4, .bool z5] 27)) from G3.out.alloc _)
                        have R4 := hid (heap_alloc_new w3 (.cells #[.int .i64 z0, .int .i64 z1, .int .i64 z2, .int .i64 z3, .int .u8 z4, .bool z5] 27))
                        have K4 := hid (ownT_gr K3.out ((Gr.refl w3).alloc (.cells #[.int .i64 z0, .int .i64 z1, .int .i64 z2, .int .i64 z3, .int .u8 z4, .bool z5] 27)))
                        refine hK.out _ _ ⟨⟨_, G4.out⟩, rfl⟩ ?_
                        clear hK K
                        (refine plan_one rfl (fun K hK => ?_))
                        refine wp_append_rd (.tmp 143) (.tmp 145) 28 rfl w9.heap.size 27 i0 (.agg #[.int .i64 0, .int .i64 0, .int .i64 0, .int .i64 0, .int .u8 0, .bool false]) 6 40 Tryd.underlying28 HI0.out HZ0.out HS0.out HY0.out rfl (by decide) _ _ _ rfl K4.out (some ⟨w3.heap.size, 0, none⟩) 1 1 _ rfl (rd_row R4.out 6 1 rfl) (by intro u hu; simp at hu; rcases hu with rfl | rfl | rfl | rfl | rfl | rfl <;> rfl) (by have : maxLen = 9223372036854775807 := rfl; omega) (by omega) (by have h1 := G4.out.size; omega) ?_
                        intro A5 c5 w5 hown hgrow hbel
                        have G5 := hid (show Gr w9 w5 from Below.trans G4.out hbel)
                        have K5 := hid hown
                        refine hK.out _ _ ⟨⟨w5, G5.out⟩, rfl⟩ ?_
                        clear hK K hown hgrow hbel
                        simp only [Act.put, List.setIfInBounds_toArray, List.set_cons_zero, List.set_cons_succ]
                        (refine plan_one rfl (fun K hK => ?_))
                        refine wp_append_rd (.tmp 146) (.tmp 149) 28 rfl w9.heap.size 27 i0 (.agg #[.int .i64 0, .int .i64 0, .int .i64 0, .int .i64 0, .int .u8 0, .bool false]) 6 40 Tryd.underlying28 HI0.out HZ0.out HS0.out HY0.out rfl (by decide) _ _ _ rfl K5.out A2 (n - j) _ _ rfl ((HCutF.out).gr G5.out) (inq_cells _) (by have : maxLen = 9223372036854775807 := rfl; omega) (by omega) (by have h1 := G5.out.size; omega) ?_
                        intro A6 c6 w6 hown hgrow hbel
                        have G6 := hid (show Gr w9 w6 from Below.trans G5.out hbel)
                        have K6 := hid hown
                        refine hK.out _ _ ⟨⟨w6, G6.out⟩, rfl⟩ ?_
                        clear hK K hown hgrow hbel
                        simp only [Act.put, List.setIfInBounds_toArray, List.set_cons_zero, List.set_cons_succ]
                        (refine plan_read rfl rfl (fun K hK => ?_))
                        go_big_quiet_op
                        (with_reducible refine hK _ ?_)
                        clear hK K
                        (with_reducible refine plan_done ?_)
                        go_wp2
                        go_meet
                        have en : j + 1 + (n - j) = n + 1 := by omega
                        refine ⟨A6, c6, by rw [en], G6.out, ?_⟩
                        have h := K6.out
                        rw [en] at h
                        have ep : (List.flatMap Inq.cells (zs.take j) ++ [.int .i64 z0, .int .i64 z1, .int .i64 z2, .int .i64 z3, .int .u8 z4, .bool z5] ++ List.flatMap Inq.cells (zs.drop j)) = (plusL zs ⟨z0, z1, z2, z3, z4, z5⟩ j).flatMap Inq.cells := by
                          unfold plusL
                          simp [Inq.cells]
                        rw [← ep]
                        exact h
                      · (refine plan_one rfl (fun K hK => ?_))
                        go_simp
                        refine hK.out _ _ ⟨⟨_, ((Gr.refl w9).drew.alloc _).alloc _⟩, rfl⟩ ?_
                        clear hK K
                        (refine plan_one rfl (fun K hK => ?_))
                        refine wp_append_rd (.tmp 139) (.tmp 142) 28 rfl w9.heap.size 27 i0 (.agg #[.int .i64 0, .int .i64 0, .int .i64 0, .int .i64 0, .int .u8 0, .bool false]) 6 40 Tryd.underlying28 HI0.out HZ0.out HS0.out HY0.out rfl (by decide) _ _ _ rfl (ownT_gr (own_new w9.drew w9.heap.size 27 6 rfl) ((Gr.refl _).alloc _)) A j c _ rfl (HFst.out.gr (((Gr.refl w9).drew.alloc _).alloc _)) (inq_cells _) (by have : maxLen = 9223372036854775807 := rfl; omega) (by omega) (by simp; try omega) ?_
                        intro A3 c3 w3 hown hgrow hbel
                        have G3 := hid (show Gr w9 w3 from Below.trans (((Gr.refl w9).drew.alloc _).alloc _) hbel)
                        rw [Nat.zero_add, List.nil_append] at hown
                        have K3 := hid hown
                        have R4 := hid (show w3.heap[w9.heap.size + 1]? = some (.cells #[.int .i64 z0, .int .i64 z1, .int .i64 z2, .int .i64 z3, .int .u8 z4, .bool z5] 27 (0, 0)) from (hgrow.block (w9.heap.size + 1) (by simp) (fun e1 => by have h9 : w9.heap.size + 1 = w9.heap.size := Option.some.inj e1; omega)).trans (rows2 w9.drew (.cells #[] 27) (.cells #[.int .i64 z0, .int .i64 z1, .int .i64 z2, .int .i64 z3, .int .u8 z4, .bool z5] 27)).2)
                        refine hK.out _ _ ⟨⟨w3, G3.out⟩, rfl⟩ ?_
                        clear hK K hown hgrow hbel
                        simp only [Act.put, List.setIfInBounds_toArray, List.set_cons_zero, List.set_cons_succ, Nat.zero_add]
                        (refine plan_one rfl (fun K hK => ?_))
                        refine wp_append_rd (.tmp 143) (.tmp 145) 28 rfl w9.heap.size 27 i0 (.agg #[.int .i64 0, .int .i64 0, .int .i64 0, .int .i64 0, .int .u8 0, .bool false]) 6 40 Tryd.underlying28 HI0.out HZ0.out HS0.out HY0.out rfl (by decide) _ _ _ rfl K3.out (some ⟨w9.heap.size + 1, 0, none⟩) 1 1 _ rfl (rd_row R4.out 6 1 rfl) (by intro u hu; simp at hu; rcases hu with rfl | rfl | rfl | rfl | rfl | rfl <;> rfl) (by have : maxLen = 9223372036854775807 := rfl; omega) (by omega) (by have h1 := G3.out.size; omega) ?_
                        intro A5 c5 w5 hown hgrow hbel
                        have G5 := hid (show Gr w9 w5 from Below.trans G3.out hbel)
                        have K5 := hid hown
                        refine hK.out _ _ ⟨⟨w5, G5.out⟩, rfl⟩ ?_
                        clear hK K hown hgrow hbel
                        simp only [Act.put, List.setIfInBounds_toArray, List.set_cons_zero, List.set_cons_succ]
                        (refine plan_one rfl (fun K hK => ?_))
                        refine wp_append_rd (.tmp 146) (.tmp 149) 28 rfl w9.heap.size 27 i0 (.agg #[.int .i64 0, .int .i64 0, .int .i64 0, .int .i64 0, .int .u8 0, .bool false]) 6 40 Tryd.underlying28 HI0.out HZ0.out HS0.out HY0.out rfl (by decide) _ _ _ rfl K5.out A2 (n - j) _ _ rfl ((HCutF.out).gr G5.out) (inq_cells _) (by have : maxLen = 9223372036854775807 := rfl; omega) (by omega) (by have h1 := G5.out.size; omega) ?_
                        intro A6 c6 w6 hown hgrow hbel
                        have G6 := hid (show Gr w9 w6 from Below.trans G5.out hbel)
                        have K6 := hid hown
                        refine hK.out _ _ ⟨⟨w6, G6.out⟩, rfl⟩ ?_
                        clear hK K hown hgrow hbel
                        simp only [Act.put, List.setIfInBounds_toArray, List.set_cons_zero, List.set_cons_succ]
                        (refine plan_read rfl rfl (fun K hK => ?_))
                        go_big_quiet_op
                        (with_reducible refine hK _ ?_)
                        clear hK K
                        (with_reducible refine plan_done ?_)
                        go_wp2
                        go_meet
                        have en : j + 1 + (n - j) = n + 1 := by omega
                        refine ⟨A6, c6, by rw [en], G6.out, ?_⟩
                        have h := K6.out
                        rw [en] at h
                        have ep : (List.flatMap Inq.cells (zs.take j) ++ [.int .i64 z0, .int .i64 z1, .int .i64 z2, .int .i64 z3, .int .u8 z4, .bool z5] ++ List.flatMap Inq.cells (zs.drop j)) = (plusL zs ⟨z0, z1, z2, z3, z4, z5⟩ j).flatMap Inq.cells := by
                          unfold plusL
                          simp [Inq.cells]
                        rw [← ep]
                        exact h
                    · (refine plan_one rfl (fun K hK => ?_))
                      go_simp
                      refine hK.out _ _ ⟨⟨_, (Gr.refl w9).drew.alloc _⟩, rfl⟩ ?_
                      clear hK K
                      (refine plan_one rfl (fun K hK => ?_))
                      go_simp
                      refine hK.out _ _ ⟨⟨_, ((Gr.refl w9).drew.alloc _).alloc _⟩, rfl⟩ ?_
                      clear hK K
                      (refine plan_one rfl (fun K hK => ?_))
                      refine wp_append_rd (.tmp 139) (.tmp 142) 28 rfl w9.heap.size 27 i0 (.agg #[.int .i64 0, .int .i64 0, .int .i64 0, .int .i64 0, .int .u8 0, .bool false]) 6 40 Tryd.underlying28 HI0.out HZ0.out HS0.out HY0.out rfl (by decide) _ _ _ rfl (own_lower (own_new (w9.drew.alloc (.cells #[.int .i64 z0, .int .i64 z1, .int .i64 z2, .int .i64 z3, .int .u8 z4, .bool z5] 27)) (w9.heap.size + 1) 27 6 (by simp)) (Nat.le_succ _)) A j c _ rfl (HFst.out.gr (((Gr.refl w9).drew.alloc _).alloc _)) (inq_cells _) (by have : maxLen = 9223372036854775807 := rfl; omega) (by omega) (by simp; try omega) ?_
                      intro A3 c3 w3 hown hgrow hbel
                      have G3 := hid (show Gr w9 w3 from Below.trans (((Gr.refl w9).drew.alloc _).alloc _) hbel)
                      rw [Nat.zero_add, List.nil_append] at hown
                      have K3 := hid hown
                      have R4 := hid (show w3.heap[w9.heap.size]? = some (.cells #[.int .i64 z0, .int .i64 z1, .int .i64 z2, .int .i64 z3, .int .u8 z4, .bool z5] 27 (0, 0)) from (hgrow.block w9.heap.size (by simp; omega) (fun e1 => by have h9 : w9.heap.size = w9.heap.size + 1 := Option.some.inj e1; omega)).trans (rows2 w9.drew (.cells #[.int .i64 z0, .int .i64 z1, .int .i64 z2, .int .i64 z3, .int .u8 z4, .bool z5] 27) (.cells #[] 27)).1)
                      refine hK.out _ _ ⟨⟨w3, G3.out⟩, rfl⟩ ?_
                      clear hK K hown hgrow hbel
                      simp only [Act.put, List.setIfInBounds_toArray, List.set_cons_zero, List.set_cons_succ, Nat.zero_add]
                      (refine plan_one rfl (fun K hK => ?_))
                      refine wp_append_rd (.tmp 143) (.tmp 145) 28 rfl w9.heap.size 27 i0 (.agg #[.int .i64 0, .int .i64 0, .int .i64 0, .int .i64 0, .int .u8 0, .bool false]) 6 40 Tryd.underlying28 HI0.out HZ0.out HS0.out HY0.out rfl (by decide) _ _ _ rfl K3.out (some ⟨w9.heap.size, 0, none⟩) 1 1 _ rfl (rd_row R4.out 6 1 rfl) (by intro u hu; simp at hu; rcases hu with rfl | rfl | rfl | rfl | rfl | rfl <;> rfl) (by have : maxLen = 9223372036854775807 := rfl; omega) (by omega) (by have h1 := G3.out.size; omega) ?_
                      intro A5 c5 w5 hown hgrow hbel
                      have G5 := hid (show Gr w9 w5 from Below.trans G3.out hbel)
                      have K5 := hid hown
                      refine hK.out _ _ ⟨⟨w5, G5.out⟩, rfl⟩ ?_
                      clear hK K hown hgrow hbel
                      simp only [Act.put, List.setIfInBounds_toArray, List.set_cons_zero, List.set_cons_succ]
                      (refine plan_one rfl (fun K hK => ?_))
                      refine wp_append_rd (.tmp 146) (.tmp 149) 28 rfl w9.heap.size 27 i0 (.agg #[.int .i64 0, .int .i64 0, .int .i64 0, .int .i64 0, .int .u8 0, .bool false]) 6 40 Tryd.underlying28 HI0.out HZ0.out HS0.out HY0.out rfl (by decide) _ _ _ rfl K5.out A2 (n - j) _ _ rfl ((HCutF.out).gr G5.out) (inq_cells _) (by have : maxLen = 9223372036854775807 := rfl; omega) (by omega) (by have h1 := G5.out.size; omega) ?_
                      intro A6 c6 w6 hown hgrow hbel
                      have G6 := hid (show Gr w9 w6 from Below.trans G5.out hbel)
                      have K6 := hid hown
                      refine hK.out _ _ ⟨⟨w6, G6.out⟩, rfl⟩ ?_
                      clear hK K hown hgrow hbel
                      simp only [Act.put, List.setIfInBounds_toArray, List.set_cons_zero, List.set_cons_succ]
                      (refine plan_read rfl rfl (fun K hK => ?_))
                      go_big_quiet_op
                      (with_reducible refine hK _ ?_)
                      clear hK K
                      (with_reducible refine plan_done ?_)
                      go_wp2
                      go_meet
                      have en : j + 1 + (n - j) = n + 1 := by omega
                      refine ⟨A6, c6, by rw [en], G6.out, ?_⟩
                      have h := K6.out
                      rw [en] at h
                      have ep : (List.flatMap Inq.cells (zs.take j) ++ [.int .i64 z0, .int .i64 z1, .int .i64 z2, .int .i64 z3, .int .u8 z4, .bool z5] ++ List.flatMap Inq.cells (zs.drop j)) = (plusL zs ⟨z0, z1, z2, z3, z4, z5⟩ j).flatMap Inq.cells := by
                        unfold plusL
                        simp [Inq.cells]
                      rw [← ep]
                      exact h
                  case rest =>
                    clear u0 u1 u2 u3 u4 u5
                    obtain ⟨X, cx, rfl, GX, hown⟩ := hcut
                    obtain ⟨wx, rfl⟩ : ∃ wx : World, wx = wc := ⟨_, rfl⟩
                    have hcap := own_capC hown
                    have HIx : Hid (InqsIn wx X (n + 1) (plusL zs ⟨z0, z1, z2, z3, z4, z5⟩ j)) := ⟨Rd.of_own hown, by omega, fun x hx => by
                      rcases List.mem_cons.1 ((plus_perm zs _ j).mem_iff.1 hx) with rfl | hx
                      · exact hq
                      · exact HU8.out x hx⟩
                    have GWx := hid (G9.out.trans GX)
                    have HGx := hid (row_gr HG9.out GX)
                    have HIq2 := hid (fun W (kk : Gr wx W) => HIq.out X (n + 1) cx (plusL zs ⟨z0, z1, z2, z3, z4, z5⟩ j) W (HIx.out.gr kk))
                    clear hown hcap GX HIq HI9 HFst HG9 HQ9 G9
                    obtain ⟨pb, hpb⟩ : ∃ pb, inqsB (plusL zs ⟨z0, z1, z2, z3, z4, z5⟩ j) = pb := ⟨_, rfl⟩
                    rw [hpb] at HIq2
                    cases pb with
                    | false =>
                      go_wp2_with (first
                        | (go_at_call 38; (with_reducible refine (HIq2.out _ ?_).mono ?_); rotate_right; rintro e wy ⟨rfl, hby⟩))
                      all_goals try (exact Gr.refl _; done)
                      go_ret
                      exact ⟨rfl, GWx.out.trans hby⟩
                    | true =>
                      have HC2 := hid (fun W (kk : Gr w W) h' => HCp.out j X (n + 1) cx hpb W kk h')
                      obtain ⟨mo1, mo2⟩ := HMo.out j hpb
                      generalize countN (tracesL ls ss (plusL zs ⟨z0, z1, z2, z3, z4, z5⟩ j) file day 1) = cm at *
                      have hwn : IntKind.i64.wrap (cn + 1) = cn + 1 := by rw [IntKind.wrap_i64]; omega
                      have r0 := row_cell_at (v := .slice la ln lc) HGx.out 0 rfl
                      have r1 := row_cell_at (v := .slice sa sn sc) HGx.out 1 rfl
                      have rz : w.heap.size < wx.heap.size := block_lt_of_cell r0
                      clear hpb HCp HMo
                      go_wp2_with (first
                        | (go_at_call 38; (with_reducible refine (HIq2.out _ ?_).mono ?_); rotate_right; rintro e wy ⟨rfl, hbwy⟩; obtain ⟨hcwy, hfwy, hzwy⟩ := hbwy.rules; (try simp at hzwy))
                        | (go_at_call 18; (with_reducible refine (HC2.out _ ?_ ?_).mono ?_); rotate_right; rintro e wz ⟨rfl, hbz⟩))
                      all_goals first
                        | exact Gr.refl _
                        | exact HIx.out.gr hbwy
                        | exact GWx.out.trans hbwy
                        | skip
                      go_ret
                      exact ⟨rfl, (GWx.out.trans hbwy).trans hbz⟩
end Go.Proofs.YtliehlefpodhaaaDoor
