/- Merge of the reference of layer 9: the signals of two bureaus. For all lists of signals. -/
import Derived.Test.YtliehlefpodhaaaDoorQPutSig
import Derived.Test.YtliehlefpodhaaaDoorQRefSignals
import Derived.Test.YtliehlefpodhaaaDoorQAppend
import Derived.Test.YtliehlefpodhaaaDoorQGs
import Derived.Test.YtliehlefpodhaaaDoorQMerge
import Derived.BigRegion
namespace Go.Proofs.YtliehlefpodhaaaDoor
open Go.RowKit Go.Shelf Go.Sort

set_option maxHeartbeats 1000000 in
theorem refBeforeS_any (x y : Sig) (w : World) :
    Calls Tryd.prog 61 #[x.val, y.val] w fun e w' => e = .returned (.bool (befB x y)) ∧ Gs w w' := by
  obtain ⟨x0, x1, x2, x3, x4, x5⟩ := x
  obtain ⟨y0, y1, y2, y3, y4, y5⟩ := y
  unfold Sig.val befB
  dsimp only
  rcases Int.lt_trichotomy x0 y0 with h | h | h
  · have e : decide (x0 < y0 ∨ (x0 = y0 ∧ x1 < y1)) = true := by simp; omega
    rw [e]
    go_enter Tryd.func61, Tryd.ntmps61
    go_wp2
    go_ret
    exact ⟨rfl, by first | exact ((Gs.refl _).alloc _).alloc _ | exact (((Gs.refl _).alloc _).alloc _).drew⟩
  · subst h
    have e : decide (x0 < x0 ∨ (x0 = x0 ∧ x1 < y1)) = decide (x1 < y1) := by rw [Bool.eq_iff_iff]; simp
    rw [e]
    have n1 : ¬ x0 < x0 := by omega
    clear e
    go_enter Tryd.func61, Tryd.ntmps61
    go_wp2
    all_goals
      go_ret
      exact ⟨by first | rfl | simp_all, by first | exact ((Gs.refl _).alloc _).alloc _ | exact (((Gs.refl _).alloc _).alloc _).drew⟩
  · have e : decide (x0 < y0 ∨ (x0 = y0 ∧ x1 < y1)) = false := by simp; omega
    rw [e]
    have n1 : ¬ x0 < y0 := by omega
    have n2 : (x0 == y0) = false := by simp; omega
    clear e
    go_enter Tryd.func61, Tryd.ntmps61
    go_wp2
    go_ret
    exact ⟨rfl, by first | exact ((Gs.refl _).alloc _).alloc _ | exact (((Gs.refl _).alloc _).alloc _).drew⟩

theorem flat_one9 (l : List Sig) : ∀ v ∈ l.flatMap Sig.cells, v.oneCell' = true := by
  intro v hv
  obtain ⟨x, _, hv⟩ := List.mem_flatMap.1 hv
  exact Sig.one8 x v hv
theorem drew_setCells (b : Nat) : ∀ (vs : List Value) (o : Nat) (W : World), W.drew.setCells b o vs = (W.setCells b o vs).drew
  | [], _, _ => rfl
  | v :: r, o, W => by
    show (W.drew.setCell ⟨b, o, none⟩ v).setCells b (o + 1) r = ((W.setCell ⟨b, o, none⟩ v).setCells b (o + 1) r).drew
    rw [World.setCell_drew]
    exact drew_setCells b r (o + 1) _
theorem any_take {a : List Sig} {k : Nat} (hk : k < a.length) (x : Sig) : hasPl (a.take (k + 1)) x = (hasPl (a.take k) x || samePl x a[k]!) := by
  unfold hasPl
  rw [List.take_succ_eq_append_getElem hk, List.any_append, ← getElem!_pos a k hk]
  simp

set_option maxRecDepth 100000 in
set_option maxHeartbeats 8000000 in
theorem refMerge_any (A : Option Addr) (n c : Nat) (B : Option Addr) (m d : Nat) (a b : List Sig) (w : World) (ha : SigsIn w A n a) (hb : SigsIn w B m b) :
    Calls Tryd.prog 23 #[.slice A n c, .slice B m d] w fun e w' => ∃ R r q, e = .returned (.tuple #[.slice R r q, .int .i64 (mergeN a b)]) ∧ (Gr w w' ∧ OwnK Sig.cells 6 w w' R r q (mergeL a b)) := by
  have HRa := hid (fun W (k : Gr w W) => refSignals_any A n c a W (ha.gr k))
  have HRb := hid (fun W (k : Gr w W) => refSignals_any B m d b W (hb.gr k))
  have HIa := hid ha
  have HIb := hid hb
  have hla : a.length = n := by have := ha.rd.len; rw [flatMap_len Sig.len] at this; omega
  have hlb : b.length = m := by have := hb.rd.len; rw [flatMap_len Sig.len] at this; omega
  have HLa := hid hla
  have HLb := hid hlb
  have HN : Hid (mergeN a b = if (!sigsB a || !sigsB b) = true then 91 else if clashB a b = true then 91 else if 40 < (mergeAll a b).length then 4 else 0) := rfl
  have HB : Hid (mergeN a b ≠ 0 → mergeL a b = []) := fun h => by unfold mergeL; rw [if_neg h]
  have HS : Hid (sigsB a = true → sigsB b = true → a.Pairwise BefS ∧ b.Pairwise BefS ∧ a.length ≤ 40 ∧ b.length ≤ 40) := fun h1 h2 => ⟨sigs_pairwise h1, sigs_pairwise h2, sigsB_len h1, sigsB_len h2⟩
  clear ha hb hla hlb
  obtain ⟨b1, h1⟩ : ∃ b1, sigsB a = b1 := ⟨_, rfl⟩
  obtain ⟨b2, h2⟩ : ∃ b2, sigsB b = b2 := ⟨_, rfl⟩
  rw [h1] at HRa
  rw [h2] at HRb
  rw [h1, h2] at HN HS
  clear h1 h2
  cases b1
  case' true => cases b2
  case true.true =>
    obtain ⟨hpa, hpb, hna, hnb⟩ := HS.out rfl rfl
    have HP := hid (And.intro hpa hpb)
    have hna' : n ≤ 40 := by have := HLa.out; omega
    have hnb' : m ≤ 40 := by have := HLb.out; omega
    have HC : Hid (clashB a b = true → mergeN a b = 91) := fun h => by rw [HN.out, if_neg (by simp), if_pos h]
    have HC0 : Hid (clashB a b = false → mergeN a b = if 40 < (mergeAll a b).length then 4 else 0) := fun h => by rw [HN.out, if_neg (by simp), if_neg (by simp [h])]
    have HSo : Hid (∀ k, (mergeAll a (b.take k)).Pairwise BefS) := fun k => mergeAll_sorted hpa (hpb.sublist (List.take_sublist k b))
    have HLo : Hid (∀ k, (mergeAll a (b.take k)).length ≤ 80) := fun k => by have h1 := merge_len a (b.take k); have h2 := List.length_take_le' k b; omega
    clear hpa hpb hna hnb HN HS
    obtain ⟨i0, hi0, hz0, hs0, hy0⟩ := info_parts info_sig
    have HI0 := hid hi0
    have HZ0 := hid hz0
    have HS0 := hid hs0
    have HY0 := hid hy0
    clear hi0 hz0 hs0 hy0
    go_enter Tryd.func23, Tryd.ntmps23
    go_wp2_with (first
      | (go_at_call 60; (with_reducible refine (HRa.out _ ?_).mono ?_); rotate_right; rintro e w1 ⟨rfl, hbw1⟩)
      | (go_at_call 60; (with_reducible refine (HRb.out _ ?_).mono ?_); rotate_right; rintro e w2 ⟨rfl, hbw2⟩)
      | ((with_reducible show wpList _ _ _ (⟨some 21, _, _, _, _, _⟩ :: _) _ _); go_loud (refine wpList_append_rd _ rfl (.tmp 19) (.tmp 20) 23 rfl w2.heap.size 67 i0 _ 6 48 Tryd.underlying23 HI0.out HZ0.out HS0.out HY0.out rfl (by decide) (.slice (some ⟨w2.heap.size, 0, none⟩) 0 0) 0 [] rfl ?_ A n c (a.flatMap Sig.cells) rfl ?_ ?_ ?_ ?_ ?_ ?_; rotate_right; intro A1 c1 w3 hown1 hbw3; simp only [Nat.zero_add, List.nil_append] at hown1; have HO1 := hid hown1; clear hown1)))
    · have G2 : Gr w w2 := hbw1.trans hbw2
      have G3 : Hid (Gr w w3) := G2.trans (show Below w2.heap.size w2 w3 from Below.trans ((Gr.refl w2).alloc _) (by simpa using hbw3))
      have hwb : w.heap.size ≤ w2.heap.size := G2.size
      have HO0 : Hid (w3.ownsRow w2.heap.size 67 6 (.slice A1 n c1) (mergeAll a (b.take 0)).length ((mergeAll a (b.take 0)).flatMap Sig.cells)) := by
        have e : mergeAll a (b.take 0) = a := by simp [mergeAll, newsS]
        unfold Hid
        rw [e, HLa.out]
        exact HO1.out
      obtain ⟨B0, hB0⟩ : ∃ B0, w2.heap.size = B0 := ⟨_, rfl⟩
      rw [hB0] at HO0 hwb
      have hB3 : B0 ≤ w3.heap.size := by have := hbw3.size; simp at this; omega
      have HB3 := hid hB3
      clear hbw1 hbw2 hbw3 HO1 G2 hB0 HRa HRb hB3
      go_loopg [6, 7] m (fun gg s6 s7 wr => ∃ i : Nat, i ≤ m ∧ m - i ≤ gg ∧ s7 = .int .i64 i ∧ Gr w wr ∧ B0 ≤ wr.heap.size ∧ Hid (wr.ownsRow B0 67 6 s6 (mergeAll a (b.take i)).length ((mergeAll a (b.take i)).flatMap Sig.cells) ∧ clashB a (b.take i) = false))
      case atStart => exact ⟨0, Nat.zero_le _, by omega, rfl, G3.out, HB3.out, HO0.out, by simp [clashB]⟩
      case round =>
        clear HO0 G3 HB3
        obtain ⟨i, hi, hgi, rfl, BW, hBr, HO⟩ := hrel
        by_cases hlt : i < m
        · obtain ⟨hk', b1, of1, rfl, hb1, c0, c1', c2, c3, c4, c5⟩ := (HIb.out.gr BW).rd.sig hlt
          have hcd := hid (GrW.cell c0)
          have HTk := hid (merge_take (a := a) hk')
          have HCk := hid (clash_take (a := a) hk')
          have HCa := hid (fun (y : Sig) (hy : y ∈ a) (h1 : samePl b[i]! y = true) (h2 : y ≠ b[i]!) => clash_at hk' hy h1 h2)
          have HCe := hid (HIb.out.gr BW)
          clear hk' hcd
          obtain ⟨x, hx⟩ : ∃ x, b[i]! = x := ⟨_, rfl⟩
          rw [hx] at c0 c1' c2 c3 c4 c5 HTk HCk HCa
          have hin : (i : Int) < (m : Int) := by omega
          have hi0 : (0 : Int) ≤ (i : Int) := by omega
          have HX := hid hx
          clear hx
          obtain ⟨wo, rfl⟩ : ∃ wo : World, wo = wr := ⟨_, rfl⟩
          go_wp2_with fail
          go_loopg [8, 9] n (fun gg s8 s9 wq => ∃ k : Nat, k ≤ n ∧ n - k ≤ gg ∧ s8 = .bool (hasPl (a.take k) x) ∧ s9 = .int .i64 k ∧ Gr wo wq ∧ Hid (∀ j, j < k → samePl x a[j]! = true → a[j]! = x))
          case atStart => exact ⟨0, Nat.zero_le _, by omega, by simp [hasPl], rfl, Gr.refl wo, fun j hj => absurd hj (Nat.not_lt_zero _)⟩
          case round =>
            obtain ⟨k, hk, hgk, rfl, rfl, BQ, HQ⟩ := hrel
            by_cases hkl : k < n
            · obtain ⟨hk1, b3, of3, hA3, hb3, e0, e1, e2, e3, e4, e5⟩ := (HIa.out.gr (BW.trans BQ)).rd.sig hkl
              obtain ⟨_, b2, of2, hB2, hb2, f0, f1, f2, f3, f4, f5⟩ := (HCe.out.gr BQ).rd.sig hlt
              cases hB2
              subst hA3
              rw [HX.out] at f0 f1 f2 f3 f4 f5
              have HT1 := hid (any_take hk1 x)
              have hmy := mem_get hk1
              have HY2 := hid (HCa.out a[k]! hmy)
              have HQ2 : Hid ((samePl x a[k]! = true → a[k]! = x) → ∀ j, j < k + 1 → samePl x a[j]! = true → a[j]! = x) := fun h j hj => by
                by_cases e : j = k
                · subst e; exact h
                · exact HQ.out j (by omega)
              clear hk1 hmy
              generalize a[k]! = y at e0 e1 e2 e3 e4 e5 HT1 HY2 HQ2
              have hkn : (k : Int) < (n : Int) := by omega
              have hk0 : (0 : Int) ≤ (k : Int) := by omega
              by_cases d0 : y.bureau = x.bureau
              case neg =>
                have d0' : (y.bureau == x.bureau) = false := by simpa using d0
                have hsp : samePl x y = false := by unfold samePl; simp; intro h; exact absurd h.symm d0
                have HT2 : Hid (hasPl (a.take (k + 1)) x = hasPl (a.take k) x) := by show _ = _; rw [HT1.out, hsp, Bool.or_false]
                have HQ3 := hid (HQ2.out (fun h => by rw [hsp] at h; cases h))
                clear hsp HT1 HQ2 HY2
                go_wp2_with fail
                go_quiet (fail)
                go_wp2_with fail
                go_roundg (n - (k + 1))
                case measure => omega
                case rel => exact ⟨k + 1, by omega, by omega, by rw [HT2.out], by go_num, BQ.drewN _, HQ3.out⟩
              case pos =>
                by_cases d1 : y.id = x.id
                case neg =>
                  have d0' : (y.bureau == x.bureau) = true := by simpa using d0
                  have d1' : (y.id == x.id) = false := by simpa using d1
                  have hsp : samePl x y = false := by unfold samePl; simp; intro _ h; exact absurd h.symm d1
                  have HT2 : Hid (hasPl (a.take (k + 1)) x = hasPl (a.take k) x) := by show _ = _; rw [HT1.out, hsp, Bool.or_false]
                  have HQ3 := hid (HQ2.out (fun h => by rw [hsp] at h; cases h))
                  clear hsp HT1 HQ2 HY2
                  go_wp2_with fail
                  go_quiet (fail)
                  go_wp2_with fail
                  go_roundg (n - (k + 1))
                  case measure => omega
                  case rel => exact ⟨k + 1, by omega, by omega, by rw [HT2.out], by go_num, BQ.drewN _, HQ3.out⟩
                case pos =>
                  have hsp : samePl x y = true := samePl_iff.2 ⟨d0.symm, d1.symm⟩
                  by_cases hall : y = x
                  · have HT2 : Hid (hasPl (a.take (k + 1)) x = true) := by show _ = _; rw [HT1.out, hsp, Bool.or_true]
                    have HQ3 := hid (HQ2.out (fun _ => hall))
                    subst hall
                    clear hsp HT1 HQ2 HY2 d0 d1
                    obtain ⟨x0, x1, x2, x3, x4, x5⟩ := y
                    dsimp only at *
                    go_wp2_with fail
                    go_quiet (fail)
                    go_wp2_with fail
                    go_quiet (fail)
                    go_wp2_with fail
                    go_roundg (n - (k + 1))
                    case measure => omega
                    case rel => exact ⟨k + 1, by omega, by omega, by rw [HT2.out], by go_num, BQ.drewN _, HQ3.out⟩
                  · have HE : Hid (mergeN a b = 91) := HC.out (HY2.out hsp hall)
                    have HE2 := hid (HB.out (by rw [HE.out]; omega))
                    clear hsp HT1 HQ2 HY2
                    obtain ⟨x0, x1, x2, x3, x4, x5⟩ := x
                    obtain ⟨y0, y1, y2, y3, y4, y5⟩ := y
                    dsimp only at *
                    subst d0
                    subst d1
                    have hd : (¬ y2 = x2) ∨ (y2 = x2 ∧ ¬ y3 = x3) ∨ (y2 = x2 ∧ y3 = x3 ∧ ¬ y4 = x4) ∨ (y2 = x2 ∧ y3 = x3 ∧ y4 = x4 ∧ ¬ y5 = x5) := by
                      rcases Decidable.em (y2 = x2) with rfl | h
                      · rcases Decidable.em (y3 = x3) with rfl | h
                        · rcases Decidable.em (y4 = x4) with rfl | h
                          · rcases Decidable.em (y5 = x5) with rfl | h
                            · exact absurd rfl hall
                            · exact .inr (.inr (.inr ⟨rfl, rfl, rfl, h⟩))
                          · exact .inr (.inr (.inl ⟨rfl, rfl, h⟩))
                        · exact .inr (.inl ⟨rfl, h⟩)
                      · exact .inl h
                    clear hall
                    rcases hd with d2 | ⟨rfl, d3⟩ | ⟨rfl, rfl, d4⟩ | ⟨rfl, rfl, rfl, d5⟩
                    all_goals
                      go_wp2_with fail
                      go_quiet (fail)
                      go_wp2_with fail
                      go_quiet (fail)
                      go_wp2_with fail
                      (try rw [Exit.noGoto_ret])
                      go_ret2
                      refine ⟨none, 0, 0, by rw [HE.out]; rfl, by first | exact (BW.trans BQ).drewN _ | exact ((BW.trans BQ).drewN _).drewN _, ?_⟩
                      rw [HE2.out]
                      exact OwnK.none_
            · obtain rfl : k = n := by omega
              have hkn : ¬ (k : Int) < (k : Int) := by omega
              have hfull : a.take k = a := by rw [← HLa.out, List.take_length]
              rw [hfull]
              have HCk2 : Hid (clashB a (b.take (i + 1)) = false) := by
                show _ = _
                rw [HCk.out, HO.out.2, Bool.false_or, List.any_eq_false]
                intro y hy
                obtain ⟨j, hj, rfl⟩ := List.getElem_of_mem hy
                have := HQ.out j (by have := HLa.out; omega)
                rw [getElem!_pos a j hj] at this
                simp only [Bool.and_eq_true, decide_eq_true_eq, not_and, Decidable.not_not]
                exact this
              clear hfull
              cases hp : hasPl a x with
              | true =>
                have HT2 : Hid (mergeAll a (b.take (i + 1)) = mergeAll a (b.take i)) := by show _ = _; rw [HTk.out, if_pos hp]
                clear hp
                go_wp2_with fail
                go_roundg (m - (i + 1))
                case measure => omega
                case rel => exact ⟨i + 1, by omega, by omega, by go_num, BW.trans BQ, Nat.le_trans hBr BQ.size, by rw [HT2.out]; exact ownT_gr HO.out.1 BQ, HCk2.out⟩
              | false =>
                have HT2 : Hid (mergeAll a (b.take (i + 1)) = putS x (mergeAll a (b.take i))) := by show _ = _; rw [HTk.out, if_neg (by simp [hp])]
                have HSo2 := hid (HSo.out i)
                have hol := HLo.out i
                have HO2 := hid (ownT_gr HO.out.1 BQ)
                obtain ⟨_, b2, of2, hB2, hb2, f0, f1, f2, f3, f4, f5⟩ := (HCe.out.gr BQ).rd.sig hlt
                cases hB2
                rw [HX.out] at f0 f1 f2 f3 f4 f5
                have HBQ := hid BQ
                clear hp HO HTk
                generalize mergeAll a (b.take i) = o at HT2 HSo2 hol HO2
                obtain ⟨x0, x1, x2, x3, x4, x5⟩ := x
                dsimp only at *
                have hzr : B0 ≤ wr.heap.size := Nat.le_trans hBr BQ.size
                clear c0 c1' c2 c3 c4 c5 HCk HCa hkn
                go_wp2_with ((refine wpList_append_own _ rfl (.tmp 68) (.tmp 73) 23 rfl B0 67 i0 (.agg #[.int .i64 0, .int .i64 0, .int .i64 0, .int .i64 0, .int .u8 0, .int .i64 0]) 6 48 Tryd.underlying23 HI0.out HZ0.out HS0.out HY0.out rfl (by decide) _ _ _ rfl (HO2.out.alloc _) ⟨wr.heap.size, 0, none⟩ 1 1 [.int .i64 x0, .int .i64 x1, .int .i64 x2, .int .i64 x3, .int .u8 x4, .int .i64 x5] rfl rfl (cellsT_new wr _ _ _ rfl) (by intro u hu; simp at hu; rcases hu with rfl | rfl | rfl | rfl | rfl | rfl <;> rfl) (by have : maxLen = 9223372036854775807 := rfl; omega) (by omega) (by simp; omega) ?_; intro v' w9 hown' hgrow hnil; obtain ⟨g, cap, rfl, p1, p2, p3, p4, p5⟩ := put_ownS (t := ⟨x0, x1, x2, x3, x4, x5⟩) hown'; have HP9 := hid (And.intro p3 p5); have HW9 := hid (And.intro hown' hgrow); clear hown' hgrow hnil p3 p5))
                have G9 : Hid (Gr w w9) := Gr.grown ((BW.trans BQ).alloc _) HW9.out.2 (fun q e => by have := (HO2.out.lt q e).1; omega)
                obtain ⟨t, ht⟩ : ∃ t : Sig, t = ⟨x0, x1, x2, x3, x4, x5⟩ := ⟨_, rfl⟩
                obtain ⟨l, hl⟩ : ∃ l, o.length = l := ⟨_, rfl⟩
                have HM := hid hl
                rw [hl] at p1 hol
                rw [hl]
                have HT := hid ht
                have HO9 := hid HW9.out.1
                have hB9 : B0 ≤ w9.heap.size := by have := HP9.out.1; omega
                have HB9 := hid hB9
                clear hl ht f0 f1 f2 f3 f4 f5 HW9 HO2 hB9
                obtain ⟨wp, rfl⟩ : ∃ wp : World, wp = wr := ⟨_, rfl⟩
                go_loopg [10] l (fun gg s10 wq => ∃ (k : Nat) (e : Array Sig), s10 = .int .i64 k ∧ k ≤ l ∧ k ≤ gg ∧ Hid (PutQS t o k e ∧ SWK Sig.cells 6 w9 g 0 e wq))
                case atStart =>
                  refine ⟨l, (o ++ [t]).toArray, by first | rfl | go_num, Nat.le_refl _, Nat.le_refl _, ?_, ?_⟩
                  · have := PutQS.start t o; rwa [HM.out] at this
                  · rw [HT.out]; exact SWK.start HP9.out.2
                case round =>
                  obtain ⟨q, e, rfl, hq, hqg, HQ⟩ := hrel
                  obtain ⟨hq1, hq2⟩ := HQ.out
                  have hsz := hq1.size
                  rw [HM.out] at hsz
                  obtain ⟨hs1, hs2⟩ := hsz
                  have HH : Hid (HoldsK Sig.cells 6 w9 g 0 (o ++ [t]).toArray) := HT.out ▸ HP9.out.2
                  have hs0 : e.size = (o ++ [t]).toArray.size := by simp; have := HM.out; omega
                  have HEnd : Hid ((q = 0 ∨ befB t e[q - 1]! = false) → ∀ W', SWK Sig.cells 6 w9 g 0 e W' → Gr w W' ∧ B0 ≤ W'.heap.size ∧ W'.ownsRow B0 67 6 (.slice (some ⟨g, 0, none⟩) (l + 1) cap) (mergeAll a (b.take (i + 1))).length ((mergeAll a (b.take (i + 1))).flatMap Sig.cells)) := fun h W' S => by
                    have ee := hq1.done HSo2.out h
                    have hpl : (putS t o).length = l + 1 := by rw [(putS_perm t o).length_eq]; simp; exact HM.out
                    refine ⟨gr_sortK G9.out S (Nat.le_trans hwb HP9.out.1), Nat.le_trans HB9.out S.le, ?_⟩
                    have h9 := HO9.out
                    rw [HM.out] at h9
                    have := own_backS h9 S (S.holds p4 HH.out hs0) hs1
                    rw [ee] at this
                    rw [HT2.out, ← HT.out, hpl]
                    simpa using this
                  by_cases h0 : q = 0
                  · subst h0
                    have HF2 := hid (fun n' => HEnd.out (.inl rfl) _ (hq2.drewN n'))
                    clear hq1 hq2 hs1 hs0 HEnd
                    go_wp2_with fail
                    go_quiet (fail)
                    go_wp2
                    go_roundg (m - (i + 1))
                    case measure => omega
                    case rel => exact ⟨i + 1, by omega, by omega, by go_num, (HF2.out _).1, (HF2.out _).2.1, (HF2.out _).2.2, HCk2.out⟩
                  · obtain ⟨j, rfl⟩ : ∃ j, q = j + 1 := ⟨q - 1, by omega⟩
                    clear h0
                    rw [Nat.add_sub_cancel] at HEnd
                    have hat := hq1.at_
                    obtain ⟨y, hy⟩ : ∃ y, e[j]! = y := ⟨_, rfl⟩
                    have HBf := hid (fun W => refBeforeS_any t y W)
                    have HCl := hid (fun n' os' => holdsS_cells ((hq2.grown n' os').holds p4 HH.out hs0) hs2)
                    have HCm := hid (fun n' os' => holdsS_cells ((hq2.grown n' os').holds p4 HH.out hs0) (i := j) (by omega))
                    rw [hat] at HCl
                    rw [hy] at HCm HEnd
                    have a0 := fun n' os' => (HCl.out n' os').1.1
                    have a1 := fun n' os' => (HCl.out n' os').1.2.1
                    have a2 := fun n' os' => (HCl.out n' os').1.2.2.1
                    have a3 := fun n' os' => (HCl.out n' os').1.2.2.2.1
                    have a4 := fun n' os' => (HCl.out n' os').1.2.2.2.2.1
                    have a5 := fun n' os' => (HCl.out n' os').1.2.2.2.2.2
                    have b0 := fun n' os' => (HCm.out n' os').1.1
                    have b1 := fun n' os' => (HCm.out n' os').1.2.1
                    have b2' := fun n' os' => (HCm.out n' os').1.2.2.1
                    have b3 := fun n' os' => (HCm.out n' os').1.2.2.2.1
                    have b4 := fun n' os' => (HCm.out n' os').1.2.2.2.2.1
                    have b5 := fun n' os' => (HCm.out n' os').1.2.2.2.2.2
                    have hj0 : (0 : Int) ≤ (j : Int) := by omega
                    have hj1 : (0 : Int) ≤ (j : Int) + 1 := by omega
                    have hjp : (0 : Int) < (j : Int) + 1 := by omega
                    have hjm1 : (j : Int) < (l : Int) + 1 := by omega
                    have hjm2 : (j : Int) + 1 < (l : Int) + 1 := by omega
                    have hjt : ((j : Int) + 1).toNat = j + 1 := by omega
                    have hjw : IntKind.i64.wrap ((j : Int) + 1 - 1) = (j : Int) := by rw [IntKind.wrap_i64]; omega
                    have hjw2 : IntKind.i64.wrap (j : Int) = (j : Int) := by rw [IntKind.wrap_i64]; omega
                    have HY := hid hy
                    have HAt2 := hid hat
                    have HQ1 := hid hq1
                    have HQ22 := hid hq2
                    have mixed : Tryd.prog.follows .mixedOrders = true := by kernel_rfl
                    unfold Sig.val at HBf
                    cases hbf : befB t y with
                    | false =>
                      have HF2 := hid (fun n' os' => HEnd.out (.inr hbf) _ (hq2.grown n' os'))
                      rw [hbf] at HBf
                      clear hq1 hq2 hs1 hs0 HEnd hy hat hbf HCl HCm
                      go_wp2_with fail
                      go_quiet_grown (first | (go_at_call 61; refine Calls.grown_of (HBf.out _)))
                      go_wp2
                      go_roundg (m - (i + 1))
                      case measure => omega
                      case rel => exact ⟨i + 1, by omega, by omega, by go_num, (HF2.out _ _).1, (HF2.out _ _).2.1, (HF2.out _ _).2.2, HCk2.out⟩
                    | true =>
                      have HPQ := hid (hq1.step (k := j) (by rw [hy]; exact hbf))
                      have HSz := hid (And.intro hs1 (And.intro hs2 hs0))
                      rw [hbf] at HBf
                      clear hq1 hq2 hs1 hs0 HEnd hy hat hbf
                      go_wp2_with fail
                      go_quiet_grown (first | (go_at_call 61; refine Calls.grown_of (HBf.out _)))
                      clear a0 a1 a2 a3 a4 a5 b0 b1 b2' b3 b4 b5
                      go_wp2_with fail
                      have HG2 := hid (HQ22.out.grown nq osq)
                      generalize grow (wr.drewN nq) osq = wz at HG2 ⊢
                      have S2 := hid (HG2.out.swapped (⟨Sig.len, Sig.one8, HH.out, p4⟩ : RowK Sig.cells 6 w9 g 0 (o ++ [t]).toArray) (j + 1) j HSz.out.2.1 (by have := HSz.out.2.1; omega))
                      obtain ⟨⟨a0, a1, a2, a3, a4, a5⟩, f0, f1, f2, f3, f4, f5⟩ := holdsS_cells (HG2.out.holds p4 HH.out HSz.out.2.2) HSz.out.2.1
                      obtain ⟨⟨b0, b1, b2', b3, b4, b5⟩, g0, g1, g2, g3, g4, g5⟩ := holdsS_cells (HG2.out.holds p4 HH.out HSz.out.2.2) (i := j) (by have := HSz.out.2.1; omega)
                      simp only [Nat.zero_add] at S2
                      rw [HAt2.out] at a0 a1 a2 a3 a4 a5 S2
                      rw [HY.out] at b0 b1 b2' b3 b4 b5 S2
                      clear HBf HCl HCm mixed
                      go_region
                      all_goals go_wp2
                      go_roundg j
                      case measure => omega
                      case rel =>
                        refine ⟨j, swp e (j + 1) j, by first | rfl | go_num, by omega, Nat.le_refl _, HPQ.out, ?_⟩
                        have h := S2.out
                        rw [drew_setCells, drew_setCells] at h
                        exact h
        · have hin : ¬ (i : Int) < (m : Int) := by omega
          have hfull : b.take i = b := by rw [show i = b.length by have := HLb.out; omega, List.take_length]
          have HO2 := HO.out
          rw [hfull] at HO2
          have hml := HC0.out HO2.2
          obtain ⟨A', cap, rfl, hO⟩ := ownK_of (w0 := w) Sig.len HO2.1 (by omega)
          have HOw := hid hO
          have HNN : Hid (mergeN a b = if 40 < (mergeAll a b).length then 4 else 0) := hml
          obtain ⟨on, hon⟩ : ∃ on, (mergeAll a b).length = on := ⟨_, rfl⟩
          rw [hon] at HOw HNN ⊢
          have hbig : on ≤ cap ∧ cap ≤ 9223372036854775807 := ⟨HOw.out.le, HOw.out.big⟩
          obtain ⟨hb1, hb2⟩ := hbig
          clear hon hO hml HO2 HO hfull
          by_cases h40 : 40 < on
          · have h40' : (40 : Int) < (on : Int) := by omega
            have HE : Hid (mergeN a b = 4) := by show _ = _; rw [HNN.out, if_pos h40]
            have HE2 := hid (HB.out (by rw [HE.out]; omega))
            go_wp2
            (try rw [Exit.noGoto_ret])
            go_ret2
            refine ⟨none, 0, 0, by rw [HE.out]; rfl, BW, ?_⟩
            rw [HE2.out]
            exact OwnK.none_
          · have h40' : ¬ (40 : Int) < (on : Int) := by omega
            have HE : Hid (mergeN a b = 0) := by show _ = _; rw [HNN.out, if_neg h40]
            have HE2 : Hid (mergeL a b = mergeAll a b) := by show _ = _; unfold mergeL; rw [if_pos HE.out]
            go_wp2
            (try rw [Exit.noGoto_ret])
            go_ret2
            refine ⟨A', on, cap, by rw [HE.out]; rfl, BW, ?_⟩
            rw [HE2.out]
            exact HOw.out
    all_goals first
      | (with_reducible exact own_new _ _ _ _ (by simp))
      | (simp only [maxLen]; omega)
      | omega
      | (exact flat_one9 _)
      | ((repeat (first | with_reducible exact Gr.refl _ | with_reducible refine Gr.trans ?_ hbw2 | with_reducible refine Gr.trans ?_ hbw1 | with_reducible refine Gr.alloc ?_ _ | with_reducible refine Gr.setCell ?_ (by simp) _ | with_reducible refine Gr.setCell ?_ (by simp; omega) _ | with_reducible refine Gr.drew ?_ | with_reducible refine Gr.drewN ?_ _)); done)
      | (exact (HIa.out.rd).gr (by (repeat (first | with_reducible exact Gr.refl _ | with_reducible refine Gr.trans ?_ hbw2 | with_reducible refine Gr.trans ?_ hbw1 | with_reducible refine Gr.alloc ?_ _ | with_reducible refine Gr.setCell ?_ (by simp) _ | with_reducible refine Gr.setCell ?_ (by simp; omega) _ | with_reducible refine Gr.drew ?_ | with_reducible refine Gr.drewN ?_ _))))
      | (simp; done)
      | skip
    all_goals go_goals
  all_goals
    have HE : Hid (mergeN a b = 91) := by show _ = _; rw [HN.out]; rfl
    have HE2 := hid (HB.out (by rw [HE.out]; omega))
    clear HN HS HB
    go_enter Tryd.func23, Tryd.ntmps23
    go_wp2_with (first
      | (go_at_call 60; (with_reducible refine (HRa.out _ ?_).mono ?_); rotate_right; rintro e w1 ⟨rfl, hbw1⟩)
      | (go_at_call 60; (with_reducible refine (HRb.out _ ?_).mono ?_); rotate_right; rintro e w2 ⟨rfl, hbw2⟩))
    all_goals first
      | ((repeat (first | with_reducible exact Gr.refl _ | with_reducible refine Gr.trans ?_ hbw1 | with_reducible refine Gr.alloc ?_ _ | with_reducible refine Gr.setCell ?_ (by simp) _ | with_reducible refine Gr.setCell ?_ (by simp; omega) _ | with_reducible refine Gr.drew ?_ | with_reducible refine Gr.drewN ?_ _)); done)
      | (go_ret2
         refine ⟨none, 0, 0, by rw [HE.out]; rfl, by (repeat (first | with_reducible exact Gr.refl _ | with_reducible refine Gr.trans ?_ hbw2 | with_reducible refine Gr.trans ?_ hbw1 | with_reducible refine Gr.alloc ?_ _ | with_reducible refine Gr.setCell ?_ (by simp) _ | with_reducible refine Gr.setCell ?_ (by simp; omega) _ | with_reducible refine Gr.drew ?_ | with_reducible refine Gr.drewN ?_ _)), ?_⟩
         rw [HE2.out]
         exact OwnK.none_)
end Go.Proofs.YtliehlefpodhaaaDoor
