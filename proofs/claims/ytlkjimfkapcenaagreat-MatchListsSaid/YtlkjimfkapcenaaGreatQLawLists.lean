/- The law MatchLists, walked: the pairs of a list, and who was at one place, are the reference's. For all rules, lists and days. -/
import Derived.Test.YtlkjimfkapcenaaGreatQSortedKeys
import Derived.Test.YtlkjimfkapcenaaGreatQRefPairs
import Derived.Test.YtlkjimfkapcenaaGreatQTwinL
import Derived.Test.YtlkjimfkapcenaaGreatQSames
namespace Go.Proofs.YtlkjimfkapcenaaGreat
open Go.RowKit

theorem pairsN_few (r : Rul) (rs : List Rcd) (v : Int) : (pairsN r rs v).length ≤ 1000000 := by
  by_cases h : pairErr r rs = 0
  · have hr : r.ok = true := by
      unfold pairErr at h
      cases e : r.ok with
      | true => rfl
      | false => rw [e] at h; cases h
    have h0 : recsE rs = 0 := by
      unfold pairErr at h
      rw [hr] at h
      exact h
    have := pairsN_len hr h0 v
    omega
  · unfold pairsN
    rw [if_neg h]
    simp
theorem homesN_few (day : Int) (rs : List Rcd) : (homesN day rs).length ≤ 1000000 ∧ ∀ l ∈ homesN day rs, l.length ≤ 1000000 := by
  by_cases h : homeErr day rs = 0
  · have h0 : recsE rs = 0 := by
      unfold homeErr at h
      split at h
      · exact h
      · cases h
    obtain ⟨h24, hall, _⟩ := recsE_zero h0
    have hp := srt_perm rs
    have hl := hp.length_eq
    have h1 := placesL_len day (srt rs) (fun r hr => (ok_stays (hall r (hp.mem_iff.1 hr))).1)
    unfold homesN
    rw [if_pos h]
    unfold homesK
    refine ⟨by rw [List.length_map]; omega, fun l hl2 => ?_⟩
    obtain ⟨p, _, rfl⟩ := List.mem_map.1 hl2
    have h2 := homeF_len day (srt rs) (srt rs).length 0 p
    rw [homeF_zero, List.take_length] at h2
    omega
  · unfold homesN
    rw [if_neg h]
    exact ⟨by simp, fun l hl => by cases hl⟩

set_option maxRecDepth 100000 in
set_option maxHeartbeats 8000000 in
theorem matchLists_any (r : Rul) (es : List Elt) (A : Option Addr) (n c : Nat) (day : Int) (w : World) (hI : RecsIn w A n es) :
    Calls Tryz.prog 3 #[r.val, .slice A n c, .int .i64 day] w fun e w' => e = .returned (.bool true) ∧ Gr w w' := by
  have HGR := hid (fun W (g : Gr w W) => greatL_any A n c es W (hI.gr g))
  cases hg : greatL (es.map (·.r)) with
  | true =>
    rw [hg] at HGR
    clear hI hg
    obtain ⟨l, dg, dy, t⟩ := r
    unfold Rul.val
    dsimp only
    go_enter Tryz.func3, Tryz.ntmps3
    go_wp2_with ((go_at_call 4; (with_reducible refine (HGR.out _ ?_).mono ?_); rotate_right; rintro e w1 ⟨rfl, hbw1⟩; obtain ⟨hcw1, hfw1, hzw1⟩ := hbw1.rules; (try simp at hzw1); have hzw1_0 : w.heap.size < w1.heap.size := (by omega); have hyw1_0 : w.heap.size ≤ w1.heap.size := (by omega)))
    · go_ret
      exact ⟨rfl, by (repeat (first | with_reducible exact Gr.refl _ | with_reducible refine Gr.trans ?_ hbw1 | with_reducible refine Gr.alloc ?_ _ | with_reducible refine Gr.setCell ?_ (by simp) _ | with_reducible refine Gr.setCell ?_ (by simp; omega) _ | with_reducible refine Gr.drew ?_ | with_reducible refine Gr.drewN ?_ _))⟩
    · (repeat (first | with_reducible exact Gr.refl _ | with_reducible refine Gr.alloc ?_ _ | with_reducible refine Gr.setCell ?_ (by simp) _ | with_reducible refine Gr.setCell ?_ (by simp; omega) _ | with_reducible refine Gr.drew ?_ | with_reducible refine Gr.drewN ?_ _))
  | false =>
    rw [hg] at HGR
    unfold greatL at hg
    rw [Bool.or_eq_false_iff, List.length_map, hI.len] at hg
    have hn30 : n ≤ 30 := by have := hg.1; simp at this; omega
    have hsm : ∀ e ∈ es, e.r.great = false := fun e he => by
      have := List.any_eq_false.1 hg.2 e.r (List.mem_map_of_mem he)
      simpa using this
    have HTW := hid (fun W (g : Gr w W) => twinL_any A n c es W (hI.gr g) hn30 hsm)
    obtain ⟨rs, hrs⟩ : ∃ rs, rs = es.map (·.r) := ⟨_, rfl⟩
    have HP := hid (fun (B : Option Addr) (cap : Nat) (zs : List Elt) (W : World) (h : RecsIn W B n zs) (he : zs.map (·.r) = rs) => (by
      have hl := h.len
      have h1 := pairs_any r zs B cap W (by rw [hl]; exact h.rdE) h.each (by have := h.big; omega)
      rw [he, hl] at h1
      exact h1 : Calls Tryz.prog 6 #[r.val, .slice B n cap] W fun e w' => ∃ v1 v2, e = .returned (.tuple #[v1, v2, .int .i64 (pairErr r rs)]) ∧ PairsIn w' v1 (pairsN r rs 2) ∧ PairsIn w' v2 (pairsN r rs 1) ∧ Gr W w'))
    have HH := hid (fun (B : Option Addr) (cap : Nat) (zs : List Elt) (W : World) (h : RecsIn W B n zs) (he : zs.map (·.r) = rs) => (by
      have hl := h.len
      have h1 := homes_any zs day B cap W (by rw [hl]; exact h.rdE) h.each (by have := h.big; omega)
      rw [he, hl] at h1
      exact h1 : Calls Tryz.prog 8 #[.slice B n cap, .int .i64 day] W fun e w' => ∃ v, e = .returned (.tuple #[v, .int .i64 (homeErr day rs)]) ∧ ListsIn w' v (homesN day rs) ∧ Gr W w'))
    have HRP := hid (fun W (g : Gr w W) => (by
      have h := refPairs_any r es A c n W (hI.gr g)
      rw [← hrs] at h
      exact h : Calls Tryz.prog 7 #[r.val, .slice A n c] W (PairsRet r rs W)))
    have HRH := hid (fun W (g : Gr w W) => (by
      have h := refHomes_any es day A c n W (hI.gr g)
      rw [← hrs] at h
      exact h : Calls Tryz.prog 9 #[.slice A n c, .int .i64 day] W (HomesRet day rs W)))
    have HF2 := hid (pairsN_few r rs 2)
    have HF1 := hid (pairsN_few r rs 1)
    have HFH := hid (homesN_few day rs)
    unfold PairsRet at HRP
    unfold HomesRet at HRH
    have HI := hid hI
    have HRS := hid hrs
    clear hI hg hrs hsm hn30
    unfold TwinLRet at HTW
    generalize pairsN r rs 2 = L2 at *
    generalize pairsN r rs 1 = L1 at *
    generalize homesN day rs = LH at *
    generalize pairErr r rs = E1 at *
    generalize homeErr day rs = E2 at *
    obtain ⟨l, dg, dy, t⟩ := r
    unfold Rul.val at *
    dsimp only at *
    go_enter Tryz.func3, Tryz.ntmps3
    go_wp2_with (first
      | (go_at_call 4; (with_reducible refine (HGR.out _ ?_).mono ?_); rotate_right; rintro e w1 ⟨rfl, hbw1⟩; obtain ⟨hcw1, hfw1, hzw1⟩ := hbw1.rules; (try simp at hzw1); have hzw1_0 : w.heap.size < w1.heap.size := (by omega); have hyw1_0 : w.heap.size ≤ w1.heap.size := (by omega))
      | (go_at_call 5; (with_reducible refine (HTW.out _ ?_).mono ?_); rotate_right; rintro e w2 ⟨B, cap, zs, rfl, t1, t2, hbw2⟩; have T1 := hid t1; have T2 := hid t2; clear t1 t2; obtain ⟨hcw2, hfw2, hzw2⟩ := hbw2.rules; have hzw2_0 : w.heap.size < w2.heap.size := (by omega))
      | (go_at_call 6; (with_reducible refine (HP.out B cap zs _ ?_ ?_).mono ?_); rotate_right; rintro e w3 ⟨v1, v2, rfl, ⟨A1, c1, rfl, p1⟩, ⟨A2, c2, rfl, p2⟩, hbw3⟩; have P1 := hid p1; have P2 := hid p2; clear p1 p2; obtain ⟨hcw3, hfw3, hzw3⟩ := hbw3.rules; have hzw3_0 : w.heap.size < w3.heap.size := (by omega))
      | (go_at_call 7; (with_reducible refine (HRP.out _ ?_).mono ?_); rotate_right; rintro e w4 ⟨v3, v4, rfl, ⟨A3, c3, rfl, p3⟩, ⟨A4, c4, rfl, p4⟩, hbw4⟩; have P3 := hid p3; have P4 := hid p4; clear p3 p4; obtain ⟨hcw4, hfw4, hzw4⟩ := hbw4.rules; have hzw4_0 : w.heap.size < w4.heap.size := (by omega))
      | (go_at_call 8; (with_reducible refine (HH.out B cap zs _ ?_ ?_).mono ?_); rotate_right; rintro e w5 ⟨v5, rfl, h5, hbw5⟩; have H5 := hid h5; clear h5; obtain ⟨hcw5, hfw5, hzw5⟩ := hbw5.rules)
      | (go_at_call 9; (with_reducible refine (HRH.out _ ?_).mono ?_); rotate_right; rintro e w6 ⟨v6, rfl, h6, hbw6⟩; have H6 := hid h6; clear h6; obtain ⟨hcw6, hfw6, hzw6⟩ := hbw6.rules)
      | (go_at_call 10; (with_reducible refine (samePairs_any L2 A1 c1 A3 c3 _ ?_ ?_ HF2.out).mono ?_); rotate_right; rintro e w7 ⟨rfl, hbw7⟩)
      | (go_at_call 10; (with_reducible refine (samePairs_any L1 A2 c2 A4 c4 _ ?_ ?_ HF1.out).mono ?_); rotate_right; rintro e w8 ⟨rfl, hbw8⟩)
      | (go_at_call 11; (with_reducible refine (sameLists_any LH v5 v6 _ ?_ ?_ HFH.out.1 HFH.out.2).mono ?_); rotate_right; rintro e w9 ⟨rfl, hbw9⟩)
      | (go_at_call 12; (with_reducible refine (sameRecs_any zs es n B cap A c _ ?_ ?_ T1.out).mono ?_); rotate_right; rintro e w10 ⟨rfl, hbw10⟩))
    · go_ret
      exact ⟨rfl, by (repeat (first | with_reducible exact Gr.refl _ | with_reducible refine Gr.trans ?_ hbw10 | with_reducible refine Gr.trans ?_ hbw9 | with_reducible refine Gr.trans ?_ hbw8 | with_reducible refine Gr.trans ?_ hbw7 | with_reducible refine Gr.trans ?_ hbw6 | with_reducible refine Gr.trans ?_ hbw5 | with_reducible refine Gr.trans ?_ hbw4 | with_reducible refine Gr.trans ?_ hbw3 | with_reducible refine Gr.trans ?_ hbw2 | with_reducible refine Gr.trans ?_ hbw1 | with_reducible refine Gr.alloc ?_ _ | with_reducible refine Gr.setCell ?_ (by simp) _ | with_reducible refine Gr.setCell ?_ (by simp; omega) _ | with_reducible refine Gr.drew ?_ | with_reducible refine Gr.drewN ?_ _))⟩
    all_goals first
      | exact T1.out.trans HRS.out.symm
      | (refine HI.out.gr ?_; (repeat (first | with_reducible exact Gr.refl _ | with_reducible refine Gr.trans ?_ hbw9 | with_reducible refine Gr.trans ?_ hbw8 | with_reducible refine Gr.trans ?_ hbw7 | with_reducible refine Gr.trans ?_ hbw6 | with_reducible refine Gr.trans ?_ hbw5 | with_reducible refine Gr.trans ?_ hbw4 | with_reducible refine Gr.trans ?_ hbw3 | with_reducible refine Gr.trans ?_ hbw2 | with_reducible refine Gr.trans ?_ hbw1 | with_reducible refine Gr.alloc ?_ _ | with_reducible refine Gr.setCell ?_ (by simp) _ | with_reducible refine Gr.setCell ?_ (by simp; omega) _ | with_reducible refine Gr.drew ?_ | with_reducible refine Gr.drewN ?_ _)); done)
      | (refine T2.out.gr ?_; (repeat (first | with_reducible exact Gr.refl _ | with_reducible refine Gr.trans ?_ hbw9 | with_reducible refine Gr.trans ?_ hbw8 | with_reducible refine Gr.trans ?_ hbw7 | with_reducible refine Gr.trans ?_ hbw6 | with_reducible refine Gr.trans ?_ hbw5 | with_reducible refine Gr.trans ?_ hbw4 | with_reducible refine Gr.trans ?_ hbw3 | with_reducible refine Gr.alloc ?_ _ | with_reducible refine Gr.setCell ?_ (by simp) _ | with_reducible refine Gr.setCell ?_ (by simp; omega) _ | with_reducible refine Gr.drew ?_ | with_reducible refine Gr.drewN ?_ _)); done)
      | (refine H6.out.gr ?_; (repeat (first | with_reducible exact Gr.refl _ | with_reducible refine Gr.trans ?_ hbw8 | with_reducible refine Gr.trans ?_ hbw7 | with_reducible refine Gr.alloc ?_ _ | with_reducible refine Gr.setCell ?_ (by simp) _ | with_reducible refine Gr.setCell ?_ (by simp; omega) _ | with_reducible refine Gr.drew ?_ | with_reducible refine Gr.drewN ?_ _)); done)
      | (refine H5.out.gr ?_; (repeat (first | with_reducible exact Gr.refl _ | with_reducible refine Gr.trans ?_ hbw8 | with_reducible refine Gr.trans ?_ hbw7 | with_reducible refine Gr.trans ?_ hbw6 | with_reducible refine Gr.alloc ?_ _ | with_reducible refine Gr.setCell ?_ (by simp) _ | with_reducible refine Gr.setCell ?_ (by simp; omega) _ | with_reducible refine Gr.drew ?_ | with_reducible refine Gr.drewN ?_ _)); done)
      | (refine P1.out.gr ?_; (repeat (first | with_reducible exact Gr.refl _ | with_reducible refine Gr.trans ?_ hbw6 | with_reducible refine Gr.trans ?_ hbw5 | with_reducible refine Gr.trans ?_ hbw4 | with_reducible refine Gr.alloc ?_ _ | with_reducible refine Gr.setCell ?_ (by simp) _ | with_reducible refine Gr.setCell ?_ (by simp; omega) _ | with_reducible refine Gr.drew ?_ | with_reducible refine Gr.drewN ?_ _)); done)
      | (refine P3.out.gr ?_; (repeat (first | with_reducible exact Gr.refl _ | with_reducible refine Gr.trans ?_ hbw6 | with_reducible refine Gr.trans ?_ hbw5 | with_reducible refine Gr.alloc ?_ _ | with_reducible refine Gr.setCell ?_ (by simp) _ | with_reducible refine Gr.setCell ?_ (by simp; omega) _ | with_reducible refine Gr.drew ?_ | with_reducible refine Gr.drewN ?_ _)); done)
      | (refine P2.out.gr ?_; (repeat (first | with_reducible exact Gr.refl _ | with_reducible refine Gr.trans ?_ hbw7 | with_reducible refine Gr.trans ?_ hbw6 | with_reducible refine Gr.trans ?_ hbw5 | with_reducible refine Gr.trans ?_ hbw4 | with_reducible refine Gr.alloc ?_ _ | with_reducible refine Gr.setCell ?_ (by simp) _ | with_reducible refine Gr.setCell ?_ (by simp; omega) _ | with_reducible refine Gr.drew ?_ | with_reducible refine Gr.drewN ?_ _)); done)
      | (refine P4.out.gr ?_; (repeat (first | with_reducible exact Gr.refl _ | with_reducible refine Gr.trans ?_ hbw7 | with_reducible refine Gr.trans ?_ hbw6 | with_reducible refine Gr.trans ?_ hbw5 | with_reducible refine Gr.alloc ?_ _ | with_reducible refine Gr.setCell ?_ (by simp) _ | with_reducible refine Gr.setCell ?_ (by simp; omega) _ | with_reducible refine Gr.drew ?_ | with_reducible refine Gr.drewN ?_ _)); done)
      | (repeat (first | with_reducible exact Gr.refl _ | with_reducible refine Gr.trans ?_ hbw6 | with_reducible refine Gr.trans ?_ hbw5 | with_reducible refine Gr.trans ?_ hbw4 | with_reducible refine Gr.trans ?_ hbw3 | with_reducible refine Gr.trans ?_ hbw2 | with_reducible refine Gr.trans ?_ hbw1 | with_reducible refine Gr.alloc ?_ _ | with_reducible refine Gr.setCell ?_ (by simp) _ | with_reducible refine Gr.setCell ?_ (by simp; omega) _ | with_reducible refine Gr.drew ?_ | with_reducible refine Gr.drewN ?_ _))
end Go.Proofs.YtlkjimfkapcenaaGreat
