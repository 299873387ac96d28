/- The law MatchPairs, walked: each pair of a list is what both are; another order gives the same pairs; one record more leaves the pairs of the others. For all rules, lists and turns. -/
import Derived.Deep.CutRange
import Derived.Deep.DeepCutAuto
import Derived.WalkLawsBesides
import Derived.Test.YtlkjimfkapcenaaQCompareTop
import Derived.Test.YtlkjimfkapcenaaQPairSpec
import Derived.Test.YtlkjimfkapcenaaQAlive
import Derived.Test.YtlkjimfkapcenaaQPairMap
import Derived.Test.YtlkjimfkapcenaaQMapRg10
import Derived.Test.YtlkjimfkapcenaaQPlan
namespace Go.Proofs.Ytlkjimfkapcenaa
open Go.RowKit Go.Maps

theorem flat_drop (es : List Elt) (k : Nat) : (es.flatMap Elt.cells).drop (k * 8) = (es.drop k).flatMap Elt.cells := by
  induction es generalizing k with
  | nil => simp
  | cons x r ih =>
    cases k with
    | zero => simp
    | succ k =>
      rw [List.flatMap_cons, List.drop_succ_cons, ← ih, List.drop_append, Elt.len]
      have h1 : x.cells.drop ((k + 1) * 8) = [] := List.drop_eq_nil_of_le (by rw [Elt.len]; omega)
      rw [h1, List.nil_append]
      congr 1
      omega
theorem flat_take (es : List Elt) (k : Nat) : (es.flatMap Elt.cells).take (k * 8) = (es.take k).flatMap Elt.cells := by
  induction es generalizing k with
  | nil => simp
  | cons x r ih =>
    cases k with
    | zero => simp
    | succ k =>
      rw [List.flatMap_cons, List.take_succ_cons, List.flatMap_cons, ← ih, List.take_append, Elt.len]
      have h1 : x.cells.take ((k + 1) * 8) = x.cells := List.take_of_length_le (by rw [Elt.len]; omega)
      rw [h1]
      congr 2
      omega

theorem index_two0 (a b : Option Addr) (n c n' c' : Nat) (w : World) : (Instr.index 67 (.agg #[.slice a n c, .slice b n' c']) (.int .i64 0)).run Try.prog w = .ok (.slice a n c) w := by kernel_rfl
theorem index_two1 (a b : Option Addr) (n c n' c' : Nat) (w : World) : (Instr.index 67 (.agg #[.slice a n c, .slice b n' c']) (.int .i64 1)).run Try.prog w = .ok (.slice b n' c') w := by kernel_rfl
/-- What is found when some of the two lists have been laid. -/
def fndI (L1 L2 : List (Int × Int)) : Nat → Int × Int → Option Value
  | 0 => fun _ => none
  | 1 => layF 1 L1 (fun _ => none)
  | _ => layF 2 L2 (layF 1 L1 (fun _ => none))

set_option maxRecDepth 100000 in
set_option maxHeartbeats 8000000 in
theorem matchPairs_any (r : Rul) (es : List Elt) (A : Option Addr) (n c : Nat) (turn : Int) (w : World) (hI : RecsIn w A n es) (hnc : n ≤ c) (ht : 0 ≤ turn ∧ turn ≤ 255) :
    Calls Try.prog 9 #[r.val, .slice A n c, .int .u8 turn] w fun e w' => e = .returned (.bool true) ∧ Gr w w' := by
  have HGR := hid (fun W (g : Gr w W) => greatL_any A n c es W (hI.gr g))
  have HRU := hid (fun W => refRules_any r W)
  have HRE := hid (fun W (g : Gr w W) => refRecs_any A n c es W (hI.gr g))
  have HAL := hid (fun W => alive_any W)
  obtain ⟨rs, hrs⟩ : ∃ rs, rs = es.map (·.r) := ⟨_, rfl⟩
  rw [← hrs] at HGR HRE
  cases hg : greatL rs with
  | true =>
    rw [hg] at HGR
    clear hI hg HRE HRU
    obtain ⟨l, dg, dy, t⟩ := r
    unfold Rul.val at *
    dsimp only at *
    go_enter Try.func9, Try.ntmps9
    go_wp2_with (first
      | (go_at_call 20; (with_reducible refine (HAL.out _).mono ?_); rotate_right; rintro e w1 ⟨rfl, hbw1⟩; obtain ⟨hcw1, hfw1, hzw1⟩ := hbw1.rules; (try simp at hzw1); have hzw1_0 : w.heap.size < w1.heap.size := (by omega); have hyw1_0 : w.heap.size ≤ w1.heap.size := (by omega))
      | (go_at_call 25; (with_reducible refine (HGR.out _ ?_).mono ?_); rotate_right; rintro e w2 ⟨rfl, hbw2⟩; obtain ⟨hcw2, hfw2, hzw2⟩ := hbw2.rules; (try simp at hzw2); have hzw2_0 : w.heap.size < w2.heap.size := (by omega); have hyw2_0 : w.heap.size ≤ w2.heap.size := (by omega)))
    · go_ret
      exact ⟨rfl, by (repeat (first | with_reducible exact Gr.refl _ | with_reducible refine Gr.trans ?_ hbw2 | with_reducible refine Gr.trans ?_ hbw1 | with_reducible refine Gr.alloc ?_ _ | with_reducible refine Gr.setCell ?_ (by simp) _ | with_reducible refine Gr.setCell ?_ (by simp; omega) _ | with_reducible refine Gr.drew ?_ | with_reducible refine Gr.drewN ?_ _))⟩
    · (repeat (first | with_reducible exact Gr.refl _ | with_reducible refine Gr.trans ?_ hbw1 | with_reducible refine Gr.alloc ?_ _ | with_reducible refine Gr.setCell ?_ (by simp) _ | with_reducible refine Gr.setCell ?_ (by simp; omega) _ | with_reducible refine Gr.drew ?_ | with_reducible refine Gr.drewN ?_ _))
  | false =>
    rw [hg] at HGR
    cases hro : r.ok with
    | false =>
      rw [hro] at HRU
      clear hI hg HRE hro
      obtain ⟨l, dg, dy, t⟩ := r
      unfold Rul.val at *
      dsimp only at *
      go_enter Try.func9, Try.ntmps9
      go_wp2_with (first
        | (go_at_call 20; (with_reducible refine (HAL.out _).mono ?_); rotate_right; rintro e w1 ⟨rfl, hbw1⟩; obtain ⟨hcw1, hfw1, hzw1⟩ := hbw1.rules; (try simp at hzw1); have hzw1_0 : w.heap.size < w1.heap.size := (by omega); have hyw1_0 : w.heap.size ≤ w1.heap.size := (by omega))
        | (go_at_call 25; (with_reducible refine (HGR.out _ ?_).mono ?_); rotate_right; rintro e w2 ⟨rfl, hbw2⟩; obtain ⟨hcw2, hfw2, hzw2⟩ := hbw2.rules; (try simp at hzw2); have hzw2_0 : w.heap.size < w2.heap.size := (by omega); have hyw2_0 : w.heap.size ≤ w2.heap.size := (by omega))
        | (go_at_call 21; (with_reducible refine (HRU.out _).mono ?_); rotate_right; rintro e w3 ⟨rfl, hbw3⟩; obtain ⟨hcw3, hfw3, hzw3⟩ := hbw3.rules; (try simp at hzw3); have hzw3_0 : w.heap.size < w3.heap.size := (by omega); have hyw3_0 : w.heap.size ≤ w3.heap.size := (by omega)))
      · go_ret
        exact ⟨rfl, by (repeat (first | with_reducible exact Gr.refl _ | with_reducible refine Gr.trans ?_ hbw3 | with_reducible refine Gr.trans ?_ hbw2 | with_reducible refine Gr.trans ?_ hbw1 | with_reducible refine Gr.alloc ?_ _ | with_reducible refine Gr.setCell ?_ (by simp) _ | with_reducible refine Gr.setCell ?_ (by simp; omega) _ | with_reducible refine Gr.drew ?_ | with_reducible refine Gr.drewN ?_ _))⟩
      · (repeat (first | with_reducible exact Gr.refl _ | with_reducible refine Gr.trans ?_ hbw1 | with_reducible refine Gr.alloc ?_ _ | with_reducible refine Gr.setCell ?_ (by simp) _ | with_reducible refine Gr.setCell ?_ (by simp; omega) _ | with_reducible refine Gr.drew ?_ | with_reducible refine Gr.drewN ?_ _))
    | true =>
      rw [hro] at HRU
      by_cases hz : recsE rs = 0
      · rw [hz] at HRE
        by_cases hn0 : n = 0
        · have hn0z : (n : Int) = 0 := by omega
          subst hn0
          clear hI hg hro hz
          obtain ⟨l, dg, dy, t⟩ := r
          unfold Rul.val at *
          dsimp only at *
          go_enter Try.func9, Try.ntmps9
          go_wp2_with (first
            | (go_at_call 20; (with_reducible refine (HAL.out _).mono ?_); rotate_right; rintro e w1 ⟨rfl, hbw1⟩; obtain ⟨hcw1, hfw1, hzw1⟩ := hbw1.rules; (try simp at hzw1); have hzw1_0 : w.heap.size < w1.heap.size := (by omega); have hyw1_0 : w.heap.size ≤ w1.heap.size := (by omega))
            | (go_at_call 25; (with_reducible refine (HGR.out _ ?_).mono ?_); rotate_right; rintro e w2 ⟨rfl, hbw2⟩; obtain ⟨hcw2, hfw2, hzw2⟩ := hbw2.rules; (try simp at hzw2); have hzw2_0 : w.heap.size < w2.heap.size := (by omega); have hyw2_0 : w.heap.size ≤ w2.heap.size := (by omega))
            | (go_at_call 21; (with_reducible refine (HRU.out _).mono ?_); rotate_right; rintro e w3 ⟨rfl, hbw3⟩; obtain ⟨hcw3, hfw3, hzw3⟩ := hbw3.rules; (try simp at hzw3); have hzw3_0 : w.heap.size < w3.heap.size := (by omega); have hyw3_0 : w.heap.size ≤ w3.heap.size := (by omega))
            | (go_at_call 26; (with_reducible refine (HRE.out _ ?_).mono ?_); rotate_right; rintro e w4 ⟨rfl, hbw4⟩; obtain ⟨hcw4, hfw4, hzw4⟩ := hbw4.rules; (try simp at hzw4); have hzw4_0 : w.heap.size < w4.heap.size := (by omega); have hyw4_0 : w.heap.size ≤ w4.heap.size := (by omega)))
          · go_ret
            exact ⟨rfl, by (repeat (first | with_reducible exact Gr.refl _ | with_reducible refine Gr.trans ?_ hbw4 | with_reducible refine Gr.trans ?_ hbw3 | with_reducible refine Gr.trans ?_ hbw2 | with_reducible refine Gr.trans ?_ hbw1 | with_reducible refine Gr.alloc ?_ _ | with_reducible refine Gr.setCell ?_ (by simp) _ | with_reducible refine Gr.setCell ?_ (by simp; omega) _ | with_reducible refine Gr.drew ?_ | with_reducible refine Gr.drewN ?_ _))⟩
          · (repeat (first | with_reducible exact Gr.refl _ | with_reducible refine Gr.trans ?_ hbw3 | with_reducible refine Gr.trans ?_ hbw2 | with_reducible refine Gr.trans ?_ hbw1 | with_reducible refine Gr.alloc ?_ _ | with_reducible refine Gr.setCell ?_ (by simp) _ | with_reducible refine Gr.setCell ?_ (by simp; omega) _ | with_reducible refine Gr.drew ?_ | with_reducible refine Gr.drewN ?_ _))
          · (repeat (first | with_reducible exact Gr.refl _ | with_reducible refine Gr.trans ?_ hbw1 | with_reducible refine Gr.alloc ?_ _ | with_reducible refine Gr.setCell ?_ (by simp) _ | with_reducible refine Gr.setCell ?_ (by simp; omega) _ | with_reducible refine Gr.drew ?_ | with_reducible refine Gr.drewN ?_ _))
        · obtain ⟨h24, hall, hnd⟩ := recsE_zero hz
          have hl := hI.len
          have hn24 : n ≤ 24 := by rw [hrs, List.length_map, hl] at h24; exact h24
          have hn1 : 1 ≤ n := by omega
          have hpe : pairErr r rs = 0 := by unfold pairErr; rw [hro, if_pos rfl]; exact hz
          -- how far the list is turned
          obtain ⟨k, hk⟩ : ∃ k : Nat, (k : Int) = turn % (n : Int) := ⟨(turn % (n : Int)).toNat, Int.toNat_of_nonneg (Int.emod_nonneg _ (by omega))⟩
          have hkn : k < n := by have := Int.emod_lt_of_pos turn (show 0 < (n : Int) by omega); omega
          obtain ⟨z, tl, hzt⟩ : ∃ z tl, es.drop k ++ es.take k = z :: tl := by
            cases e : es.drop k ++ es.take k with
            | nil =>
              have := congrArg List.length e
              simp at this
              omega
            | cons z tl => exact ⟨z, tl, rfl⟩
          have hperm : (z :: tl).Perm es := by
            rw [← hzt]
            exact List.perm_append_comm.trans (List.Perm.of_eq (List.take_append_drop k es))
          have hpr : ((z :: tl).map (·.r)).Perm rs := by rw [hrs]; exact hperm.map _
          obtain ⟨hzt0, hpt⟩ := pairsN_tail hro (show recsE (z.r :: tl.map (·.r)) = 0 by have := recsE_perm hpr; rw [List.map_cons] at this; rw [this]; exact hz)
          have HPA := hid (fun (W : World) (g : Gr w W) => (by
            have h1 := pairs_any r es A c W (by rw [hl]; exact (hI.gr g).rdE) (hI.gr g).each (by omega)
            rw [← hrs, hl, hpe] at h1
            exact h1 : Calls Try.prog 27 #[r.val, .slice A n c] W fun e w' => ∃ v1 v2, e = .returned (.tuple #[v1, v2, .int .i64 0]) ∧ PairsIn w' v1 (pairsN r rs 2) ∧ PairsIn w' v2 (pairsN r rs 1) ∧ Gr W w'))
          have hlt : (z :: tl).length = n := by rw [hperm.length_eq, hl]
          have HPT := hid (fun (B : Option Addr) (cap : Nat) (W : World) (h : RecsIn W B n (z :: tl)) => (by
            have h1 := pairs_any r (z :: tl) B cap W (by rw [hlt]; exact h.rdE) h.each (by omega)
            rw [hlt] at h1
            have e1 : pairErr r ((z :: tl).map (·.r)) = 0 := by unfold pairErr; rw [hro, if_pos rfl, recsE_perm hpr]; exact hz
            rw [e1, pairsN_perm hpr hnd, pairsN_perm hpr hnd] at h1
            exact h1 : Calls Try.prog 27 #[r.val, .slice B n cap] W fun e w' => ∃ v1 v2, e = .returned (.tuple #[v1, v2, .int .i64 0]) ∧ PairsIn w' v1 (pairsN r rs 2) ∧ PairsIn w' v2 (pairsN r rs 1) ∧ Gr W w'))
          have HPF := hid (fun (B : Option Addr) (cap : Nat) (W : World) (h : RecsIn W B (n - 1) tl) => (by
            have hl2 := h.len
            have h1 := pairs_any r tl B cap W (by rw [hl2]; exact h.rdE) h.each (by omega)
            rw [hl2] at h1
            have e1 : pairErr r (tl.map (·.r)) = 0 := by unfold pairErr; rw [hro, if_pos rfl]; exact hzt0
            have e2 : ∀ v, pairsN r (tl.map (·.r)) v = (pairsN r rs v).filter (fun p => decide (p.1 ≠ z.r.id) && decide (p.2 ≠ z.r.id)) := fun v => by
              rw [hpt v]
              have := pairsN_perm (r := r) (v := v) hpr hnd
              rw [List.map_cons] at this
              rw [this]
            rw [e1, e2, e2] at h1
            exact h1 : Calls Try.prog 27 #[r.val, .slice B (n - 1) cap] W fun e w' => ∃ v1 v2, e = .returned (.tuple #[v1, v2, .int .i64 0]) ∧ PairsIn w' v1 ((pairsN r rs 2).filter (fun p => decide (p.1 ≠ z.r.id) && decide (p.2 ≠ z.r.id))) ∧ PairsIn w' v2 ((pairsN r rs 1).filter (fun p => decide (p.1 ≠ z.r.id) && decide (p.2 ≠ z.r.id))) ∧ Gr W w'))
          have HPX : Hid (PairFacts r es (pairsN r rs 1) (pairsN r rs 2)) := by
            rw [hrs] at hz ⊢
            exact pair_facts hro hz
          have HCM := hid (fun (x y : Elt) (hx : x ∈ es) (hy : y ∈ es) (W : World) (g : Gr w W) => (by
            have h1 := compareTop_any r x.r y.r x.A x.n x.c x.B x.m x.d y.A y.n y.c y.B y.m y.d W ((hI.each x hx).gr g).at_ ((hI.each y hy).gr g).at_ (hI.each x hx).cap (hI.each y hy).cap (hI.each x hx).sfx (hI.each y hy).sfx
            have ex : x.r.ok = true := hall _ (by rw [hrs]; exact List.mem_map_of_mem hx)
            have ey : y.r.ok = true := hall _ (by rw [hrs]; exact List.mem_map_of_mem hy)
            have e1 : cmpV r x.r y.r = cmpN r x.r y.r := by unfold cmpV; rw [hro, ex, ey]; rfl
            have e2 : cmpE r x.r y.r = 0 := by unfold cmpE; rw [hro, ex, ey]; rfl
            rw [e1, e2] at h1
            exact h1 : Calls Try.prog 18 #[r.val, x.val, y.val] W fun e w' => e = .returned (.tuple #[(cmpN r x.r y.r).val, .int .i64 0]) ∧ Gr W w'))
          have HAP : Hid (es.Pairwise (fun x y => x.r.id ≠ y.r.id)) := by
            rw [hrs, List.map_map] at hnd
            unfold List.Nodup at hnd
            rw [List.pairwise_map] at hnd
            exact hnd
          have HOK : Hid (∀ e ∈ es, 0 ≤ e.r.id ∧ e.r.id ≤ 999999) := fun e he => ok_id (hall _ (by rw [hrs]; exact List.mem_map_of_mem he))
          have HI := hid hI
          have HL := hid hl
          have HZT := hid hzt
          have HZM : Hid (z ∈ es) := hperm.mem_iff.1 (by simp)
          have HEA : Hid (∀ e ∈ z :: tl, EltIn w e) := fun e he => hI.each e (hperm.mem_iff.1 he)
          clear hI hg hpe hnd hall h24 hperm hpr hpt hzt0 hz hro hl hlt hzt hrs
          generalize pairsN r rs 2 = L2 at *
          generalize pairsN r rs 1 = L1 at *
          generalize hF2 : L2.filter (fun p => decide (p.1 ≠ z.r.id) && decide (p.2 ≠ z.r.id)) = F2 at HPF
          generalize hF1 : L1.filter (fun p => decide (p.1 ≠ z.r.id) && decide (p.2 ≠ z.r.id)) = F1 at HPF
          have HF2 := hid hF2
          have HF1 := hid hF1
          clear hF2 hF1
          have nz : (n : Int) ≤ 24 := by omega
          have nz1 : (1 : Int) ≤ (n : Int) := by omega
          have nz0 : ¬ (n : Int) = 0 := by omega
          obtain ⟨i0, hi0, hz0, hs0, hy0⟩ := info_parts info_rec
          obtain ⟨i1, hi1, hz1, hs1, hy1⟩ := info_parts info_pair
          have HI0 := hid hi0
          have HZ0 := hid hz0
          have HS0 := hid hs0
          have HY0 := hid hy0
          have HI1 := hid hi1
          have HZ1 := hid hz1
          have HS1 := hid hs1
          have HY1 := hid hy1
          clear hi0 hz0 hs0 hy0 hi1 hz1 hs1 hy1
          have hrm : IntKind.i64.wrap (Int.tmod turn (n : Int)) = (k : Int) := by
            rw [Int.tmod_eq_emod_of_nonneg (by omega), ← hk]
            exact IntWalk.i64_in _ (by omega)
          have hrm2 : Int.tmod turn (n : Int) = (k : Int) := by rw [Int.tmod_eq_emod_of_nonneg (by omega), ← hk]
          have hcv : IntKind.i64.wrap turn = turn := IntWalk.i64_in _ (by omega)
          have hwk : IntKind.i64.wrap (k : Int) = (k : Int) := IntWalk.i64_in _ (by omega)
          obtain ⟨l, dg, dy, t⟩ := r
          unfold Rul.val at *
          dsimp only at *
          have hmm := @run_makeMap Try.prog
          go_enter Try.func9, Try.ntmps9
          go_upto_region 8 with (first
            | (go_at_call 20; (with_reducible refine (HAL.out _).mono ?_); rotate_right; rintro e w1 ⟨rfl, hbw1⟩; obtain ⟨hcw1, hfw1, hzw1⟩ := hbw1.rules; (try simp at hzw1); have hzw1_0 : w.heap.size < w1.heap.size := (by omega); have hyw1_0 : w.heap.size ≤ w1.heap.size := (by omega))
            | (go_at_call 25; (with_reducible refine (HGR.out _ ?_).mono ?_); rotate_right; rintro e w2 ⟨rfl, hbw2⟩; obtain ⟨hcw2, hfw2, hzw2⟩ := hbw2.rules; (try simp at hzw2); have hzw2_0 : w.heap.size < w2.heap.size := (by omega); have hyw2_0 : w.heap.size ≤ w2.heap.size := (by omega))
            | (go_at_call 21; (with_reducible refine (HRU.out _).mono ?_); rotate_right; rintro e w3 ⟨rfl, hbw3⟩; obtain ⟨hcw3, hfw3, hzw3⟩ := hbw3.rules; (try simp at hzw3); have hzw3_0 : w.heap.size < w3.heap.size := (by omega); have hyw3_0 : w.heap.size ≤ w3.heap.size := (by omega))
            | (go_at_call 26; (with_reducible refine (HRE.out _ ?_).mono ?_); rotate_right; rintro e w4 ⟨rfl, hbw4⟩; obtain ⟨hcw4, hfw4, hzw4⟩ := hbw4.rules; (try simp at hzw4); have hzw4_0 : w.heap.size < w4.heap.size := (by omega); have hyw4_0 : w.heap.size ≤ w4.heap.size := (by omega))
            | (go_at_call 27; (with_reducible refine (HPA.out _ ?_).mono ?_); rotate_right; rintro e w5 ⟨v1, v2, rfl, ⟨A1, c1, rfl, p1⟩, ⟨A2, c2, rfl, p2⟩, hbw5⟩; have P1 := hid p1; have P2 := hid p2; clear p1 p2; obtain ⟨hcw5, hfw5, hzw5⟩ := hbw5.rules; have hzw5_0 : w.heap.size < w5.heap.size := (by omega)))
          · rw [← hk]
            have G5 : Gr w w5 := ((Gr.refl w).alloc _).trans (hbw1.trans (hbw2.trans (hbw3.trans (hbw4.trans hbw5))))
            have HG5 := hid G5
            have HR5 : Hid (w5.heap[w.heap.size]? = some (.cells #[.int .i64 l, .int .i64 dg, .int .i64 dy, .int .i64 t] 23 (0, 0))) := row_gr (heap_alloc_new w _) (hbw1.trans (hbw2.trans (hbw3.trans (hbw4.trans hbw5))))
            clear hbw1 hbw2 hbw3 hbw4 hbw5 hcw1 hcw2 hcw3 hcw4 hcw5 hfw1 hfw2 hfw3 hfw4 hfw5 hzw1 hzw2 hzw3 hzw4 hzw5 hzw1_0 hzw2_0 hzw3_0 hzw4_0 hzw5_0 hyw1_0 hyw2_0 hyw3_0 hyw4_0 hrm hrm2 hcv G5 hk
            go_cut [12] (fun s12 wx => ∃ B cb, s12 = .slice B n cb ∧ Gr w5 wx ∧ Hid (RecsIn wx B n (z :: tl)) ∧ n ≤ cb)
            case first => as_aux_lemma =>
              have HI5 := hid (HI.out.gr HG5.out)
              refine wp_region_plan (C := fun w' => ∃ p : GrW w5, w' = p.W) (.take 1 (.take 2 (.take 3 (.take 5 (.take 6 (.take 7 (.one 0 (.one 4 (.one 8 (.take 9 .done)))))))))) (by rfl) (by kernel_rfl) (by kernel_rfl) ⟨⟨_, (Gr.refl w5).drew⟩, rfl⟩ ?_
              (iterate 2 ((refine plan_read rfl rfl (fun K hK => ?_)); go_big_quiet_op; (with_reducible refine hK _ ?_); clear hK K))
              refine plan_slice_from rfl 58 29 _ _ rfl i0 8 Try.underlying58 HI0.out HS0.out A n c k .i64 rfl rfl (by omega) hnc ?_
              intro Af hcutf
              have HFr : Hid (Rd w5 8 Af (n - k) ((es.drop k).flatMap Elt.cells)) := by
                have h := hcutf w5 _ HI5.out.rd
                rw [flat_drop] at h
                exact h
              clear hcutf
              simp only [Act.put, List.setIfInBounds_toArray, List.set_cons_zero, List.set_cons_succ]
              (iterate 2 ((refine plan_read rfl rfl (fun K hK => ?_)); go_big_quiet_op; (with_reducible refine hK _ ?_); clear hK K))
              refine plan_slice_to rfl 58 29 _ _ rfl i0 Try.underlying58 HI0.out A n c k .i64 rfl rfl (by omega) hnc ?_
              simp only [Act.put, List.setIfInBounds_toArray, List.set_cons_zero, List.set_cons_succ]
              have HTo : Hid (Rd w5 8 A k ((es.take k).flatMap Elt.cells)) := by
                have h := HI5.out.rd.first (k := k) (by omega)
                rw [flat_take] at h
                exact h
              (refine plan_one rfl (fun K hK => ?_))
              go_simp
              refine hK.out _ _ ⟨⟨_, (Gr.refl w5).drew.alloc _⟩, rfl⟩ ?_
              clear hK K
              (refine plan_one rfl (fun K hK => ?_))
              refine wp_append_rd (.tmp 70) (.tmp 73) 58 rfl w5.heap.size 29 i0 (.agg #[.int .i64 0, .slice none 0 0, .int .u8 0, .int .i64 0, .int .i64 0, .string ByteArray.empty, .bool false, .slice none 0 0]) 8 104 Try.underlying58 HI0.out HZ0.out HS0.out HY0.out rfl (by decide) _ _ _ rfl (own_new w5.drew w5.heap.size 29 8 rfl) Af (n - k) (c - k) _ rfl (HFr.out.gr ((Gr.refl w5).drew.alloc _)) (flatE_one _) (by have : maxLen = 9223372036854775807 := rfl; omega) (by omega) (by simp; try omega) ?_
              intro A3 c3 w6 hown hgrow hbel
              have G6 := hid (show Gr w5 w6 from Below.trans ((Gr.refl w5).drew.alloc _) hbel)
              rw [Nat.zero_add, List.nil_append] at hown
              have K6 := hid hown
              refine hK.out _ _ ⟨⟨w6, G6.out⟩, rfl⟩ ?_
              clear hK K hown hgrow hbel
              simp only [Act.put, List.setIfInBounds_toArray, List.set_cons_zero, List.set_cons_succ, Nat.zero_add]
              (refine plan_one rfl (fun K hK => ?_))
              refine wp_append_rd (.tmp 74) (.tmp 77) 58 rfl w5.heap.size 29 i0 (.agg #[.int .i64 0, .slice none 0 0, .int .u8 0, .int .i64 0, .int .i64 0, .string ByteArray.empty, .bool false, .slice none 0 0]) 8 104 Try.underlying58 HI0.out HZ0.out HS0.out HY0.out rfl (by decide) _ _ _ rfl K6.out A k c _ rfl (HTo.out.gr G6.out) (flatE_one _) (by have : maxLen = 9223372036854775807 := rfl; omega) (by omega) (by have h := G6.out.size; exact h) ?_
              intro A4 c4 w7 hown hgrow hbel
              have G7 := hid (show Gr w5 w7 from Below.trans G6.out hbel)
              rw [show n - k + k = n by omega, ← List.flatMap_append, HZT.out] at hown
              have K7 := hid hown
              rw [show n - k + k = n by omega]
              refine hK.out _ _ ⟨⟨w7, G7.out⟩, rfl⟩ ?_
              clear hK K hown hgrow hbel
              simp only [Act.put, List.setIfInBounds_toArray, List.set_cons_zero, List.set_cons_succ]
              (iterate 1 ((refine plan_read rfl rfl (fun K hK => ?_)); go_big_quiet_op; (with_reducible refine hK _ ?_); clear hK K))
              (with_reducible refine plan_done ?_)
              go_wp2
              go_meet
              exact ⟨A4, c4, rfl, G7.out, hid ⟨Rd.of_own K7.out, by omega, fun e he => (HEA.out e he).gr (HG5.out.trans G7.out)⟩, (own_cap K7.out).1⟩
            case rest => as_aux_lemma =>
              obtain ⟨B, cb, rfl, GX, HT, hcb⟩ := hcut
              obtain ⟨W8, rfl⟩ : ∃ W8 : World, W8 = wc := ⟨_, rfl⟩
              have HG8 := hid (HG5.out.trans GX)
              have HR8 := hid (row_gr HR5.out GX)
              have HP1 := hid (P1.out.gr GX)
              have HP2 := hid (P2.out.gr GX)
              obtain ⟨r0, r1, r2, r3⟩ := cellsat4 HR8.out
              have hz8 : w.heap.size < W8.heap.size := (Array.getElem?_eq_some_iff.1 HR8.out).1
              clear HR5 P1 P2 HG5 GX HZT hwk
              go_upto_region 10 with (go_at_call 27; (with_reducible refine (HPT.out B cb _ HT.out).mono ?_); rintro e w9 ⟨v3, v4, rfl, ⟨A3, c3, rfl, p3⟩, ⟨A4, c4, rfl, p4⟩, hbw9⟩; have P3 := hid p3; have P4 := hid p4; clear p3 p4)
              have HG9 := hid (HG8.out.trans hbw9)
              have HR9 := hid (row_gr HR8.out hbw9)
              have HT9 := hid (HT.out.gr hbw9)
              have HP19 := hid (HP1.out.gr hbw9)
              have HP29 := hid (HP2.out.gr hbw9)
              clear HG8 HR8 HT HP1 HP2 hbw9 r0 r1 r2 r3 hz8
              go_cut [16, 17, 18] (fun s16 s17 s18 wx => ∃ A5 c5 A6 c6, s16 = .slice A5 F2.length c5 ∧ s17 = .slice A6 F1.length c6 ∧ s18 = .int .i64 0 ∧ Gr w9 wx ∧ Hid (Rd wx 2 A5 F2.length (pcells F2)) ∧ Hid (Rd wx 2 A6 F1.length (pcells F1)))
              case first => as_aux_lemma =>
                obtain ⟨q0, q1, q2, q3⟩ := row4 HR9.out
                refine wp_region_plan (C := fun w' => ∃ p : GrW w9, w' = p.W) (.take 0 (.take 1 (.take 2 (.one 3 (.take 4 (.take 5 (.take 6 (.take 7 (.take 8 (.take 9 (.take 10 .done))))))))))) (by rfl) (by kernel_rfl) (by kernel_rfl) ⟨⟨_, (Gr.refl w9).drew⟩, rfl⟩ ?_
                (iterate 2 ((refine plan_read rfl rfl (fun K hK => ?_)); go_big_quiet_op; (with_reducible refine hK _ ?_); clear hK K))
                refine plan_slice_from rfl 58 29 _ _ rfl i0 8 Try.underlying58 HI0.out HS0.out B n cb 1 .i64 rfl rfl (by omega) hcb ?_
                intro Af hcutf
                have HTL : Hid (RecsIn w9 Af (n - 1) tl) := by
                  have h := hcutf w9 _ HT9.out.rd
                  rw [flat_drop] at h
                  exact ⟨h, by omega, fun e he => HT9.out.each e (by simp [he])⟩
                clear hcutf
                simp only [Act.put, List.setIfInBounds_toArray, List.set_cons_zero, List.set_cons_succ]
                (refine plan_one rfl (fun K hK => ?_))
                go_simp
                refine (HPF.out _ _ _ (HTL.out.gr (Gr.refl w9).drew)).mono ?_
                rintro e w10 ⟨v5, v6, rfl, ⟨A5, c5, rfl, p5⟩, ⟨A6, c6, rfl, p6⟩, hbw10⟩
                have P5 := hid p5
                have P6 := hid p6
                have G10 := hid (show Gr w9 w10 from (Gr.refl w9).drew.trans hbw10)
                refine hK.out _ _ ⟨⟨w10, G10.out⟩, rfl⟩ ?_
                clear hK K p5 p6 hbw10
                try simp only [Act.put, List.setIfInBounds_toArray, List.set_cons_zero, List.set_cons_succ]
                (iterate 7 ((refine plan_read rfl rfl (fun K hK => ?_)); go_big_quiet_op; (with_reducible refine hK _ ?_); clear hK K))
                (with_reducible refine plan_done ?_)
                go_wp2
                go_meet
                exact ⟨A5, c5, A6, c6, rfl, rfl, rfl, G10.out, P5, P6⟩
              case rest => as_aux_lemma =>
                obtain ⟨A5, c5, A6, c6, rfl, rfl, rfl, GX, P5, P6⟩ := hcut
                obtain ⟨W11, rfl⟩ : ∃ W11 : World, W11 = wc := ⟨_, rfl⟩
                have HG11 := hid (HG9.out.trans GX)
                have HR11 := hid (row_gr HR9.out GX)
                have HT11 := hid (HT9.out.gr GX)
                have HP1 := hid (HP19.out.gr GX)
                have HP2 := hid (HP29.out.gr GX)
                have HP3 := hid (P3.out.gr GX)
                have HP4 := hid (P4.out.gr GX)
                clear HG9 HR9 HT9 HP19 HP29 P3 P4 GX HPA HPT HPF HRE HRU HGR HAL
                go_wp2_with (first
                  | (go_at_call 28; (with_reducible refine (samePairs_any L2 A1 c1 A3 c3 _ HP1.out HP3.out (by have := HPX.out.few2; omega)).mono ?_); rintro e w12 ⟨rfl, hbw12⟩)
                  | (go_at_call 28; (with_reducible refine (samePairs_any L1 A2 c2 A4 c4 _ (HP2.out.gr hbw12) (HP4.out.gr hbw12) (by have := HPX.out.few1; omega)).mono ?_); rintro e w13 ⟨rfl, hbw13⟩))
                have GX := hbw12.trans hbw13
                have hM0 : MapIs Try.prog 3 (Value.int .i64) (w13.alloc (.map #[] 0)) w13.heap.size (byF (es.take 0)) := (MapIs.new _).congr (fun q => by simp [byF])
                have HG13 := hid (HG11.out.trans GX)
                have HR13 := hid (row_gr HR11.out GX)
                have HT13 := hid (HT11.out.gr GX)
                have HQ1 := hid (HP1.out.gr GX)
                have HQ2 := hid (HP2.out.gr GX)
                have HQ5 := hid (P5.out.gr GX)
                have HQ6 := hid (P6.out.gr GX)
                have hG0 : Gr w13 (w13.alloc (.map #[] 0)) := (Gr.refl w13).alloc _
                have hlt0 : w13.heap.size < (w13.alloc (.map #[] 0)).heap.size := by simp
                obtain ⟨mb, hmb⟩ : ∃ mb, mb = w13.heap.size := ⟨_, rfl⟩
                have HMB := hid hmb
                rw [← hmb] at hM0 hlt0 ⊢
                generalize w13.alloc (.map #[] 0) = W0 at hM0 hG0 hlt0 ⊢
                have HM0 := hid hM0
                clear HG11 HR11 HT11 HP1 HP2 HP3 HP4 P5 P6 GX hbw12 hbw13 hM0 hmb
                -- the records by their Ids
                go_loopg [119] n (fun gg s119 wr => ∃ i : Nat, i ≤ n ∧ n - i ≤ gg ∧ s119 = .int .i64 i ∧ Gr w13 wr ∧ mb < wr.heap.size ∧ Hid (MapIs Try.prog 3 (Value.int .i64) wr mb (byF (es.take i))))
                case atStart => exact ⟨0, Nat.zero_le _, by omega, rfl, hG0, hlt0, HM0⟩
                case round =>
                  clear HM0 hG0 hlt0
                  obtain ⟨i, hi, hgi, rfl, BW, hlt, HM⟩ := hrel
                  by_cases hil : i < n
                  · have hiz : (i : Int) < (n : Int) := by omega
                    have hi0 : (0 : Int) ≤ (i : Int) := by omega
                    obtain ⟨hie, hE, b, off, rfl, hbl, a0, a1, a2, a3, a4, a5, a6, a7⟩ := (HI.out.gr (HG13.out.trans BW)).at_ hil
                    have hby := byF_take HAP.out hie
                    have hids := HOK.out _ (mem_get hie)
                    generalize es[i]! = x at a0 a1 a2 a3 a4 a5 a6 a7 hby hids
                    obtain ⟨⟨id, names, suf, lo, hi, num, tw, stays⟩, A9, n9, c9, B9, m9, d9⟩ := x
                    dsimp only at *
                    have HBY := hid hby
                    clear hE hie hbl hby
                    go_wp2_with ((with_reducible show wpList _ _ _ (⟨none, Op.mapUpdate _ _ _ _, _, _, _, _⟩ :: _) _ _); refine wpList_mapUpdate_is (Value.int .i64) _ rfl (.tmp 123) (.tmp 125) (.tmp 126) 65 rfl keyed_int (fun p q => int_inj p q) Try.underlying65 mb (byF (es.take i)) rfl (HM.out.alloc _) id (.agg #[.int .i64 id, .slice A9 n9 c9, .int .u8 suf, .int .i64 lo, .int .i64 hi, .string num, .bool tw, .slice B9 m9 d9]) _ rfl rfl (key_int _ (by omega)) ?_; intro w2 hm2 hg2 hz2; have HM2 := hid hm2; have HG2 := hid hg2; clear hm2 hg2)
                    go_roundg (n - (i + 1))
                    case measure => omega
                    case rel =>
                      refine ⟨i + 1, by omega, by omega, by go_num, Gr.grown (BW.alloc _) HG2.out (fun q hq => by injection hq with hq; have := HMB.out; omega), by simp at hz2; omega, ?_⟩
                      exact hid (HM2.out.congr (fun q => HBY.out q))
                  · obtain rfl : i = n := by omega
                    have hiz : ¬ (i : Int) < (i : Int) := by omega
                    have htk : es.take i = es := List.take_of_length_le (Nat.le_of_eq HL.out)
                    rw [htk] at HM
                    have hM1 : MapIs Try.prog 68 enc2 (wr.alloc (.map #[] 0)) wr.heap.size (fndI L1 L2 0) := (MapIs.new _).congr (fun q => rfl)
                    have HBW := hid BW
                    have HMB2 := hid HM.out
                    clear htk HM
                    go_wp2_with fail
                    have hG1 : Gr wr (wr.alloc (.map #[] 0)) := (Gr.refl wr).alloc _
                    have hlt1 : wr.heap.size < (wr.alloc (.map #[] 0)).heap.size := by simp
                    obtain ⟨fb, hfb⟩ : ∃ fb, fb = wr.heap.size := ⟨_, rfl⟩
                    have HFB := hid hfb
                    rw [← hfb] at hM1 hlt1 ⊢
                    obtain ⟨wf, rfl⟩ : ∃ wf : World, wf = wr := ⟨_, rfl⟩
                    generalize wf.alloc (.map #[] 0) = W1 at hM1 hG1 hlt1 ⊢
                    have HM1 := hid hM1
                    clear hM1 hfb BW
                    have hix0 := index_two0
                    have hix1 := index_two1
                    go_loopg [132] 2 (fun gg s132 wr => ∃ i : Nat, i ≤ 2 ∧ 2 - i ≤ gg ∧ s132 = .int .i64 i ∧ Gr wf wr ∧ fb < wr.heap.size ∧ Hid (MapIs Try.prog 68 enc2 wr fb (fndI L1 L2 i)))
                    case atStart => exact ⟨0, by omega, by omega, rfl, hG1, hlt1, HM1⟩
                    case round =>
                      clear HM1 hG1 hlt1
                      obtain ⟨k0, hk0, hgk0, rfl, CW, hfl, HM⟩ := hrel
                      have hk3 : k0 = 0 ∨ k0 = 1 ∨ k0 = 2 := by omega
                      rcases hk3 with rfl | rfl | rfl
                      · as_aux_lemma => -- those that may be
                        rw [show ((0 : Nat) : Int) = 0 from rfl]
                        have HL := hid (HQ2.out.gr (HBW.out.trans CW))
                        have HSO := hid HPX.out.so1
                        have hfew := HPX.out.few1
                        obtain ⟨m, hm⟩ : ∃ m, m = L1.length := ⟨_, rfl⟩
                        rw [← hm] at hfew
                        have HMM := hid hm
                        have HCW := hid CW
                        have HIDS : Hid (∀ p, p ∈ L1 → (0 ≤ p.1 ∧ p.1 ≤ 999999) ∧ (0 ≤ p.2 ∧ p.2 ≤ 999999)) := fun p hp => HPX.out.ids p (by first | exact .inl hp | exact .inr hp)
                        have mz : (m : Int) ≤ 576 := by omega
                        obtain ⟨wi, rfl⟩ : ∃ wi : World, wi = wr := ⟨_, rfl⟩
                        go_wp2_with fail
                        rw [← hm]
                        clear hm CW
                        go_loopg [138] m (fun gg s138 wr => ∃ q : Nat, q ≤ m ∧ m - q ≤ gg ∧ s138 = .int .i64 q ∧ Gr wf wr ∧ fb < wr.heap.size ∧ Hid (MapIs Try.prog 68 enc2 wr fb (layF 1 (L1.take q) (fun _ => none))))
                        case atStart => exact ⟨0, Nat.zero_le _, by omega, rfl, HCW.out, hfl, HM.out.congr (fun p => by rw [List.take_zero, layF_nil]; rfl)⟩
                        case round =>
                          clear HM
                          obtain ⟨q, hq, hgq, rfl, DW, hfl, HM⟩ := hrel
                          by_cases hql : q < m
                          · have hqz : (q : Int) < (m : Int) := by omega
                            have hq0 : (0 : Int) ≤ (q : Int) := by omega
                            have hqL : q < L1.length := by have := HMM.out; omega
                            obtain ⟨b, off, rfl, hbl, hc⟩ := (HQ2.out.gr (HBW.out.trans DW)).at_ (by omega)
                            obtain ⟨g0, g1⟩ := pcells_get L1 q hqL
                            have b0 := hc _ _ g0
                            have b1 := hc _ _ g1
                            rw [← Nat.add_assoc] at b1
                            have hids := HIDS.out _ (mem_get hqL)
                            have HTK := hid (fun p => layF_take (c := 1) (G := fun _ => none) hqL p)
                            rcases Nat.eq_zero_or_pos q with hq1 | hq1
                            · subst hq1
                              rw [Nat.zero_mul, Nat.add_zero] at b0 b1
                              generalize L1[0]! = p at b0 b1 hids HTK
                              obtain ⟨x, y⟩ := p
                              dsimp only at b0 b1 hids
                              obtain ⟨lk, hlk⟩ := key_pair x y hids.1 hids.2
                              have HLK := hid hlk
                              clear hc g0 g1 hbl hlk hids
                              go_wp2_with fail
                              go_quiet (fail)
                              have HMD := hid ((HM.out.alloc (.cells #[.int .i64 x, .int .i64 y] 68)).drewN nq)
                              clear HM
                              go_wp2_with ((with_reducible show wpList _ _ _ (⟨none, Op.mapUpdate _ _ _ _, _, _, _, _⟩ :: _) _ _); refine wpList_mapUpdate_is enc2 _ rfl (.tmp 178) (.tmp 179) (.tmp 182) 66 rfl keyed_pair enc2_inj Try.underlying66 fb _ rfl HMD.out (x, y) (.int .u8 1) lk rfl rfl HLK.out ?_; intro w2 hm2 hg2 hz2; have HM2 := hid hm2; have HG2 := hid hg2; clear hm2 hg2)
                              go_roundg (m - (0 + 1))
                              case measure => omega
                              case rel => exact ⟨1, by omega, by omega, by go_num, Gr.grown ((DW.alloc _).drewN _) HG2.out (fun k hk => by injection hk with hk; have := HFB.out; omega), by simp at hz2; omega, hid (HM2.out.congr (fun p => HTK.out p))⟩
                            · obtain ⟨j, rfl⟩ : ∃ j, q = j + 1 := ⟨q - 1, by omega⟩
                              obtain ⟨g2, g3⟩ := pcells_get L1 j (by omega)
                              have a0 := hc _ _ g2
                              have a1 := hc _ _ g3
                              rw [← Nat.add_assoc] at a1
                              have hlx : lexlt L1[j]! L1[j + 1]! := by
                                rw [getElem!_pos L1 j (by omega), getElem!_pos L1 (j + 1) hqL]
                                exact List.pairwise_iff_getElem.1 HSO.out j (j + 1) (by omega) hqL (by omega)
                              generalize L1[j + 1]! = p at b0 b1 hids HTK hlx
                              generalize L1[j]! = p' at a0 a1 hlx
                              obtain ⟨x, y⟩ := p
                              obtain ⟨x', y'⟩ := p'
                              unfold lexlt at hlx
                              dsimp only at a0 a1 b0 b1 hids hlx
                              obtain ⟨lk, hlk⟩ := key_pair x y hids.1 hids.2
                              have HLK := hid hlk
                              have hj0 : (0 : Int) ≤ (j : Int) := by omega
                              have hj1 : (0 : Int) ≤ (j : Int) + 1 := by omega
                              have hjp : (0 : Int) < (j : Int) + 1 := by omega
                              have hjm1 : (j : Int) < (m : Int) := by omega
                              have hjm2 : (j : Int) + 1 < (m : Int) := by omega
                              have hjt : ((j : Int) + 1).toNat = j + 1 := by omega
                              have hjw : IntKind.i64.wrap ((j : Int) + 1 - 1) = (j : Int) := by rw [IntKind.wrap_i64]; omega
                              have hjw2 : IntKind.i64.wrap (j : Int) = (j : Int) := by rw [IntKind.wrap_i64]; omega
                              clear hc g0 g1 g2 g3 hlk hids
                              rcases hlx with hlx | ⟨hlx, hly⟩
                              · have n1 : ¬ x < x' := by omega
                                have n2 : ¬ x = x' := by omega
                                go_wp2_with fail
                                go_quiet (fail)
                                have HMD := hid ((HM.out.alloc (.cells #[.int .i64 x, .int .i64 y] 68)).drewN nq)
                                clear HM
                                go_wp2_with ((with_reducible show wpList _ _ _ (⟨none, Op.mapUpdate _ _ _ _, _, _, _, _⟩ :: _) _ _); refine wpList_mapUpdate_is enc2 _ rfl (.tmp 178) (.tmp 179) (.tmp 182) 66 rfl keyed_pair enc2_inj Try.underlying66 fb _ rfl HMD.out (x, y) (.int .u8 1) lk rfl rfl HLK.out ?_; intro w2 hm2 hg2 hz2; have HM2 := hid hm2; have HG2 := hid hg2; clear hm2 hg2)
                                go_roundg (m - (j + 1 + 1))
                                case measure => omega
                                case rel => exact ⟨j + 1 + 1, by omega, by omega, by go_num, Gr.grown ((DW.alloc _).drewN _) HG2.out (fun k hk => by injection hk with hk; have := HFB.out; omega), by simp at hz2; omega, hid (HM2.out.congr (fun p => HTK.out p))⟩
                              · subst hlx
                                have n1 : ¬ x' < x' := by omega
                                have n2 : ¬ y ≤ y' := by omega
                                go_wp2_with fail
                                go_quiet (fail)
                                have HMD := hid ((HM.out.alloc (.cells #[.int .i64 x', .int .i64 y] 68)).drewN nq)
                                clear HM
                                go_wp2_with ((with_reducible show wpList _ _ _ (⟨none, Op.mapUpdate _ _ _ _, _, _, _, _⟩ :: _) _ _); refine wpList_mapUpdate_is enc2 _ rfl (.tmp 178) (.tmp 179) (.tmp 182) 66 rfl keyed_pair enc2_inj Try.underlying66 fb _ rfl HMD.out (x', y) (.int .u8 1) lk rfl rfl HLK.out ?_; intro w2 hm2 hg2 hz2; have HM2 := hid hm2; have HG2 := hid hg2; clear hm2 hg2)
                                go_roundg (m - (j + 1 + 1))
                                case measure => omega
                                case rel => exact ⟨j + 1 + 1, by omega, by omega, by go_num, Gr.grown ((DW.alloc _).drewN _) HG2.out (fun k hk => by injection hk with hk; have := HFB.out; omega), by simp at hz2; omega, hid (HM2.out.congr (fun p => HTK.out p))⟩
                          · obtain rfl : q = m := by omega
                            have hqz : ¬ (q : Int) < (q : Int) := by omega
                            go_wp2
                            rw [HMM.out]
                            go_roundg (2 - 1)
                            case measure => omega
                            case rel =>
                              refine ⟨1, by omega, by omega, by go_num, DW, hfl, ?_⟩
                              have h := HM.out
                              rw [List.take_of_length_le (Nat.le_of_eq HMM.out.symm)] at h
                              exact h
                      · as_aux_lemma => -- those that are
                        rw [show ((1 : Nat) : Int) = 1 from rfl]
                        have HL := hid (HQ1.out.gr (HBW.out.trans CW))
                        have HSO := hid HPX.out.so2
                        have hfew := HPX.out.few2
                        obtain ⟨m, hm⟩ : ∃ m, m = L2.length := ⟨_, rfl⟩
                        rw [← hm] at hfew
                        have HMM := hid hm
                        have HCW := hid CW
                        have HIDS : Hid (∀ p, p ∈ L2 → (0 ≤ p.1 ∧ p.1 ≤ 999999) ∧ (0 ≤ p.2 ∧ p.2 ≤ 999999)) := fun p hp => HPX.out.ids p (by first | exact .inl hp | exact .inr hp)
                        have mz : (m : Int) ≤ 576 := by omega
                        obtain ⟨wi, rfl⟩ : ∃ wi : World, wi = wr := ⟨_, rfl⟩
                        go_wp2_with fail
                        rw [← hm]
                        clear hm CW
                        go_loopg [138] m (fun gg s138 wr => ∃ q : Nat, q ≤ m ∧ m - q ≤ gg ∧ s138 = .int .i64 q ∧ Gr wf wr ∧ fb < wr.heap.size ∧ Hid (MapIs Try.prog 68 enc2 wr fb (layF 2 (L2.take q) (layF 1 L1 (fun _ => none)))))
                        case atStart => exact ⟨0, Nat.zero_le _, by omega, rfl, HCW.out, hfl, HM.out.congr (fun p => by rw [List.take_zero, layF_nil]; rfl)⟩
                        case round =>
                          clear HM
                          obtain ⟨q, hq, hgq, rfl, DW, hfl, HM⟩ := hrel
                          by_cases hql : q < m
                          · have hqz : (q : Int) < (m : Int) := by omega
                            have hq0 : (0 : Int) ≤ (q : Int) := by omega
                            have hqL : q < L2.length := by have := HMM.out; omega
                            obtain ⟨b, off, rfl, hbl, hc⟩ := (HQ1.out.gr (HBW.out.trans DW)).at_ (by omega)
                            obtain ⟨g0, g1⟩ := pcells_get L2 q hqL
                            have b0 := hc _ _ g0
                            have b1 := hc _ _ g1
                            rw [← Nat.add_assoc] at b1
                            have hids := HIDS.out _ (mem_get hqL)
                            have HTK := hid (fun p => layF_take (c := 2) (G := layF 1 L1 (fun _ => none)) hqL p)
                            rcases Nat.eq_zero_or_pos q with hq1 | hq1
                            · subst hq1
                              rw [Nat.zero_mul, Nat.add_zero] at b0 b1
                              generalize L2[0]! = p at b0 b1 hids HTK
                              obtain ⟨x, y⟩ := p
                              dsimp only at b0 b1 hids
                              obtain ⟨lk, hlk⟩ := key_pair x y hids.1 hids.2
                              have HLK := hid hlk
                              clear hc g0 g1 hbl hlk hids
                              go_wp2_with fail
                              go_quiet (fail)
                              have HMD := hid ((HM.out.alloc (.cells #[.int .i64 x, .int .i64 y] 68)).drewN nq)
                              clear HM
                              go_wp2_with ((with_reducible show wpList _ _ _ (⟨none, Op.mapUpdate _ _ _ _, _, _, _, _⟩ :: _) _ _); refine wpList_mapUpdate_is enc2 _ rfl (.tmp 178) (.tmp 179) (.tmp 182) 66 rfl keyed_pair enc2_inj Try.underlying66 fb _ rfl HMD.out (x, y) (.int .u8 2) lk rfl rfl HLK.out ?_; intro w2 hm2 hg2 hz2; have HM2 := hid hm2; have HG2 := hid hg2; clear hm2 hg2)
                              go_roundg (m - (0 + 1))
                              case measure => omega
                              case rel => exact ⟨1, by omega, by omega, by go_num, Gr.grown ((DW.alloc _).drewN _) HG2.out (fun k hk => by injection hk with hk; have := HFB.out; omega), by simp at hz2; omega, hid (HM2.out.congr (fun p => HTK.out p))⟩
                            · obtain ⟨j, rfl⟩ : ∃ j, q = j + 1 := ⟨q - 1, by omega⟩
                              obtain ⟨g2, g3⟩ := pcells_get L2 j (by omega)
                              have a0 := hc _ _ g2
                              have a1 := hc _ _ g3
                              rw [← Nat.add_assoc] at a1
                              have hlx : lexlt L2[j]! L2[j + 1]! := by
                                rw [getElem!_pos L2 j (by omega), getElem!_pos L2 (j + 1) hqL]
                                exact List.pairwise_iff_getElem.1 HSO.out j (j + 1) (by omega) hqL (by omega)
                              generalize L2[j + 1]! = p at b0 b1 hids HTK hlx
                              generalize L2[j]! = p' at a0 a1 hlx
                              obtain ⟨x, y⟩ := p
                              obtain ⟨x', y'⟩ := p'
                              unfold lexlt at hlx
                              dsimp only at a0 a1 b0 b1 hids hlx
                              obtain ⟨lk, hlk⟩ := key_pair x y hids.1 hids.2
                              have HLK := hid hlk
                              have hj0 : (0 : Int) ≤ (j : Int) := by omega
                              have hj1 : (0 : Int) ≤ (j : Int) + 1 := by omega
                              have hjp : (0 : Int) < (j : Int) + 1 := by omega
                              have hjm1 : (j : Int) < (m : Int) := by omega
                              have hjm2 : (j : Int) + 1 < (m : Int) := by omega
                              have hjt : ((j : Int) + 1).toNat = j + 1 := by omega
                              have hjw : IntKind.i64.wrap ((j : Int) + 1 - 1) = (j : Int) := by rw [IntKind.wrap_i64]; omega
                              have hjw2 : IntKind.i64.wrap (j : Int) = (j : Int) := by rw [IntKind.wrap_i64]; omega
                              clear hc g0 g1 g2 g3 hlk hids
                              rcases hlx with hlx | ⟨hlx, hly⟩
                              · have n1 : ¬ x < x' := by omega
                                have n2 : ¬ x = x' := by omega
                                go_wp2_with fail
                                go_quiet (fail)
                                have HMD := hid ((HM.out.alloc (.cells #[.int .i64 x, .int .i64 y] 68)).drewN nq)
                                clear HM
                                go_wp2_with ((with_reducible show wpList _ _ _ (⟨none, Op.mapUpdate _ _ _ _, _, _, _, _⟩ :: _) _ _); refine wpList_mapUpdate_is enc2 _ rfl (.tmp 178) (.tmp 179) (.tmp 182) 66 rfl keyed_pair enc2_inj Try.underlying66 fb _ rfl HMD.out (x, y) (.int .u8 2) lk rfl rfl HLK.out ?_; intro w2 hm2 hg2 hz2; have HM2 := hid hm2; have HG2 := hid hg2; clear hm2 hg2)
                                go_roundg (m - (j + 1 + 1))
                                case measure => omega
                                case rel => exact ⟨j + 1 + 1, by omega, by omega, by go_num, Gr.grown ((DW.alloc _).drewN _) HG2.out (fun k hk => by injection hk with hk; have := HFB.out; omega), by simp at hz2; omega, hid (HM2.out.congr (fun p => HTK.out p))⟩
                              · subst hlx
                                have n1 : ¬ x' < x' := by omega
                                have n2 : ¬ y ≤ y' := by omega
                                go_wp2_with fail
                                go_quiet (fail)
                                have HMD := hid ((HM.out.alloc (.cells #[.int .i64 x', .int .i64 y] 68)).drewN nq)
                                clear HM
                                go_wp2_with ((with_reducible show wpList _ _ _ (⟨none, Op.mapUpdate _ _ _ _, _, _, _, _⟩ :: _) _ _); refine wpList_mapUpdate_is enc2 _ rfl (.tmp 178) (.tmp 179) (.tmp 182) 66 rfl keyed_pair enc2_inj Try.underlying66 fb _ rfl HMD.out (x', y) (.int .u8 2) lk rfl rfl HLK.out ?_; intro w2 hm2 hg2 hz2; have HM2 := hid hm2; have HG2 := hid hg2; clear hm2 hg2)
                                go_roundg (m - (j + 1 + 1))
                                case measure => omega
                                case rel => exact ⟨j + 1 + 1, by omega, by omega, by go_num, Gr.grown ((DW.alloc _).drewN _) HG2.out (fun k hk => by injection hk with hk; have := HFB.out; omega), by simp at hz2; omega, hid (HM2.out.congr (fun p => HTK.out p))⟩
                          · obtain rfl : q = m := by omega
                            have hqz : ¬ (q : Int) < (q : Int) := by omega
                            go_wp2
                            rw [HMM.out]
                            go_roundg (2 - 2)
                            case measure => omega
                            case rel =>
                              refine ⟨2, by omega, by omega, by go_num, DW, hfl, ?_⟩
                              have h := HM.out
                              rw [List.take_of_length_le (Nat.le_of_eq HMM.out.symm)] at h
                              exact h
                      · as_aux_lemma =>
                        have HMF := hid HM.out
                        obtain ⟨N, hN⟩ : ∃ N, N = (L1 ++ L2).length := ⟨_, rfl⟩
                        have hln := MapIs.lenN HM.out enc2_inj Try.underlying66 HPX.out.nodup (found_keys L1 L2)
                        rw [← hN] at hln
                        have hsum : IntKind.i64.wrap ((L2.length : Int) + (L1.length : Int)) = (N : Int) := by
                          have h1 := HPX.out.few1
                          have h2 := HPX.out.few2
                          rw [List.length_append] at hN
                          rw [IntWalk.i64_in _ (by omega)]
                          omega
                        have HNN := hid hN
                        clear hN hix0 hix1
                        have hmb : _ := (HMB2.out.gr CW).lt
                        have HBM := hid (HMB2.out.gr CW)
                        have HGA := hid (HG13.out.trans (HBW.out.trans CW))
                        have HRA := hid (row_gr HR13.out (HBW.out.trans CW))
                        have HTA := hid (HT13.out.gr (HBW.out.trans CW))
                        have HA5 := hid (HQ5.out.gr (HBW.out.trans CW))
                        have HA6 := hid (HQ6.out.gr (HBW.out.trans CW))
                        obtain ⟨wA, rfl⟩ : ∃ wA : World, wA = wr := ⟨_, rfl⟩
                        clear HG13 HR13 HT13 HQ1 HQ2 HQ5 HQ6 HBW CW HM HMB2 HMB HFB HAP
                        go_wp2_with ((with_reducible show wpList _ _ _ (⟨some 194, _, _, _, _, _⟩ :: _) _ _); refine wpList_plain rfl (fun K hK => ?_); refine op_range (E := 29) (Value.int .i64) (.tmp 193) 65 rfl (fun p q => int_inj p q) Try.underlying65 rfl HBM.out ?_; intro wB cn hm hg; refine hK _ _ ?_; clear hK K; (try simp only [Act.put, List.setIfInBounds_toArray, List.set_cons_zero, List.set_cons_succ]); have HRg := hid hm; have HGB := hid hg; clear hm hg)
                        obtain ⟨r1, hr1⟩ : ∃ r1, r1 = wA.heap.size := ⟨_, rfl⟩
                        rw [← hr1] at HRg ⊢
                        have HR1 := hid hr1
                        clear hr1 hln hsum
                        go_loopg [195] cn (fun gg s195 wr => ∃ (left : Int → Prop) (cnt : Nat), cnt ≤ gg ∧ Gr wA wr ∧ Hid (MapRg Try.prog 3 (Value.int .i64) wr mb r1 (byF es) left cnt))
                        case atStart => exact ⟨_, cn, Nat.le_refl _, HGB.out, HRg⟩
                        case round =>
                          clear HRg HGB
                          obtain ⟨left, cnt, hcnt, BW, HRg⟩ := hrel
                          go_wp2_with ((with_reducible show wpList _ _ _ (⟨some 195, _, _, _, _, _⟩ :: _) _ _); refine wpList_plain rfl (fun K hK => ?_); refine op_next (Value.int .i64) (.tmp 194) rfl (fun p q => int_inj p q) rfl HRg.out ?_ ?_; (intro hc0 hl0; have HEnd := hid hl0; refine hK _ _ ?_; clear hK K hc0 hl0; (try simp only [Act.put, List.setIfInBounds_toArray, List.set_cons_zero, List.set_cons_succ]); refine Hid.out ?_); rotate_left; (intro q v w6 cnt6 hlq hfq hm6 hlt6 hg6 hen; obtain ⟨e, he, rfl, rfl⟩ := byF_some hfq; have HM6 := hid hm6; have HG6 := hid hg6; refine hK _ _ ?_; clear hK K hlq hfq hm6 hg6; (try simp only [Act.put, List.setIfInBounds_toArray, List.set_cons_zero, List.set_cons_succ]); refine Hid.out ?_); rotate_left)
                          · as_aux_lemma => -- all pairs have been asked for
                            refine hid ?_
                            have HGC := hid (HGA.out.trans BW)
                            have HB5 := hid (HA5.out.gr BW)
                            have HB6 := hid (HA6.out.gr BW)
                            have HTC := hid (HTA.out.gr BW)
                            have HFC := hid (HMF.out.gr BW)
                            obtain ⟨wC, rfl⟩ : ∃ wC : World, wC = wr := ⟨_, rfl⟩
                            obtain ⟨m2, hm2⟩ : ∃ m2, m2 = F2.length := ⟨_, rfl⟩
                            obtain ⟨m1, hm1⟩ : ∃ m1, m1 = F1.length := ⟨_, rfl⟩
                            have HM2 := hid hm2
                            have HM1 := hid hm1
                            have h2few : m2 ≤ 576 := by
                              have h1 := HPX.out.few2
                              have h2 := List.length_filter_le (fun p : Int × Int => decide (p.1 ≠ z.r.id) && decide (p.2 ≠ z.r.id)) L2
                              rw [HF2.out] at h2
                              omega
                            have h1few : m1 ≤ 576 := by
                              have h1 := HPX.out.few1
                              have h2 := List.length_filter_le (fun p : Int × Int => decide (p.1 ≠ z.r.id) && decide (p.2 ≠ z.r.id)) L1
                              rw [HF1.out] at h2
                              omega
                            rw [← hm2] at HB5 ⊢
                            rw [← hm1] at HB6 ⊢
                            clear HRg HEnd BW HA5 HA6 HTA HMF HRA HGA hm2 hm1
                            go_wp2_with (first
                              | ((with_reducible show wpList _ _ _ (⟨some 246, _, _, _, _, _⟩ :: _) _ _); refine wpList_append_rd _ rfl (.tmp 244) (.tmp 245) 61 rfl wC.heap.size 68 i1 (.agg #[.int .i64 0, .int .i64 0]) 2 16 Try.underlying61 HI1.out HZ1.out HS1.out HY1.out rfl (by decide) _ _ _ rfl (own_new wC wC.heap.size 68 2 rfl) A5 m2 c5 (pcells F2) rfl (HB5.out.gr ((Gr.refl wC).alloc _)) (pcells_one F2) (by have : maxLen = 9223372036854775807 := rfl; omega) (by omega) (by simp) ?_; intro X7 cx7 w7 hown hbel; rw [Nat.zero_add, List.nil_append] at hown; have HO7 := hid hown; have hg7 : Gr wC w7 := Below.trans ((Gr.refl wC).alloc _) hbel; clear hown hbel; simp only [Nat.zero_add])
                              | ((with_reducible show wpList _ _ _ (⟨some 248, _, _, _, _, _⟩ :: _) _ _); refine wpList_append_rd _ rfl (.tmp 246) (.tmp 247) 61 rfl wC.heap.size 68 i1 (.agg #[.int .i64 0, .int .i64 0]) 2 16 Try.underlying61 HI1.out HZ1.out HS1.out HY1.out rfl (by decide) _ _ _ rfl HO7.out A6 m1 c6 (pcells F1) rfl (HB6.out.gr hg7) (pcells_one F1) (by have : maxLen = 9223372036854775807 := rfl; omega) (by omega) (by have := hg7.size; omega) ?_; intro X8 cx8 w8 hown hbel; rw [← pcells_append] at hown; have HO8 := hid (Rd.of_own hown); have hg8 : Gr wC w8 := Below.trans hg7 hbel; clear hown hbel))
                            have HG8 := hid hg8
                            have HF8 := hid (HFC.out.gr hg8)
                            have HT8 := hid (HTC.out.gr hg8)
                            clear HO7 hg7 hg8 HFC HTC HB5 HB6
                            have mz : ((m2 + m1 : Nat) : Int) ≤ 1152 := by omega
                            obtain ⟨M, hM⟩ : ∃ M, M = m2 + m1 := ⟨_, rfl⟩
                            have HMM := hid hM
                            have hMi : (m2 : Int) + (m1 : Int) = (M : Int) := by omega
                            rw [← hM] at mz HO8 ⊢
                            (try rw [hMi])
                            clear hMi
                            go_loopg [250] M (fun gg s250 wr => ∃ j : Nat, j ≤ M ∧ M - j ≤ gg ∧ s250 = .int .i64 j ∧ Gr w8 wr)
                            case atStart => exact ⟨0, Nat.zero_le _, by omega, rfl, Gr.refl _⟩
                            case round =>
                              clear hM
                              obtain ⟨j, hj, hgj, rfl, DW⟩ := hrel
                              by_cases hjl : j < M
                              · have hjz : (j : Int) < (M : Int) := by omega
                                have hj0 : (0 : Int) ≤ (j : Int) := by omega
                                have hjL : j < (F2 ++ F1).length := by
                                  have h1 := HM2.out; have h2 := HM1.out; have h3 := HMM.out
                                  rw [List.length_append]; omega
                                obtain ⟨b, off, rfl, hbl, hc⟩ := (HO8.out.gr DW).at_ (by omega)
                                obtain ⟨g0, g1⟩ := pcells_get (F2 ++ F1) j hjL
                                have b0 := hc _ _ g0
                                have b1 := hc _ _ g1
                                rw [← Nat.add_assoc] at b1
                                have hmem := mem_get hjL
                                generalize (F2 ++ F1)[j]! = p at b0 b1 hmem
                                obtain ⟨x, y⟩ := p
                                dsimp only at b0 b1
                                obtain ⟨hL, hx, hy⟩ : ((x, y) ∈ L1 ∨ (x, y) ∈ L2) ∧ x ≠ z.r.id ∧ y ≠ z.r.id := by
                                  rcases List.mem_append.1 hmem with h | h
                                  · rw [← HF2.out] at h
                                    obtain ⟨h1, h2⟩ := List.mem_filter.1 h
                                    simp only [Bool.and_eq_true, decide_eq_true_eq] at h2
                                    exact ⟨.inr h1, h2⟩
                                  · rw [← HF1.out] at h
                                    obtain ⟨h1, h2⟩ := List.mem_filter.1 h
                                    simp only [Bool.and_eq_true, decide_eq_true_eq] at h2
                                    exact ⟨.inl h1, h2⟩
                                have hids := HPX.out.ids _ hL
                                obtain ⟨lk, hlk⟩ := key_pair x y hids.1 hids.2
                                obtain ⟨fv, hfv⟩ : ∃ fv, fv = foundV L1 L2 (x, y) := ⟨_, rfl⟩
                                have hfv0 : ¬ fv = 0 := by
                                  rw [hfv]
                                  unfold foundV
                                  split
                                  · omega
                                  · split
                                    · omega
                                    · rename_i h1 h2
                                      rcases hL with h | h
                                      · exact absurd h h2
                                      · exact absurd h h1
                                obtain ⟨_, _, bt, ot, et, hbt, t0, _⟩ := (HT8.out.gr DW).at_ (show 0 < i by omega)
                                subst et
                                have t0' : wr.cell? ⟨bt, ot, none⟩ = some (.int .i64 z.r.id) := by
                                  have h : (z :: tl)[0]! = z := rfl
                                  rw [h, Nat.zero_mul, Nat.add_zero] at t0
                                  exact t0
                                obtain ⟨zi, hzi⟩ : ∃ zi, zi = z.r.id := ⟨_, rfl⟩
                                rw [← hzi] at t0' hx hy
                                have hlook : ∀ o z, (Instr.lookup 66 (.map (some fb)) (.agg #[.int .i64 x, .int .i64 y]) false).run Try.prog ((wr.alloc o).drewN z) = .ok (.int .u8 fv) ((wr.alloc o).drewN z) := fun o z => by
                                  have h := ((((HF8.out.gr DW).alloc o).drewN z).look keyed_pair enc2_inj Try.underlying66 hlk (zero_u8 _))
                                  rw [show fndI L1 L2 2 = layF 2 L2 (layF 1 L1 (fun _ => none)) from rfl, found_look, ← hfv] at h
                                  exact h
                                have hfz : (fv == 0) = false := by simpa using hfv0
                                have hxb : (x == zi) = false := by simpa using hx
                                have hyb : (y == zi) = false := by simpa using hy
                                clear hc g0 g1 hmem hL hids hlk t0 hzi hfv
                                go_wp2_with fail
                                go_quiet (fail)
                                go_wp2
                                go_roundg (M - (j + 1))
                                case measure => omega
                                case rel => exact ⟨j + 1, by omega, by omega, by go_num, (DW.alloc _).drewN _⟩
                              · obtain rfl : j = M := by omega
                                have hjz : ¬ (j : Int) < (j : Int) := by omega
                                have HF9 := hid (HF8.out.gr DW)
                                have HT9 := hid (HT8.out.gr DW)
                                have HG9 := hid (HG8.out.trans DW)
                                obtain ⟨wD, rfl⟩ : ∃ wD : World, wD = wr := ⟨_, rfl⟩
                                clear HF8 HT8 HG8 DW HO8
                                go_wp2_with ((with_reducible show wpList _ _ _ (⟨some 278, _, _, _, _, _⟩ :: _) _ _); refine wpList_plain rfl (fun K hK => ?_); refine op_range (E := 5) enc2 (.tmp 277) 66 rfl enc2_inj Try.underlying66 rfl HF9.out ?_; intro wE cn3 hm hg; refine hK _ _ ?_; clear hK K; (try simp only [Act.put, List.setIfInBounds_toArray, List.set_cons_zero, List.set_cons_succ]); have HRg := hid hm; have HGE := hid hg; clear hm hg)
                                obtain ⟨r3, hr3⟩ : ∃ r3, r3 = wD.heap.size := ⟨_, rfl⟩
                                rw [← hr3] at HRg ⊢
                                have HR3 := hid hr3
                                clear hr3
                                obtain ⟨T, hT⟩ : ∃ T, T = (L1 ++ L2).countP (fun p => decide (p.1 ≠ z.r.id) && decide (p.2 ≠ z.r.id)) := ⟨_, rfl⟩
                                have hTs : T = m2 + m1 := by
                                  rw [hT, List.countP_append, List.countP_eq_length_filter, List.countP_eq_length_filter, HF2.out, HF1.out, HM2.out, HM1.out]
                                  omega
                                have HTS := hid hTs
                                have HL0 : Hid ((L1 ++ L2).Nodup ∧ (∀ p, p ∈ L1 ++ L2 ↔ ∃ v, fndI L1 L2 2 p = some v) ∧ 0 + (L1 ++ L2).countP (fun p => decide (p.1 ≠ z.r.id) && decide (p.2 ≠ z.r.id)) = T) := ⟨HPX.out.nodup, found_keys L1 L2, by rw [hT]; omega⟩
                                have hTb : T ≤ 1152 := by have h := HMM.out; omega
                                clear hT hTs
                                go_loopg [35, 279] cn3 (fun gg s35 s279 wr => ∃ (left : Int × Int → Prop) (cnt rest : Nat) (Lf : List (Int × Int)), cnt ≤ gg ∧ s35 = .int .i64 rest ∧ Gr wD wr ∧ Hid (MapRg Try.prog 68 enc2 wr fb r3 (fndI L1 L2 2) left cnt) ∧ Hid (Lf.Nodup ∧ (∀ p, p ∈ Lf ↔ left p) ∧ rest + Lf.countP (fun p => decide (p.1 ≠ z.r.id) && decide (p.2 ≠ z.r.id)) = T))
                                case atStart => exact ⟨_, cn3, 0, L1 ++ L2, Nat.le_refl _, rfl, HGE.out, HRg, HL0⟩
                                case round =>
                                  clear HRg HGE HL0
                                  obtain ⟨left, cnt, rest, Lf, hcnt, rfl, DW, HRg, HLf⟩ := hrel
                                  go_wp2_with ((with_reducible show wpList _ _ _ (⟨some 279, _, _, _, _, _⟩ :: _) _ _); refine wpList_plain rfl (fun K hK => ?_); refine op_next enc2 (.tmp 278) rfl enc2_inj rfl HRg.out ?_ ?_; (intro hc0 hl0; have HEnd := hid hl0; refine hK _ _ ?_; clear hK K hc0 hl0; (try simp only [Act.put, List.setIfInBounds_toArray, List.set_cons_zero, List.set_cons_succ]); refine Hid.out ?_); rotate_left; (intro q v w6 cnt6 hlq hfq hm6 hlt6 hg6 hen; obtain ⟨x, y⟩ := q; have HM6 := hid hm6; have HG6 := hid hg6; have HLQ := hid hlq; refine hK _ _ ?_; clear hK K hlq hfq hm6 hg6; (try simp only [Act.put, List.setIfInBounds_toArray, List.set_cons_zero, List.set_cons_succ]); refine Hid.out ?_); rotate_left)
                                  · -- all have been counted
                                    refine hid ?_
                                    have hrest : rest = m2 + m1 := by
                                      obtain ⟨_, h2, h3⟩ := HLf.out
                                      have hnil : Lf = [] := List.eq_nil_iff_forall_not_mem.2 (fun p hp => HEnd.out p ((h2 p).1 hp))
                                      rw [hnil] at h3
                                      simp at h3
                                      have := HTS.out
                                      omega
                                    have hsum : IntKind.i64.wrap ((m2 : Int) + (m1 : Int)) = (rest : Int) := by rw [IntWalk.i64_in _ (by omega)]; omega
                                    have HGF := hid (HGC.out.trans (HG9.out.trans DW))
                                    clear hrest HRg HEnd HLf DW
                                    go_wp2
                                    go_ret
                                    exact ⟨rfl, HGF.out⟩
                                  · -- one more
                                    refine hid ?_
                                    have HGD := hid (DW.grown HG6.out (fun k hk => by injection hk with hk; have := HR3.out; omega))
                                    obtain ⟨_, _, bt, ot, et, hbt, t0, _⟩ := (HT9.out.gr HGD.out).at_ (show 0 < i by omega)
                                    subst et
                                    have t0' : w6.cell? ⟨bt, ot, none⟩ = some (.int .i64 z.r.id) := by
                                      have h : (z :: tl)[0]! = z := rfl
                                      rw [h, Nat.zero_mul, Nat.add_zero] at t0
                                      exact t0
                                    have hmq := (HLf.out.2.1 (x, y)).2 HLQ.out
                                    have HE : Hid ((Lf.erase (x, y)).Nodup ∧ (∀ p, p ∈ Lf.erase (x, y) ↔ left p ∧ p ≠ (x, y))) := by
                                      obtain ⟨h1, h2, _⟩ := HLf.out
                                      refine ⟨h1.erase _, fun p => ?_⟩
                                      rw [h1.mem_erase_iff, h2 p]
                                      exact ⟨fun h => ⟨h.2, h.1⟩, fun h => ⟨h.2, h.1⟩⟩
                                    have hcp : rest + (if (decide (x ≠ z.r.id) && decide (y ≠ z.r.id)) = true then 1 else 0) + (Lf.erase (x, y)).countP (fun p => decide (p.1 ≠ z.r.id) && decide (p.2 ≠ z.r.id)) = T := by
                                      have h3 := HLf.out.2.2
                                      have h4 := (List.perm_cons_erase hmq).countP_eq (fun p : Int × Int => decide (p.1 ≠ z.r.id) && decide (p.2 ≠ z.r.id))
                                      rw [h4, List.countP_cons] at h3
                                      dsimp only at h3
                                      omega
                                    have HCP := hid hcp
                                    have hrb : rest ≤ 1152 := by omega
                                    have hw1 : IntKind.i64.wrap ((rest : Int) + 1) = (rest : Int) + 1 := IntWalk.i64_in _ (by omega)
                                    obtain ⟨zi, hzi⟩ : ∃ zi, zi = z.r.id := ⟨_, rfl⟩
                                    have HZI := hid hzi
                                    rw [← hzi] at t0'
                                    unfold enc2 at hen
                                    dsimp only at hen
                                    clear t0 hmq hcp hzi HLf HLQ HRg
                                    by_cases hx : x = zi
                                    · have hxb : (x != zi) = false := by simpa using hx
                                      go_wp2_with fail
                                      go_quiet (fail)
                                      go_wp2
                                      go_roundg cnt6
                                      case measure => omega
                                      case rel =>
                                        refine ⟨_, cnt6, rest, Lf.erase (x, y), Nat.le_refl _, rfl, (HGD.out.alloc _).drewN _, hid (HM6.out.gr (((Gr.refl _).alloc _).drewN _)), HE.out.1, HE.out.2, ?_⟩
                                        have h := HCP.out
                                        rw [if_neg (by rw [← HZI.out, hx]; simp)] at h
                                        exact h
                                    · have hxb : (x != zi) = true := by simpa using hx
                                      by_cases hy : y = zi
                                      · have hyb : (y != zi) = false := by simpa using hy
                                        go_wp2_with fail
                                        go_quiet (fail)
                                        go_wp2
                                        go_roundg cnt6
                                        case measure => omega
                                        case rel =>
                                          refine ⟨_, cnt6, rest, Lf.erase (x, y), Nat.le_refl _, rfl, (HGD.out.alloc _).drewN _, hid (HM6.out.gr (((Gr.refl _).alloc _).drewN _)), HE.out.1, HE.out.2, ?_⟩
                                          have h := HCP.out
                                          rw [if_neg (by rw [← HZI.out, hy]; simp)] at h
                                          exact h
                                      · have hyb : (y != zi) = true := by simpa using hy
                                        go_wp2_with fail
                                        go_quiet (fail)
                                        go_wp2
                                        go_roundg cnt6
                                        case measure => omega
                                        case rel =>
                                          refine ⟨_, cnt6, rest + 1, Lf.erase (x, y), Nat.le_refl _, by go_num, (HGD.out.alloc _).drewN _, hid (HM6.out.gr (((Gr.refl _).alloc _).drewN _)), HE.out.1, HE.out.2, ?_⟩
                                          have h := HCP.out
                                          rw [if_pos (by rw [← HZI.out]; simp [hx, hy])] at h
                                          exact h
                          · as_aux_lemma => -- one of a pair
                            refine hid ?_
                            have HGX := hid (BW.grown HG6.out (fun k hk => by injection hk with hk; have := HR1.out; omega))
                            have hids := HOK.out e he
                            have HEE := hid he
                            obtain ⟨⟨id, names, suf, lo, hi, num, tw, stays⟩, A9, n9, c9, B9, m9, d9⟩ := e
                            unfold Elt.val Elt.cells at hen
                            dsimp only at hen hids HM6
                            clear HRg he
                            have HBM6 := hid (HBM.out.gr HGX.out)
                            go_wp2_with ((with_reducible show wpList _ _ _ (⟨some 201, _, _, _, _, _⟩ :: _) _ _); refine wpList_plain rfl (fun K hK => ?_); refine op_range (E := 29) (Value.int .i64) (.tmp 200) 65 rfl (fun p q => int_inj p q) Try.underlying65 rfl (HBM6.out.alloc _) ?_; intro wG cn2 hm hg; refine hK _ _ ?_; clear hK K; (try simp only [Act.put, List.setIfInBounds_toArray, List.set_cons_zero, List.set_cons_succ]); have HRg2 := hid hm; have HGG := hid hg; clear hm hg)
                            have HM6b := hid HM6.out
                            obtain ⟨w7, hw7⟩ : ∃ w7, w7 = w6.alloc (.cells #[.int .i64 id, .slice A9 n9 c9, .int .u8 suf, .int .i64 lo, .int .i64 hi, .string num, .bool tw, .slice B9 m9 d9] 29) := ⟨_, rfl⟩
                            have HX9 : Hid (w7.heap[w6.heap.size]? = some (.cells #[.int .i64 id, .slice A9 n9 c9, .int .u8 suf, .int .i64 lo, .int .i64 hi, .string num, .bool tw, .slice B9 m9 d9] 29 (0, 0))) := by rw [hw7]; exact heap_alloc_new w6 _
                            have HG7 : Hid (Gr w6 w7) := by rw [hw7]; exact (Gr.refl w6).alloc _
                            have hs7 : w7.heap.size = w6.heap.size + 1 := by rw [hw7]; simp
                            have HS7 := hid hs7
                            rw [← hw7] at HGG
                            have HR2 : Hid (MapRg Try.prog 3 (Value.int .i64) wG mb (w6.heap.size + 1) (byF es) (fun q => ∃ v, byF es q = some v) cn2) := by
                              have h := HRg2.out
                              simp only [World.alloc, Array.size_push] at h
                              exact h
                            obtain ⟨r2, hr2⟩ : ∃ r2, r2 = w6.heap.size + 1 := ⟨_, rfl⟩
                            rw [← hr2] at HR2
                            (try rw [← hr2])
                            (try rw [show (w6.alloc (.cells #[.int .i64 id, .slice A9 n9 c9, .int .u8 suf, .int .i64 lo, .int .i64 hi, .string num, .bool tw, .slice B9 m9 d9] 29)).heap.size = r2 by rw [← hw7, hs7, hr2]])
                            have HRR := hid hr2
                            clear HRg2 hw7 hs7 hr2 HM6 hen
                            go_loopg [202] cn2 (fun gg s202 wr => ∃ (left2 : Int → Prop) (cnt2 : Nat), cnt2 ≤ gg ∧ Gr w7 wr ∧ Hid (MapRg Try.prog 3 (Value.int .i64) wr mb r2 (byF es) left2 cnt2))
                            case atStart => exact ⟨_, cn2, Nat.le_refl _, HGG.out, HR2⟩
                            case round =>
                              clear HR2 HGG
                              obtain ⟨left2, cnt2, hcnt2, DW, HRg⟩ := hrel
                              go_wp2_with ((with_reducible show wpList _ _ _ (⟨some 202, _, _, _, _, _⟩ :: _) _ _); refine wpList_plain rfl (fun K hK => ?_); refine op_next (Value.int .i64) (.tmp 201) rfl (fun p q => int_inj p q) rfl HRg.out ?_ ?_; (intro hc0 hl0; have HEnd := hid hl0; refine hK _ _ ?_; clear hK K hc0 hl0; (try simp only [Act.put, List.setIfInBounds_toArray, List.set_cons_zero, List.set_cons_succ]); refine Hid.out ?_); rotate_left; (intro q v w8 cnt8 hlq hfq hm8 hlt8 hg8 hen; obtain ⟨e2, he2, rfl, rfl⟩ := byF_some hfq; have HM8 := hid hm8; have HG8 := hid hg8; refine hK _ _ ?_; clear hK K hlq hfq hm8 hg8; (try simp only [Act.put, List.setIfInBounds_toArray, List.set_cons_zero, List.set_cons_succ]); refine Hid.out ?_); rotate_left)
                              · refine hid ?_
                                go_wp2
                                go_roundg cnt6
                                case measure => omega
                                case rel => exact ⟨_, cnt6, Nat.le_refl _, HGX.out.trans (HG7.out.trans DW), hid (HM6b.out.gr (HG7.out.trans DW))⟩
                              · refine hid ?_
                                have HGY := hid (DW.grown HG8.out (fun k hk => by injection hk with hk; have h1 := HRR.out; have h2 := HS7.out; omega))
                                have hids2 := HOK.out e2 he2
                                have hfo := HPX.out.found _ HEE.out _ he2
                                have hcv := cmpN_range ⟨l, dg, dy, t⟩ ⟨id, names, suf, lo, hi, num, tw, stays⟩ e2.r
                                have hc1 := HCM.out _ _ HEE.out he2
                                obtain ⟨⟨id2, names2, suf2, lo2, hi2, num2, tw2, stays2⟩, A8, n8, c8, B8, m8, d8⟩ := e2
                                unfold Elt.val Elt.cells at hen hc1
                                dsimp only at hen hids2 hfo hcv hc1
                                generalize cmpN ⟨l, dg, dy, t⟩ ⟨id, names, suf, lo, hi, num, tw, stays⟩ ⟨id2, names2, suf2, lo2, hi2, num2, tw2, stays2⟩ = cv at hfo hcv hc1
                                obtain ⟨nm, nu, bi, pl, vd⟩ := cv
                                unfold Cmp.val at hc1
                                dsimp only at hfo hcv hc1
                                have HC1 : Hid (∀ W, Gr w W → Calls Try.prog 18 #[.agg #[.int .i64 l, .int .i64 dg, .int .i64 dy, .int .i64 t], .agg #[.int .i64 id, .slice A9 n9 c9, .int .u8 suf, .int .i64 lo, .int .i64 hi, .string num, .bool tw, .slice B9 m9 d9], .agg #[.int .i64 id2, .slice A8 n8 c8, .int .u8 suf2, .int .i64 lo2, .int .i64 hi2, .string num2, .bool tw2, .slice B8 m8 d8]] W fun e w' => e = .returned (.tuple #[.agg #[.int .u8 nm, .int .u8 nu, .int .u8 bi, .int .u8 pl, .int .u8 vd], .int .i64 0]) ∧ Gr W w') := hc1
                                obtain ⟨lk, hlk⟩ := key_pair id id2 hids hids2
                                have HLK := hid hlk
                                have HFO := hid hfo
                                have hgA8 := HGX.out.trans (HG7.out.trans HGY.out)
                                have HGA8 := hid hgA8
                                obtain ⟨q0, q1, q2, q3⟩ := cellsat4 (row_gr HRA.out hgA8)
                                obtain ⟨x0, x1, x2, x3, x4, x5, x6, x7⟩ := cellsat8 (row_gr HX9.out HGY.out)
                                have hzx := (Array.getElem?_eq_some_iff.1 (row_gr HX9.out HGY.out)).1
                                have hzr := (Array.getElem?_eq_some_iff.1 (row_gr HRA.out hgA8)).1
                                clear he2 hc1 hlk hfo hcv hgA8 HRg
                                go_upto_region 40 with (go_at_call 18; (with_reducible refine (HC1.out _ ?_).mono ?_); rotate_right; rintro e w9 ⟨rfl, hbw9⟩; obtain ⟨hcw9, hfw9, hzw9⟩ := hbw9.rules; (try simp at hzw9))
                                · have HF9 := hid (HMF.out.gr (HGA8.out.trans (((Gr.refl w8).alloc (.cells #[.int .i64 id2, .slice A8 n8 c8, .int .u8 suf2, .int .i64 lo2, .int .i64 hi2, .string num2, .bool tw2, .slice B8 m8 d8] 29)).trans hbw9)))
                                  have HG9 := hid (((Gr.refl w8).alloc (.cells #[.int .i64 id2, .slice A8 n8 c8, .int .u8 suf2, .int .i64 lo2, .int .i64 hi2, .string num2, .bool tw2, .slice B8 m8 d8] 29)).trans hbw9)
                                  have hlook : ∀ o z, (Instr.lookup 66 (.map (some fb)) (.agg #[.int .i64 id, .int .i64 id2]) false).run Try.prog ((w9.alloc o).drewN z) = .ok (.int .u8 (if id < id2 then vd else 0)) ((w9.alloc o).drewN z) := fun o z => by
                                    have h := (((HF9.out.alloc o).drewN z).look keyed_pair enc2_inj Try.underlying66 HLK.out (zero_u8 _))
                                    rw [show fndI L1 L2 2 = layF 2 L2 (layF 1 L1 (fun _ => none)) from rfl, found_look, HFO.out] at h
                                    exact h
                                  clear q0 q1 q2 q3 x0 x1 x2 x3 x4 x5 x6 x7 hcw9 hfw9 hzw9 hbw9 hen
                                  by_cases hxy : id < id2
                                  · have hyx : ¬ id2 ≤ id := by omega
                                    have hb1 : decide (id < id2) = true := by simpa using hxy
                                    have hb2 : decide (id2 ≤ id) = false := by simpa using hyx
                                    rw [if_pos hxy] at hlook
                                    go_quiet (fail)
                                    go_wp2
                                    go_roundg cnt8
                                    case measure => omega
                                    case rel => exact ⟨_, cnt8, Nat.le_refl _, HGY.out.trans ((HG9.out.alloc _).drewN _), hid (HM8.out.gr ((HG9.out.alloc _).drewN _))⟩
                                  · have hyx : id2 ≤ id := by omega
                                    have hb1 : decide (id < id2) = false := by simpa using hxy
                                    have hb2 : decide (id2 ≤ id) = true := by simpa using hyx
                                    rw [if_neg hxy] at hlook
                                    go_quiet (fail)
                                    go_wp2
                                    go_roundg cnt8
                                    case measure => omega
                                    case rel => exact ⟨_, cnt8, Nat.le_refl _, HGY.out.trans ((HG9.out.alloc _).drewN _), hid (HM8.out.gr ((HG9.out.alloc _).drewN _))⟩
                                · exact HGA.out.trans (HGA8.out.trans ((Gr.refl w8).alloc _))
          · (repeat (first | with_reducible exact Gr.refl _ | with_reducible refine Gr.trans ?_ hbw4 | with_reducible refine Gr.trans ?_ hbw3 | with_reducible refine Gr.trans ?_ hbw2 | with_reducible refine Gr.trans ?_ hbw1 | with_reducible refine Gr.alloc ?_ _ | with_reducible refine Gr.setCell ?_ (by simp) _ | with_reducible refine Gr.setCell ?_ (by simp; omega) _ | with_reducible refine Gr.drew ?_ | with_reducible refine Gr.drewN ?_ _))
          · (repeat (first | with_reducible exact Gr.refl _ | with_reducible refine Gr.trans ?_ hbw3 | with_reducible refine Gr.trans ?_ hbw2 | with_reducible refine Gr.trans ?_ hbw1 | with_reducible refine Gr.alloc ?_ _ | with_reducible refine Gr.setCell ?_ (by simp) _ | with_reducible refine Gr.setCell ?_ (by simp; omega) _ | with_reducible refine Gr.drew ?_ | with_reducible refine Gr.drewN ?_ _))
          · (repeat (first | with_reducible exact Gr.refl _ | with_reducible refine Gr.trans ?_ hbw1 | with_reducible refine Gr.alloc ?_ _ | with_reducible refine Gr.setCell ?_ (by simp) _ | with_reducible refine Gr.setCell ?_ (by simp; omega) _ | with_reducible refine Gr.drew ?_ | with_reducible refine Gr.drewN ?_ _))
      · generalize recsE rs = E at HRE hz
        clear hI hg hro
        obtain ⟨l, dg, dy, t⟩ := r
        unfold Rul.val at *
        dsimp only at *
        go_enter Try.func9, Try.ntmps9
        go_wp2_with (first
          | (go_at_call 20; (with_reducible refine (HAL.out _).mono ?_); rotate_right; rintro e w1 ⟨rfl, hbw1⟩; obtain ⟨hcw1, hfw1, hzw1⟩ := hbw1.rules; (try simp at hzw1); have hzw1_0 : w.heap.size < w1.heap.size := (by omega); have hyw1_0 : w.heap.size ≤ w1.heap.size := (by omega))
          | (go_at_call 25; (with_reducible refine (HGR.out _ ?_).mono ?_); rotate_right; rintro e w2 ⟨rfl, hbw2⟩; obtain ⟨hcw2, hfw2, hzw2⟩ := hbw2.rules; (try simp at hzw2); have hzw2_0 : w.heap.size < w2.heap.size := (by omega); have hyw2_0 : w.heap.size ≤ w2.heap.size := (by omega))
          | (go_at_call 21; (with_reducible refine (HRU.out _).mono ?_); rotate_right; rintro e w3 ⟨rfl, hbw3⟩; obtain ⟨hcw3, hfw3, hzw3⟩ := hbw3.rules; (try simp at hzw3); have hzw3_0 : w.heap.size < w3.heap.size := (by omega); have hyw3_0 : w.heap.size ≤ w3.heap.size := (by omega))
          | (go_at_call 26; (with_reducible refine (HRE.out _ ?_).mono ?_); rotate_right; rintro e w4 ⟨rfl, hbw4⟩; obtain ⟨hcw4, hfw4, hzw4⟩ := hbw4.rules; (try simp at hzw4); have hzw4_0 : w.heap.size < w4.heap.size := (by omega); have hyw4_0 : w.heap.size ≤ w4.heap.size := (by omega)))
        · go_ret
          exact ⟨rfl, by (repeat (first | with_reducible exact Gr.refl _ | with_reducible refine Gr.trans ?_ hbw4 | with_reducible refine Gr.trans ?_ hbw3 | with_reducible refine Gr.trans ?_ hbw2 | with_reducible refine Gr.trans ?_ hbw1 | with_reducible refine Gr.alloc ?_ _ | with_reducible refine Gr.setCell ?_ (by simp) _ | with_reducible refine Gr.setCell ?_ (by simp; omega) _ | with_reducible refine Gr.drew ?_ | with_reducible refine Gr.drewN ?_ _))⟩
        · (repeat (first | with_reducible exact Gr.refl _ | with_reducible refine Gr.trans ?_ hbw3 | with_reducible refine Gr.trans ?_ hbw2 | with_reducible refine Gr.trans ?_ hbw1 | with_reducible refine Gr.alloc ?_ _ | with_reducible refine Gr.setCell ?_ (by simp) _ | with_reducible refine Gr.setCell ?_ (by simp; omega) _ | with_reducible refine Gr.drew ?_ | with_reducible refine Gr.drewN ?_ _))
        · (repeat (first | with_reducible exact Gr.refl _ | with_reducible refine Gr.trans ?_ hbw1 | with_reducible refine Gr.alloc ?_ _ | with_reducible refine Gr.setCell ?_ (by simp) _ | with_reducible refine Gr.setCell ?_ (by simp; omega) _ | with_reducible refine Gr.drew ?_ | with_reducible refine Gr.drewN ?_ _))
end Go.Proofs.Ytlkjimfkapcenaa
