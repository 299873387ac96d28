/- The law MatchHomes, walked: all who are told to be together have a stay at one place on the day, and whoever has is told; nobody is sure for that alone. For all rules, lists and days. (Printed by gen_lawhomes1.py.) -/
import Derived.Test.YtlkjimfkapcenaaQAlive
import Derived.Test.YtlkjimfkapcenaaQCompareTop
import Derived.Test.YtlkjimfkapcenaaQPairSpec
import Derived.Test.YtlkjimfkapcenaaQHomesLaw
import Derived.Test.YtlkjimfkapcenaaQMapRg10
import Derived.Test.YtlkjimfkapcenaaQPlan
import Derived.WalkLawsBesides
import Derived.Deep.DeepCutAuto
import Derived.Deep.CutRange
namespace Go.Proofs.Ytlkjimfkapcenaa
open Go.RowKit Go.Maps

theorem zero_mb (w : World) : (zeroValue 76).run Try.prog w = .ok (.map none) w := by kernel_rfl
theorem zero_bool (w : World) : (zeroValue 4).run Try.prog w = .ok (.bool false) w := by kernel_rfl
theorem zero_rec (w : World) : (zeroValue 29).run Try.prog w = .ok (.agg #[.int .i64 0, .slice none 0 0, .int .u8 0, .int .i64 0, .int .i64 0, .string ByteArray.empty, .bool false, .slice none 0 0]) w := by kernel_rfl
theorem map_eq_some (b : Nat) (w : World) : (binOp BinOp.eql 76 (.map (some b)) (.map none)).run Try.prog w = .ok (.bool false) w := by kernel_rfl
theorem map_eq_none (w : World) : (binOp BinOp.eql 76 (.map none) (.map none)).run Try.prog w = .ok (.bool true) w := by kernel_rfl
theorem byF_get {l : List Elt} {id : Int} (h : ∃ e ∈ l, e.r.id = id) : ∃ e ∈ l, e.r.id = id ∧ byF l id = some e.val := by
  cases hb : byF l id with
  | none =>
    exfalso
    unfold byF at hb
    rw [Option.map_eq_none_iff, List.find?_eq_none] at hb
    obtain ⟨e, he, h2⟩ := h
    exact hb e he (by simpa using h2)
  | some v =>
    obtain ⟨e, he, h1, rfl⟩ := byF_some hb
    exact ⟨e, he, h1, rfl⟩
theorem map_ne_row {W : World} {b g : Nat} {f : Int → Option Value} {cs : Array Value} {t : TypeId} (h : MapIs Try.prog 3 (Value.int .i64) W b f) (hg : W.heap[g]? = some (.cells cs t (0, 0))) : g ≠ b := by
  rintro rfl
  obtain ⟨es, clock, hb, _⟩ := h
  rw [hb] at hg
  cases hg

set_option maxRecDepth 100000 in
set_option maxHeartbeats 8000000 in
theorem matchHomes_any (r : Rul) (es : List Elt) (A : Option Addr) (n c : Nat) (day : Int) (w : World) (hI : RecsIn w A n es) :
    Calls Try.prog 10 #[r.val, .slice A n c, .int .i64 day] w fun e w' => e = .returned (.bool true) ∧ Gr w w' := by
  have HGR := hid (fun W (g : Gr w W) => greatL_any A n c es W (hI.gr g))
  have HRU := hid (fun W => refRules_any r W)
  have HRE := hid (fun W (g : Gr w W) => refRecs_any A n c es W (hI.gr g))
  have HAL := hid (fun W => alive_any W)
  obtain ⟨rs, hrs⟩ : ∃ rs, rs = es.map (·.r) := ⟨_, rfl⟩
  rw [← hrs] at HGR HRE
  cases hg : greatL rs with
  | true =>
    rw [hg] at HGR
    clear hI hg HRE HRU
    obtain ⟨l, dg, dy, t⟩ := r
    unfold Rul.val at *
    dsimp only at *
    go_enter Try.func10, Try.ntmps10
    go_wp2_with (first
      | (go_at_call 20; (with_reducible refine (HAL.out _).mono ?_); rotate_right; rintro e w1 ⟨rfl, hbw1⟩; obtain ⟨hcw1, hfw1, hzw1⟩ := hbw1.rules; (try simp at hzw1); have hzw1_0 : w.heap.size < w1.heap.size := (by omega); have hyw1_0 : w.heap.size ≤ w1.heap.size := (by omega))
      | (go_at_call 25; (with_reducible refine (HGR.out _ ?_).mono ?_); rotate_right; rintro e w2 ⟨rfl, hbw2⟩; obtain ⟨hcw2, hfw2, hzw2⟩ := hbw2.rules; (try simp at hzw2); have hzw2_0 : w.heap.size < w2.heap.size := (by omega); have hyw2_0 : w.heap.size ≤ w2.heap.size := (by omega)))
    · go_ret
      exact ⟨rfl, by (repeat (first | with_reducible exact Gr.refl _ | with_reducible refine Gr.trans ?_ hbw2 | with_reducible refine Gr.trans ?_ hbw1 | with_reducible refine Gr.alloc ?_ _ | with_reducible refine Gr.setCell ?_ (by simp) _ | with_reducible refine Gr.setCell ?_ (by simp; omega) _ | with_reducible refine Gr.drew ?_ | with_reducible refine Gr.drewN ?_ _))⟩
    · (repeat (first | with_reducible exact Gr.refl _ | with_reducible refine Gr.trans ?_ hbw1 | with_reducible refine Gr.alloc ?_ _ | with_reducible refine Gr.setCell ?_ (by simp) _ | with_reducible refine Gr.setCell ?_ (by simp; omega) _ | with_reducible refine Gr.drew ?_ | with_reducible refine Gr.drewN ?_ _))
  | false =>
    rw [hg] at HGR
    cases hro : r.ok with
    | false =>
      rw [hro] at HRU
      clear hI hg HRE hro
      obtain ⟨l, dg, dy, t⟩ := r
      unfold Rul.val at *
      dsimp only at *
      go_enter Try.func10, Try.ntmps10
      go_wp2_with (first
        | (go_at_call 20; (with_reducible refine (HAL.out _).mono ?_); rotate_right; rintro e w1 ⟨rfl, hbw1⟩; obtain ⟨hcw1, hfw1, hzw1⟩ := hbw1.rules; (try simp at hzw1); have hzw1_0 : w.heap.size < w1.heap.size := (by omega); have hyw1_0 : w.heap.size ≤ w1.heap.size := (by omega))
        | (go_at_call 25; (with_reducible refine (HGR.out _ ?_).mono ?_); rotate_right; rintro e w2 ⟨rfl, hbw2⟩; obtain ⟨hcw2, hfw2, hzw2⟩ := hbw2.rules; (try simp at hzw2); have hzw2_0 : w.heap.size < w2.heap.size := (by omega); have hyw2_0 : w.heap.size ≤ w2.heap.size := (by omega))
        | (go_at_call 21; (with_reducible refine (HRU.out _).mono ?_); rotate_right; rintro e w3 ⟨rfl, hbw3⟩; obtain ⟨hcw3, hfw3, hzw3⟩ := hbw3.rules; (try simp at hzw3); have hzw3_0 : w.heap.size < w3.heap.size := (by omega); have hyw3_0 : w.heap.size ≤ w3.heap.size := (by omega)))
      · go_ret
        exact ⟨rfl, by (repeat (first | with_reducible exact Gr.refl _ | with_reducible refine Gr.trans ?_ hbw3 | with_reducible refine Gr.trans ?_ hbw2 | with_reducible refine Gr.trans ?_ hbw1 | with_reducible refine Gr.alloc ?_ _ | with_reducible refine Gr.setCell ?_ (by simp) _ | with_reducible refine Gr.setCell ?_ (by simp; omega) _ | with_reducible refine Gr.drew ?_ | with_reducible refine Gr.drewN ?_ _))⟩
      · (repeat (first | with_reducible exact Gr.refl _ | with_reducible refine Gr.trans ?_ hbw1 | with_reducible refine Gr.alloc ?_ _ | with_reducible refine Gr.setCell ?_ (by simp) _ | with_reducible refine Gr.setCell ?_ (by simp; omega) _ | with_reducible refine Gr.drew ?_ | with_reducible refine Gr.drewN ?_ _))
    | true =>
      rw [hro] at HRU
      by_cases hz : recsE rs = 0
      · rw [hz] at HRE
        by_cases hd0 : day < 0
        · clear hI hg hro hz
          obtain ⟨l, dg, dy, t⟩ := r
          unfold Rul.val at *
          dsimp only at *
          go_enter Try.func10, Try.ntmps10
          go_wp2_with (first
            | (go_at_call 20; (with_reducible refine (HAL.out _).mono ?_); rotate_right; rintro e w1 ⟨rfl, hbw1⟩; obtain ⟨hcw1, hfw1, hzw1⟩ := hbw1.rules; (try simp at hzw1); have hzw1_0 : w.heap.size < w1.heap.size := (by omega); have hyw1_0 : w.heap.size ≤ w1.heap.size := (by omega))
            | (go_at_call 25; (with_reducible refine (HGR.out _ ?_).mono ?_); rotate_right; rintro e w2 ⟨rfl, hbw2⟩; obtain ⟨hcw2, hfw2, hzw2⟩ := hbw2.rules; (try simp at hzw2); have hzw2_0 : w.heap.size < w2.heap.size := (by omega); have hyw2_0 : w.heap.size ≤ w2.heap.size := (by omega))
            | (go_at_call 21; (with_reducible refine (HRU.out _).mono ?_); rotate_right; rintro e w3 ⟨rfl, hbw3⟩; obtain ⟨hcw3, hfw3, hzw3⟩ := hbw3.rules; (try simp at hzw3); have hzw3_0 : w.heap.size < w3.heap.size := (by omega); have hyw3_0 : w.heap.size ≤ w3.heap.size := (by omega))
            | (go_at_call 26; (with_reducible refine (HRE.out _ ?_).mono ?_); rotate_right; rintro e w4 ⟨rfl, hbw4⟩; obtain ⟨hcw4, hfw4, hzw4⟩ := hbw4.rules; (try simp at hzw4); have hzw4_0 : w.heap.size < w4.heap.size := (by omega); have hyw4_0 : w.heap.size ≤ w4.heap.size := (by omega)))
          · go_ret
            exact ⟨rfl, by (repeat (first | with_reducible exact Gr.refl _ | with_reducible refine Gr.trans ?_ hbw4 | with_reducible refine Gr.trans ?_ hbw3 | with_reducible refine Gr.trans ?_ hbw2 | with_reducible refine Gr.trans ?_ hbw1 | with_reducible refine Gr.alloc ?_ _ | with_reducible refine Gr.setCell ?_ (by simp) _ | with_reducible refine Gr.setCell ?_ (by simp; omega) _ | with_reducible refine Gr.drew ?_ | with_reducible refine Gr.drewN ?_ _))⟩
          · (repeat (first | with_reducible exact Gr.refl _ | with_reducible refine Gr.trans ?_ hbw3 | with_reducible refine Gr.trans ?_ hbw2 | with_reducible refine Gr.trans ?_ hbw1 | with_reducible refine Gr.alloc ?_ _ | with_reducible refine Gr.setCell ?_ (by simp) _ | with_reducible refine Gr.setCell ?_ (by simp; omega) _ | with_reducible refine Gr.drew ?_ | with_reducible refine Gr.drewN ?_ _))
          · (repeat (first | with_reducible exact Gr.refl _ | with_reducible refine Gr.trans ?_ hbw1 | with_reducible refine Gr.alloc ?_ _ | with_reducible refine Gr.setCell ?_ (by simp) _ | with_reducible refine Gr.setCell ?_ (by simp; omega) _ | with_reducible refine Gr.drew ?_ | with_reducible refine Gr.drewN ?_ _))
        · by_cases hd1 : 100000 < day
          · clear hI hg hro hz
            obtain ⟨l, dg, dy, t⟩ := r
            unfold Rul.val at *
            dsimp only at *
            go_enter Try.func10, Try.ntmps10
            go_wp2_with (first
              | (go_at_call 20; (with_reducible refine (HAL.out _).mono ?_); rotate_right; rintro e w1 ⟨rfl, hbw1⟩; obtain ⟨hcw1, hfw1, hzw1⟩ := hbw1.rules; (try simp at hzw1); have hzw1_0 : w.heap.size < w1.heap.size := (by omega); have hyw1_0 : w.heap.size ≤ w1.heap.size := (by omega))
              | (go_at_call 25; (with_reducible refine (HGR.out _ ?_).mono ?_); rotate_right; rintro e w2 ⟨rfl, hbw2⟩; obtain ⟨hcw2, hfw2, hzw2⟩ := hbw2.rules; (try simp at hzw2); have hzw2_0 : w.heap.size < w2.heap.size := (by omega); have hyw2_0 : w.heap.size ≤ w2.heap.size := (by omega))
              | (go_at_call 21; (with_reducible refine (HRU.out _).mono ?_); rotate_right; rintro e w3 ⟨rfl, hbw3⟩; obtain ⟨hcw3, hfw3, hzw3⟩ := hbw3.rules; (try simp at hzw3); have hzw3_0 : w.heap.size < w3.heap.size := (by omega); have hyw3_0 : w.heap.size ≤ w3.heap.size := (by omega))
              | (go_at_call 26; (with_reducible refine (HRE.out _ ?_).mono ?_); rotate_right; rintro e w4 ⟨rfl, hbw4⟩; obtain ⟨hcw4, hfw4, hzw4⟩ := hbw4.rules; (try simp at hzw4); have hzw4_0 : w.heap.size < w4.heap.size := (by omega); have hyw4_0 : w.heap.size ≤ w4.heap.size := (by omega)))
            · go_ret
              exact ⟨rfl, by (repeat (first | with_reducible exact Gr.refl _ | with_reducible refine Gr.trans ?_ hbw4 | with_reducible refine Gr.trans ?_ hbw3 | with_reducible refine Gr.trans ?_ hbw2 | with_reducible refine Gr.trans ?_ hbw1 | with_reducible refine Gr.alloc ?_ _ | with_reducible refine Gr.setCell ?_ (by simp) _ | with_reducible refine Gr.setCell ?_ (by simp; omega) _ | with_reducible refine Gr.drew ?_ | with_reducible refine Gr.drewN ?_ _))⟩
            · (repeat (first | with_reducible exact Gr.refl _ | with_reducible refine Gr.trans ?_ hbw3 | with_reducible refine Gr.trans ?_ hbw2 | with_reducible refine Gr.trans ?_ hbw1 | with_reducible refine Gr.alloc ?_ _ | with_reducible refine Gr.setCell ?_ (by simp) _ | with_reducible refine Gr.setCell ?_ (by simp; omega) _ | with_reducible refine Gr.drew ?_ | with_reducible refine Gr.drewN ?_ _))
            · (repeat (first | with_reducible exact Gr.refl _ | with_reducible refine Gr.trans ?_ hbw1 | with_reducible refine Gr.alloc ?_ _ | with_reducible refine Gr.setCell ?_ (by simp) _ | with_reducible refine Gr.setCell ?_ (by simp; omega) _ | with_reducible refine Gr.drew ?_ | with_reducible refine Gr.drewN ?_ _))
          · obtain ⟨h24, hall, hnd⟩ := recsE_zero hz
            have hl := hI.len
            have hn24 : n ≤ 24 := by rw [hrs, List.length_map, hl] at h24; exact h24
            have hSp := srt_perm rs
            have hSs := srt_sorted hnd
            have hhe : homeErr day rs = 0 := by
              unfold homeErr
              rw [show inB 0 100000 day = true by unfold inB; simp; omega, if_pos rfl]
              exact hz
            have hhn : homesN day rs = homesK day (srt rs) := by unfold homesN; rw [if_pos hhe]
            have HHO := hid (fun (W : World) (g : Gr w W) => (by
              have h1 := homes_any es day A c W (by rw [hl]; exact (hI.gr g).rdE) (hI.gr g).each (by omega)
              rw [← hrs, hl, hhe, hhn] at h1
              exact h1 : Calls Try.prog 29 #[.slice A n c, .int .i64 day] W fun e w' => ∃ v, e = .returned (.tuple #[v, .int .i64 0]) ∧ ListsIn w' v (homesK day (srt rs)) ∧ Gr W w'))
            have HCM := hid (fun (x y : Elt) (hx : x ∈ es) (hy : y ∈ es) (W : World) (g : Gr w W) => (by
              have h1 := compareTop_any r x.r y.r x.A x.n x.c x.B x.m x.d y.A y.n y.c y.B y.m y.d W ((hI.each x hx).gr g).at_ ((hI.each y hy).gr g).at_ (hI.each x hx).cap (hI.each y hy).cap (hI.each x hx).sfx (hI.each y hy).sfx
              have ex : x.r.ok = true := hall _ (by rw [hrs]; exact List.mem_map_of_mem hx)
              have ey : y.r.ok = true := hall _ (by rw [hrs]; exact List.mem_map_of_mem hy)
              have e1 : cmpV r x.r y.r = cmpN r x.r y.r := by unfold cmpV; rw [hro, ex, ey]; rfl
              have e2 : cmpE r x.r y.r = 0 := by unfold cmpE; rw [hro, ex, ey]; rfl
              rw [e1, e2] at h1
              exact h1 : Calls Try.prog 18 #[r.val, x.val, y.val] W fun e w' => e = .returned (.tuple #[(cmpN r x.r y.r).val, .int .i64 0]) ∧ Gr W w'))
            have HAP : Hid (es.Pairwise (fun x y => x.r.id ≠ y.r.id)) := by
              rw [hrs, List.map_map] at hnd
              unfold List.Nodup at hnd
              rw [List.pairwise_map] at hnd
              exact hnd
            have HOK : Hid (∀ e ∈ es, (0 ≤ e.r.id ∧ e.r.id ≤ 999999) ∧ ∀ s ∈ e.r.stays, 0 ≤ s.place ∧ s.place ≤ 99999) := fun e he => ⟨ok_id (hall _ (by rw [hrs]; exact List.mem_map_of_mem he)), (ok_stays (hall _ (by rw [hrs]; exact List.mem_map_of_mem he))).2⟩
            obtain ⟨P, hP⟩ : ∃ P, P = placesL day (srt rs) := ⟨_, rfl⟩
            have HPA : Hid (P.Pairwise (· < ·)) := by rw [hP]; exact (foldr_insP _).1
            have HPI : Hid (∀ p, p ∈ P ↔ ∃ id, atF day rs rs.length 0 p id = true) := fun p => by rw [hP]; exact places_at hSp
            have HP0 : Hid (∀ p ∈ P, 0 ≤ p ∧ p ≤ 99999) := fun p hp => by
              rw [hP] at hp
              obtain ⟨x, hx, s, hs, rfl⟩ := placesL_mem hp
              exact (ok_stays (hall x (hSp.mem_iff.1 hx))).2 s hs
            have HPL : Hid (P.length ≤ 1000) := by
              have h1 := placesL_len day (srt rs) (fun r hr => (ok_stays (hall r (hSp.mem_iff.1 hr))).1)
              have h2 := hSp.length_eq
              rw [hrs, List.length_map] at h2
              show _ ≤ _
              rw [hP, hrs]
              rw [hrs] at h1
              omega
            obtain ⟨hom, hhom⟩ : ∃ hom : Int → List Int, hom = fun p => homeL day p (srt rs) := ⟨_, rfl⟩
            have HHI : Hid (∀ p id, id ∈ hom p ↔ atF day rs rs.length 0 p id = true) := fun p id => by rw [hhom]; exact homeL_iff hSp id
            have HHA : Hid (∀ p, (hom p).Pairwise (· < ·)) := fun p => by rw [hhom]; exact homeL_asc hSs
            have HHL : Hid (∀ p, (hom p).length ≤ 1000) := fun p => by
              have h1 := homeF_len day (srt rs) (srt rs).length 0 p
              have h2 := hSp.length_eq
              have h3 : rs.length = n := by rw [hrs, List.length_map, hl]
              rw [homeF_zero, List.take_length] at h1
              rw [hhom]
              show (homeL day p (srt rs)).length ≤ 1000
              omega
            have HLH : Hid (homesK day (srt rs) = P.map hom) := by show _ = _; unfold homesK; rw [hP, hhom]
            have HRS : Hid (rs.length = n ∧ ∀ j, j < n → rs[j]! = es[j]!.r) := by
              refine ⟨by rw [hrs, List.length_map, hl], fun j hj => ?_⟩
              rw [hrs, getElem!_pos _ j (by rw [List.length_map]; omega), getElem!_pos es j (by omega)]
              simp
            have HRM : Hid (∀ x ∈ rs, ∃ e ∈ es, e.r = x) := fun x hx => by
              rw [hrs] at hx
              obtain ⟨e, he, rfl⟩ := List.mem_map.1 hx
              exact ⟨e, he, rfl⟩
            have HI := hid hI
            have HL := hid hl
            rw [HLH.out] at HHO
            clear hI hg hnd hall h24 hz hro hl hrs hSp hSs hhe hhn hP hhom HLH
            have nz : (n : Int) ≤ 24 := by omega
            have hd0' : 0 ≤ day := by omega
            have hd1' : day ≤ 100000 := by omega
            obtain ⟨l, dg, dy, t⟩ := r
            unfold Rul.val at *
            dsimp only at *
            have hmm := @run_makeMap Try.prog
            go_enter Try.func10, Try.ntmps10
            go_wp2_with (first
              | (go_at_call 20; (with_reducible refine (HAL.out _).mono ?_); rotate_right; rintro e w1 ⟨rfl, hbw1⟩; obtain ⟨hcw1, hfw1, hzw1⟩ := hbw1.rules; (try simp at hzw1); have hzw1_0 : w.heap.size < w1.heap.size := (by omega); have hyw1_0 : w.heap.size ≤ w1.heap.size := (by omega))
              | (go_at_call 25; (with_reducible refine (HGR.out _ ?_).mono ?_); rotate_right; rintro e w2 ⟨rfl, hbw2⟩; obtain ⟨hcw2, hfw2, hzw2⟩ := hbw2.rules; (try simp at hzw2); have hzw2_0 : w.heap.size < w2.heap.size := (by omega); have hyw2_0 : w.heap.size ≤ w2.heap.size := (by omega))
              | (go_at_call 21; (with_reducible refine (HRU.out _).mono ?_); rotate_right; rintro e w3 ⟨rfl, hbw3⟩; obtain ⟨hcw3, hfw3, hzw3⟩ := hbw3.rules; (try simp at hzw3); have hzw3_0 : w.heap.size < w3.heap.size := (by omega); have hyw3_0 : w.heap.size ≤ w3.heap.size := (by omega))
              | (go_at_call 26; (with_reducible refine (HRE.out _ ?_).mono ?_); rotate_right; rintro e w4 ⟨rfl, hbw4⟩; obtain ⟨hcw4, hfw4, hzw4⟩ := hbw4.rules; (try simp at hzw4); have hzw4_0 : w.heap.size < w4.heap.size := (by omega); have hyw4_0 : w.heap.size ≤ w4.heap.size := (by omega))
              | (go_at_call 29; (with_reducible refine (HHO.out _ ?_).mono ?_); rotate_right; rintro e w5 ⟨v5, rfl, h5, hbw5⟩; have H5 := hid h5; clear h5; obtain ⟨hcw5, hfw5, hzw5⟩ := hbw5.rules; have hzw5_0 : w.heap.size < w5.heap.size := (by omega)))
            · have G5 : Gr w w5 := ((Gr.refl w).alloc _).trans (hbw1.trans (hbw2.trans (hbw3.trans (hbw4.trans hbw5))))
              have HG5 := hid G5
              have HR5 : Hid (w5.heap[w.heap.size]? = some (.cells #[.int .i64 l, .int .i64 dg, .int .i64 dy, .int .i64 t] 23 (0, 0))) := row_gr (heap_alloc_new w _) (hbw1.trans (hbw2.trans (hbw3.trans (hbw4.trans hbw5))))
              clear hbw1 hbw2 hbw3 hbw4 hbw5 hcw1 hcw2 hcw3 hcw4 hcw5 hfw1 hfw2 hfw3 hfw4 hfw5 hzw1 hzw2 hzw3 hzw4 hzw5 hzw1_0 hzw2_0 hzw3_0 hzw4_0 hzw5_0 hyw1_0 hyw2_0 hyw3_0 hyw4_0 G5 HHO HRE HRU HGR HAL
              have hM0 : MapIs Try.prog 3 (Value.int .i64) ((w5.alloc (.map #[] 0)).alloc (.map #[] 0)) w5.heap.size (byF (es.take 0)) := ((MapIs.new _).alloc _).congr (fun q => by simp [byF])
              have hN0 : NMap ((w5.alloc (.map #[] 0)).alloc (.map #[] 0)) (w5.heap.size + 1) (w5.heap.size + 2) (fun _ => false) (atF day rs 0 0) (fun _ => 0) := by
                have e : (w5.alloc (.map #[] 0)).heap.size = w5.heap.size + 1 := by simp
                refine ⟨?_, fun p h => (by cases h), fun p q h => (by cases h), fun p _ i => atF_zero day rs p i⟩
                rw [← e]
                exact (MapIs.new _).congr (fun q => by simp)
              have hG0 : Gr w5 ((w5.alloc (.map #[] 0)).alloc (.map #[] 0)) := ((Gr.refl w5).alloc _).alloc _
              have hs0 : w5.heap.size + 2 ≤ ((w5.alloc (.map #[] 0)).alloc (.map #[] 0)).heap.size := by simp
              obtain ⟨mb, hmb⟩ : ∃ mb, mb = w5.heap.size := ⟨_, rfl⟩
              have HMB := hid hmb
              rw [← hmb] at hM0 hN0 hs0 ⊢
              generalize (w5.alloc (.map #[] 0)).alloc (.map #[] 0) = W0 at hM0 hN0 hG0 hs0 ⊢
              have HM0 := hid hM0
              have HN0 : Hid (∃ H B, NMap W0 (mb + 1) (mb + 2) H (atF day rs 0 0) B ∧ ∀ p, H p = true ↔ ∃ id, atF day rs 0 0 p id = true) := ⟨_, _, hN0, fun p => ⟨fun h => (by cases h), fun ⟨i, h⟩ => (by rw [atF_zero] at h; cases h)⟩⟩
              clear hM0 hN0 hmb
              go_loopg [63] n (fun gg s63 wr => ∃ i : Nat, i ≤ n ∧ n - i ≤ gg ∧ s63 = .int .i64 i ∧ Gr w5 wr ∧ mb + 2 ≤ wr.heap.size ∧ Hid (MapIs Try.prog 3 (Value.int .i64) wr mb (byF (es.take i))) ∧ Hid (∃ H B, NMap wr (mb + 1) (mb + 2) H (atF day rs i 0) B ∧ ∀ p, H p = true ↔ ∃ id, atF day rs i 0 p id = true))
              case atStart => exact ⟨0, Nat.zero_le _, by omega, rfl, hG0, hs0, HM0, HN0⟩
              case round =>
                clear HM0 HN0 hG0 hs0
                obtain ⟨i, hi, hgi, rfl, BW, hsz, HM, HN⟩ := hrel
                by_cases hil : i < n
                · as_aux_lemma =>
                  have hiz : (i : Int) < (n : Int) := by omega
                  have hi0 : (0 : Int) ≤ (i : Int) := by omega
                  obtain ⟨hie, hE, b, off, rfl, hbl, a0, a1, a2, a3, a4, a5, a6, a7⟩ := (HI.out.gr (HG5.out.trans BW)).at_ hil
                  have hby := byF_take HAP.out hie
                  have hids := HOK.out _ (mem_get hie)
                  have hrsi := HRS.out.2 i hil
                  have hilr : i < rs.length := by rw [HRS.out.1]; exact hil
                  have hE0 := HI.out.each _ (mem_get hie)
                  have hst := hE0.at_.stays
                  have hml := hE0.at_.mlen
                  have hmb9 := hE0.at_.mbig
                  clear hE0
                  have hnx := fun p id => atF_next (day := day) hilr p id
                  have hon := fun (k : Nat) h1 h2 => atF_on (day := day) (k := k) hilr h1 h2
                  have hoff := fun (k : Nat) h1 h2 => atF_off (day := day) (rs := rs) (i := i) (k := k) h1 h2
                  rw [hrsi] at hnx hon hoff
                  generalize es[i]! = x at a0 a1 a2 a3 a4 a5 a6 a7 hby hids hst hml hmb9 hnx hon hoff
                  obtain ⟨⟨id, names, suf, lo, hi, num, tw, stays⟩, A9, n9, c9, B9, m9, d9⟩ := x
                  dsimp only at *
                  have HBY := hid hby
                  have HST := hid hst
                  have HNX := hid hnx
                  have HON := hid hon
                  have HOF := hid hoff
                  have HML := hid hml
                  have HSV := hid hids.2
                  have hid1 := hids.1
                  have mz : (m9 : Int) ≤ 9223372036854775807 := by omega
                  clear hE hie hbl hby hrsi hilr hst hml hnx hon hoff hids
                  obtain ⟨wo, rfl⟩ : ∃ wo : World, wo = wr := ⟨_, rfl⟩
                  go_wp2_with ((with_reducible show wpList _ _ _ (⟨none, Op.mapUpdate _ (.tmp 67) _ _, _, _, _, _⟩ :: _) _ _); refine wpList_mapUpdate_is (Value.int .i64) _ rfl (.tmp 67) (.tmp 69) (.tmp 70) 65 rfl keyed_int (fun p q => int_inj p q) Try.underlying65 mb (byF (es.take i)) rfl (HM.out.alloc _) id (.agg #[.int .i64 id, .slice A9 n9 c9, .int .u8 suf, .int .i64 lo, .int .i64 hi, .string num, .bool tw, .slice B9 m9 d9]) _ rfl rfl (key_int _ (by omega)) ?_; intro w2 hm2 hg2 hz2; have HM2 := hid hm2; have HG2 := hid hg2; clear hm2 hg2; (try simp only [Act.put]); refine Hid.out ?_)
                  have hbox : w2.heap[wo.heap.size]? = some (.cells #[.int .i64 id, .slice A9 n9 c9, .int .u8 suf, .int .i64 lo, .int .i64 hi, .string num, .bool tw, .slice B9 m9 d9] 29 (0, 0)) := (HG2.out.block _ (by simp) (fun e => by injection e with e; omega)).trans (heap_alloc_new wo _)
                  have hN2 : ∃ H B, NMap w2 (mb + 1) (mb + 2) H (atF day rs i 0) B ∧ ∀ p, H p = true ↔ ∃ id, atF day rs i 0 p id = true := by
                    obtain ⟨H, B, k1, k2⟩ := HN.out
                    have k3 := k1.gr ((Gr.refl wo).alloc (.cells #[.int .i64 id, .slice A9 n9 c9, .int .u8 suf, .int .i64 lo, .int .i64 hi, .string num, .bool tw, .slice B9 m9 d9] 29))
                    refine ⟨H, B, ⟨k3.out.keep (HG2.out.block _ k3.out.lt (fun e => by injection e with e; omega)), fun p hp => ?_, k3.inj, k3.non⟩, k2⟩
                    obtain ⟨q1, q2, q3⟩ := k3.inn p hp
                    exact ⟨q1.keep (HG2.out.block _ q1.lt (fun e => by injection e with e; omega)), q2, q3⟩
                  have HB2 : Hid (Gr w5 w2) := Gr.grown (BW.alloc _) HG2.out (fun q hq => by injection hq with hq; have := HMB.out; omega)
                  have hs2 : mb + 2 ≤ w2.heap.size := by simp at hz2; omega
                  have HN2 := hid hN2
                  have HM3 := hid (HM2.out.congr (fun q => HBY.out q))
                  obtain ⟨gb, hgb⟩ : ∃ gb, gb = wo.heap.size := ⟨_, rfl⟩
                  have hgb2 : mb + 2 ≤ gb := by omega
                  rw [← hgb] at hbox ⊢
                  obtain ⟨y0, _, _, _, _, _, _, y7⟩ := cellsat8 hbox
                  have hgl : gb < w2.heap.size := (Array.getElem?_eq_some_iff.1 hbox).1
                  have HOW := hid BW
                  clear HM2 HG2 HM HN hN2 hgb hz2 a0 a1 a2 a3 a4 a5 a6 a7
                  refine hid ?_
                  go_wp2_with fail
                  go_loopg [74] m9 (fun gg s74 wr => ∃ k : Nat, k ≤ m9 ∧ m9 - k ≤ gg ∧ s74 = .int .i64 k ∧ Gr w5 wr ∧ mb + 2 ≤ wr.heap.size ∧ wr.heap[gb]? = some (.cells #[.int .i64 id, .slice A9 n9 c9, .int .u8 suf, .int .i64 lo, .int .i64 hi, .string num, .bool tw, .slice B9 m9 d9] 29 (0, 0)) ∧ Hid (MapIs Try.prog 3 (Value.int .i64) wr mb (byF (es.take (i + 1)))) ∧ Hid (∃ H B, NMap wr (mb + 1) (mb + 2) H (atF day rs i k) B ∧ ∀ p, H p = true ↔ ∃ id, atF day rs i k p id = true))
                  case atStart => exact ⟨0, Nat.zero_le _, by omega, rfl, HB2.out, hs2, hbox, HM3, HN2⟩
                  case round =>
                    clear HN2 HM3 hbox hs2 HB2 y0 y7 hgl
                    obtain ⟨k, hk, hgk, rfl, CW, hsq, hrow, HM, HN⟩ := hrel
                    by_cases hlk : k < m9
                    · as_aux_lemma =>
                      have hkz : (k : Int) < (m9 : Int) := by omega
                      have hk0 : (0 : Int) ≤ (k : Int) := by omega
                      obtain ⟨hsl, b0, o0, rfl, hb0, q0, q1, q2⟩ := (HST.out.gr (HG5.out.trans CW)).sty hlk
                      have hsv := HSV.out _ (mem_get hsl)
                      have hon := HON.out k hsl
                      have hof := HOF.out k hsl
                      obtain ⟨y0, _, _, _, _, _, _, y7⟩ := cellsat8 hrow
                      have hgl : gb < wr.heap.size := (Array.getElem?_eq_some_iff.1 hrow).1
                      generalize stays[k]! = st at q0 q1 q2 hsv hon hof
                      obtain ⟨p1, f1, t1⟩ := st
                      dsimp only at q0 q1 q2 hsv hon hof
                      have hG1 : Gr wr (wr.alloc (.cells #[.int .i64 p1, .int .i64 f1, .int .i64 t1] 75)) := (Gr.refl wr).alloc _
                      by_cases hf : f1 ≤ day ∧ day ≤ t1
                      · have hfa := hf.1
                        have hfb := hf.2
                        have hon2 := hon (by unfold onB; simp [hfa, hfb])
                        have HO2 := hid hon2
                        obtain ⟨H, B, hN, hH⟩ := HN.out
                        have HH := hid hH
                        have HNN := hid hN
                        have hkp := key_int p1 (by omega)
                        have hme0 := map_eq_some
                        have hme1 := map_eq_none
                        clear hon hof hon2 hf hN hH HN
                        cases hHp : H p1 with
                        | true =>
                          have HHP := hid hHp
                          go_wp2_with (first
                            | ((with_reducible show wpList _ _ _ (⟨some 91, _, _, _, _, _⟩ :: _) _ _); refine wpList_lookup_is (Value.int .i64) _ rfl (.tmp 88) (.tmp 90) 73 rfl keyed_int (fun p q => int_inj p q) Try.underlying73 (mb + 1) (fun p : Int => if H p = true then some (Value.map (some (B p))) else none) rfl (HNN.out.gr hG1).out p1 _ (.map none) rfl hkp (zero_mb _) ?_; (dsimp only); simp only [hHp, if_true, Option.getD_some])
                            | ((with_reducible show wpList _ _ _ (⟨some 100, _, _, _, _, _⟩ :: _) _ _); refine wpList_lookup_is (Value.int .i64) _ rfl (.tmp 97) (.tmp 99) 73 rfl keyed_int (fun p q => int_inj p q) Try.underlying73 (mb + 1) (fun p : Int => if H p = true then some (Value.map (some (B p))) else none) rfl (HNN.out.gr hG1).out p1 _ (.map none) rfl hkp (zero_mb _) ?_; (dsimp only); simp only [hHp, if_true, Option.getD_some])
                            | ((with_reducible show wpList _ _ _ (⟨none, Op.mapUpdate _ (.tmp 100) _ _, _, _, _, _⟩ :: _) _ _); refine wpList_mapUpdate_is (Value.int .i64) _ rfl (.tmp 100) (.tmp 102) _ 76 rfl keyed_int (fun p q => int_inj p q) Try.underlying76 (B p1) (fun i' => if atF day rs i k p1 i' = true then some (.bool true) else none) rfl ((HNN.out.inn p1 HHP.out).1.gr hG1) id (.bool true) _ rfl rfl (key_int _ (by omega)) ?_; intro w2 hm2 hg2 hz2; have HM2 := hid hm2; have HG2 := hid hg2; clear hm2 hg2))
                          go_roundg (m9 - (k + 1))
                          case measure => omega
                          case rel =>
                            have hb := (HNN.out.inn p1 HHP.out).2
                            have hGW : Gr w5 w2 := Gr.grown (CW.trans hG1) HG2.out (fun q hq => by injection hq with hq; have := HMB.out; omega)
                            have hNA := NMap.add (HNN.out.gr hG1) HHP.out HM2.out HG2.out
                            refine ⟨k + 1, by omega, by omega, by go_num, hGW, by simp at hz2; omega, ?_, ?_, ?_⟩
                            · refine (HG2.out.block gb (by simp; omega) (fun e => ?_)).trans (row_gr hrow hG1)
                              injection e with e
                              exact map_ne_row (HNN.out.inn p1 HHP.out).1 hrow e
                            · exact hid ((HM.out.gr hG1).keep (HG2.out.block mb (HM.out.gr hG1).lt (fun e => by injection e with e; omega)))
                            · refine hid ⟨H, B, hNA.congr (fun q i' => HO2.out q i'), fun q => ?_⟩
                              rw [HH.out q]
                              constructor
                              · rintro ⟨i', h⟩
                                exact ⟨i', by rw [HO2.out, h, Bool.true_or]⟩
                              · rintro ⟨i', h⟩
                                rw [HO2.out] at h
                                by_cases e : q = p1
                                · subst e
                                  exact (HH.out q).1 HHP.out
                                · simp only [e, decide_false, Bool.false_and, Bool.or_false] at h
                                  exact ⟨i', h⟩
                        | false =>
                          have HHP := hid hHp
                          have hszb : (wr.alloc (.cells #[.int .i64 p1, .int .i64 f1, .int .i64 t1] 75)).heap.size = wr.heap.size + 1 := by simp
                          go_wp2_with (first
                            | ((with_reducible show wpList _ _ _ (⟨some 91, _, _, _, _, _⟩ :: _) _ _); refine wpList_lookup_is (Value.int .i64) _ rfl (.tmp 88) (.tmp 90) 73 rfl keyed_int (fun p q => int_inj p q) Try.underlying73 (mb + 1) (fun p : Int => if H p = true then some (Value.map (some (B p))) else none) rfl (HNN.out.gr hG1).out p1 _ (.map none) rfl hkp (zero_mb _) ?_; (dsimp only); simp only [hHp, Bool.false_eq_true, if_false, Option.getD_none])
                            | ((with_reducible show wpList _ _ _ (⟨none, Op.mapUpdate _ (.tmp 93) _ _, _, _, _, _⟩ :: _) _ _); refine wpList_mapUpdate_is (Value.int .i64) _ rfl (.tmp 93) (.tmp 95) (.tmp 96) 73 rfl keyed_int (fun p q => int_inj p q) Try.underlying73 (mb + 1) (fun p : Int => if H p = true then some (Value.map (some (B p))) else none) rfl (HNN.out.gr (hG1.alloc (.map #[] 0))).out p1 (.map (some (wr.heap.size + 1))) _ rfl rfl hkp ?_; intro w2 hm2 hg2 hz2; have HG2 := hid hg2; have HN2 := hid (NMap.open_ (b := wr.heap.size + 1) (HNN.out.gr hG1) HHP.out (by rw [hszb]) (by rw [hszb]; omega) hm2 hg2); obtain ⟨y0x, _⟩ := cellsat8 ((hg2.block gb (by simp; omega) (fun e => by injection e with e; omega)).trans (row_gr hrow (hG1.alloc (.map #[] 0)))); have hs1x : w2.cell? ⟨wr.heap.size, 0, none⟩ = some (.int .i64 p1) := row_cell_at (cs := #[.int .i64 p1, .int .i64 f1, .int .i64 t1]) (t := 75) ((hg2.block wr.heap.size (by simp; omega) (fun e => by injection e with e; omega)).trans (row_gr (heap_alloc_new wr (.cells #[.int .i64 p1, .int .i64 f1, .int .i64 t1] 75)) ((Gr.refl _).alloc (.map #[] 0)))) 0 rfl; clear hm2 hg2)
                            | ((with_reducible show wpList _ _ _ (⟨some 100, _, _, _, _, _⟩ :: _) _ _); refine wpList_lookup_is (Value.int .i64) _ rfl (.tmp 97) (.tmp 99) 73 rfl keyed_int (fun p q => int_inj p q) Try.underlying73 (mb + 1) (fun p => if (decide (p = p1) || H p) = true then some (.map (some (if p = p1 then wr.heap.size + 1 else B p))) else none) rfl HN2.out.out p1 _ (.map none) rfl hkp (zero_mb _) ?_; (dsimp only); simp only [decide_true, Bool.true_or, if_true, Option.getD_some])
                            | ((with_reducible show wpList _ _ _ (⟨none, Op.mapUpdate _ (.tmp 100) _ _, _, _, _, _⟩ :: _) _ _); refine wpList_mapUpdate_is (Value.int .i64) _ rfl (.tmp 100) (.tmp 102) _ 76 rfl keyed_int (fun p q => int_inj p q) Try.underlying76 (wr.heap.size + 1) (fun i' => if atF day rs i k p1 i' = true then some (.bool true) else none) rfl (by have h := (HN2.out.inn p1 (by simp)).1; simpa using h) id (.bool true) _ rfl rfl (key_int _ (by omega)) ?_; intro w3 hm3 hg3 hz3; have HM3 := hid hm3; have HG3 := hid hg3; clear hm3 hg3))
                          go_roundg (m9 - (k + 1))
                          case measure => omega
                          case rel =>
                            have hg3 : Gr wr ((wr.alloc (.cells #[.int .i64 p1, .int .i64 f1, .int .i64 t1] 75)).alloc (.map #[] 0)) := hG1.alloc _
                            have hGW : Gr w5 w2 := Gr.grown (CW.trans hg3) HG2.out (fun q hq => by injection hq with hq; have := HMB.out; omega)
                            have hGX : Gr w5 w3 := Gr.grown hGW HG3.out (fun q hq => by injection hq with hq; have := HMB.out; omega)
                            have hz2' := HG2.out.size
                            have hz3' := HG3.out.size
                            simp at hz2' hz3'
                            have hNA := NMap.add HN2.out (p := p1) (i0 := id) (by simp) (by simpa using HM3.out) (by simpa using HG3.out)
                            refine ⟨k + 1, by omega, by omega, by go_num, hGX, by omega, ?_, ?_, ?_⟩
                            · refine (HG3.out.block gb (by omega) (fun e => by injection e with e; omega)).trans ((HG2.out.block gb (by simp; omega) (fun e => by injection e with e; omega)).trans (row_gr hrow hg3))
                            · have h1 := (HM.out.gr hg3).keep (HG2.out.block mb (HM.out.gr hg3).lt (fun e => by injection e with e; omega))
                              exact hid (h1.keep (HG3.out.block mb h1.lt (fun e => by injection e with e; omega)))
                            · refine hid ⟨_, _, hNA.congr (fun q i' => HO2.out q i'), fun q => ?_⟩
                              simp only [Bool.or_eq_true, decide_eq_true_eq]
                              rw [HH.out q]
                              constructor
                              · rintro (rfl | ⟨i', h⟩)
                                · exact ⟨id, by rw [HO2.out]; simp⟩
                                · exact ⟨i', by rw [HO2.out, h, Bool.true_or]⟩
                              · rintro ⟨i', h⟩
                                rw [HO2.out] at h
                                by_cases e : q = p1
                                · exact .inl e
                                · simp only [e, decide_false, Bool.false_and, Bool.or_false] at h
                                  exact .inr ⟨i', h⟩
                      · have hof2 := hof (by
                          unfold onB
                          by_cases h1 : f1 ≤ day
                          · have h2 : ¬ day ≤ t1 := fun h2 => hf ⟨h1, h2⟩
                            simp [h2]
                          · simp [h1])
                        have HO2 := hid hof2
                        clear hon hof hof2
                        by_cases hfa : f1 ≤ day
                        · have hfb : ¬ day ≤ t1 := fun h2 => hf ⟨hfa, h2⟩
                          go_wp2
                          go_roundg (m9 - (k + 1))
                          case measure => omega
                          case rel =>
                            obtain ⟨H, B, k1, k2⟩ := HN.out
                            exact ⟨k + 1, by omega, by omega, by go_num, CW.trans hG1, by simp; omega, row_gr hrow hG1, hid (HM.out.gr hG1), hid ⟨H, B, (k1.gr hG1).congr (fun q i' => HO2.out q i'), fun q => by rw [k2 q]; exact ⟨fun ⟨i', h⟩ => ⟨i', by rw [HO2.out]; exact h⟩, fun ⟨i', h⟩ => ⟨i', by rw [← HO2.out]; exact h⟩⟩⟩⟩
                        · go_wp2
                          go_roundg (m9 - (k + 1))
                          case measure => omega
                          case rel =>
                            obtain ⟨H, B, k1, k2⟩ := HN.out
                            exact ⟨k + 1, by omega, by omega, by go_num, CW.trans hG1, by simp; omega, row_gr hrow hG1, hid (HM.out.gr hG1), hid ⟨H, B, (k1.gr hG1).congr (fun q i' => HO2.out q i'), fun q => by rw [k2 q]; exact ⟨fun ⟨i', h⟩ => ⟨i', by rw [HO2.out]; exact h⟩, fun ⟨i', h⟩ => ⟨i', by rw [← HO2.out]; exact h⟩⟩⟩⟩
                    · obtain rfl : k = m9 := by omega
                      have hkz : ¬ (k : Int) < (k : Int) := by omega
                      go_wp2
                      go_roundg (n - (i + 1))
                      case measure => omega
                      case rel =>
                        refine ⟨i + 1, by omega, by omega, by go_num, CW, hsq, HM, ?_⟩
                        obtain ⟨H, B, k1, k2⟩ := HN.out
                        have e : ∀ p id, atF day rs (i + 1) 0 p id = atF day rs i k p id := fun p id => by rw [← HNX.out p id, ← HML.out]
                        exact ⟨H, B, k1.congr e, fun p => by rw [k2 p]; exact ⟨fun ⟨q, h⟩ => ⟨q, by rw [e]; exact h⟩, fun ⟨q, h⟩ => ⟨q, by rw [← e]; exact h⟩⟩⟩
                · as_aux_lemma =>
                  obtain rfl : i = n := by omega
                  have hiz : ¬ (i : Int) < (i : Int) := by omega
                  have htk : es.take i = es := List.take_of_length_le (Nat.le_of_eq HL.out)
                  rw [htk] at HM
                  obtain ⟨H, B, hN, hH⟩ := HN.out
                  obtain ⟨AH, cH, svs, e5, k1, k2⟩ := H5.out
                  subst e5
                  obtain ⟨M, hM⟩ : ∃ M, M = P.length := ⟨_, rfl⟩
                  have eM : (P.map hom).length = M := by rw [List.length_map, hM]
                  rw [eM] at k1 k2 ⊢
                  have hHP : ∀ p, H p = true ↔ p ∈ P := fun p => by
                    rw [hH p, HPI.out p, HRS.out.1]
                  have HHP := hid hHP
                  have hln := MapIs.lenN hN.out (fun p q => int_inj p q) Try.underlying73 (asc_nodup HPA.out) (fun q => by
                    rw [← hHP q]
                    cases H q with
                    | true => simp
                    | false => simp)
                  rw [← hM] at hln
                  have HMM := hid hM
                  have HK1 := hid k1
                  have HK2 := hid k2
                  have HNB := hid hN
                  have HMBy := hid HM.out
                  have HBW := hid BW
                  have HF : Hid (∀ p id, atF day rs i 0 p id = true ↔ id ∈ hom p) := fun p id => by rw [HHI.out p id, HRS.out.1]
                  have mz : (M : Int) ≤ 1000 := by have := HPL.out; omega
                  obtain ⟨wB, rfl⟩ : ∃ wB : World, wB = wr := ⟨_, rfl⟩
                  clear htk HM HN hN hH k1 k2 hM eM hHP BW H5 HPI HHI
                  go_wp2_with fail
                  clear hln
                  go_loopg [16, 112] M (fun gg s16 s112 wr => ∃ m : Nat, m ≤ M ∧ M - m ≤ gg ∧ s112 = .int .i64 m ∧ s16 = .int .i64 (lastQ P m) ∧ Gr wB wr)
                  case atStart => exact ⟨0, Nat.zero_le _, by omega, rfl, rfl, Gr.refl _⟩
                  case round =>
                    obtain ⟨m, hm, hgm, rfl, rfl, CW⟩ := hrel
                    by_cases hml : m < M
                    · as_aux_lemma =>
                      have hmz : (m : Int) < (M : Int) := by omega
                      have hm0 : (0 : Int) ≤ (m : Int) := by omega
                      have hmP : m < P.length := by have := HMM.out; omega
                      obtain ⟨Ah, ch, hs, hrd⟩ := HK2.out m hml
                      have eh : (P.map hom)[m]! = hom P[m]! := by
                        rw [getElem!_pos _ m (by rw [List.length_map]; exact hmP), getElem!_pos P m hmP]
                        simp
                      rw [eh] at hs hrd
                      obtain ⟨b, off, rfl, hbl, hc⟩ := (HK1.out.gr (HBW.out.trans CW)).at_ (by omega)
                      have c0 := hc m _ hs
                      have hpP := mem_get hmP
                      have hp0 := HP0.out _ hpP
                      have hHp := (HHP.out _).2 hpP
                      have hasc := HHA.out P[m]!
                      have hfew := HHL.out P[m]!
                      have hdone := fun (nx : Int) (left : Int → Prop) (h : NextQ P (lastQ P m) nx left) (hl : ∀ p, ¬ left p) => h.done hl hmP HPA.out (fun p hp => (HP0.out p hp).1)
                      have hsucc := lastQ_succ P m
                      have hF := HF.out P[m]!
                      have hln2 := fun (W : World) (g : Gr wB W) => MapIs.lenN ((HNB.out.gr g).inn P[m]! hHp).1 (fun p q => int_inj p q) Try.underlying76 (asc_nodup hasc) (fun q => by
                        rw [← hF q]
                        cases atF day rs i 0 P[m]! q with
                        | true => simp
                        | false => simp)
                      have HLN := hid hln2
                      have HDN := hid hdone
                      have HSU := hid hsucc
                      have HHp := hid hHp
                      have HRDH := hid hrd
                      have HASC := hid hasc
                      have HFF := hid hF
                      have hkp := key_int P[m]! (by omega)
                      generalize P[m]! = p at c0 hpP hp0 hHp hfew hkp HLN HDN HSU HHp HRDH HASC HFF
                      obtain ⟨hl, hhl⟩ : ∃ hl, hl = hom p := ⟨_, rfl⟩
                      rw [← hhl] at c0 hfew HLN HRDH HASC HFF
                      obtain ⟨q, hq⟩ : ∃ q, q = hl.length := ⟨_, rfl⟩
                      rw [← hq] at c0 hfew HLN HRDH
                      have HQ := hid hq
                      have qz : (q : Int) ≤ 1000 := by omega
                      have HCW := hid CW
                      obtain ⟨wC, rfl⟩ : ∃ wC : World, wC = wr := ⟨_, rfl⟩
                      clear hc hs hrd eh hasc hF hln2 hdone hsucc hpP hhl hq
                      go_wp2_with ((with_reducible show wpList _ _ _ (⟨some 117, _, _, _, _, _⟩ :: _) _ _); refine wpList_plain rfl (fun K hK => ?_); refine op_range (E := 76) (Value.int .i64) (.tmp 116) 73 rfl (fun p q => int_inj p q) Try.underlying73 rfl (HNB.out.gr HCW.out).out ?_; intro wE cn hm1 hg1; refine hK _ _ ?_; clear hK K; (try simp only [Act.put, List.setIfInBounds_toArray, List.set_cons_zero, List.set_cons_succ]); have HRg := hid hm1; have HGR := hid hg1; clear hm1 hg1)
                      obtain ⟨r1, hr1⟩ : ∃ r1, r1 = wC.heap.size := ⟨_, rfl⟩
                      rw [← hr1] at HRg ⊢
                      have HR1 := hid hr1
                      have HNX0 : Hid (NextQ P (lastQ P m) (-1) (fun q => ∃ v : Value, (fun p : Int => if H p = true then some (Value.map (some (B p))) else none) q = some v)) := ⟨.inl ⟨rfl, fun p' hp' h => (h ⟨Value.map (some (B p')), by show (if H p' = true then some (Value.map (some (B p'))) else none) = some (Value.map (some (B p'))); rw [if_pos ((HHP.out p').2 hp')]⟩).elim⟩⟩
                      clear hr1
                      go_loopg [19, 118] cn (fun gg s19 s118 wr => ∃ (nx : Int) (left : Int → Prop) (cnt : Nat), cnt ≤ gg ∧ s19 = .int .i64 nx ∧ Gr wC wr ∧ Hid (MapRg Try.prog 3 (Value.int .i64) wr (mb + 1) r1 (fun p : Int => if H p = true then some (Value.map (some (B p))) else none) left cnt) ∧ Hid (NextQ P (lastQ P m) nx left))
                      case atStart => exact ⟨-1, _, cn, Nat.le_refl _, rfl, HGR.out, HRg, HNX0⟩
                      case round =>
                        clear HRg HGR HNX0
                        obtain ⟨nx, left, cnt, hcnt, rfl, DW, HRg, HNX⟩ := hrel
                        go_wp2_with ((with_reducible show wpList _ _ _ (⟨some 118, _, _, _, _, _⟩ :: _) _ _); refine wpList_plain rfl (fun K hK => ?_); refine op_next (Value.int .i64) (.tmp 117) rfl (fun p q => int_inj p q) rfl HRg.out ?_ ?_; (intro hc0 hl0; have HEnd := hid hl0; refine hK _ _ ?_; clear hK K hc0 hl0; (try simp only [Act.put, List.setIfInBounds_toArray, List.set_cons_zero, List.set_cons_succ]); refine Hid.out ?_); rotate_left; (intro q0 v w6 cnt6 hlq hfq hm6 hlt6 hg6 hen; have HM6 := hid hm6; have HG6 := hid hg6; refine hK _ _ ?_; clear hK K hm6 hg6; (try simp only [Act.put, List.setIfInBounds_toArray, List.set_cons_zero, List.set_cons_succ]); refine Hid.out ?_); rotate_left)
                        · as_aux_lemma =>
                          refine hid ?_
                          obtain rfl : nx = p := HDN.out nx left HNX.out HEnd.out
                          have hln3 := HLN.out wr (HCW.out.trans DW)
                          have HNW := hid (HNB.out.gr (HCW.out.trans DW))
                          have hkey := hkp
                          obtain ⟨wD, rfl⟩ : ∃ wD : World, wD = wr := ⟨_, rfl⟩
                          have HDW := hid (HCW.out.trans DW)
                          clear HRg HNX HEnd DW
                          go_wp2_with ((with_reducible show wpList _ _ _ (⟨some 140, _, _, _, _, _⟩ :: _) _ _); refine wpList_lookup_is (Value.int .i64) _ rfl (.tmp 138) (.tmp 139) 73 rfl keyed_int (fun p q => int_inj p q) Try.underlying73 (mb + 1) (fun p : Int => if H p = true then some (Value.map (some (B p))) else none) rfl HNW.out.out nx _ (.map none) rfl hkey (zero_mb _) ?_; (dsimp only); simp only [HHp.out, if_true, Option.getD_some])
                          clear hln3
                          go_loopg [145] q (fun gg s145 wr => ∃ j : Nat, j ≤ q ∧ q - j ≤ gg ∧ s145 = .int .i64 j ∧ Gr wD wr)
                          case atStart => exact ⟨0, Nat.zero_le _, by omega, rfl, Gr.refl _⟩
                          case round =>
                            obtain ⟨j, hj, hgj, rfl, EW⟩ := hrel
                            by_cases hjl : j < q
                            · as_aux_lemma =>
                              have hjz : (j : Int) < (q : Int) := by omega
                              have hj0 : (0 : Int) ≤ (j : Int) := by omega
                              have hjq : j < hl.length := by have := HQ.out; omega
                              have hq0 : 0 < hl.length := by omega
                              have hGE := HBW.out.trans (HDW.out.trans EW)
                              obtain ⟨b2, off2, rfl, hbl2, hc2⟩ := (HRDH.out.gr hGE).at_ (by omega)
                              have cj : wr.cell? ⟨b2, off2 + j, none⟩ = some (.int .i64 hl[j]!) := hc2 j _ (Rd.get hjq)
                              have c0 : wr.cell? ⟨b2, off2, none⟩ = some (.int .i64 hl[0]!) := hc2 0 _ (Rd.get hq0)
                              have cp : ∀ j', j = j' + 1 → wr.cell? ⟨b2, off2 + j', none⟩ = some (.int .i64 hl[j']!) ∧ hl[j']! < hl[j]! := fun j' e => ⟨hc2 j' _ (Rd.get (by omega)), by
                                rw [getElem!_pos hl j' (by omega), getElem!_pos hl j hjq]
                                exact List.pairwise_iff_getElem.1 HASC.out j' j (by omega) hjq (by omega)⟩
                              have hof : ∀ id, id ∈ hl → ∃ e ∈ es, e.r.id = id ∧ byF es id = some e.val := fun id h => by
                                have h1 := (HFF.out id).2 h
                                rw [← HRS.out.1] at h1
                                obtain ⟨x, hx, hxi, _⟩ := (atF_all nx id).1 h1
                                obtain ⟨e, he, hr⟩ := HRM.out x hx
                                exact byF_get ⟨e, he, by rw [hr]; exact hxi⟩
                              obtain ⟨e1, he1, hi1, hb1⟩ := hof _ (mem_get hjq)
                              obtain ⟨e2, he2, hi2, hb2⟩ := hof _ (mem_get hq0)
                              have HAt := hid ((HFF.out _).2 (mem_get hjq))
                              generalize hl[j]! = id at cj cp hi1 hb1 HAt
                              generalize hl[0]! = hd at c0 hi2 hb2
                              have HNE := hid (HNW.out.gr EW)
                              have HIN := hid ((HNE.out.inn nx HHp.out).1)
                              have hk1 := (HOK.out e1 he1).1
                              have hk2 := (HOK.out e2 he2).1
                              rw [hi1] at hk1
                              rw [hi2] at hk2
                              have hky1 := key_int id (by omega)
                              have hky2 := key_int hd (by omega)
                              have HMY := hid (HMBy.out.gr (HDW.out.trans EW))
                              have HC := HCM.out e1 e2 he1 he2
                              have HSN : Hid ((cmpN ⟨l, dg, dy, t⟩ e1.r e2.r).vd = 2 → 2 ≤ (cmpN ⟨l, dg, dy, t⟩ e1.r e2.r).nm) := fun h => sure_named h
                              have HB1 := hid hb1
                              have HB2 := hid hb2
                              have HBL := hid hbl2
                              clear hbl2 hc2 hof hi1 hi2 hb1 hb2 he1 he2
                              have hq1 : (0 : Int) < (q : Int) := by omega
                              have hq2 : 0 < q := by omega
                              go_upto_region 42 with fail
                              go_cut [168] (fun s168 wx => s168 = .bool false ∧ Gr wr wx)
                              case first => as_aux_lemma =>
                                by_cases hj1 : j = 0
                                · have hj2 : ¬ (0 : Int) < (j : Int) := by omega
                                  have hj3 : ¬ 0 < j := by omega
                                  have HJ := hid hj1
                                  clear cp hj1
                                  go_wp2_with (first
                                    | ((with_reducible show wpList _ _ _ (⟨some 152, _, _, _, _, _⟩ :: _) _ _); refine wpList_lookup_is (Value.int .i64) _ rfl (.tmp 150) (.tmp 151) 73 rfl keyed_int (fun p q => int_inj p q) Try.underlying73 (mb + 1) (fun p : Int => if H p = true then some (Value.map (some (B p))) else none) rfl HNE.out.out nx _ (.map none) rfl hkey (zero_mb _) ?_; (dsimp only); simp only [HHp.out, if_true, Option.getD_some])
                                    | ((with_reducible show wpList _ _ _ (⟨some 154, _, _, _, _, _⟩ :: _) _ _); refine wpList_lookup_is (Value.int .i64) _ rfl (.tmp 152) (.tmp 153) 76 rfl keyed_int (fun p q => int_inj p q) Try.underlying76 (B nx) (fun i' => if atF day rs i 0 nx i' = true then some (.bool true) else none) rfl HIN.out id _ (.bool false) rfl hky1 (zero_bool _) ?_; (dsimp only); simp only [HAt.out, if_true, Option.getD_some]))
                                  go_meet
                                  exact ⟨rfl, Gr.refl _⟩
                                · obtain ⟨j', rfl⟩ : ∃ j', j = j' + 1 := ⟨j - 1, by omega⟩
                                  obtain ⟨cp1, cp2⟩ := cp j' rfl
                                  have hj2 : (0 : Int) < ((j' + 1 : Nat) : Int) := by omega
                                  have hj4 : (0 : Int) < (j' : Int) + 1 := by omega
                                  have hj5 : 0 < j' + 1 := by omega
                                  have hw1 : IntKind.i64.wrap (((j' + 1 : Nat) : Int) - 1) = (j' : Int) := by rw [show ((j' + 1 : Nat) : Int) - 1 = (j' : Int) by omega]; exact IntWalk.i64_in _ (by omega)
                                  have hw2 : IntKind.i64.wrap (j' : Int) = (j' : Int) := IntWalk.i64_in _ (by omega)
                                  have hx1 : (j' : Int) < (q : Int) := by omega
                                  have hx2 : j' < q := by omega
                                  have hx3 : (0 : Int) ≤ (j' : Int) := by omega
                                  have hx4 : ¬ id ≤ hl[j']! := by omega
                                  generalize hl[j']! = pv at cp1 cp2 hx4
                                  clear cp hj1
                                  go_wp2_with (first
                                    | ((with_reducible show wpList _ _ _ (⟨some 152, _, _, _, _, _⟩ :: _) _ _); refine wpList_lookup_is (Value.int .i64) _ rfl (.tmp 150) (.tmp 151) 73 rfl keyed_int (fun p q => int_inj p q) Try.underlying73 (mb + 1) (fun p : Int => if H p = true then some (Value.map (some (B p))) else none) rfl HNE.out.out nx _ (.map none) rfl hkey (zero_mb _) ?_; (dsimp only); simp only [HHp.out, if_true, Option.getD_some])
                                    | ((with_reducible show wpList _ _ _ (⟨some 154, _, _, _, _, _⟩ :: _) _ _); refine wpList_lookup_is (Value.int .i64) _ rfl (.tmp 152) (.tmp 153) 76 rfl keyed_int (fun p q => int_inj p q) Try.underlying76 (B nx) (fun i' => if atF day rs i 0 nx i' = true then some (.bool true) else none) rfl HIN.out id _ (.bool false) rfl hky1 (zero_bool _) ?_; (dsimp only); simp only [HAt.out, if_true, Option.getD_some]))
                                  go_meet
                                  exact ⟨rfl, Gr.refl _⟩
                              case rest =>
                                obtain ⟨rfl, FW⟩ := hcut
                                obtain ⟨wE, rfl⟩ : ∃ wE : World, wE = wc := ⟨_, rfl⟩
                                have HFW := hid (EW.trans FW)
                                have KS : Hid (∀ W, Gr wE W → W.cell? ⟨b2, off2, none⟩ = some (.int .i64 hd) ∧ (Instr.lookup 65 (.map (some mb)) (.int .i64 id) false).run Try.prog W = .ok e1.val W ∧ (Instr.lookup 65 (.map (some mb)) (.int .i64 hd) false).run Try.prog W = .ok e2.val W) := fun W g => by
                                  refine ⟨?_, ?_, ?_⟩
                                  · exact (Gr.cell (FW.trans g) HBL.out).trans c0
                                  · have h := (HMY.out.gr (FW.trans g)).look keyed_int (fun p q => int_inj p q) Try.underlying65 hky1 (zero_rec _)
                                    rw [HB1.out] at h
                                    exact h
                                  · have h := (HMY.out.gr (FW.trans g)).look keyed_int (fun p q => int_inj p q) Try.underlying65 hky2 (zero_rec _)
                                    rw [HB2.out] at h
                                    exact h
                                obtain ⟨⟨id1, names1, suf1, lo1, hi1, num1, tw1, stays1⟩, A1, n1, c1, B1, m1, d1⟩ := e1
                                obtain ⟨⟨id2, names2, suf2, lo2, hi2, num2, tw2, stays2⟩, A2, n2, c2, B2, m2, d2⟩ := e2
                                unfold Elt.val Elt.cells at KS HC
                                dsimp only at KS HC HSN
                                generalize cmpN ⟨l, dg, dy, t⟩ ⟨id1, names1, suf1, lo1, hi1, num1, tw1, stays1⟩ ⟨id2, names2, suf2, lo2, hi2, num2, tw2, stays2⟩ = cv at HC HSN
                                obtain ⟨nm, nu, bi, pl, vd⟩ := cv
                                unfold Cmp.val at HC
                                dsimp only at HC HSN
                                have HCC := hid HC
                                clear HC HB1 HB2 HMY cj cp c0 HIN HNE HAt
                                go_upto_region 44 with fail
                                go_cut [23, 24] (fun s23 s24 wx => ∃ gx gy : Nat, s23 = .pointer (some ⟨gx, 0, none⟩) ∧ s24 = .pointer (some ⟨gy, 0, none⟩) ∧ Gr wE wx ∧ wx.heap[gx]? = some (.cells #[.int .i64 id1, .slice A1 n1 c1, .int .u8 suf1, .int .i64 lo1, .int .i64 hi1, .string num1, .bool tw1, .slice B1 m1 d1] 29 (0, 0)) ∧ wx.heap[gy]? = some (.cells #[.int .i64 id2, .slice A2 n2 c2, .int .u8 suf2, .int .i64 lo2, .int .i64 hi2, .string num2, .bool tw2, .slice B2 m2 d2] 29 (0, 0)))
                                case first => as_aux_lemma =>
                                  go_region_held3 (fun W => W.cell? ⟨b2, off2, none⟩ = some (.int .i64 hd) ∧ (Instr.lookup 65 (.map (some mb)) (.int .i64 id) false).run Try.prog W = .ok (.agg #[.int .i64 id1, .slice A1 n1 c1, .int .u8 suf1, .int .i64 lo1, .int .i64 hi1, .string num1, .bool tw1, .slice B1 m1 d1]) W ∧ (Instr.lookup 65 (.map (some mb)) (.int .i64 hd) false).run Try.prog W = .ok (.agg #[.int .i64 id2, .slice A2 n2 c2, .int .u8 suf2, .int .i64 lo2, .int .i64 hi2, .string num2, .bool tw2, .slice B2 m2 d2]) W)
                                    (((with_reducible refine KS.out _ ?_); ((repeat (first | with_reducible exact Gr.refl _ | with_reducible refine Gr.alloc ?_ _ | with_reducible refine Gr.setCell ?_ (by simp) _ | with_reducible refine Gr.setCell ?_ (by simp; omega) _ | with_reducible refine Gr.drew ?_ | with_reducible refine Gr.drewN ?_ _)))))
                                    (fail)
                                  all_goals
                                    go_wp2_with fail
                                    go_meet
                                    first
                                      | exact ⟨wE.heap.size, wE.heap.size + 1, rfl, rfl, (by (repeat (first | with_reducible exact Gr.refl _ | with_reducible refine Gr.alloc ?_ _ | with_reducible refine Gr.setCell ?_ (by simp) _ | with_reducible refine Gr.setCell ?_ (by simp; omega) _ | with_reducible refine Gr.drew ?_ | with_reducible refine Gr.drewN ?_ _))), (row_gr (heap_alloc_new wE (.cells #[.int .i64 id1, .slice A1 n1 c1, .int .u8 suf1, .int .i64 lo1, .int .i64 hi1, .string num1, .bool tw1, .slice B1 m1 d1] 29)) (by (repeat (first | with_reducible exact Gr.refl _ | with_reducible refine Gr.alloc ?_ _ | with_reducible refine Gr.setCell ?_ (by simp) _ | with_reducible refine Gr.setCell ?_ (by simp; omega) _ | with_reducible refine Gr.drew ?_ | with_reducible refine Gr.drewN ?_ _)))), (row_gr (show ((wE.alloc (.cells #[.int .i64 id1, .slice A1 n1 c1, .int .u8 suf1, .int .i64 lo1, .int .i64 hi1, .string num1, .bool tw1, .slice B1 m1 d1] 29)).alloc (.cells #[.int .i64 id2, .slice A2 n2 c2, .int .u8 suf2, .int .i64 lo2, .int .i64 hi2, .string num2, .bool tw2, .slice B2 m2 d2] 29)).heap[wE.heap.size + 1]? = some _ from by rw [show wE.heap.size + 1 = (wE.alloc (.cells #[.int .i64 id1, .slice A1 n1 c1, .int .u8 suf1, .int .i64 lo1, .int .i64 hi1, .string num1, .bool tw1, .slice B1 m1 d1] 29)).heap.size by simp]; exact heap_alloc_new _ _) (by (repeat (first | with_reducible exact Gr.refl _ | with_reducible refine Gr.alloc ?_ _ | with_reducible refine Gr.setCell ?_ (by simp) _ | with_reducible refine Gr.setCell ?_ (by simp; omega) _ | with_reducible refine Gr.drew ?_ | with_reducible refine Gr.drewN ?_ _))))⟩
                                      | exact ⟨wE.heap.size + 1, wE.heap.size, rfl, rfl, (by (repeat (first | with_reducible exact Gr.refl _ | with_reducible refine Gr.alloc ?_ _ | with_reducible refine Gr.setCell ?_ (by simp) _ | with_reducible refine Gr.setCell ?_ (by simp; omega) _ | with_reducible refine Gr.drew ?_ | with_reducible refine Gr.drewN ?_ _))), (row_gr (show ((wE.alloc (.cells #[.int .i64 id2, .slice A2 n2 c2, .int .u8 suf2, .int .i64 lo2, .int .i64 hi2, .string num2, .bool tw2, .slice B2 m2 d2] 29)).alloc (.cells #[.int .i64 id1, .slice A1 n1 c1, .int .u8 suf1, .int .i64 lo1, .int .i64 hi1, .string num1, .bool tw1, .slice B1 m1 d1] 29)).heap[wE.heap.size + 1]? = some _ from by rw [show wE.heap.size + 1 = (wE.alloc (.cells #[.int .i64 id2, .slice A2 n2 c2, .int .u8 suf2, .int .i64 lo2, .int .i64 hi2, .string num2, .bool tw2, .slice B2 m2 d2] 29)).heap.size by simp]; exact heap_alloc_new _ _) (by (repeat (first | with_reducible exact Gr.refl _ | with_reducible refine Gr.alloc ?_ _ | with_reducible refine Gr.setCell ?_ (by simp) _ | with_reducible refine Gr.setCell ?_ (by simp; omega) _ | with_reducible refine Gr.drew ?_ | with_reducible refine Gr.drewN ?_ _)))), (row_gr (heap_alloc_new wE (.cells #[.int .i64 id2, .slice A2 n2 c2, .int .u8 suf2, .int .i64 lo2, .int .i64 hi2, .string num2, .bool tw2, .slice B2 m2 d2] 29)) (by (repeat (first | with_reducible exact Gr.refl _ | with_reducible refine Gr.alloc ?_ _ | with_reducible refine Gr.setCell ?_ (by simp) _ | with_reducible refine Gr.setCell ?_ (by simp; omega) _ | with_reducible refine Gr.drew ?_ | with_reducible refine Gr.drewN ?_ _))))⟩
                                case rest =>
                                  obtain ⟨gx, gy, rfl, rfl, XW, hx, hy⟩ := hcut
                                  obtain ⟨wF, rfl⟩ : ∃ wF : World, wF = wc := ⟨_, rfl⟩
                                  have HXW := hid XW
                                  have HGF := hid (HBW.out.trans (HDW.out.trans (HFW.out.trans XW)))
                                  obtain ⟨q0, q1, q2, q3⟩ := cellsat4 (row_gr HR5.out HGF.out)
                                  obtain ⟨x0, x1, x2, x3, x4, x5, x6, x7⟩ := cellsat8 hx
                                  obtain ⟨y0, y1, y2, y3, y4, y5, y6, y7⟩ := cellsat8 hy
                                  have c0 := (KS.out wF XW).1
                                  have hb2F : b2 < wF.heap.size := Nat.lt_of_lt_of_le HBL.out (FW.trans XW).size
                                  have hrF := (Array.getElem?_eq_some_iff.1 (row_gr HR5.out HGF.out)).1
                                  have hxF := (Array.getElem?_eq_some_iff.1 hx).1
                                  have hyF := (Array.getElem?_eq_some_iff.1 hy).1
                                  have HG1 := hid (HG5.out.trans HGF.out)
                                  clear KS XW FW hx hy
                                  by_cases hih : id = hd
                                  · subst hih
                                    go_upto_region 46 with (go_at_call 18; (with_reducible refine (HCC.out _ ?_).mono ?_); rotate_right; rintro e w9 ⟨rfl, hbw9⟩; obtain ⟨hcw9, hfw9, hzw9⟩ := hbw9.rules; (try simp at hzw9))
                                    · have hb2w : b2 < w9.heap.size := Nat.lt_of_lt_of_le hb2F hbw9.size
                                      have hb2n : ¬ b2 = w9.heap.size := by omega
                                      have c9 : w9.cell? ⟨b2, off2, none⟩ = some (.int .i64 id) := (hbw9.cell hb2F).trans c0
                                      clear hcw9 hfw9 hzw9 q0 q1 q2 q3 x0 x1 x2 x3 x4 x5 x6 x7 y0 y1 y2 y3 y4 y5 y6 y7 c0
                                      go_wp2
                                      go_roundg (q - (j + 1))
                                      case measure => omega
                                      case rel => exact ⟨j + 1, by omega, by omega, by go_num, HFW.out.trans (HXW.out.trans (hbw9.alloc _))⟩
                                    · exact HG1.out
                                  · by_cases hv : vd = 2
                                    · subst hv
                                      have hn := HSN.out rfl
                                      have hn2 : ¬ nm < 2 := by omega
                                      go_upto_region 46 with (go_at_call 18; (with_reducible refine (HCC.out _ ?_).mono ?_); rotate_right; rintro e w9 ⟨rfl, hbw9⟩; obtain ⟨hcw9, hfw9, hzw9⟩ := hbw9.rules; (try simp at hzw9))
                                      · have hb2w : b2 < w9.heap.size := Nat.lt_of_lt_of_le hb2F hbw9.size
                                        have hb2n : ¬ b2 = w9.heap.size := by omega
                                        have c9 : w9.cell? ⟨b2, off2, none⟩ = some (.int .i64 hd) := (hbw9.cell hb2F).trans c0
                                        clear hcw9 hfw9 hzw9 q0 q1 q2 q3 x0 x1 x2 x3 x4 x5 x6 x7 y0 y1 y2 y3 y4 y5 y6 y7 c0
                                        go_wp2
                                        go_roundg (q - (j + 1))
                                        case measure => omega
                                        case rel => exact ⟨j + 1, by omega, by omega, by go_num, HFW.out.trans (HXW.out.trans (hbw9.alloc _))⟩
                                      · exact HG1.out
                                    · go_upto_region 46 with (go_at_call 18; (with_reducible refine (HCC.out _ ?_).mono ?_); rotate_right; rintro e w9 ⟨rfl, hbw9⟩; obtain ⟨hcw9, hfw9, hzw9⟩ := hbw9.rules; (try simp at hzw9))
                                      · have hb2w : b2 < w9.heap.size := Nat.lt_of_lt_of_le hb2F hbw9.size
                                        have hb2n : ¬ b2 = w9.heap.size := by omega
                                        have c9 : w9.cell? ⟨b2, off2, none⟩ = some (.int .i64 hd) := (hbw9.cell hb2F).trans c0
                                        clear hcw9 hfw9 hzw9 q0 q1 q2 q3 x0 x1 x2 x3 x4 x5 x6 x7 y0 y1 y2 y3 y4 y5 y6 y7 c0
                                        go_wp2
                                        go_roundg (q - (j + 1))
                                        case measure => omega
                                        case rel => exact ⟨j + 1, by omega, by omega, by go_num, HFW.out.trans (HXW.out.trans (hbw9.alloc _))⟩
                                      · exact HG1.out
                            · obtain rfl : j = q := by omega
                              have hjz : ¬ (j : Int) < (j : Int) := by omega
                              go_wp2
                              go_roundg (M - (m + 1))
                              case measure => omega
                              case rel => exact ⟨m + 1, by omega, by omega, by go_num, by rw [HSU.out], HDW.out.trans EW⟩
                        · refine hid ?_
                          have hqH : H q0 = true := by
                            cases e : H q0 with
                            | true => rfl
                            | false => rw [e] at hfq; cases hfq
                          have hqP := (HHP.out q0).1 hqH
                          have hst := HNX.out.step (fun p hp => (HP0.out p hp).1) hqP hlq
                          have HST := hid hst
                          have HG6' := hid (DW.grown HG6.out (fun k hk => by injection hk with hk; have := HR1.out; omega))
                          clear hfq hst hqP hqH hlq HNX HRg
                          by_cases h1 : lastQ P m < q0
                          · by_cases h2 : nx < 0
                            · go_wp2
                              go_roundg cnt6
                              case measure => omega
                              case rel => exact ⟨q0, _, cnt6, Nat.le_refl _, rfl, HG6'.out, HM6, by have h := HST.out; rw [if_pos ⟨h1, .inl h2⟩] at h; exact h⟩
                            · by_cases h3 : q0 < nx
                              · go_wp2
                                go_roundg cnt6
                                case measure => omega
                                case rel => exact ⟨q0, _, cnt6, Nat.le_refl _, rfl, HG6'.out, HM6, by have h := HST.out; rw [if_pos ⟨h1, .inr h3⟩] at h; exact h⟩
                              · go_wp2
                                go_roundg cnt6
                                case measure => omega
                                case rel => exact ⟨nx, _, cnt6, Nat.le_refl _, rfl, HG6'.out, HM6, by have h := HST.out; rw [if_neg (by omega)] at h; exact h⟩
                          · go_wp2
                            go_roundg cnt6
                            case measure => omega
                            case rel => exact ⟨nx, _, cnt6, Nat.le_refl _, rfl, HG6'.out, HM6, by have h := HST.out; rw [if_neg (by omega)] at h; exact h⟩
                    · obtain rfl : m = M := by omega
                      have hmz : ¬ (m : Int) < (m : Int) := by omega
                      go_wp2
                      go_ret
                      exact ⟨rfl, HG5.out.trans (HBW.out.trans CW)⟩
            · (repeat (first | with_reducible exact Gr.refl _ | with_reducible refine Gr.trans ?_ hbw4 | with_reducible refine Gr.trans ?_ hbw3 | with_reducible refine Gr.trans ?_ hbw2 | with_reducible refine Gr.trans ?_ hbw1 | with_reducible refine Gr.alloc ?_ _ | with_reducible refine Gr.setCell ?_ (by simp) _ | with_reducible refine Gr.setCell ?_ (by simp; omega) _ | with_reducible refine Gr.drew ?_ | with_reducible refine Gr.drewN ?_ _))
            · (repeat (first | with_reducible exact Gr.refl _ | with_reducible refine Gr.trans ?_ hbw3 | with_reducible refine Gr.trans ?_ hbw2 | with_reducible refine Gr.trans ?_ hbw1 | with_reducible refine Gr.alloc ?_ _ | with_reducible refine Gr.setCell ?_ (by simp) _ | with_reducible refine Gr.setCell ?_ (by simp; omega) _ | with_reducible refine Gr.drew ?_ | with_reducible refine Gr.drewN ?_ _))
            · (repeat (first | with_reducible exact Gr.refl _ | with_reducible refine Gr.trans ?_ hbw1 | with_reducible refine Gr.alloc ?_ _ | with_reducible refine Gr.setCell ?_ (by simp) _ | with_reducible refine Gr.setCell ?_ (by simp; omega) _ | with_reducible refine Gr.drew ?_ | with_reducible refine Gr.drewN ?_ _))
      · generalize recsE rs = E at HRE hz
        clear hI hg hro
        obtain ⟨l, dg, dy, t⟩ := r
        unfold Rul.val at *
        dsimp only at *
        go_enter Try.func10, Try.ntmps10
        go_wp2_with (first
          | (go_at_call 20; (with_reducible refine (HAL.out _).mono ?_); rotate_right; rintro e w1 ⟨rfl, hbw1⟩; obtain ⟨hcw1, hfw1, hzw1⟩ := hbw1.rules; (try simp at hzw1); have hzw1_0 : w.heap.size < w1.heap.size := (by omega); have hyw1_0 : w.heap.size ≤ w1.heap.size := (by omega))
          | (go_at_call 25; (with_reducible refine (HGR.out _ ?_).mono ?_); rotate_right; rintro e w2 ⟨rfl, hbw2⟩; obtain ⟨hcw2, hfw2, hzw2⟩ := hbw2.rules; (try simp at hzw2); have hzw2_0 : w.heap.size < w2.heap.size := (by omega); have hyw2_0 : w.heap.size ≤ w2.heap.size := (by omega))
          | (go_at_call 21; (with_reducible refine (HRU.out _).mono ?_); rotate_right; rintro e w3 ⟨rfl, hbw3⟩; obtain ⟨hcw3, hfw3, hzw3⟩ := hbw3.rules; (try simp at hzw3); have hzw3_0 : w.heap.size < w3.heap.size := (by omega); have hyw3_0 : w.heap.size ≤ w3.heap.size := (by omega))
          | (go_at_call 26; (with_reducible refine (HRE.out _ ?_).mono ?_); rotate_right; rintro e w4 ⟨rfl, hbw4⟩; obtain ⟨hcw4, hfw4, hzw4⟩ := hbw4.rules; (try simp at hzw4); have hzw4_0 : w.heap.size < w4.heap.size := (by omega); have hyw4_0 : w.heap.size ≤ w4.heap.size := (by omega)))
        · go_ret
          exact ⟨rfl, by (repeat (first | with_reducible exact Gr.refl _ | with_reducible refine Gr.trans ?_ hbw4 | with_reducible refine Gr.trans ?_ hbw3 | with_reducible refine Gr.trans ?_ hbw2 | with_reducible refine Gr.trans ?_ hbw1 | with_reducible refine Gr.alloc ?_ _ | with_reducible refine Gr.setCell ?_ (by simp) _ | with_reducible refine Gr.setCell ?_ (by simp; omega) _ | with_reducible refine Gr.drew ?_ | with_reducible refine Gr.drewN ?_ _))⟩
        · (repeat (first | with_reducible exact Gr.refl _ | with_reducible refine Gr.trans ?_ hbw3 | with_reducible refine Gr.trans ?_ hbw2 | with_reducible refine Gr.trans ?_ hbw1 | with_reducible refine Gr.alloc ?_ _ | with_reducible refine Gr.setCell ?_ (by simp) _ | with_reducible refine Gr.setCell ?_ (by simp; omega) _ | with_reducible refine Gr.drew ?_ | with_reducible refine Gr.drewN ?_ _))
        · (repeat (first | with_reducible exact Gr.refl _ | with_reducible refine Gr.trans ?_ hbw1 | with_reducible refine Gr.alloc ?_ _ | with_reducible refine Gr.setCell ?_ (by simp) _ | with_reducible refine Gr.setCell ?_ (by simp; omega) _ | with_reducible refine Gr.drew ?_ | with_reducible refine Gr.drewN ?_ _))
end Go.Proofs.Ytlkjimfkapcenaa
