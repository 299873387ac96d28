/- Numbers of signals, and order of the package inquiry. For all signals. within, signal, before, Signals of the reference of layer 9. For all signals. The comparison of traces, by their days. For all traces. Licences of the reference of layer 9. For every slice of licences. -/
import Derived.Laws.EntriesVeiled
import Derived.Test.YtliehlefpodhaaaDoorOBase
import Derived.Test.YtliehlefpodhaaaDoorOGs
namespace Go.Proofs.YtliehlefpodhaaaDoor
open Go.RowKit Go.Shelf Go.Sort

theorem bureau_num : NumSig (58, Sig.bureau) := {
  enters := enters_of Tryd.func58 (by kernel_rfl) rfl
  gives := by
    intro x W
    unfold Sig.val
    dsimp only
    go_enter Tryd.func58, Tryd.ntmps58
    go_wp2
    go_ret
    exact ⟨rfl, (Gs.refl W).alloc _⟩ }
theorem id_num : NumSig (59, Sig.id) := {
  enters := enters_of Tryd.func59 (by kernel_rfl) rfl
  gives := by
    intro x W
    unfold Sig.val
    dsimp only
    go_enter Tryd.func59, Tryd.ntmps59
    go_wp2
    go_ret
    exact ⟨rfl, (Gs.refl W).alloc _⟩ }
theorem day_num : NumSig (97, Sig.day) := {
  enters := enters_of Tryd.func97 (by kernel_rfl) rfl
  gives := by
    intro x W
    unfold Sig.val
    dsimp only
    go_enter Tryd.func97, Tryd.ntmps97
    go_wp2
    go_ret
    exact ⟨rfl, (Gs.refl W).alloc _⟩ }

theorem cmpI_zero (x y : Int) : cmpI x y = 0 ↔ x = y := by unfold cmpI; (repeat' split) <;> omega
theorem cmpI_pos (x y : Int) : 0 < cmpI x y ↔ y < x := by unfold cmpI; (repeat' split) <;> omega
theorem cmpI_neg (x y : Int) : cmpI x y < 0 ↔ x < y := by unfold cmpI; (repeat' split) <;> omega
theorem by2_neg (a b : Sig) : decide (byN [Sig.bureau, Sig.id] a b < 0) = befB a b := by
  unfold befB
  rw [Bool.eq_iff_iff, decide_eq_true_eq, decide_eq_true_eq]
  simp only [byN]
  have h1 := cmpI_zero a.bureau b.bureau
  have h2 := cmpI_neg a.bureau b.bureau
  have h3 := cmpI_zero a.id b.id
  have h4 := cmpI_neg a.id b.id
  split
  · split
    · omega
    · omega
  · omega
theorem by3_pos (a b : Sig) : decide (0 < byN [Sig.day, Sig.bureau, Sig.id] a b) = laterB a b := by
  unfold laterB
  rw [Bool.eq_iff_iff, decide_eq_true_eq, decide_eq_true_eq]
  simp only [byN]
  have h1 := cmpI_zero a.bureau b.bureau
  have h2 := cmpI_pos a.bureau b.bureau
  have h3 := cmpI_zero a.id b.id
  have h4 := cmpI_pos a.id b.id
  have h5 := cmpI_zero a.day b.day
  have h6 := cmpI_pos a.day b.day
  split
  · split
    · split
      · omega
      · omega
    · omega
  · omega

/-- by at bureau and id. -/
theorem by2_any (x y : Sig) (B c : Nat) (w : World) (h0 : w.cell? ⟨B, 0, none⟩ = some (.func (.func 58) #[] #[])) (h1 : w.cell? ⟨B, 1, none⟩ = some (.func (.func 59) #[] #[])) :
    Calls Tryd.prog 57 #[x.val, y.val, .slice (some ⟨B, 0, none⟩) 2 c] w fun e w' => e = .returned (.int .i64 (byN [Sig.bureau, Sig.id] x y)) ∧ Gs w w' := by
  have h := bySig_any x y [(58, Sig.bureau), (59, Sig.id)] (some ⟨B, 0, none⟩) 2 c w (Rd.two (block_lt_of_cell h0) h0 h1) (by omega)
    (fun p hp => by
      simp only [List.mem_cons, List.not_mem_nil, or_false] at hp
      rcases hp with rfl | rfl
      · exact bureau_num
      · exact id_num)
  simpa using h
theorem by3_any (x y : Sig) (B c : Nat) (w : World) (h : w.cell? ⟨B, 0, none⟩ = some (.func (.func 97) #[] #[])) (h0 : w.cell? ⟨B, 1, none⟩ = some (.func (.func 58) #[] #[])) (h1 : w.cell? ⟨B, 2, none⟩ = some (.func (.func 59) #[] #[])) :
    Calls Tryd.prog 57 #[x.val, y.val, .slice (some ⟨B, 0, none⟩) 3 c] w fun e w' => e = .returned (.int .i64 (byN [Sig.day, Sig.bureau, Sig.id] x y)) ∧ Gs w w' := by
  have h := bySig_any x y [(97, Sig.day), (58, Sig.bureau), (59, Sig.id)] (some ⟨B, 0, none⟩) 3 c w (Rd.three (block_lt_of_cell h0) h h0 h1) (by omega)
    (fun p hp => by
      simp only [List.mem_cons, List.not_mem_nil, or_false] at hp
      rcases hp with rfl | rfl | rfl
      · exact day_num
      · exact bureau_num
      · exact id_num)
  simpa using h

set_option maxHeartbeats 2000000 in
theorem order_any (x y : Sig) (w : World) :
    Calls Tryd.prog 77 #[x.val, y.val] w fun e w' => e = .returned (.int .i64 (byN [Sig.day, Sig.bureau, Sig.id] x y)) ∧ Gs w w' := by
  have H := hid (fun W B (h : W.cell? ⟨B, 0, none⟩ = some (.func (.func 97) #[] #[])) h0 h1 => by3_any x y B 3 W h h0 h1)
  generalize byN [Sig.day, Sig.bureau, Sig.id] x y = r at *
  unfold Sig.val at *
  go_enter Tryd.func77, Tryd.ntmps77
  go_wp2_with (go_at_call 57; (with_reducible refine (H.out _ _ ?_ ?_ ?_).mono ?_); rotate_right; rintro e w1 ⟨rfl, hb⟩; have HB := hid hb; clear hb)
  all_goals first
    | (rw [cell_top _ _ _ _ _ (by simp)]; rfl)
    | (go_ret
       exact ⟨rfl, (((Gs.refl w).alloc _).alloc _ |>.alloc _).trans HB.out⟩)
end Go.Proofs.YtliehlefpodhaaaDoor
namespace Go.Proofs.YtliehlefpodhaaaDoor
open Go.RowKit

theorem refWithin_any (n lo hi : Int) (r : Bool) (hr : inB lo hi n = r) (w : World) :
    Calls Tryd.prog 49 #[.int .i64 n, .int .i64 lo, .int .i64 hi] w fun e w' => e = .returned (.bool r) ∧ w = w' := by
  subst hr
  rw [show inB lo hi n = (decide (lo ≤ n) && decide (n ≤ hi)) by unfold inB; rw [Bool.eq_iff_iff]; simp]
  go_enter Tryd.func49, Tryd.ntmps49
  go_wp2
  all_goals (go_ret; exact ⟨by (simp_all; try omega), rfl⟩)

set_option maxRecDepth 100000 in
set_option maxHeartbeats 2000000 in
theorem refSignal_any (x : Sig) (w : World) (hu : 0 ≤ x.kind ∧ x.kind ≤ 255) :
    Calls Tryd.prog 74 #[x.val] w fun e w' => e = .returned (.bool (sigB x)) ∧ Gr w w' := by
  obtain ⟨x0, x1, x2, x3, x4, x5⟩ := x
  unfold Sig.val sigB
  dsimp only at *
  obtain ⟨u1, u2⟩ := hu
  obtain ⟨b1, h1⟩ : ∃ b, inB 0 9 x0 = b := ⟨_, rfl⟩
  obtain ⟨b2, h2⟩ : ∃ b, inB 0 999999 x1 = b := ⟨_, rfl⟩
  obtain ⟨b3, h3⟩ : ∃ b, inB 0 999999 x2 = b := ⟨_, rfl⟩
  obtain ⟨b4, h4⟩ : ∃ b, inB 0 100000 x3 = b := ⟨_, rfl⟩
  obtain ⟨b5, h5⟩ : ∃ b, inB 1 5 x4 = b := ⟨_, rfl⟩
  obtain ⟨b6, h6⟩ : ∃ b, inB x3 100000 x5 = b := ⟨_, rfl⟩
  rw [h1, h2, h3, h4, h5, h6]
  have H1 := hid h1
  have H2 := hid h2
  have H3 := hid h3
  have H4 := hid h4
  have H5 := hid h5
  have H6 := hid h6
  clear h1 h2 h3 h4 h5 h6
  obtain ⟨kb, hkb⟩ : ∃ kb : Bool, (if x4 = 3 ∨ x4 = 4 then b6 else x5 == 0) = kb := ⟨_, rfl⟩
  rw [hkb]
  have HK := hid hkb
  clear hkb
  by_cases g3 : x4 = 3
  · have hb : kb = b6 := by rw [← HK.out, if_pos (Or.inl g3)]
    have g3' : (x4 == 3) = true := by simpa using g3
    clear HK g3
    subst hb
    go_enter Tryd.func74, Tryd.ntmps74
    go_wp2_with (first
      | (go_at_call 49; (with_reducible refine (refWithin_any x0 0 9 b1 H1.out _).mono ?_); rotate_right; rintro e w' ⟨rfl, rfl⟩)
      | (go_at_call 49; (with_reducible refine (refWithin_any x1 0 999999 b2 H2.out _).mono ?_); rotate_right; rintro e w' ⟨rfl, rfl⟩)
      | (go_at_call 49; (with_reducible refine (refWithin_any x2 0 999999 b3 H3.out _).mono ?_); rotate_right; rintro e w' ⟨rfl, rfl⟩)
      | (go_at_call 49; (with_reducible refine (refWithin_any x3 0 100000 b4 H4.out _).mono ?_); rotate_right; rintro e w' ⟨rfl, rfl⟩)
      | (go_at_call 49; (with_reducible refine (refWithin_any x4 1 5 b5 H5.out _).mono ?_); rotate_right; rintro e w' ⟨rfl, rfl⟩)
      | (go_at_call 49; (with_reducible refine (refWithin_any x5 x3 100000 _ H6.out _).mono ?_); rotate_right; rintro e w' ⟨rfl, rfl⟩))
    all_goals
      go_ret
      refine ⟨by simp_all, ?_⟩
      (repeat (first | with_reducible exact Gr.refl _ | with_reducible refine Gr.alloc ?_ _ | with_reducible refine Gr.setCell ?_ (by simp) _ | with_reducible refine Gr.setCell ?_ (by simp; omega) _ | with_reducible refine Gr.drew ?_ | with_reducible refine Gr.drewN ?_ _))
  · by_cases g4 : x4 = 4
    · have hb : kb = b6 := by rw [← HK.out, if_pos (Or.inr g4)]
      have g3' : (x4 == 3) = false := by simpa using g3
      have g4' : (x4 == 4) = true := by simpa using g4
      clear HK g3 g4
      subst hb
      go_enter Tryd.func74, Tryd.ntmps74
      go_wp2_with (first
        | (go_at_call 49; (with_reducible refine (refWithin_any x0 0 9 b1 H1.out _).mono ?_); rotate_right; rintro e w' ⟨rfl, rfl⟩)
        | (go_at_call 49; (with_reducible refine (refWithin_any x1 0 999999 b2 H2.out _).mono ?_); rotate_right; rintro e w' ⟨rfl, rfl⟩)
        | (go_at_call 49; (with_reducible refine (refWithin_any x2 0 999999 b3 H3.out _).mono ?_); rotate_right; rintro e w' ⟨rfl, rfl⟩)
        | (go_at_call 49; (with_reducible refine (refWithin_any x3 0 100000 b4 H4.out _).mono ?_); rotate_right; rintro e w' ⟨rfl, rfl⟩)
        | (go_at_call 49; (with_reducible refine (refWithin_any x4 1 5 b5 H5.out _).mono ?_); rotate_right; rintro e w' ⟨rfl, rfl⟩)
        | (go_at_call 49; (with_reducible refine (refWithin_any x5 x3 100000 _ H6.out _).mono ?_); rotate_right; rintro e w' ⟨rfl, rfl⟩))
      all_goals
        go_ret
        refine ⟨by simp_all, ?_⟩
        (repeat (first | with_reducible exact Gr.refl _ | with_reducible refine Gr.alloc ?_ _ | with_reducible refine Gr.setCell ?_ (by simp) _ | with_reducible refine Gr.setCell ?_ (by simp; omega) _ | with_reducible refine Gr.drew ?_ | with_reducible refine Gr.drewN ?_ _))
    · have hb : kb = (x5 == 0) := by rw [← HK.out, if_neg (by omega)]
      have g3' : (x4 == 3) = false := by simpa using g3
      have g4' : (x4 == 4) = false := by simpa using g4
      clear HK g3 g4
      subst hb
      go_enter Tryd.func74, Tryd.ntmps74
      go_wp2_with (first
        | (go_at_call 49; (with_reducible refine (refWithin_any x0 0 9 b1 H1.out _).mono ?_); rotate_right; rintro e w' ⟨rfl, rfl⟩)
        | (go_at_call 49; (with_reducible refine (refWithin_any x1 0 999999 b2 H2.out _).mono ?_); rotate_right; rintro e w' ⟨rfl, rfl⟩)
        | (go_at_call 49; (with_reducible refine (refWithin_any x2 0 999999 b3 H3.out _).mono ?_); rotate_right; rintro e w' ⟨rfl, rfl⟩)
        | (go_at_call 49; (with_reducible refine (refWithin_any x3 0 100000 b4 H4.out _).mono ?_); rotate_right; rintro e w' ⟨rfl, rfl⟩)
        | (go_at_call 49; (with_reducible refine (refWithin_any x4 1 5 b5 H5.out _).mono ?_); rotate_right; rintro e w' ⟨rfl, rfl⟩))
      all_goals
        go_ret
        refine ⟨by simp_all, ?_⟩
        (repeat (first | with_reducible exact Gr.refl _ | with_reducible refine Gr.alloc ?_ _ | with_reducible refine Gr.setCell ?_ (by simp) _ | with_reducible refine Gr.setCell ?_ (by simp; omega) _ | with_reducible refine Gr.drew ?_ | with_reducible refine Gr.drewN ?_ _))

set_option maxHeartbeats 1000000 in
theorem refBefore_any (x y : Sig) (w : World) :
    Calls Tryd.prog 61 #[x.val, y.val] w fun e w' => e = .returned (.bool (befB x y)) ∧ Gr w w' := by
  obtain ⟨x0, x1, x2, x3, x4, x5⟩ := x
  obtain ⟨y0, y1, y2, y3, y4, y5⟩ := y
  unfold Sig.val befB
  dsimp only
  rcases Int.lt_trichotomy x0 y0 with h | h | h
  · have e : decide (x0 < y0 ∨ (x0 = y0 ∧ x1 < y1)) = true := by simp; omega
    rw [e]
    go_enter Tryd.func61, Tryd.ntmps61
    go_wp2
    go_ret
    exact ⟨rfl, by (repeat (first | with_reducible exact Gr.refl _ | with_reducible refine Gr.alloc ?_ _ | with_reducible refine Gr.setCell ?_ (by simp) _ | with_reducible refine Gr.setCell ?_ (by simp; omega) _ | with_reducible refine Gr.drew ?_ | with_reducible refine Gr.drewN ?_ _))⟩
  · subst h
    have e : decide (x0 < x0 ∨ (x0 = x0 ∧ x1 < y1)) = decide (x1 < y1) := by rw [Bool.eq_iff_iff]; simp
    rw [e]
    have n1 : ¬ x0 < x0 := by omega
    clear e
    go_enter Tryd.func61, Tryd.ntmps61
    go_wp2
    all_goals
      go_ret
      exact ⟨by first | rfl | simp_all, by (repeat (first | with_reducible exact Gr.refl _ | with_reducible refine Gr.alloc ?_ _ | with_reducible refine Gr.setCell ?_ (by simp) _ | with_reducible refine Gr.setCell ?_ (by simp; omega) _ | with_reducible refine Gr.drew ?_ | with_reducible refine Gr.drewN ?_ _))⟩
  · have e : decide (x0 < y0 ∨ (x0 = y0 ∧ x1 < y1)) = false := by simp; omega
    rw [e]
    have n1 : ¬ x0 < y0 := by omega
    have n2 : (x0 == y0) = false := by simp; omega
    clear e
    go_enter Tryd.func61, Tryd.ntmps61
    go_wp2
    go_ret
    exact ⟨rfl, by (repeat (first | with_reducible exact Gr.refl _ | with_reducible refine Gr.alloc ?_ _ | with_reducible refine Gr.setCell ?_ (by simp) _ | with_reducible refine Gr.setCell ?_ (by simp; omega) _ | with_reducible refine Gr.drew ?_ | with_reducible refine Gr.drewN ?_ _))⟩
end Go.Proofs.YtliehlefpodhaaaDoor
namespace Go.Proofs.YtliehlefpodhaaaDoor
open Go.RowKit Go.Shelf Go.Sort

theorem trDay_num : NumTrc (48, Trc.day) := {
  enters := enters_of Tryd.func48 (by kernel_rfl) rfl
  gives := by
    intro x W
    unfold Trc.val
    dsimp only
    go_enter Tryd.func48, Tryd.ntmps48
    go_wp2
    go_ret
    exact ⟨rfl, (Gs.refl W).alloc _⟩ }
theorem byDay_any (x y : Trc) (B c : Nat) (w : World) (h0 : w.cell? ⟨B, 0, none⟩ = some (.func (.func 48) #[] #[])) :
    Calls Tryd.prog 47 #[x.val, y.val, .slice (some ⟨B, 0, none⟩) 1 c] w fun e w' => e = .returned (.int .i64 (cmpI x.day y.day)) ∧ Gs w w' := by
  have h := byTrc_any x y [(48, Trc.day)] (some ⟨B, 0, none⟩) 1 c w (Rd.one (block_lt_of_cell h0) h0) (by omega)
    (fun p hp => by
      simp only [List.mem_cons, List.not_mem_nil, or_false] at hp
      subst hp
      exact trDay_num)
  have e : byN [Trc.day] x y = cmpI x.day y.day := by
    simp only [byN]
    split
    · rename_i h; exact h.symm
    · rfl
  simpa [e] using h
set_option maxHeartbeats 2000000 in
theorem trCmp_any (x y : Trc) (w : World) :
    Calls Tryd.prog 46 #[x.val, y.val] w fun e w' => e = .returned (.int .i64 (cmpI x.day y.day)) ∧ Gs w w' := by
  have H := hid (fun W B (h : W.cell? ⟨B, 0, none⟩ = some (.func (.func 48) #[] #[])) => byDay_any x y B 1 W h)
  generalize cmpI x.day y.day = r at *
  unfold Trc.val at *
  go_enter Tryd.func46, Tryd.ntmps46
  go_wp2_with (go_at_call 47; (with_reducible refine (H.out _ _ ?_).mono ?_); rotate_right; rintro e w1 ⟨rfl, hb⟩; have HB := hid hb; clear hb)
  all_goals first
    | (rw [cell_top _ _ _ _ _ (by simp)]; rfl)
    | (go_ret
       exact ⟨rfl, (((Gs.refl w).alloc _).alloc _ |>.alloc _).trans HB.out⟩)
end Go.Proofs.YtliehlefpodhaaaDoor
namespace Go.Proofs.YtliehlefpodhaaaDoor
open Go.RowKit

theorem licB_ref (x : Lic) : licB x = (inB 0 999999 x.who && inB 1 6 x.purpose && (x.purpose != 5) && inB 0 x.hi x.lo && decide (x.hi ≤ 100000)) := by
  unfold licB inB
  rw [Bool.eq_iff_iff]
  simp only [Bool.and_eq_true, decide_eq_true_eq, bne_iff_ne, ne_eq]
  omega
theorem licsB_bad {ls : List Lic} {k : Nat} (hk : k < ls.length) (h : licB ls[k]! = false) : licsB ls = false := by
  unfold licsB
  rw [show ls.all licB = false by
    rw [List.all_eq_false]
    exact ⟨ls[k]!, mem_get hk, by rw [h]; simp⟩]
  simp
theorem licsB_good {ls : List Lic} (h40 : ls.length ≤ 40) (h : ∀ j, j < ls.length → licB ls[j]! = true) : licsB ls = true := by
  unfold licsB
  rw [show ls.all licB = true by
    rw [List.all_eq_true]
    intro x hx
    obtain ⟨j, hj, rfl⟩ := List.getElem_of_mem hx
    have := h j hj
    rwa [getElem!_pos ls j hj] at this]
  simpa using h40

set_option maxRecDepth 100000 in
set_option maxHeartbeats 4000000 in
theorem refLicences_any (A : Option Addr) (n c : Nat) (ls : List Lic) (w : World) (hi : LicsIn w A n ls) :
    Calls Tryd.prog 66 #[.slice A n c] w fun e w' => e = .returned (.bool (licsB ls)) ∧ Gr w w' := by
  have HU := hid hi.u8
  have hr := hi.rd
  have hbig := hi.big
  clear hi
  have HL := hid hr.lic_len
  have HR := hid hr
  clear hr
  by_cases h40 : n ≤ 40
  case neg =>
    have HE : Hid (licsB ls = false) := by
      show licsB ls = false
      unfold licsB
      rw [show decide (ls.length ≤ 40) = false by have := HL.out; simp; omega]
      rfl
    have h40' : (40 : Int) < n := by omega
    clear h40
    go_enter Tryd.func66, Tryd.ntmps66
    go_wp2
    go_ret
    exact ⟨by rw [HE.out]; rfl, Gr.refl w⟩
  have h40' : (n : Int) ≤ 40 := by omega
  go_enter Tryd.func66, Tryd.ntmps66
  go_wp2
  go_loopg [3, 4] n (fun gg s3 _ wr => ∃ kk : Nat, kk ≤ n ∧ n - kk ≤ gg ∧ s3 = .int .i64 kk ∧ Gr w wr ∧ Hid (∀ j, j < kk → licB ls[j]! = true))
  case atStart => exact ⟨0, Nat.zero_le _, by omega, rfl, Gr.refl w, fun j hj => absurd hj (Nat.not_lt_zero _)⟩
  case round =>
    obtain ⟨kk, hkk, hg, rfl, BW, HA⟩ := hrel
    by_cases hlt : kk < n
    · obtain ⟨hk', b, off, rfl, hb, c0, c1, c2, c3⟩ := (HR.out.gr BW).lic hlt
      have HK := hid hk'
      clear hk'
      obtain ⟨x, hx⟩ : ∃ x, ls[kk]! = x := ⟨_, rfl⟩
      have hu : 0 ≤ x.purpose ∧ x.purpose ≤ 255 := hx ▸ HU.out _ (mem_get HK.out)
      obtain ⟨u1, u2⟩ := hu
      have HP : Hid (licB ls[kk]! = (inB 0 999999 x.who && inB 1 6 x.purpose && (x.purpose != 5) && inB 0 x.hi x.lo && decide (x.hi ≤ 100000))) := by
        show licB ls[kk]! = _
        rw [hx]; exact licB_ref x
      rw [hx] at c0 c1 c2 c3
      clear hx
      obtain ⟨x0, x1, x2, x3⟩ := x
      dsimp only at *
      obtain ⟨b1, h1⟩ : ∃ b, inB 0 999999 x0 = b := ⟨_, rfl⟩
      obtain ⟨b2, h2⟩ : ∃ b, inB 1 6 x1 = b := ⟨_, rfl⟩
      obtain ⟨b3, h3⟩ : ∃ b, inB 0 x3 x2 = b := ⟨_, rfl⟩
      rw [h1, h2, h3] at HP
      have H1 := hid h1
      have H2 := hid h2
      have H3 := hid h3
      clear h1 h2 h3
      by_cases hgood : (b1 && b2 && (x1 != 5) && b3 && decide (x3 ≤ 100000)) = true
      · have HQ : Hid (licB ls[kk]! = true) := HP.out.trans hgood
        simp only [Bool.and_eq_true, decide_eq_true_eq] at hgood
        obtain ⟨⟨⟨⟨rfl, rfl⟩, h5⟩, rfl⟩, h6⟩ := hgood
        have h5' : (x1 == 5) = false := by simpa using h5
        go_wp2_with (first
          | (go_at_call 49; (with_reducible refine (refWithin_any x0 0 999999 _ H1.out _).mono ?_); rotate_right; rintro e w' ⟨rfl, rfl⟩)
          | (go_at_call 49; (with_reducible refine (refWithin_any x1 1 6 _ H2.out _).mono ?_); rotate_right; rintro e w' ⟨rfl, rfl⟩)
          | (go_at_call 49; (with_reducible refine (refWithin_any x2 0 x3 _ H3.out _).mono ?_); rotate_right; rintro e w' ⟨rfl, rfl⟩))
        go_roundg (n - (kk + 1))
        case measure => omega
        case rel =>
          refine ⟨kk + 1, by omega, by omega, by go_num, BW.trans (by (repeat (first | with_reducible exact Gr.refl _ | with_reducible refine Gr.alloc ?_ _ | with_reducible refine Gr.setCell ?_ (by simp) _ | with_reducible refine Gr.setCell ?_ (by simp; omega) _ | with_reducible refine Gr.drew ?_ | with_reducible refine Gr.drewN ?_ _))), hid fun j' hj' => ?_⟩
          by_cases e : j' = kk
          · subst e; exact HQ.out
          · exact HA.out j' (by omega)
      · have HQ : Hid (licB ls[kk]! = false) := by show licB ls[kk]! = false; rw [HP.out]; simpa using hgood
        have HB := hid hgood
        clear hgood
        cases b1
        case' true => cases b2
        case' true.true => cases h5 : x1 == 5
        case' true.true.false => cases b3
        case' true.true.false.true =>
          have h6 : 100000 < x3 := by
            have h := HB.out
            have h5n : (x1 != 5) = true := by simpa using h5
            rw [h5n] at h
            simp at h
            omega
        all_goals
          go_wp2_with (first
            | (go_at_call 49; (with_reducible refine (refWithin_any x0 0 999999 _ H1.out _).mono ?_); rotate_right; rintro e w' ⟨rfl, rfl⟩)
            | (go_at_call 49; (with_reducible refine (refWithin_any x1 1 6 _ H2.out _).mono ?_); rotate_right; rintro e w' ⟨rfl, rfl⟩)
            | (go_at_call 49; (with_reducible refine (refWithin_any x2 0 x3 _ H3.out _).mono ?_); rotate_right; rintro e w' ⟨rfl, rfl⟩))
          go_ret
          refine ⟨?_, BW.trans (by (repeat (first | with_reducible exact Gr.refl _ | with_reducible refine Gr.alloc ?_ _ | with_reducible refine Gr.setCell ?_ (by simp) _ | with_reducible refine Gr.setCell ?_ (by simp; omega) _ | with_reducible refine Gr.drew ?_ | with_reducible refine Gr.drewN ?_ _)))⟩
          rw [licsB_bad HK.out HQ.out]
          rfl
    · have hltz : ¬ (kk : Int) < (n : Int) := by omega
      have HE : Hid (licsB ls = true) := licsB_good (by have := HL.out; omega) (fun j hj => HA.out j (by have := HL.out; omega))
      go_wp2
      go_ret
      refine ⟨by rw [HE.out]; rfl, BW⟩
end Go.Proofs.YtliehlefpodhaaaDoor
