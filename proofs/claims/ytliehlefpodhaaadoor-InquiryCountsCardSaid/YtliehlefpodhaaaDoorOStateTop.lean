/- State of the package inquiry and of the reference: whether a file is frozen, and has an alert, or the error. For all signals. -/
import Derived.Test.YtliehlefpodhaaaDoorOState
import Derived.Test.YtliehlefpodhaaaDoorORefLater
import Derived.Test.YtliehlefpodhaaaDoorORight
namespace Go.Proofs.YtliehlefpodhaaaDoor
open Go.RowKit

/-- What State answers. -/
def stFz (zs : List Sig) (file now : Int) : Bool := sigsB zs && (inB 0 999999 file && inB 0 100000 now) && frozenB zs file now
def stAl (zs : List Sig) (file now : Int) : Bool := sigsB zs && (inB 0 999999 file && inB 0 100000 now) && alertB zs file now
def stN (zs : List Sig) (file now : Int) : Int := if sigsB zs = true then (if (inB 0 999999 file && inB 0 100000 now) = true then 0 else 2) else 91

set_option maxRecDepth 100000 in
set_option maxHeartbeats 2000000 in
theorem stateTop_any (A : Option Addr) (n c : Nat) (zs : List Sig) (file now : Int) (w : World) (hi : SigsIn w A n zs) (hA : ∀ b o, A = some ⟨b, o, none⟩ → b < w.heap.size) (hG : LaidL w) (h1000 : sigsB zs = true → n < 1000) :
    Calls Tryd.prog 24 #[.slice A n c, .int .i64 file, .int .i64 now] w fun e w' => e = .returned (.tuple #[.bool (stFz zs file now), .bool (stAl zs file now), .int .i64 (stN zs file now)]) ∧ Gr w w' := by
  have HR := hid (fun W (k : Gr w W) => right_any A n c zs W (hi.gr k) (hG.gr k))
  have HS := hid (fun (h : sigsB zs = true) W (k : Gr w W) => state_any A n c zs file now W (hi.gr k) (fun b o e => Nat.lt_of_lt_of_le (hA b o e) k.size) (h1000 h))
  clear hi hA hG h1000
  unfold stFz stAl stN
  obtain ⟨b0, h0⟩ : ∃ b, sigsB zs = b := ⟨_, rfl⟩
  obtain ⟨b1, h1⟩ : ∃ b, inB 0 999999 file = b := ⟨_, rfl⟩
  obtain ⟨b2, h2⟩ : ∃ b, inB 0 100000 now = b := ⟨_, rfl⟩
  rw [h0] at HR HS
  rw [h0, h1, h2]
  have H1 := hid h1
  have H2 := hid h2
  clear h0 h1 h2
  generalize frozenB zs file now = fz at HS ⊢
  generalize alertB zs file now = al at HS ⊢
  cases b0
  case' true => cases b1
  case' true.true => cases b2
  case true.true.true =>
    have HS2 := hid (HS.out rfl)
    clear HS
    go_enter Tryd.func24, Tryd.ntmps24
    go_wp2_with (first
      | (go_at_call 53; (with_reducible refine (HR.out _ ?_).mono ?_); rotate_right; rintro e w1 ⟨rfl, hbw1⟩; obtain ⟨hcw1, hfw1, hzw1⟩ := hbw1.rules; (try simp at hzw1))
      | (go_at_call 42; (with_reducible refine (in_one 0 999999 file _ H1.out _ _ _ ?_ ?_).mono ?_); rotate_right; rintro e wa ⟨rfl, hbwa⟩; obtain ⟨hcwa, hfwa, hzwa⟩ := hbwa.rules; (try simp at hzwa))
      | (go_at_call 42; (with_reducible refine (in_one 0 100000 now _ H2.out _ _ _ ?_ ?_).mono ?_); rotate_right; rintro e wb ⟨rfl, hbwb⟩; obtain ⟨hcwb, hfwb, hzwb⟩ := hbwb.rules; (try simp at hzwb))
      | (go_at_call 62; (with_reducible refine (HS2.out _ ?_).mono ?_); rotate_right; rintro e wc ⟨rfl, hbwc⟩; obtain ⟨hcwc, hfwc, hzwc⟩ := hbwc.rules; (try simp at hzwc)))
    all_goals first
      | (go_ret3
         exact ⟨by rfl, by (repeat (first | with_reducible exact Gr.refl _ | with_reducible refine Gr.trans ?_ hbwc | with_reducible refine Gr.trans ?_ hbwb | with_reducible refine Gr.trans ?_ hbwa | with_reducible refine Gr.trans ?_ hbw1 | with_reducible refine Gr.alloc ?_ _ | with_reducible refine Gr.setCell ?_ (by simp) _ | with_reducible refine Gr.setCell ?_ (by simp; omega) _ | with_reducible refine Gr.drew ?_ | with_reducible refine Gr.drewN ?_ _))⟩)
      | (simp; done)
      | (rw [cell_top _ _ _ _ _ (by simp)]; rfl)
      | ((repeat (first | with_reducible exact Gr.refl _ | with_reducible refine Gr.trans ?_ hbwc | with_reducible refine Gr.trans ?_ hbwb | with_reducible refine Gr.trans ?_ hbwa | with_reducible refine Gr.trans ?_ hbw1 | with_reducible refine Gr.alloc ?_ _ | with_reducible refine Gr.setCell ?_ (by simp) _ | with_reducible refine Gr.setCell ?_ (by simp; omega) _ | with_reducible refine Gr.drew ?_ | with_reducible refine Gr.drewN ?_ _)); done)
  all_goals
    clear HS
    go_enter Tryd.func24, Tryd.ntmps24
    go_wp2_with (first
      | (go_at_call 53; (with_reducible refine (HR.out _ ?_).mono ?_); rotate_right; rintro e w1 ⟨rfl, hbw1⟩; obtain ⟨hcw1, hfw1, hzw1⟩ := hbw1.rules; (try simp at hzw1))
      | (go_at_call 42; (with_reducible refine (in_one 0 999999 file _ H1.out _ _ _ ?_ ?_).mono ?_); rotate_right; rintro e wa ⟨rfl, hbwa⟩; obtain ⟨hcwa, hfwa, hzwa⟩ := hbwa.rules; (try simp at hzwa))
      | (go_at_call 42; (with_reducible refine (in_one 0 100000 now _ H2.out _ _ _ ?_ ?_).mono ?_); rotate_right; rintro e wb ⟨rfl, hbwb⟩; obtain ⟨hcwb, hfwb, hzwb⟩ := hbwb.rules; (try simp at hzwb)))
    all_goals first
      | (go_ret3
         exact ⟨by rfl, by (repeat (first | with_reducible exact Gr.refl _ | with_reducible refine Gr.trans ?_ hbwb | with_reducible refine Gr.trans ?_ hbwa | with_reducible refine Gr.trans ?_ hbw1 | with_reducible refine Gr.alloc ?_ _ | with_reducible refine Gr.setCell ?_ (by simp) _ | with_reducible refine Gr.setCell ?_ (by simp; omega) _ | with_reducible refine Gr.drew ?_ | with_reducible refine Gr.drewN ?_ _))⟩)
      | (simp; done)
      | (rw [cell_top _ _ _ _ _ (by simp)]; rfl)
      | ((repeat (first | with_reducible exact Gr.refl _ | with_reducible refine Gr.trans ?_ hbwb | with_reducible refine Gr.trans ?_ hbwa | with_reducible refine Gr.trans ?_ hbw1 | with_reducible refine Gr.alloc ?_ _ | with_reducible refine Gr.setCell ?_ (by simp) _ | with_reducible refine Gr.setCell ?_ (by simp; omega) _ | with_reducible refine Gr.drew ?_ | with_reducible refine Gr.drewN ?_ _)); done)

set_option maxRecDepth 100000 in
set_option maxHeartbeats 2000000 in
theorem refStateTop_any (A : Option Addr) (n c : Nat) (zs : List Sig) (file now : Int) (w : World) (hi : SigsIn w A n zs) :
    Calls Tryd.prog 25 #[.slice A n c, .int .i64 file, .int .i64 now] w fun e w' => e = .returned (.tuple #[.bool (stFz zs file now), .bool (stAl zs file now), .int .i64 (stN zs file now)]) ∧ Gr w w' := by
  have HR := hid (fun W (k : Gr w W) => refSignals_any A n c zs W (hi.gr k))
  have HS := hid (fun W (k : Gr w W) => refState_any A n c zs file now W (hi.gr k))
  clear hi
  unfold stFz stAl stN
  obtain ⟨b0, h0⟩ : ∃ b, sigsB zs = b := ⟨_, rfl⟩
  obtain ⟨b1, h1⟩ : ∃ b, inB 0 999999 file = b := ⟨_, rfl⟩
  obtain ⟨b2, h2⟩ : ∃ b, inB 0 100000 now = b := ⟨_, rfl⟩
  rw [h0] at HR
  rw [h0, h1, h2]
  have H1 := hid h1
  have H2 := hid h2
  clear h0 h1 h2
  generalize frozenB zs file now = fz at HS ⊢
  generalize alertB zs file now = al at HS ⊢
  cases b0
  case' true => cases b1
  case' true.true => cases b2
  all_goals
    go_enter Tryd.func25, Tryd.ntmps25
    go_wp2_with (first
      | (go_at_call 60; (with_reducible refine (HR.out _ ?_).mono ?_); rotate_right; rintro e w1 ⟨rfl, hbw1⟩; obtain ⟨hcw1, hfw1, hzw1⟩ := hbw1.rules; (try simp at hzw1))
      | (go_at_call 49; (with_reducible refine (refWithin_any file 0 999999 _ H1.out _).mono ?_); rotate_right; rintro e w' ⟨rfl, rfl⟩)
      | (go_at_call 49; (with_reducible refine (refWithin_any now 0 100000 _ H2.out _).mono ?_); rotate_right; rintro e w' ⟨rfl, rfl⟩)
      | (go_at_call 63; (with_reducible refine (HS.out _ ?_).mono ?_); rotate_right; rintro e wc ⟨rfl, hbwc⟩; obtain ⟨hcwc, hfwc, hzwc⟩ := hbwc.rules; (try simp at hzwc)))
    all_goals first
      | (go_ret3
         exact ⟨by rfl, by (repeat (first | with_reducible exact Gr.refl _ | with_reducible refine Gr.trans ?_ hbwc | with_reducible refine Gr.trans ?_ hbw1 | with_reducible refine Gr.alloc ?_ _ | with_reducible refine Gr.setCell ?_ (by simp) _ | with_reducible refine Gr.setCell ?_ (by simp; omega) _ | with_reducible refine Gr.drew ?_ | with_reducible refine Gr.drewN ?_ _))⟩)
      | ((repeat (first | with_reducible exact Gr.refl _ | with_reducible refine Gr.trans ?_ hbw1 | with_reducible refine Gr.alloc ?_ _ | with_reducible refine Gr.setCell ?_ (by simp) _ | with_reducible refine Gr.setCell ?_ (by simp; omega) _ | with_reducible refine Gr.drew ?_ | with_reducible refine Gr.drewN ?_ _)); done)
end Go.Proofs.YtliehlefpodhaaaDoor
