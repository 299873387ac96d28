/- The package slices at conditions. For every slice of conditions. (Printed by gen_idx10.py.) -/
import Derived.Test.YtimhkkijoelmhaaQEltS
import Derived.Test.YtimhkkijoelmhaaQFrom10
namespace Go.Proofs.Ytimhkkijoelmhaa
open Go.RowKit

theorem Rd.whr_len {w : World} {A : Option Addr} {n : Nat} {zs : List Whr} (h : Rd w 3 A n (zs.flatMap Whr.cells)) : zs.length = n := by
  have hl := h.len
  rw [flatMap_len Whr.len] at hl
  omega
set_option maxHeartbeats 400000 in
theorem indexFunc_whr (g : Nat) (lb : Array Value) (eg : ∀ args w, (callFunc g args).run Try.prog w = .ok (.enter g args) w) (p : Whr → Bool) (A : Option Addr) (n c : Nat) (zs : List Whr) (w : World)
    (hp : PredG Try.prog g lb Whr.val p zs w) (hr : Rd w 3 A n (zs.flatMap Whr.cells)) (hbig : n ≤ 9223372036854775807) :
    Calls Try.prog 96 #[.slice A n c, .func (.func g) #[] lb] w fun e w' => e = .returned (.int .i64 (fidx p zs)) ∧ Gr w w' := by
  have hl := hr.whr_len
  have HL := hid hl
  clear hl
  go_enter Try.func96, Try.ntmps96
  go_wp2
  go_loopg [5, 8] n (fun gg _ s8 wr => ∃ kk : Nat, kk ≤ n ∧ n - kk ≤ gg ∧ s8 = .int .i64 kk ∧ Gr w wr ∧ Hid (∀ j, j < kk → p zs[j]! = false))
  case atStart => exact ⟨0, Nat.zero_le _, by omega, rfl, Gr.refl w, fun j hj => absurd hj (Nat.not_lt_zero _)⟩
  case round =>
    obtain ⟨kk, hkk, hg, rfl, BW, HA⟩ := hrel
    by_cases hlt : kk < n
    · obtain ⟨hk', b, off, rfl, hb, hcell, hcell1, hcell2⟩ := (hr.gr BW).whr hlt
      have hcall := hp wr zs[kk]! (mem_get (by have := HL.out; omega)) BW
      unfold Whr.val at hcall
      generalize hy : zs[kk]! = y at hcell hcell1 hcell2 hcall
      have HY := hid hy
      clear hy
      cases hq : p y with
      | true =>
        rw [hq] at hcall
        have HQ := hid hq
        clear hq
        have HC := hid hcall
        clear hcall
        go_wp2_with (go_at_fn g; refine (HC.out).mono ?_; rintro e w' ⟨rfl, hb'⟩)
        go_ret
        refine ⟨?_, BW.trans hb'⟩
        rw [fidx_hit (k := kk) (by have := HL.out; omega) (by rw [HY.out]; exact HQ.out) HA.out]
        rfl
      | false =>
        rw [hq] at hcall
        have HQ := hid hq
        clear hq
        have HC := hid hcall
        clear hcall
        go_wp2_with (go_at_fn g; refine (HC.out).mono ?_; rintro e w' ⟨rfl, hb'⟩)
        go_roundg (n - (kk + 1))
        case measure => omega
        case rel =>
          refine ⟨kk + 1, by omega, by omega, by go_num, BW.trans hb', hid fun j hj => ?_⟩
          by_cases e : j = kk
          · subst e
            rw [HY.out]; exact HQ.out
          · exact HA.out j (by omega)
    · have hltz : ¬ (kk : Int) < (n : Int) := by omega
      go_wp2
      go_ret
      refine ⟨?_, BW⟩
      rw [fidx_miss (fun j hj => HA.out j (by have := HL.out; omega))]
      rfl

theorem containsFunc_whr (g : Nat) (lb : Array Value) (eg : ∀ args w, (callFunc g args).run Try.prog w = .ok (.enter g args) w) (p : Whr → Bool) (A : Option Addr) (n c : Nat) (zs : List Whr) (w : World)
    (hp : PredG Try.prog g lb Whr.val p zs w) (hr : Rd w 3 A n (zs.flatMap Whr.cells)) (hbig : n ≤ 9223372036854775807) :
    Calls Try.prog 72 #[.slice A n c, .func (.func g) #[] lb] w fun e w' => e = .returned (.bool (zs.any p)) ∧ Gr w w' := by
  rw [← fidx_any]
  have H := hid (indexFunc_whr g lb eg p A n c zs w hp hr hbig)
  clear hp hr eg
  go_enter Try.func72, Try.ntmps72
  go_wp2_with (go_at_call 96; refine H.out.mono ?_; rintro e w' ⟨rfl, hb'⟩)
  go_ret
  exact ⟨rfl, hb'⟩
end Go.Proofs.Ytimhkkijoelmhaa
