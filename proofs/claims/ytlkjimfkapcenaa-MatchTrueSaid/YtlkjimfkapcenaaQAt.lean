/- at of the laws of match: the number of a list with an index, which goes round. For all lists and indexes. -/
import Derived.Test.YtlkjimfkapcenaaQBase
import Derived.Test.YtlkjimfkapcenaaProg
import Derived.IntWalk
namespace Go.Proofs.Ytlkjimfkapcenaa
open Go.RowKit

/-- The number of a list with an index, which goes round. -/
def atV (xs : List Int) (i : Nat) : Int := if xs.length = 0 then 0 else xs[i % xs.length]!
theorem atV_range {xs : List Int} (h : ∀ x ∈ xs, 0 ≤ x ∧ x ≤ 4294967295) (i : Nat) : 0 ≤ atV xs i ∧ atV xs i ≤ 4294967295 := by
  unfold atV
  split
  · omega
  · exact h _ (mem_get (Nat.mod_lt _ (by omega)))

set_option maxRecDepth 100000 in
set_option maxHeartbeats 2000000 in
theorem at_any (xs : List Int) (A : Option Addr) (n c : Nat) (i : Int) (w : World) (hr : Rd w 1 A n (xs.map (Value.int .u32))) (hn : n ≤ 9223372036854775807) (hi : 0 ≤ i ∧ i ≤ 1000000) :
    Calls Try.prog 24 #[.slice A n c, .int .i64 i] w fun e w' => e = .returned (.int .u32 (atV xs i.toNat)) ∧ w' = w := by
  have hl := hr.len
  simp only [List.length_map, Nat.mul_one] at hl
  obtain ⟨k, rfl⟩ : ∃ k : Nat, i = (k : Int) := ⟨i.toNat, by omega⟩
  have hk : ((k : Int)).toNat = k := by simp
  rw [hk]
  by_cases h0 : n = 0
  · have HV : Hid (atV xs k = 0) := by unfold Hid atV; rw [if_pos (by omega)]
    subst h0
    rw [HV.out]
    clear hr hl hk
    go_enter Try.func24, Try.ntmps24
    go_wp2
    go_ret
    exact ⟨rfl, rfl⟩
  · have HV : Hid (atV xs k = xs[k % n]!) := by unfold Hid atV; rw [if_neg (by omega), hl]
    rw [HV.out]
    have hj : k % n < n := Nat.mod_lt _ (by omega)
    obtain ⟨b, off, rfl, hb, hc⟩ := hr.at_ (by omega)
    have hcell := hc (k % n) _ (Rd.get (by omega))
    have hr1 : Int.tmod (k : Int) (n : Int) = ((k % n : Nat) : Int) := by rw [Int.tmod_eq_emod_of_nonneg (by omega)]; simp
    have hr2 : (k : Int) % (n : Int) = ((k % n : Nat) : Int) := by simp
    have hr3 : IntKind.i64.wrap (Int.tmod (k : Int) (n : Int)) = ((k % n : Nat) : Int) := by rw [hr1]; have hb := Nat.mod_le k n; generalize k % n = z at hb ⊢; exact IntWalk.i64_in _ (by omega)
    generalize k % n = j at hj hcell hr1 hr2 hr3 ⊢
    generalize xs[j]! = y at hcell ⊢
    have hn0 : ¬ (n : Int) = 0 := by omega
    have j0 : (0 : Int) ≤ (j : Int) := by omega
    have j1 : (j : Int) < (n : Int) := by omega
    have n1 : (1 : Int) ≤ (n : Int) := by omega
    clear HV hc hb hr hl hk hi
    go_enter Try.func24, Try.ntmps24
    go_wp2
    go_ret
    exact ⟨rfl, rfl⟩
end Go.Proofs.Ytlkjimfkapcenaa
