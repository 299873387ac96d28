/- made of the package match, and of of its reference: all bytes of a text lie from lo to hi. For every text that a Go program can hold. -/
import Derived.Deep.LoopGhost
import Derived.Test.YtlkjimfkapcenaaGreatDoorProg
import Derived.Test.YtlkjimfkapcenaaGreatDoorQBase
namespace Go.Proofs.YtlkjimfkapcenaaGreatDoor
open Go.RowKit

theorem toList_nil (s : ByteArray) : s.toList = [] ↔ s.size = 0 := by
  rw [ByteArray.toList_eq, ← List.length_eq_zero_iff, Array.length_toList]
  exact Iff.rfl

/-- A byte lies from lo to hi. -/
def inC (lo hi : Int) (c : UInt8) : Bool := decide (lo ≤ (c.toNat : Int) ∧ (c.toNat : Int) ≤ hi)
/-- All bytes do. -/
def madeB (s : ByteArray) (lo hi : Int) : Bool := s.data.toList.all (inC lo hi)
theorem madeB_false {s : ByteArray} {lo hi : Int} {k : Nat} (hk : k < s.size) (h : (s[k].toNat : Int) < lo ∨ hi < (s[k].toNat : Int)) : madeB s lo hi = false := by
  unfold madeB
  rw [List.all_eq_false]
  refine ⟨s[k], ?_, by unfold inC; simp; omega⟩
  show s.data[k] ∈ _
  simp
theorem madeB_true {s : ByteArray} {lo hi : Int} (h : ∀ j (hj : j < s.size), lo ≤ (s[j].toNat : Int) ∧ (s[j].toNat : Int) ≤ hi) : madeB s lo hi = true := by
  unfold madeB
  rw [List.all_eq_true]
  intro c hc
  obtain ⟨j, hj, rfl⟩ := List.getElem_of_mem hc
  have := h j (by simpa using hj)
  unfold inC
  have e : s.data.toList[j] = s[j]'(by simpa using hj) := rfl
  rw [e]
  simp [this]

set_option maxHeartbeats 400000 in
theorem made_any (s : ByteArray) (lo hi : Int) (w : World) (hs : s.size ≤ maxLen) :
    Calls Tryz.prog 43 #[.string s, .int .u8 lo, .int .u8 hi] w fun e w' => e = .returned (.bool (madeB s lo hi)) ∧ w = w' := by
  unfold maxLen at hs
  go_enter Tryz.func43, Tryz.ntmps43
  go_wp2
  go_loop [7, 10] (fun _ i => ∃ k : Nat, k ≤ s.size ∧ i = .int .i64 k ∧ Hid (∀ j (hj : j < s.size), j < k → lo ≤ (s[j].toNat : Int) ∧ (s[j].toNat : Int) ≤ hi)) (fun _ i => s.size - (intOf i).toNat)
  case atStart => exact ⟨0, Nat.zero_le _, rfl, fun j _ hj => absurd hj (Nat.not_lt_zero _)⟩
  case round =>
    obtain ⟨k, hk, rfl, HA⟩ := hrel
    by_cases hlt : k < s.size
    · by_cases g1 : (s[k].toNat : Int) < lo
      · have HF := hid (madeB_false (s := s) (hi := hi) hlt (Or.inl g1))
        go_wp2
        go_ret
        exact ⟨by rw [HF.out]; rfl, rfl⟩
      · by_cases g2 : hi < (s[k].toNat : Int)
        · have HF := hid (madeB_false (s := s) (lo := lo) hlt (Or.inr g2))
          go_wp2
          go_ret
          exact ⟨by rw [HF.out]; rfl, rfl⟩
        · have g3 : lo ≤ (s[k].toNat : Int) := by omega
          have g4 : (s[k].toNat : Int) ≤ hi := by omega
          clear g1 g2
          go_wp2
          go_round
          case rel => exact ⟨k + 1, by omega, by go_num, hid fun j hj hjk => by
            by_cases e : j = k
            · subst e; exact ⟨g3, g4⟩
            · exact HA.out j hj (by omega)⟩
          case measure => simp [intOf]; omega
    · go_wp2
      go_ret
      exact ⟨by rw [madeB_true (fun j hj => HA.out j hj (by omega))]; rfl, rfl⟩
end Go.Proofs.YtlkjimfkapcenaaGreatDoor
