/- The package match's list of verdicts. The verdict as the first test of a list that is so. For all records and agreements. -/
import Derived.Laws.EntriesVeiled
import Derived.Test.YtlkjimfkapcenaaGreatDoorQAppend
import Derived.Test.YtlkjimfkapcenaaGreatDoorQTwin
import Derived.Test.YtlkjimfkapcenaaGreatDoorQEditsTop
namespace Go.Proofs.YtlkjimfkapcenaaGreatDoor
open Go.RowKit

/-- The cells of the list: each test and its verdict. -/
def verdCells (g : Nat) : Array Value :=
  #[.func (.func 50) #[] #[], .int .u8 0, .func (.func 51) #[] #[], .int .u8 0, .func (.func 52) #[] #[], .int .u8 0,
    .func (.func 53) #[] #[], .int .u8 0, .func (.func 54) #[] #[.pointer (some ⟨g, 0, none⟩)], .int .u8 0,
    .func (.func 55) #[] #[], .int .u8 2, .func (.func 56) #[] #[.pointer (some ⟨g, 0, none⟩)], .int .u8 2]

set_option maxRecDepth 100000 in
set_option maxHeartbeats 1000000 in
theorem verdicts_any (w : World) :
    Calls Tryz.prog 34 #[] w fun e w' => e = .returned (.slice (some ⟨w.heap.size + 1, 0, none⟩) 7 7) ∧
      ∃ T1 T2 : TypeId, w' = (w.alloc (.cells #[.func (.func 49) #[] #[]] T1)).alloc (.cells (verdCells w.heap.size) T2) := by
  go_enter Tryz.func34, Tryz.ntmps34
  go_wp2
  go_ret
  exact ⟨by rfl, _, _, by rfl⟩
end Go.Proofs.YtlkjimfkapcenaaGreatDoor
namespace Go.Proofs.YtlkjimfkapcenaaGreatDoor
open Go.RowKit

/-- The tests, in their order. -/
def vtest (a b : Rcd) (nm nu bi pl : Int) : Nat → Bool
  | 0 => bi == 0
  | 1 => decide (a.suffix ≠ 0 ∧ b.suffix ≠ 0 ∧ a.suffix ≠ b.suffix)
  | 2 => nm == 0 && nu != 3
  | 3 => nu == 0 && pl != 3
  | 4 => ((a.twin || b.twin) && nu != 3) && nm != 3
  | 5 => nu == 3 && decide (2 ≤ nm)
  | _ => ((!(a.twin || b.twin) && nm == 3) && bi == 3) && pl == 3
def vis (k : Nat) : Int := if k < 5 then 0 else 2
theorem verdN_iff (a b : Rcd) (nm nu bi pl : Int) : verdN a b nm nu bi pl = if vtest a b nm nu bi pl 0 then 0 else if vtest a b nm nu bi pl 1 then 0 else if vtest a b nm nu bi pl 2 then 0 else if vtest a b nm nu bi pl 3 then 0 else if vtest a b nm nu bi pl 4 then 0
    else if vtest a b nm nu bi pl 5 then 2 else if vtest a b nm nu bi pl 6 then 2 else 1 := by
  unfold verdN
  refine ite_iff (by simp [vtest]) rfl (ite_iff (by simp [vtest]) rfl (ite_iff (by simp [vtest]) rfl (ite_iff (by simp [vtest]) rfl (ite_iff (by simp [vtest, and_assoc]) rfl (ite_iff (by simp [vtest]) rfl (ite_iff ?_ rfl rfl))))))
  cases h1 : a.twin <;> cases h2 : b.twin <;> simp [vtest, h1, h2, and_assoc]
theorem verdN_hit {a b : Rcd} {nm nu bi pl : Int} {k : Nat} (hk : k < 7) (h : vtest a b nm nu bi pl k = true) (hb : ∀ j, j < k → vtest a b nm nu bi pl j = false) : verdN a b nm nu bi pl = vis k := by
  rw [verdN_iff]
  match k, hk, h, hb with
  | 0, _, h, _ => rw [h]; rfl
  | 1, _, h, hb => rw [hb 0 (by omega), h]; rfl
  | 2, _, h, hb => rw [hb 0 (by omega), hb 1 (by omega), h]; rfl
  | 3, _, h, hb => rw [hb 0 (by omega), hb 1 (by omega), hb 2 (by omega), h]; rfl
  | 4, _, h, hb => rw [hb 0 (by omega), hb 1 (by omega), hb 2 (by omega), hb 3 (by omega), h]; rfl
  | 5, _, h, hb => rw [hb 0 (by omega), hb 1 (by omega), hb 2 (by omega), hb 3 (by omega), hb 4 (by omega), h]; rfl
  | 6, _, h, hb => rw [hb 0 (by omega), hb 1 (by omega), hb 2 (by omega), hb 3 (by omega), hb 4 (by omega), hb 5 (by omega), h]; rfl
theorem verdN_miss {a b : Rcd} {nm nu bi pl : Int} (hb : ∀ j, j < 7 → vtest a b nm nu bi pl j = false) : verdN a b nm nu bi pl = 1 := by
  rw [verdN_iff, hb 0 (by omega), hb 1 (by omega), hb 2 (by omega), hb 3 (by omega), hb 4 (by omega), hb 5 (by omega), hb 6 (by omega)]
  rfl
set_option maxRecDepth 100000 in
/-- What lies at a place of the list, and what the test there says. -/
theorem verd_at (a b : Rcd) (x : Cmp) (g : Nat) (A : Option Addr) (n c : Nat) (B : Option Addr) (m d : Nat) (A' : Option Addr) (n' c' : Nat) (B' : Option Addr) (m' d' : Nat) (w : World)
    (hc : w.cell? ⟨g, 0, none⟩ = some (.func (.func 49) #[] #[])) (ha : 0 ≤ a.suffix ∧ a.suffix ≤ 2) (hb : 0 ≤ b.suffix ∧ b.suffix ≤ 2) (k : Nat) (hk : k < 7) :
    ∃ (f : Nat) (lb : Array Value), (verdCells g)[k * 2]? = some (.func (.func f) #[] lb) ∧ (verdCells g)[k * 2 + 1]? = some (.int .u8 (vis k)) ∧ (∀ args w, (callFunc f args).run Tryz.prog w = .ok (.enter f args) w) ∧
      ∀ W, Gr w W → Calls Tryz.prog f (#[a.val A n c B m d, b.val A' n' c' B' m' d', x.val] ++ lb) W fun e w' => e = .returned (.bool (vtest a b x.nm x.nu x.bi x.pl k)) ∧ Gr W w' := by
  match k, hk with
  | 0, _ => exact ⟨50, #[], rfl, rfl, enters_of Tryz.func50 (by kernel_rfl) rfl, fun W _ => verd2_any a b x A n c B m d A' n' c' B' m' d' W⟩
  | 1, _ => exact ⟨51, #[], rfl, rfl, enters_of Tryz.func51 (by kernel_rfl) rfl, fun W _ => verd3_any a b x A n c B m d A' n' c' B' m' d' W ha hb⟩
  | 2, _ => exact ⟨52, #[], rfl, rfl, enters_of Tryz.func52 (by kernel_rfl) rfl, fun W _ => verd4_any a b x A n c B m d A' n' c' B' m' d' W⟩
  | 3, _ => exact ⟨53, #[], rfl, rfl, enters_of Tryz.func53 (by kernel_rfl) rfl, fun W _ => verd5_any a b x A n c B m d A' n' c' B' m' d' W⟩
  | 4, _ => exact ⟨54, #[.pointer (some ⟨g, 0, none⟩)], rfl, rfl, enters_of Tryz.func54 (by kernel_rfl) rfl, fun W h => verd6_any a b x g A n c B m d A' n' c' B' m' d' W ((h.cell (block_lt_of_cell hc)).trans hc)⟩
  | 5, _ => exact ⟨55, #[], rfl, rfl, enters_of Tryz.func55 (by kernel_rfl) rfl, fun W _ => verd7_any a b x A n c B m d A' n' c' B' m' d' W⟩
  | 6, _ => exact ⟨56, #[.pointer (some ⟨g, 0, none⟩)], rfl, rfl, enters_of Tryz.func56 (by kernel_rfl) rfl, fun W h => verd8_any a b x g A n c B m d A' n' c' B' m' d' W ((h.cell (block_lt_of_cell hc)).trans hc)⟩
end Go.Proofs.YtlkjimfkapcenaaGreatDoor
