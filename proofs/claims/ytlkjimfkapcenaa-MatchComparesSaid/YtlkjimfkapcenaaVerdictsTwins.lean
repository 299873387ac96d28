/- The tests of the package match's list of verdicts that ask about twins. For all records and agreements. -/
import Derived.Test.YtlkjimfkapcenaaVerdicts
namespace Go.Proofs.Ytlkjimfkapcenaa
open Go.RowKit

set_option maxRecDepth 100000 in
set_option maxHeartbeats 1000000 in
theorem verd6_any (a b : Rcd) (x : Cmp) (g : Nat) (A : Option Addr) (n c : Nat) (B : Option Addr) (m d : Nat) (A' : Option Addr) (n' c' : Nat) (B' : Option Addr) (m' d' : Nat) (w : World)
    (hc : w.cell? ⟨g, 0, none⟩ = some (.func (.func 76) #[] #[])) :
    Calls Try.prog 81 #[a.val A n c B m d, b.val A' n' c' B' m' d', x.val, .pointer (some ⟨g, 0, none⟩)] w fun e w' => e = .returned (.bool (((a.twin || b.twin) && x.nu != 3) && x.nm != 3)) ∧ Gr w w' := by
  have HV := hid (fun W => verd1_any a b A n c B m d A' n' c' B' m' d' W)
  obtain ⟨id, names, suf, l1, h1, p, tw, stays⟩ := a
  obtain ⟨id', names', suf', l2, h2, q, tw', stays'⟩ := b
  obtain ⟨nm, nu, bi, pl, vd⟩ := x
  unfold Rcd.val at HV ⊢
  unfold Cmp.val
  dsimp only at HV ⊢
  have b1 : g < w.heap.size := block_lt_of_cell hc
  have n1 : g ≠ w.heap.size := by omega
  have n2 : g ≠ w.heap.size + 1 := by omega
  have n3 : g ≠ w.heap.size + 1 + 1 := by omega
  have n4 : g ≠ w.heap.size + 2 := by omega
  have b2 : g < w.heap.size + 1 := by omega
  have b3 : g < w.heap.size + 1 + 1 := by omega
  have eg := enters_of Try.func76 (by kernel_rfl) rfl
  generalize (tw || tw') = T at HV
  cases T
  · go_enter Try.func81, Try.ntmps81
    go_wp2_with ((go_at_call 76; (with_reducible refine (HV.out _).mono ?_); rotate_right; rintro e w1 ⟨rfl, hbw1⟩; obtain ⟨hcw1, hfw1, hzw1⟩ := hbw1.rules; (try simp at hzw1); have hzw1_0 : w.heap.size < w1.heap.size := (by omega); have hyw1_0 : w.heap.size ≤ w1.heap.size := (by omega); have hzw1_1 : w.heap.size + 1 < w1.heap.size := (by omega); have hyw1_1 : w.heap.size + 1 ≤ w1.heap.size := (by omega); have hzw1_2 : w.heap.size + 2 < w1.heap.size := (by omega); have hyw1_2 : w.heap.size + 2 ≤ w1.heap.size := (by omega)))
    go_ret
    exact ⟨by rfl, by (repeat (first | with_reducible exact Gr.refl _ | with_reducible refine Gr.trans ?_ hbw1 | with_reducible refine Gr.alloc ?_ _ | with_reducible refine Gr.setCell ?_ (by simp) _ | with_reducible refine Gr.setCell ?_ (by simp; omega) _ | with_reducible refine Gr.drew ?_ | with_reducible refine Gr.drewN ?_ _))⟩
  · cases e1 : nu != 3
    · go_enter Try.func81, Try.ntmps81
      go_wp2_with ((go_at_call 76; (with_reducible refine (HV.out _).mono ?_); rotate_right; rintro e w1 ⟨rfl, hbw1⟩; obtain ⟨hcw1, hfw1, hzw1⟩ := hbw1.rules; (try simp at hzw1); have hzw1_0 : w.heap.size < w1.heap.size := (by omega); have hyw1_0 : w.heap.size ≤ w1.heap.size := (by omega); have hzw1_1 : w.heap.size + 1 < w1.heap.size := (by omega); have hyw1_1 : w.heap.size + 1 ≤ w1.heap.size := (by omega); have hzw1_2 : w.heap.size + 2 < w1.heap.size := (by omega); have hyw1_2 : w.heap.size + 2 ≤ w1.heap.size := (by omega)))
      go_ret
      exact ⟨by rfl, by (repeat (first | with_reducible exact Gr.refl _ | with_reducible refine Gr.trans ?_ hbw1 | with_reducible refine Gr.alloc ?_ _ | with_reducible refine Gr.setCell ?_ (by simp) _ | with_reducible refine Gr.setCell ?_ (by simp; omega) _ | with_reducible refine Gr.drew ?_ | with_reducible refine Gr.drewN ?_ _))⟩
    · go_enter Try.func81, Try.ntmps81
      go_wp2_with ((go_at_call 76; (with_reducible refine (HV.out _).mono ?_); rotate_right; rintro e w1 ⟨rfl, hbw1⟩; obtain ⟨hcw1, hfw1, hzw1⟩ := hbw1.rules; (try simp at hzw1); have hzw1_0 : w.heap.size < w1.heap.size := (by omega); have hyw1_0 : w.heap.size ≤ w1.heap.size := (by omega); have hzw1_1 : w.heap.size + 1 < w1.heap.size := (by omega); have hyw1_1 : w.heap.size + 1 ≤ w1.heap.size := (by omega); have hzw1_2 : w.heap.size + 2 < w1.heap.size := (by omega); have hyw1_2 : w.heap.size + 2 ≤ w1.heap.size := (by omega)))
      go_ret
      exact ⟨by rfl, by (repeat (first | with_reducible exact Gr.refl _ | with_reducible refine Gr.trans ?_ hbw1 | with_reducible refine Gr.alloc ?_ _ | with_reducible refine Gr.setCell ?_ (by simp) _ | with_reducible refine Gr.setCell ?_ (by simp; omega) _ | with_reducible refine Gr.drew ?_ | with_reducible refine Gr.drewN ?_ _))⟩
set_option maxRecDepth 100000 in
set_option maxHeartbeats 1000000 in
theorem verd8_any (a b : Rcd) (x : Cmp) (g : Nat) (A : Option Addr) (n c : Nat) (B : Option Addr) (m d : Nat) (A' : Option Addr) (n' c' : Nat) (B' : Option Addr) (m' d' : Nat) (w : World)
    (hc : w.cell? ⟨g, 0, none⟩ = some (.func (.func 76) #[] #[])) :
    Calls Try.prog 83 #[a.val A n c B m d, b.val A' n' c' B' m' d', x.val, .pointer (some ⟨g, 0, none⟩)] w fun e w' => e = .returned (.bool (((!(a.twin || b.twin) && x.nm == 3) && x.bi == 3) && x.pl == 3)) ∧ Gr w w' := by
  have HV := hid (fun W => verd1_any a b A n c B m d A' n' c' B' m' d' W)
  obtain ⟨id, names, suf, l1, h1, p, tw, stays⟩ := a
  obtain ⟨id', names', suf', l2, h2, q, tw', stays'⟩ := b
  obtain ⟨nm, nu, bi, pl, vd⟩ := x
  unfold Rcd.val at HV ⊢
  unfold Cmp.val
  dsimp only at HV ⊢
  have b1 : g < w.heap.size := block_lt_of_cell hc
  have n1 : g ≠ w.heap.size := by omega
  have n2 : g ≠ w.heap.size + 1 := by omega
  have n3 : g ≠ w.heap.size + 1 + 1 := by omega
  have n4 : g ≠ w.heap.size + 2 := by omega
  have b2 : g < w.heap.size + 1 := by omega
  have b3 : g < w.heap.size + 1 + 1 := by omega
  have eg := enters_of Try.func76 (by kernel_rfl) rfl
  generalize (tw || tw') = T at HV
  cases T
  · cases e1 : nm == 3
    · go_enter Try.func83, Try.ntmps83
      go_wp2_with ((go_at_call 76; (with_reducible refine (HV.out _).mono ?_); rotate_right; rintro e w1 ⟨rfl, hbw1⟩; obtain ⟨hcw1, hfw1, hzw1⟩ := hbw1.rules; (try simp at hzw1); have hzw1_0 : w.heap.size < w1.heap.size := (by omega); have hyw1_0 : w.heap.size ≤ w1.heap.size := (by omega); have hzw1_1 : w.heap.size + 1 < w1.heap.size := (by omega); have hyw1_1 : w.heap.size + 1 ≤ w1.heap.size := (by omega); have hzw1_2 : w.heap.size + 2 < w1.heap.size := (by omega); have hyw1_2 : w.heap.size + 2 ≤ w1.heap.size := (by omega)))
      go_ret
      exact ⟨by rfl, by (repeat (first | with_reducible exact Gr.refl _ | with_reducible refine Gr.trans ?_ hbw1 | with_reducible refine Gr.alloc ?_ _ | with_reducible refine Gr.setCell ?_ (by simp) _ | with_reducible refine Gr.setCell ?_ (by simp; omega) _ | with_reducible refine Gr.drew ?_ | with_reducible refine Gr.drewN ?_ _))⟩
    · cases e2 : bi == 3
      · go_enter Try.func83, Try.ntmps83
        go_wp2_with ((go_at_call 76; (with_reducible refine (HV.out _).mono ?_); rotate_right; rintro e w1 ⟨rfl, hbw1⟩; obtain ⟨hcw1, hfw1, hzw1⟩ := hbw1.rules; (try simp at hzw1); have hzw1_0 : w.heap.size < w1.heap.size := (by omega); have hyw1_0 : w.heap.size ≤ w1.heap.size := (by omega); have hzw1_1 : w.heap.size + 1 < w1.heap.size := (by omega); have hyw1_1 : w.heap.size + 1 ≤ w1.heap.size := (by omega); have hzw1_2 : w.heap.size + 2 < w1.heap.size := (by omega); have hyw1_2 : w.heap.size + 2 ≤ w1.heap.size := (by omega)))
        go_ret
        exact ⟨by rfl, by (repeat (first | with_reducible exact Gr.refl _ | with_reducible refine Gr.trans ?_ hbw1 | with_reducible refine Gr.alloc ?_ _ | with_reducible refine Gr.setCell ?_ (by simp) _ | with_reducible refine Gr.setCell ?_ (by simp; omega) _ | with_reducible refine Gr.drew ?_ | with_reducible refine Gr.drewN ?_ _))⟩
      · go_enter Try.func83, Try.ntmps83
        go_wp2_with ((go_at_call 76; (with_reducible refine (HV.out _).mono ?_); rotate_right; rintro e w1 ⟨rfl, hbw1⟩; obtain ⟨hcw1, hfw1, hzw1⟩ := hbw1.rules; (try simp at hzw1); have hzw1_0 : w.heap.size < w1.heap.size := (by omega); have hyw1_0 : w.heap.size ≤ w1.heap.size := (by omega); have hzw1_1 : w.heap.size + 1 < w1.heap.size := (by omega); have hyw1_1 : w.heap.size + 1 ≤ w1.heap.size := (by omega); have hzw1_2 : w.heap.size + 2 < w1.heap.size := (by omega); have hyw1_2 : w.heap.size + 2 ≤ w1.heap.size := (by omega)))
        go_ret
        exact ⟨by rfl, by (repeat (first | with_reducible exact Gr.refl _ | with_reducible refine Gr.trans ?_ hbw1 | with_reducible refine Gr.alloc ?_ _ | with_reducible refine Gr.setCell ?_ (by simp) _ | with_reducible refine Gr.setCell ?_ (by simp; omega) _ | with_reducible refine Gr.drew ?_ | with_reducible refine Gr.drewN ?_ _))⟩
  · go_enter Try.func83, Try.ntmps83
    go_wp2_with ((go_at_call 76; (with_reducible refine (HV.out _).mono ?_); rotate_right; rintro e w1 ⟨rfl, hbw1⟩; obtain ⟨hcw1, hfw1, hzw1⟩ := hbw1.rules; (try simp at hzw1); have hzw1_0 : w.heap.size < w1.heap.size := (by omega); have hyw1_0 : w.heap.size ≤ w1.heap.size := (by omega); have hzw1_1 : w.heap.size + 1 < w1.heap.size := (by omega); have hyw1_1 : w.heap.size + 1 ≤ w1.heap.size := (by omega); have hzw1_2 : w.heap.size + 2 < w1.heap.size := (by omega); have hyw1_2 : w.heap.size + 2 ≤ w1.heap.size := (by omega)))
    go_ret
    exact ⟨by rfl, by (repeat (first | with_reducible exact Gr.refl _ | with_reducible refine Gr.trans ?_ hbw1 | with_reducible refine Gr.alloc ?_ _ | with_reducible refine Gr.setCell ?_ (by simp) _ | with_reducible refine Gr.setCell ?_ (by simp; omega) _ | with_reducible refine Gr.drew ?_ | with_reducible refine Gr.drewN ?_ _))⟩
end Go.Proofs.Ytlkjimfkapcenaa
