/- SamePairs, SameInts and SameLists of the reference: at lists that hold the same they are true. For all such lists. -/
import Derived.BigQuiet
import Derived.Deep.QuietTactic
import Derived.WalkLawsBesides
import Derived.Test.YtlkjimfkapcenaaGreatDoorQBase
import Derived.Test.YtlkjimfkapcenaaGreatDoorQRegGr
import Derived.Test.YtlkjimfkapcenaaGreatDoorQPairSpec
import Derived.Test.YtlkjimfkapcenaaGreatDoorQPairEq
namespace Go.Proofs.YtlkjimfkapcenaaGreatDoor
open Go.RowKit

theorem pcells_get (l : List (Int × Int)) (k : Nat) (hk : k < l.length) : (pcells l)[k * 2]? = some (.int .i64 l[k]!.1) ∧ (pcells l)[k * 2 + 1]? = some (.int .i64 l[k]!.2) := by
  have h : ∀ i, i < 2 → (pcells l)[k * 2 + i]? = ([Value.int .i64 l[k]!.1, Value.int .i64 l[k]!.2])[i]? := fun i hi => flatMap_get (f := fun p : Int × Int => [Value.int .i64 p.1, Value.int .i64 p.2]) (fun _ => rfl) hk hi
  exact ⟨h 0 (by omega), h 1 (by omega)⟩

set_option maxRecDepth 100000 in
set_option maxHeartbeats 2000000 in
theorem samePairs_any (l : List (Int × Int)) (A : Option Addr) (c : Nat) (A' : Option Addr) (c' : Nat) (w : World) (h : Rd w 2 A l.length (pcells l)) (h' : Rd w 2 A' l.length (pcells l)) (hbig : l.length ≤ 1000000) :
    Calls Tryz.prog 12 #[.slice A l.length c, .slice A' l.length c'] w fun e w' => e = .returned (.bool true) ∧ Gr w w' := by
  obtain ⟨n, hn⟩ : ∃ n, n = l.length := ⟨_, rfl⟩
  rw [← hn] at h h' hbig ⊢
  have HN := hid hn
  have HR := hid h
  have HR' := hid h'
  have hnz : (n : Int) ≤ 1000000 := by omega
  clear hn h h' hbig
  have heq := eq_pair_self
  go_enter Tryz.func12, Tryz.ntmps12
  go_wp2
  go_loopg [5] n (fun gg i wr => ∃ k : Nat, k ≤ n ∧ n - k ≤ gg ∧ i = .int .i64 k ∧ Gr w wr)
  case atStart => exact ⟨0, Nat.zero_le _, by omega, rfl, Gr.refl w⟩
  case round =>
    obtain ⟨k, hk, hg, rfl, BW⟩ := hrel
    by_cases hlt : k < n
    · obtain ⟨b, off, rfl, hb, hc⟩ := (HR.out.gr BW).at_ (by omega)
      obtain ⟨b', off', rfl, hb', hc'⟩ := (HR'.out.gr BW).at_ (by omega)
      obtain ⟨g0, g1⟩ := pcells_get l k (by have := HN.out; omega)
      have q0 := hc _ _ g0
      have q1 := hc _ _ g1
      have q0' := hc' _ _ g0
      have q1' := hc' _ _ g1
      rw [← Nat.add_assoc] at q1 q1'
      clear hc hc' g0 g1
      generalize l[k]! = y at q0 q1 q0' q1'
      obtain ⟨y0, y1⟩ := y
      dsimp only at q0 q1 q0' q1'
      have hkn : (k : Int) < n := by omega
      have hk0 : (0 : Int) ≤ k := by omega
      go_wp2
      go_quiet (fail)
      go_wp2
      go_roundg (n - (k + 1))
      case measure => omega
      case rel => exact ⟨k + 1, by omega, by omega, by go_num, BW.drewN _⟩
    · have hkn : ¬ (k : Int) < n := by omega
      go_wp2
      go_ret
      exact ⟨rfl, BW⟩

set_option maxRecDepth 100000 in
set_option maxHeartbeats 2000000 in
theorem sameInts_any (l : List Int) (n : Nat) (A : Option Addr) (c : Nat) (A' : Option Addr) (c' : Nat) (w : World) (h : Rd w 1 A n (l.map (Value.int .i64))) (h' : Rd w 1 A' n (l.map (Value.int .i64))) (hbig : n ≤ 1000000) :
    Calls Tryz.prog 24 #[.slice A n c, .slice A' n c'] w fun e w' => e = .returned (.bool true) ∧ Gr w w' := by
  have hn := h.len
  simp only [List.length_map, Nat.mul_one] at hn
  have HN := hid hn
  have HR := hid h
  have HR' := hid h'
  have hnz : (n : Int) ≤ 1000000 := by omega
  clear hn h h' hbig
  go_enter Tryz.func24, Tryz.ntmps24
  go_wp2
  go_loopg [5] n (fun gg i wr => ∃ k : Nat, k ≤ n ∧ n - k ≤ gg ∧ i = .int .i64 k ∧ Gr w wr)
  case atStart => exact ⟨0, Nat.zero_le _, by omega, rfl, Gr.refl w⟩
  case round =>
    obtain ⟨k, hk, hg, rfl, BW⟩ := hrel
    by_cases hlt : k < n
    · obtain ⟨b, off, rfl, hb, hc⟩ := (HR.out.gr BW).at_ (by omega)
      obtain ⟨b', off', rfl, hb', hc'⟩ := (HR'.out.gr BW).at_ (by omega)
      have q0 := hc k _ (Rd.get (by have := HN.out; omega))
      have q0' := hc' k _ (Rd.get (by have := HN.out; omega))
      clear hc hc'
      generalize l[k]! = y at q0 q0'
      have hkn : (k : Int) < n := by omega
      have hk0 : (0 : Int) ≤ k := by omega
      go_wp2
      go_quiet (fail)
      go_wp2
      go_roundg (n - (k + 1))
      case measure => omega
      case rel => exact ⟨k + 1, by omega, by omega, by go_num, BW.drewN _⟩
    · have hkn : ¬ (k : Int) < n := by omega
      go_wp2
      go_ret
      exact ⟨rfl, BW⟩

set_option maxRecDepth 100000 in
set_option maxHeartbeats 2000000 in
theorem sameLists_any (L : List (List Int)) (v v' : Value) (w : World) (h : ListsIn w v L) (h' : ListsIn w v' L) (hbig : L.length ≤ 1000000) (hb1 : ∀ l ∈ L, l.length ≤ 1000000) :
    Calls Tryz.prog 13 #[v, v'] w fun e w' => e = .returned (.bool true) ∧ Gr w w' := by
  obtain ⟨A, c, svs, rfl, k1, k2⟩ := h
  obtain ⟨A', c', svs', rfl, k1', k2'⟩ := h'
  obtain ⟨n, hn⟩ : ∃ n, n = L.length := ⟨_, rfl⟩
  rw [← hn] at k1 k1' k2 k2' hbig ⊢
  have HN := hid hn
  have HR := hid k1
  have HR' := hid k1'
  have HK := hid k2
  have HK' := hid k2'
  have HB1 := hid hb1
  have hnz : (n : Int) ≤ 1000000 := by omega
  clear hn k1 k1' k2 k2' hbig hb1
  go_enter Tryz.func13, Tryz.ntmps13
  go_wp2
  go_loopg [5] n (fun gg i wr => ∃ k : Nat, k ≤ n ∧ n - k ≤ gg ∧ i = .int .i64 k ∧ Gr w wr)
  case atStart => exact ⟨0, Nat.zero_le _, by omega, rfl, Gr.refl w⟩
  case round =>
    obtain ⟨k, hk, hg, rfl, BW⟩ := hrel
    by_cases hlt : k < n
    · obtain ⟨b, off, rfl, hb, hc⟩ := (HR.out.gr BW).at_ (by omega)
      obtain ⟨b', off', rfl, hb', hc'⟩ := (HR'.out.gr BW).at_ (by omega)
      obtain ⟨X, x, g1, g2⟩ := HK.out k hlt
      obtain ⟨X', x', g1', g2'⟩ := HK'.out k hlt
      have q0 := GrW.cell (hc k _ g1)
      have q0' := GrW.cell (hc' k _ g1')
      have hl := HB1.out L[k]! (mem_get (by have := HN.out; omega))
      have HC := hid (fun W (g : Gr wr W) => sameInts_any L[k]! _ X x X' x' W (g2.gr (BW.trans g)) (g2'.gr (BW.trans g)) hl)
      generalize L[k]!.length = m at q0 q0' HC
      clear hc hc' g1 g1' g2 g2' hl
      have hkn : (k : Int) < n := by omega
      have hk0 : (0 : Int) ≤ k := by omega
      go_wp2
      (refine wp_region_gr (by kernel_rfl) (by kernel_rfl) ?_; (repeat (first | go_big_quiet_step ((go_at_call 24; exact calls_gr (HC.out _ (GrW.gr _)))) | quiet_step ((go_at_call 24; exact calls_gr (HC.out _ (GrW.gr _)))))); refine wpQuiet_nil ?_; intro w1 hw; obtain ⟨⟨_, hbw1⟩, hw⟩ := hw; subst hw; obtain ⟨hcw1, hfw1, hzw1⟩ := hbw1.rules; (try simp at hzw1))
      go_wp2
      go_roundg (n - (k + 1))
      case measure => omega
      case rel => exact ⟨k + 1, by omega, by omega, by go_num, BW.trans hbw1⟩
    · have hkn : ¬ (k : Int) < n := by omega
      go_wp2
      go_ret
      exact ⟨rfl, BW⟩
end Go.Proofs.YtlkjimfkapcenaaGreatDoor
