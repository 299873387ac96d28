/- SameInts of the reference of layer 1: at lists that hold the same it is true; and at no two that differ. For all such lists. -/
import Derived.BigQuiet
import Derived.Deep.LoopGhost
import Derived.Deep.QuietTactic
import Derived.WalkLawsBesides
import Derived.WalkSmall
import Derived.Test.YtimhkkijoelmhaaQEltS
import Derived.Test.YtimhkkijoelmhaaQRegGr
namespace Go.Proofs.Ytimhkkijoelmhaa
open Go.RowKit

set_option maxRecDepth 100000 in
set_option maxHeartbeats 2000000 in
theorem sameInts_any (l : List Int) (n : Nat) (A : Option Addr) (c : Nat) (A' : Option Addr) (c' : Nat) (w : World) (h : Rd w 1 A n (l.map (Value.int .i64))) (h' : Rd w 1 A' n (l.map (Value.int .i64))) (hbig : n ≤ 9223372036854775807) :
    Calls Try.prog 22 #[.slice A n c, .slice A' n c'] w fun e w' => e = .returned (.bool true) ∧ Gr w w' := by
  have hn := h.len
  simp only [List.length_map, Nat.mul_one] at hn
  have HN := hid hn
  have HR := hid h
  have HR' := hid h'
  have hnz : (n : Int) ≤ 9223372036854775807 := by omega
  clear hn h h' hbig
  go_enter Try.func22, Try.ntmps22
  go_wp2
  go_loopg [5] n (fun gg i wr => ∃ k : Nat, k ≤ n ∧ n - k ≤ gg ∧ i = .int .i64 k ∧ Gr w wr)
  case atStart => exact ⟨0, Nat.zero_le _, by omega, rfl, Gr.refl w⟩
  case round =>
    obtain ⟨k, hk, hg, rfl, BW⟩ := hrel
    by_cases hlt : k < n
    · obtain ⟨b, off, rfl, hb, hc⟩ := (HR.out.gr BW).at_ (by omega)
      obtain ⟨b', off', rfl, hb', hc'⟩ := (HR'.out.gr BW).at_ (by omega)
      have q0 := hc k _ (Rd.get (by have := HN.out; omega))
      have q0' := hc' k _ (Rd.get (by have := HN.out; omega))
      clear hc hc'
      generalize l[k]! = y at q0 q0'
      have hkn : (k : Int) < n := by omega
      have hk0 : (0 : Int) ≤ k := by omega
      go_wp2
      go_quiet (fail)
      go_wp2
      go_roundg (n - (k + 1))
      case measure => omega
      case rel => exact ⟨k + 1, by omega, by omega, by go_num, BW.drewN _⟩
    · have hkn : ¬ (k : Int) < n := by omega
      go_wp2
      go_ret
      exact ⟨rfl, BW⟩

end Go.Proofs.Ytimhkkijoelmhaa
