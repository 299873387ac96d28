/- SameRecord of the reference: at two records that hold the same it is true. For all such records. -/
import Derived.Test.YtlkjimfkapcenaaRecorded
import Derived.BigQuiet
import Derived.Deep.QuietTactic
import Derived.WalkLawsBesides
namespace Go.Proofs.Ytlkjimfkapcenaa
open Go.RowKit

/-- Where the two boxed records hold their slices. -/
def SameF (g : Nat) (wr : World) (x y x' y' : Value) : Prop := wr.cell? ⟨g, 1, none⟩ = some x ∧ wr.cell? ⟨g, 7, none⟩ = some y ∧ wr.cell? ⟨g + 1, 1, none⟩ = some x' ∧ wr.cell? ⟨g + 1, 7, none⟩ = some y'

set_option maxRecDepth 100000 in
set_option maxHeartbeats 2000000 in
theorem sameRecord_any (r : Rcd) (A : Option Addr) (n c : Nat) (B : Option Addr) (m d : Nat) (A' : Option Addr) (c' : Nat) (B' : Option Addr) (d' : Nat) (w : World) (hr : r.In w A n B m) (hr' : r.In w A' n B' m) :
    Calls Try.prog 17 #[r.val A n c B m d, r.val A' n c' B' m d'] w fun e w' => e = .returned (.bool true) ∧ Gr w w' := by
  have hn := hr.nlen
  have hm := hr.mlen
  have hnb := hr.nbig
  have hmb := hr.mbig
  have hnu := hr.number
  obtain ⟨id, names, suf, lo, hi, num, tw, stays⟩ := r
  unfold Rcd.val
  dsimp only at hn hm hnu ⊢
  unfold maxLen at hnu
  have HN := hid hn
  have HR := hid hr
  have HR' := hid hr'
  have hnb' : (n : Int) ≤ 9223372036854775807 := by omega
  have hmb' : (m : Int) ≤ 9223372036854775807 := by omega
  have hnu' : (num.size : Int) ≤ 9223372036854775807 := by omega
  clear hn hm hnb hmb hr hr' hnu
  go_enter Try.func17, Try.ntmps17
  go_wp2
  go_loopg [5] n (fun gg i wr => ∃ k : Nat, k ≤ n ∧ n - k ≤ gg ∧ i = .int .i64 k ∧ Gr w wr ∧ SameF w.heap.size wr (.slice A n c) (.slice B m d) (.slice A' n c') (.slice B' m d'))
  case atStart => exact ⟨0, Nat.zero_le _, by omega, rfl, ((Gr.refl w).alloc _).alloc _, by simp, by simp, by simp, by simp⟩
  case round =>
    obtain ⟨k, hk, hg, rfl, BW, HF⟩ := hrel
    obtain ⟨f1, f2, f3, f4⟩ := HF
    by_cases hlt : k < n
    · have hlen : k < names.length := by have := HN.out; omega
      obtain ⟨b, off, rfl, hb, hc⟩ := ((HR.out.names).gr BW).at_ (by omega)
      obtain ⟨b', off', rfl, hb', hc'⟩ := ((HR'.out.names).gr BW).at_ (by omega)
      have hcell : wr.cell? ⟨b, off + k, none⟩ = some (.string names[k]!) := hc k _ (Rd.get hlen)
      have hcell' : wr.cell? ⟨b', off' + k, none⟩ = some (.string names[k]!) := hc' k _ (Rd.get hlen)
      clear hc hc' hlen
      generalize names[k]! = y at hcell hcell'
      have hkn : (k : Int) < n := by omega
      have hk0 : (0 : Int) ≤ k := by omega
      go_wp2
      go_quiet (fail)
      go_wp2
      go_roundg (n - (k + 1))
      case measure => omega
      case rel => exact ⟨k + 1, by omega, by omega, by go_num, BW.drewN _, f1, f2, f3, f4⟩
    · have hkn : ¬ (k : Int) < n := by omega
      go_wp2
      obtain ⟨wm, rfl⟩ : ∃ wm : World, wm = wr := ⟨_, rfl⟩
      go_loopg [6] m (fun gg i wr => ∃ k : Nat, k ≤ m ∧ m - k ≤ gg ∧ i = .int .i64 k ∧ Gr w wr ∧ SameF w.heap.size wr (.slice A n c) (.slice B m d) (.slice A' n c') (.slice B' m d'))
      case atStart => exact ⟨0, Nat.zero_le _, by omega, rfl, BW, f1, f2, f3, f4⟩
      case round =>
        clear f1 f2 f3 f4 BW
        obtain ⟨j, hj, hgj, rfl, BW, HF⟩ := hrel
        obtain ⟨f1, f2, f3, f4⟩ := HF
        by_cases hjt : j < m
        · obtain ⟨hlen, b, off, rfl, hb, q0, q1, q2⟩ := (HR.out.stays.gr BW).sty hjt
          obtain ⟨hlen', b', off', rfl, hb', q0', q1', q2'⟩ := (HR'.out.stays.gr BW).sty hjt
          clear hlen hlen'
          dsimp only at q0 q1 q2 q0' q1' q2'
          generalize stays[j]! = y at q0 q1 q2 q0' q1' q2'
          obtain ⟨p, f, t⟩ := y
          dsimp only at q0 q1 q2 q0' q1' q2'
          have hjn : (j : Int) < m := by omega
          have hj0 : (0 : Int) ≤ j := by omega
          go_wp2
          go_quiet (fail)
          go_wp2
          go_roundg (m - (j + 1))
          case measure => omega
          case rel => exact ⟨j + 1, by omega, by omega, by go_num, BW.drewN _, f1, f2, f3, f4⟩
        · have hjn : ¬ (j : Int) < m := by omega
          go_wp2
          go_ret
          exact ⟨rfl, BW⟩
end Go.Proofs.Ytlkjimfkapcenaa
