/- GreatOne of the reference: whether a record is great. For every record. -/
import Derived.Test.YtlkjimfkapcenaaRecorded
namespace Go.Proofs.Ytlkjimfkapcenaa
open Go.RowKit

/-- Whether a record is great. -/
def Rcd.great (r : Rcd) : Bool := decide (8 < r.names.length) || decide (10 < r.stays.length) || decide (20 < r.number.size) || r.names.any fun s => decide (30 < s.size)
theorem any_true_of {α : Type} [Inhabited α] {p : α → Bool} {l : List α} {k : Nat} (hk : k < l.length) (h : p l[k]! = true) : l.any p = true := by
  rw [List.any_eq_true]
  exact ⟨l[k]!, mem_get hk, h⟩
theorem any_false_of {α : Type} [Inhabited α] {p : α → Bool} {l : List α} (h : ∀ j, j < l.length → p l[j]! = false) : l.any p = false := by
  rw [List.any_eq_false]
  intro x hx
  obtain ⟨j, hj, rfl⟩ := List.getElem_of_mem hx
  have := h j hj
  rw [getElem!_pos l j hj] at this
  simp [this]

set_option maxHeartbeats 1000000 in
theorem greatOne_any (r : Rcd) (A : Option Addr) (n c : Nat) (B : Option Addr) (m d : Nat) (w : World) (hr : r.In w A n B m) :
    Calls Try.prog 11 #[r.val A n c B m d] w fun e w' => e = .returned (.bool r.great) ∧ Gr w w' := by
  have hn := hr.nlen
  have hm := hr.mlen
  have hnb := hr.nbig
  have hmb := hr.mbig
  have hnu := hr.number
  obtain ⟨id, names, suf, lo, hi, num, tw, stays⟩ := r
  unfold Rcd.val Rcd.great
  dsimp only at hn hm hnu ⊢
  rw [hn, hm]
  unfold maxLen at hnu
  have HN := hid hn
  have HR := hid hr
  have hnb' : (n : Int) ≤ 9223372036854775807 := by omega
  have hmb' : (m : Int) ≤ 9223372036854775807 := by omega
  have hnu' : (num.size : Int) ≤ 9223372036854775807 := by omega
  clear hn hm hnb hmb hr hnu
  by_cases g : n ≤ 8 ∧ m ≤ 10 ∧ num.size ≤ 20
  · rw [show decide (8 < n) = false by simp; omega, show decide (10 < m) = false by simp; omega, show decide (20 < num.size) = false by simp; omega]
    have g1 : (n : Int) ≤ 8 := by omega
    have g2 : (m : Int) ≤ 10 := by omega
    have g3 : (num.size : Int) ≤ 20 := by omega
    clear g
    simp only [Bool.false_or]
    go_enter Try.func11, Try.ntmps11
    go_wp2
    go_loop [3] (fun i => ∃ k : Nat, k ≤ n ∧ i = .int .i64 k ∧ Hid (∀ j, j < k → decide (30 < (names[j]!).size) = false)) (fun i => n - (intOf i).toNat)
    case atStart => exact ⟨0, Nat.zero_le _, rfl, fun j hj => absurd hj (Nat.not_lt_zero _)⟩
    case round =>
      obtain ⟨k, hk, rfl, HA⟩ := hrel
      by_cases hlt : k < n
      · have hlen : k < names.length := by have := HN.out; omega
        obtain ⟨b, off, rfl, hb, hc⟩ := (HR.out.names).at_ (by omega)
        have hcell : w.cell? ⟨b, off + k, none⟩ = some (.string names[k]!) := hc k _ (Rd.get hlen)
        have hsz : (names[k]!).size ≤ maxLen := HR.out.words _ (mem_get hlen)
        clear hc
        have HL := hid hlen
        clear hlen
        generalize hy : names[k]! = y at hcell hsz
        have HY := hid hy
        clear hy
        have hsz' : (y.size : Int) ≤ 9223372036854775807 := by unfold maxLen at hsz; omega
        clear hsz
        by_cases q : 30 < y.size
        · have q' : (30 : Int) < y.size := by omega
          have HQ := hid q
          clear q
          go_wp2
          go_ret
          exact ⟨by rw [any_true_of HL.out (by rw [HY.out]; simpa using HQ.out)]; rfl, (Gr.refl w).alloc _⟩
        · have q' : (y.size : Int) ≤ 30 := by omega
          have HQ := hid q
          clear q
          go_wp2
          go_round
          case rel => exact ⟨k + 1, by omega, by go_num, hid fun j hj => by
            by_cases e : j = k
            · subst e; rw [HY.out]; simpa using HQ.out
            · exact HA.out j (by omega)⟩
          case measure => simp [intOf]; omega
      · go_wp2
        go_ret
        exact ⟨by rw [any_false_of (fun j hj => HA.out j (by have := HN.out; omega))]; rfl, (Gr.refl w).alloc _⟩
  · rw [show (decide (8 < n) || decide (10 < m) || decide (20 < num.size)) = true by simp; omega]
    simp only [Bool.true_or]
    by_cases g1 : n ≤ 8
    · by_cases g2 : m ≤ 10
      · have g1' : (n : Int) ≤ 8 := by omega
        have g2' : (m : Int) ≤ 10 := by omega
        have g3' : (20 : Int) < num.size := by omega
        clear g g1 g2
        go_enter Try.func11, Try.ntmps11
        go_wp2
        go_ret
        exact ⟨rfl, (Gr.refl w).alloc _⟩
      · have g1' : (n : Int) ≤ 8 := by omega
        have g2' : (10 : Int) < m := by omega
        clear g g1 g2
        go_enter Try.func11, Try.ntmps11
        go_wp2
        go_ret
        exact ⟨rfl, (Gr.refl w).alloc _⟩
    · have g1' : (8 : Int) < n := by omega
      clear g g1
      go_enter Try.func11, Try.ntmps11
      go_wp2
      go_ret
      exact ⟨rfl, (Gr.refl w).alloc _⟩
end Go.Proofs.Ytlkjimfkapcenaa
