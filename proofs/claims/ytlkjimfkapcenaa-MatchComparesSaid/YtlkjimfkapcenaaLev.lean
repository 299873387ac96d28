/- The edits of two words, as a function of plain data. For any words. -/
import Derived.Test.YtlkjimfkapcenaaBase
namespace Go.Proofs.Ytlkjimfkapcenaa
open Go.RowKit

/-- What a cell holds, whatever it is. -/
def getv (w : World) (a : Addr) : Value := (w.cell? a).getD undef
theorem getv_some {w : World} {a : Addr} {x : Value} (h : w.cell? a = some x) : w.cell? a = some (getv w a) := by
  unfold getv; rw [h]; rfl

/-- A byte of a text, by its place. -/
def byt (s : ByteArray) (i : Nat) : UInt8 := s.data.toList.getD i 0
/-- The edits of the first i bytes of one and the first k bytes of the other text. -/
def lev (a b : ByteArray) : Nat → Nat → Nat
  | 0, k => k
  | i + 1, 0 => i + 1
  | i + 1, k + 1 => min (min (lev a b i k + if byt a i = byt b k then 0 else 1) (lev a b i (k + 1) + 1)) (lev a b (i + 1) k + 1)
theorem byt_ne {a b : ByteArray} {i k : Nat} (hi : i < a.size) (hk : k < b.size) (h : ¬ byt a i = byt b k) : ((a[i].toNat : Int) != (b[k].toNat : Int)) = true := by
  have e1 : byt a i = a[i] := by unfold byt; rw [List.getD_eq_getElem?_getD, List.getElem?_eq_getElem (by simpa using hi)]; rfl
  have e2 : byt b k = b[k] := by unfold byt; rw [List.getD_eq_getElem?_getD, List.getElem?_eq_getElem (by simpa using hk)]; rfl
  rw [e1, e2] at h
  rw [bne_iff_ne]
  intro h'
  exact h (UInt8.toNat_inj.1 (by omega))
theorem byt_eq {a b : ByteArray} {i k : Nat} (hi : i < a.size) (hk : k < b.size) (h : byt a i = byt b k) : ((a[i].toNat : Int) != (b[k].toNat : Int)) = false := by
  have e1 : byt a i = a[i] := by unfold byt; rw [List.getD_eq_getElem?_getD, List.getElem?_eq_getElem (by simpa using hi)]; rfl
  have e2 : byt b k = b[k] := by unfold byt; rw [List.getD_eq_getElem?_getD, List.getElem?_eq_getElem (by simpa using hk)]; rfl
  rw [e1, e2] at h
  rw [h]; simp
theorem lev_zero (a b : ByteArray) (i : Nat) : lev a b i 0 = i := by cases i <;> simp [lev]
theorem lev_step (a b : ByteArray) (i k : Nat) : lev a b (i + 1) (k + 1) = min (min (lev a b i k + if byt a i = byt b k then 0 else 1) (lev a b i (k + 1) + 1)) (lev a b (i + 1) k + 1) := by rw [lev]
theorem lev_le (a b : ByteArray) : ∀ i k, lev a b i k ≤ i + k := by
  intro i
  induction i with
  | zero => intro k; simp [lev]
  | succ i ih =>
    intro k
    induction k with
    | zero => simp [lev]
    | succ k ihk => rw [lev_step]; omega

theorem lev_pred (a b : ByteArray) {i k : Nat} (hi : 1 ≤ i) (hk : 1 ≤ k) : lev a b i k = min (min (lev a b (i - 1) (k - 1) + if byt a (i - 1) = byt b (k - 1) then 0 else 1) (lev a b (i - 1) k + 1)) (lev a b i (k - 1) + 1) := by
  obtain ⟨i, rfl⟩ : ∃ j, i = j + 1 := ⟨i - 1, by omega⟩
  obtain ⟨k, rfl⟩ : ∃ j, k = j + 1 := ⟨k - 1, by omega⟩
  simpa using lev_step a b i k
end Go.Proofs.Ytlkjimfkapcenaa
