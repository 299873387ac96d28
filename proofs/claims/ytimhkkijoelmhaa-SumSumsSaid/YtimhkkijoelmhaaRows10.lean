/- Rows of subjects and of conditions: what lies where. For any program. -/
import Derived.Test.YtimhkkijoelmhaaEltS
namespace Go.Proofs.Ytimhkkijoelmhaa
open Go.RowKit

/-- A table as it lies. -/
structure SbjsIn (w : World) (A : Option Addr) (n : Nat) (zs : List Sbj) : Prop where
  rd : Rd w 2 A n (zs.flatMap Sbj.cells)
  big : n ≤ 9223372036854775807
  vals : ∀ s ∈ zs, Rd w 1 s.a s.n (s.vals.map (Value.int .i64)) ∧ s.n ≤ 9223372036854775807
  wf : ∀ s ∈ zs, -9223372036854775808 ≤ s.id ∧ s.id ≤ 9223372036854775807
theorem SbjsIn.gr {w w' : World} {A : Option Addr} {n : Nat} {zs : List Sbj} (h : SbjsIn w A n zs) (g : Gr w w') : SbjsIn w' A n zs := ⟨h.rd.gr g, h.big, fun s hs => ⟨(h.vals s hs).1.gr g, (h.vals s hs).2⟩, h.wf⟩
theorem SbjsIn.len {w : World} {A : Option Addr} {n : Nat} {zs : List Sbj} (h : SbjsIn w A n zs) : zs.length = n := by
  have := h.rd.len
  rw [flatMap_len Sbj.len] at this
  omega
/-- A subject of the row, cell by cell. -/
theorem Rd.sbj {w : World} {A : Option Addr} {n : Nat} {zs : List Sbj} (h : Rd w 2 A n (zs.flatMap Sbj.cells)) {k : Nat} (hk : k < n) :
    k < zs.length ∧ ∃ b off, A = some ⟨b, off, none⟩ ∧ b < w.heap.size ∧ w.cell? ⟨b, off + k * 2, none⟩ = some (.int .i64 zs[k]!.id) ∧ w.cell? ⟨b, off + k * 2 + 1, none⟩ = some (.slice zs[k]!.a zs[k]!.n zs[k]!.c) := by
  have hl := h.len
  rw [flatMap_len Sbj.len] at hl
  have hk' : k < zs.length := by omega
  obtain ⟨b, off, e, hb, hc⟩ := h.at_ (by omega)
  have g : ∀ j, j < 2 → (zs.flatMap Sbj.cells)[k * 2 + j]? = (zs[k]!.cells)[j]? := fun j hj => flatMap_get Sbj.len hk' hj
  refine ⟨hk', b, off, e, hb, hc (k * 2) _ (by rw [← Nat.add_zero (k * 2), g 0 (by omega)]; rfl), ?_⟩
  rw [Nat.add_assoc]
  exact hc (k * 2 + 1) _ (by rw [g 1 (by omega)]; rfl)
/-- A question as it lies. -/
structure QstIn (w : World) (q : Qst) : Prop where
  rd : Rd w 3 q.a q.n (q.whs.flatMap Whr.cells)
  big : q.n ≤ 9223372036854775807
theorem QstIn.gr {w w' : World} {q : Qst} (h : QstIn w q) (g : Gr w w') : QstIn w' q := ⟨h.rd.gr g, h.big⟩
theorem QstIn.len {w : World} {q : Qst} (h : QstIn w q) : q.whs.length = q.n := by
  have := h.rd.len
  rw [flatMap_len Whr.len] at this
  omega
theorem Rd.whr {w : World} {A : Option Addr} {n : Nat} {zs : List Whr} (h : Rd w 3 A n (zs.flatMap Whr.cells)) {k : Nat} (hk : k < n) :
    k < zs.length ∧ ∃ b off, A = some ⟨b, off, none⟩ ∧ b < w.heap.size ∧ w.cell? ⟨b, off + k * 3, none⟩ = some (.int .i64 zs[k]!.col) ∧ w.cell? ⟨b, off + k * 3 + 1, none⟩ = some (.int .i64 zs[k]!.lo) ∧ w.cell? ⟨b, off + k * 3 + 2, none⟩ = some (.int .i64 zs[k]!.hi) := by
  have hl := h.len
  rw [flatMap_len Whr.len] at hl
  have hk' : k < zs.length := by omega
  obtain ⟨b, off, e, hb, hc⟩ := h.at_ (by omega)
  have g : ∀ j, j < 3 → (zs.flatMap Whr.cells)[k * 3 + j]? = (zs[k]!.cells)[j]? := fun j hj => flatMap_get Whr.len hk' hj
  refine ⟨hk', b, off, e, hb, hc (k * 3) _ (by rw [← Nat.add_zero (k * 3), g 0 (by omega)]; rfl), ?_, ?_⟩
  · rw [Nat.add_assoc]
    exact hc (k * 3 + 1) _ (by rw [g 1 (by omega)]; rfl)
  · rw [Nat.add_assoc]
    exact hc (k * 3 + 2) _ (by rw [g 2 (by omega)]; rfl)
/-- A value of a subject. -/
theorem Rd.int_at {w : World} {A : Option Addr} {n : Nat} {zs : List Int} (h : Rd w 1 A n (zs.map (Value.int .i64))) {k : Nat} (hk : k < n) : k < zs.length ∧ ∃ b off, A = some ⟨b, off, none⟩ ∧ b < w.heap.size ∧ w.cell? ⟨b, off + k, none⟩ = some (.int .i64 zs[k]!) := by
  have hl : zs.length = n := by have := h.len; simpa using this
  obtain ⟨b, off, e, hb, hc⟩ := h.at_ (by omega)
  exact ⟨by omega, b, off, e, hb, hc k _ (Rd.get (enc := Value.int .i64) (zs := zs) (by omega))⟩
theorem SbjsIn.rdE {w : World} {A : Option Addr} {n : Nat} {zs : List Sbj} (h : SbjsIn w A n zs) : RdE w A n zs := by
  refine ⟨h.len, fun hn => ?_⟩
  obtain ⟨b, off, e, hb, hc⟩ := h.rd.at_ hn
  refine ⟨b, off, e, hb, fun j x hx k u hu => ?_⟩
  have hj : j < zs.length := (List.getElem?_eq_some_iff.1 hx).1
  have hk : k < 2 := by
    have := (List.getElem?_eq_some_iff.1 hu).1
    rwa [Sbj.len] at this
  have hxx : zs[j]! = x := by
    rw [getElem!_pos zs j hj]
    exact (List.getElem?_eq_some_iff.1 hx).2
  rw [Nat.add_assoc]
  exact hc (j * 2 + k) u (by rw [flatMap_get Sbj.len hj hk, hxx]; exact hu)
end Go.Proofs.Ytimhkkijoelmhaa
