/- s[k:], met in a walk, wherever the slice ends. For any program. -/
import Derived.OwnWalkIn
import Derived.WalkKit
import Derived.Test.YtlkjimfkapcenaaGreatDoorQBase
namespace Go.Proofs.YtlkjimfkapcenaaGreatDoor
open Go.RowKit
section
variable {P : Program} {t e : TypeId} {i : TypeInfo} {size : Nat}
theorem run_slice_from (ht : P.underlying t = some (.slice e)) (hi : P.info? e = some i) (hs : i.size = size) (A : Option Addr) (n c k : Nat) (kl : IntKind) (hk : k ≤ n) (w : World) :
    (Instr.slice t (.slice A n c) (some (.int kl (k : Int))) none none).run P w = .ok (.slice (if c = k then A else A.map (·.add (k * size))) (n - k) (c - k)) w := by
  simp [Instr.slice, Instr.sliceBounds, Instr.sliceBound, asIntOf, run_underlying ht, sizeOf, typeInfo, hi, hs, hk, Result.andThen]
theorem run_sliceAt_from (ht : P.underlying t = some (.slice e)) (hi : P.info? e = some i) (hs : i.size = size) (A : Option Addr) (n c k : Nat) (kl : IntKind) (hk : k ≤ n) (w : World) :
    (Instr.sliceAt t (.slice A n c) (some (.int kl (k : Int))) none none).run P w = .ok (.slice (if c = k then A else A.map (·.add (k * size))) (n - k) (c - k)) w := by
  rw [← run_slice_from ht hi hs A n c k kl hk w]
  simp [Instr.sliceAt, run_underlying ht]
theorem Rd.cut {w : World} {A : Option Addr} {n c k : Nat} {xs : List Value} (h : Rd w size A n xs) (hk : k ≤ n) (hc : n ≤ c) : Rd w size (if c = k then A else A.map (·.add (k * size))) (n - k) (xs.drop (k * size)) := by
  refine ⟨by rw [List.length_drop, h.1, Nat.sub_mul], fun hn => ?_⟩
  obtain ⟨b, off, rfl, hb, hcell⟩ := h.2 (by omega)
  rw [if_neg (by omega)]
  refine ⟨b, off + k * size, by simp [Addr.add_lit], hb, fun j u hu => ?_⟩
  have := hcell (k * size + j) u (by rw [← hu, List.getElem?_drop])
  rwa [← Nat.add_assoc] at this
/-- s[k:] in a walk. -/
theorem wpList_slice_from {ops : Array Oper} {rest : List Oper} {o : Oper} {a : Act} {Q : Exit → Act → World → Prop} {w : World} (hg : o.guard = none) (x lo : Operand) (t : TypeId) (hop : o.op = .slice t x (some lo) none none)
    (e : TypeId) (i : TypeInfo) (size : Nat) (ht : P.underlying t = some (.slice e)) (hi : P.info? e = some i) (hs : i.size = size) (A : Option Addr) (n c k : Nat) (kl : IntKind) (K : Int) (hx : a.eval x = .slice A n c) (hl : a.eval lo = .int kl K) (hK : K = (k : Int)) (hk : k ≤ n) (hc : n ≤ c)
    (h : ∀ A', (∀ W xs, Rd W size A n xs → Rd W size A' (n - k) (xs.drop (k * size))) → wpList P ops Q rest (a.put o.dst (.slice A' (n - k) (c - k))) w) : wpList P ops Q (o :: rest) a w :=
  wpList_plain hg fun _ hK' => by
    subst hK
    have hrun := run_sliceAt_from ht hi hs A n c k kl hk w
    unfold Oper.wp
    simp [execOp, hop, hx, hl, hrun, Result.andThen]
    exact hK' _ _ (h _ (fun W xs hr => hr.cut hk hc))
theorem wpListIn_slice_from {F : Fence} {nF : Nat} {ops : Array Oper} {rest : List Oper} {o : Oper} {a : Act} {Q : Exit → Act → World → Prop} {w : World} (hg : o.guard = none) (x lo : Operand) (t : TypeId) (hop : o.op = .slice t x (some lo) none none)
    (e : TypeId) (i : TypeInfo) (size : Nat) (ht : P.underlying t = some (.slice e)) (hi : P.info? e = some i) (hs : i.size = size) (A : Option Addr) (n c k : Nat) (kl : IntKind) (K : Int) (hx : a.eval x = .slice A n c) (hl : a.eval lo = .int kl K) (hK : K = (k : Int)) (hk : k ≤ n) (hc : n ≤ c)
    (h : ∀ A', (∀ W xs, Rd W size A n xs → Rd W size A' (n - k) (xs.drop (k * size))) → wpListIn F nF P ops Q rest (a.put o.dst (.slice A' (n - k) (c - k))) w) : wpListIn F nF P ops Q (o :: rest) a w :=
  wpListIn_plain hg fun _ hK' => by
    subst hK
    have hrun := run_sliceAt_from ht hi hs A n c k kl hk w
    unfold Oper.wpIn
    refine ⟨?_, ?_⟩
    · simp [Oper.about, hop]
    · rw [Oper.semAt_plain F _ _ (by rw [hop]; intro c hc'; cases hc')]
      simp [execOp, hop, hx, hl, hrun, Result.andThen]
      exact hK' _ _ (h _ (fun W xs hr => hr.cut hk hc))
end
end Go.Proofs.YtlkjimfkapcenaaGreatDoor
