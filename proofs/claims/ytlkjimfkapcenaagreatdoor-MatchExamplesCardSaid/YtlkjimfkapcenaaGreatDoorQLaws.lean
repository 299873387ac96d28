/- Two laws on rows of cells: a store of a whole row into a block just made. For any program. -/
import Derived.Laws.CopyRow
import Derived.Laws.Rows
import Derived.WalkKit
import Derived.Test.YtlkjimfkapcenaaGreatDoorQBase
namespace Go.Proofs.YtlkjimfkapcenaaGreatDoor
open Go.RowKit
section
variable {P : Program}
theorem setRow_new (w0 : World) (zs cs : Array Value) (t : TypeId) : (w0.alloc (.cells zs t)).setRow w0.heap.size cs = w0.alloc (.cells cs t) := by
  have e : (w0.heap.push (.cells zs t)).modify w0.heap.size (fun | .cells _ elem frozen => .cells cs elem frozen | o => o) = w0.heap.push (.cells cs t) := by
    apply Array.ext
    · simp
    · intro i h1 h2
      rw [Array.getElem_modify]
      by_cases e : w0.heap.size = i
      · subst e; simp
      · have : i < w0.heap.size := by simp at h2; omega
        simp [e, Array.getElem_push, this]
  exact congrArg (fun h => ({ w0 with heap := h } : World)) e
theorem run_storeVar_new (w0 : World) (zs cs : Array Value) (t ty : TypeId) (hi : (P.info? ty).map (·.size) = some cs.size) (hz : zs.size = cs.size) (h1 : ∀ u ∈ cs.toList, u.oneCell' = true) :
    (storeVar ty ⟨w0.heap.size, 0, none⟩ (.agg cs)).run P (w0.alloc (.cells zs t)) = .ok () (w0.alloc (.cells cs t)) := by
  cases hq : P.info? ty with
  | none => simp [hq] at hi
  | some i =>
    have hs : i.size = cs.size := by simpa [hq] using hi
    have hst := run_storeCells_at (P := P) w0.heap.size 0 t cs.toList 0 zs (w0.alloc (.cells zs t)) (heap_alloc_new w0 _) (by simp [hz]) h1
    have hl : cs.toList.length = zs.size := by simp [hz]
    rw [setRow_new] at hst
    simp only [Nat.add_zero, List.take_zero, List.nil_append, Nat.zero_add, hl] at hst
    rw [List.drop_eq_nil_of_le (by simp), List.append_nil, Array.toArray_toList] at hst
    simp [storeVar, Sem.run_bind, sizeOf, typeInfo, hq, hs, Value.cells, hst]
theorem wpList_store_new {ops : Array Oper} {rest : List Oper} {o : Oper} {a : Act} {Q : Exit → Act → World → Prop} (hgd : o.guard = none) (ty : TypeId) (x v : Operand) (ho : o.op = .store ty x v) (w0 : World) (zs cs : Array Value) (t : TypeId)
    (hx : a.eval x = .pointer (some ⟨w0.heap.size, 0, none⟩)) (hv : a.eval v = .agg cs) (hi : (P.info? ty).map (·.size) = some cs.size) (hz : zs.size = cs.size) (h1 : ∀ u ∈ cs.toList, u.oneCell' = true)
    (h : wpList P ops Q rest (a.put o.dst undef) (w0.alloc (.cells cs t))) : wpList P ops Q (o :: rest) a (w0.alloc (.cells zs t)) :=
  wpList_plain hgd fun _ hK => by
    unfold Oper.wp execOp
    simp only [ho, hx, hv, Instr.storeAt, Instr.sureAddr, Sem.run_bind, Sem.run_pure, Result.andThen_ok, run_storeVar_new w0 zs cs t ty hi hz h1]
    exact hK _ _ h
theorem wpList_make (w : World) {ops : Array Oper} {rest : List Oper} {o : Oper} {a : Act} {Q : Exit → Act → World → Prop}
    (hg : o.guard = none) (l c : Operand) (t : TypeId) (hop : o.op = Op.makeSlice t l c)
    (e : TypeId) (i : TypeInfo) (z : Value) (h1 : P.underlying t = some (.slice e)) (h2 : P.info? e = some i) (h3 : i.zero = some z) (h4 : i.size = 1) (h5 : z.cells = #[z])
    (kl : IntKind) (C : Int) (n : Nat) (hl : a.eval l = .int kl C) (hc : a.eval c = .int kl C) (hC : C = (n : Int)) (b2 : i.bytes * n ≤ 281474976710656) (b3 : n ≤ 9223372036854775807)
    (hK : ∀ cs : Array Value, cs.size = n → (∀ j, j < n → cs[j]? = some z) → wpList P ops Q rest (a.put o.dst (.slice (some ⟨w.heap.size, 0, none⟩) n n)) (w.alloc (.cells cs e))) :
    wpList P ops Q (o :: rest) a w :=
  wpList_plain hg fun K hK' => by
    subst hC
    have b2' : (i.bytes : Int) * (n : Int) ≤ 281474976710656 := by
      have h : ((i.bytes * n : Nat) : Int) ≤ ((281474976710656 : Nat) : Int) := Int.ofNat_le.2 b2
      rw [Int.natCast_mul] at h
      exact h
    have hrun := run_make (P := P) w t e i z h1 h2 h3 kl kl n n (by omega) (by omega) b2' (by omega)
    unfold Oper.wp execOp
    simp only [hop, hl, hc, Sem.run_bind, hrun, Result.andThen_ok, Sem.run_pure, Int.toNat_natCast]
    refine hK' _ _ (hK _ ?_ ?_)
    · simp [madeCells, h4]
    · intro j hj
      simp [madeCells, h4, h5, hj, Nat.mod_one]
end

/-- Block g is a row of n values, none of it frozen. -/
def VBlk (w : World) (g : Nat) (t : TypeId) (n : Nat) (f : Nat → Value) : Prop :=
  ∃ cs : Array Value, w.heap[g]? = some (.cells cs t (0, 0)) ∧ cs.size = n ∧ ∀ j, j < n → cs[j]? = some (f j)
section
variable {w w' : World} {g n : Nat} {t : TypeId} {f : Nat → Value}
theorem VBlk.lt (h : VBlk w g t n f) : g < w.heap.size := by
  obtain ⟨cs, h, _⟩ := h
  rcases Nat.lt_or_ge g w.heap.size with hlt | hge
  · exact hlt
  · rw [Array.getElem?_eq_none hge] at h; cases h
theorem VBlk.cell (h : VBlk w g t n f) {j : Nat} (hj : j < n) : w.cell? ⟨g, j, none⟩ = some (f j) := by
  obtain ⟨cs, h, _, hc⟩ := h
  rw [cell_of_row w g j cs t (0, 0) h]; exact hc j hj
theorem VBlk.frozen (h : VBlk w g t n f) (j : Nat) : w.frozen? ⟨g, j, none⟩ = false := by
  obtain ⟨cs, h, _⟩ := h
  exact frozen_of_row w g j cs t h
theorem VBlk.keep (h : VBlk w g t n f) (e : w'.heap[g]? = w.heap[g]?) : VBlk w' g t n f := by
  obtain ⟨cs, h, k⟩ := h
  exact ⟨cs, e.trans h, k⟩
theorem VBlk.gr (h : VBlk w g t n f) (k : Gr w w') : VBlk w' g t n f := h.keep (k.heap h.lt)
theorem VBlk.drew (h : VBlk w g t n f) : VBlk w.drew g t n f := h
theorem VBlk.drewN (h : VBlk w g t n f) (q : Nat) : VBlk (w.drewN q) g t n f := h
theorem VBlk.alloc (h : VBlk w g t n f) (o : Obj) : VBlk (w.alloc o) g t n f := h.gr ((Gr.refl w).alloc o)
theorem VBlk.far (h : VBlk w g t n f) {p : Addr} (hp : g ≠ p.block) (u : Value) : VBlk (w.setCell p u) g t n f := h.keep (Below.heap_setCell w p u g hp)
theorem VBlk.set_ (h : VBlk w g t n f) (i : Nat) (v : Value) : VBlk (w.setCell ⟨g, i, none⟩ v) g t n (fun j => if j = i then v else f j) := by
  obtain ⟨cs, h, hs, hc⟩ := h
  refine ⟨cs.setIfInBounds i v, heap_setCell_same w g i cs t _ h, by simp [hs], fun j hj => ?_⟩
  rw [Array.getElem?_setIfInBounds]
  by_cases e : i = j
  · subst e; simp [hs, hj]
  · have e' : ¬ j = i := fun h => e h.symm
    simp [e, e', hc j hj]
theorem VBlk.congr (h : VBlk w g t n f) {f' : Nat → Value} (e : ∀ j, j < n → f j = f' j) : VBlk w g t n f' := by
  obtain ⟨cs, h, hs, hc⟩ := h
  exact ⟨cs, h, hs, fun j hj => by rw [hc j hj, e j hj]⟩
theorem VBlk.new (w : World) (t : TypeId) (cs : Array Value) (n : Nat) (f : Nat → Value) (hs : cs.size = n) (hc : ∀ j, j < n → cs[j]? = some (f j)) : VBlk (w.alloc (.cells cs t)) w.heap.size t n f :=
  ⟨cs, heap_alloc_new w _, hs, hc⟩
end
end Go.Proofs.YtlkjimfkapcenaaGreatDoor
