/- A row of traces of the call's own, element by element. For every row. s[k:], met in a walk, wherever the slice ends. For any program. slices.DeleteFunc at traces: those that a function names are left out, in place. For every row of the call's own. Traces of the call's own: some left out, and in the order of their days. For up to forty traces. -/
import Derived.Deep.LoopGhost
import Derived.OwnWalkIn
import Derived.WalkKit
import Derived.Test.YtliehlefpodhaaaDoorOBase
import Derived.Test.YtliehlefpodhaaaDoorOIn
import Derived.Test.YtliehlefpodhaaaDoorOOrder
import Derived.Test.YtliehlefpodhaaaDoorOAmong9
import Derived.Test.YtliehlefpodhaaaDoorOTrStable
namespace Go.Proofs.YtliehlefpodhaaaDoor
open Go.RowKit Go.Shelf Go.Sort Go.Lib

theorem Trc.one (x : Trc) : ∀ v ∈ x.cells, v.oneCell' = true := by
  intro v hv
  simp [Trc.cells] at hv
  rcases hv with rfl | rfl | rfl | rfl | rfl <;> rfl
theorem flatT_get (es : List Trc) (j : Nat) (hj : j < es.length * 5) : (es.flatMap Trc.cells)[j]? = some (es.toArray[j / 5]!.cells[j % 5]!) := by
  induction es generalizing j with
  | nil => simp at hj
  | cons e es ih =>
    show (e.cells ++ es.flatMap Trc.cells)[j]? = _
    by_cases h : j < 5
    · rw [List.getElem?_append_left (by rw [e.len]; exact h)]
      have h0 : j / 5 = 0 := by omega
      have h1 : j % 5 = j := by omega
      rw [h0, h1]
      have : j < e.cells.length := by rw [e.len]; exact h
      simp [this]
    · rw [List.getElem?_append_right (by rw [e.len]; omega), e.len, ih (j - 5) (by simp at hj; omega)]
      have h0 : j / 5 = (j - 5) / 5 + 1 := by omega
      have h1 : (j - 5) % 5 = j % 5 := by omega
      rw [h0, h1]
      have h2 : (j - 5) / 5 < es.length := by simp at hj; omega
      simp [h2]
theorem holdsT_own {W : World} {g : Nat} {cur : Array Value} {t : TypeId} {es : List Trc} (h : W.heap[g]? = some (.cells cur t (0, 0))) (hx : cur.toList.take (es.length * 5) = es.flatMap Trc.cells) : HoldsK Trc.cells 5 W g 0 es.toArray := by
  intro j hj
  rw [size_flatK] at hj
  have hj' : j < es.length * 5 := by simpa using hj
  have e1 : (cur.toList.take (es.length * 5))[j]? = some (es.toArray[j / 5]!.cells[j % 5]!) := by rw [hx]; exact flatT_get es j hj'
  rw [List.getElem?_take, if_pos hj', Array.getElem?_toList] at e1
  refine ⟨?_, by simp [World.frozen?, h]⟩
  rw [Nat.zero_add, cell_of_row W g j cur t _ h, e1, get_flatK _ _ _ _ hj]
  rfl
theorem rdT_holds {W : World} {g : Nat} {d : Array Trc} (h : HoldsK Trc.cells 5 W g 0 d) (hg : g < W.heap.size) : Rd W 5 (some ⟨g, 0, none⟩) d.size (d.toList.flatMap Trc.cells) := by
  refine ⟨by rw [flatMap_len Trc.len]; simp, fun _ => ⟨g, 0, rfl, hg, fun j u hu => ?_⟩⟩
  have hj : j < d.size * 5 := by
    have h1 := (List.getElem?_eq_some_iff.1 hu).1
    rw [flatMap_len Trc.len] at h1
    simpa [Nat.mul_comm] using h1
  rw [flatT_get d.toList j (by simpa using hj)] at hu
  have := (h j (by rw [size_flatK]; exact hj)).1
  rw [this, get_flatK _ _ _ _ hj]
  simpa using hu
theorem holdsT_gr {W W' : World} {g : Nat} {d : Array Trc} (h : HoldsK Trc.cells 5 W g 0 d) (k : Gr W W') (hg : g < W.heap.size) : HoldsK Trc.cells 5 W' g 0 d := fun j hj =>
  ⟨(k.cell hg).trans (h j hj).1, (k.frozen hg).trans (h j hj).2⟩
theorem holdsT_get {W : World} {g : Nat} {d : Array Trc} (h : HoldsK Trc.cells 5 W g 0 d) {i : Nat} (hi : i < d.size) (q : Nat) (hq : q < 5) : W.cell? ⟨g, i * 5 + q, none⟩ = some (d[i]!.cells[q]!) ∧ W.frozen? ⟨g, i * 5 + q, none⟩ = false := by
  have hj : i * 5 + q < d.size * 5 := by omega
  have := h (i * 5 + q) (by rw [size_flatK]; exact hj)
  rw [Nat.zero_add, get_flatK _ _ _ _ hj, show (i * 5 + q) / 5 = i by omega, show (i * 5 + q) % 5 = q by omega] at this
  exact this
/-- An element, cell by cell. -/
theorem holdsT_cells {W : World} {g : Nat} {d : Array Trc} (h : HoldsK Trc.cells 5 W g 0 d) {i : Nat} (hi : i < d.size) :
    (W.cell? ⟨g, i * 5, none⟩ = some (.int .i64 d[i]!.inq) ∧ W.cell? ⟨g, i * 5 + 1, none⟩ = some (.int .i64 d[i]!.who) ∧ W.cell? ⟨g, i * 5 + 2, none⟩ = some (.int .i64 d[i]!.day) ∧ W.cell? ⟨g, i * 5 + 3, none⟩ = some (.int .u8 d[i]!.purpose) ∧ W.cell? ⟨g, i * 5 + 4, none⟩ = some (.int .u8 d[i]!.became)) ∧
    (W.frozen? ⟨g, i * 5, none⟩ = false ∧ W.frozen? ⟨g, i * 5 + 1, none⟩ = false ∧ W.frozen? ⟨g, i * 5 + 2, none⟩ = false ∧ W.frozen? ⟨g, i * 5 + 3, none⟩ = false ∧ W.frozen? ⟨g, i * 5 + 4, none⟩ = false) :=
  ⟨⟨(holdsT_get h hi 0 (by omega)).1, (holdsT_get h hi 1 (by omega)).1, (holdsT_get h hi 2 (by omega)).1, (holdsT_get h hi 3 (by omega)).1, (holdsT_get h hi 4 (by omega)).1⟩,
   ⟨(holdsT_get h hi 0 (by omega)).2, (holdsT_get h hi 1 (by omega)).2, (holdsT_get h hi 2 (by omega)).2, (holdsT_get h hi 3 (by omega)).2, (holdsT_get h hi 4 (by omega)).2⟩⟩
theorem setMany_set (d : Array Trc) (i : Nat) (x : Trc) (hi : i < d.size) : setMany (flatK Trc.cells 5 d) (i * 5) x.cells = flatK Trc.cells 5 (d.setIfInBounds i x) := by
  refine ext_get! (by simp) fun t ht => ?_
  have ht' : t < d.size * 5 := by simpa using ht
  rw [get_setMany _ _ _ t (by simpa using ht'), get_flatK _ _ _ t ht', get_flatK _ _ _ t (by simpa using ht'), x.len]
  by_cases a : t / 5 = i
  · have e : (d.setIfInBounds i x)[i]! = x := by
      simp [hi]
    rw [if_pos ⟨by omega, by omega⟩, a, e, show t - i * 5 = t % 5 by omega]
  · rw [if_neg (by omega)]
    have : (d.setIfInBounds i x)[t / 5]! = d[t / 5]! := by
      have h5 : t / 5 < d.size := by omega
      rw [getElem!_pos (d.setIfInBounds i x) (t / 5) (by simpa using h5), getElem!_pos d (t / 5) h5, Array.getElem_setIfInBounds, if_neg (Ne.symm a)]
    rw [this]
theorem holdsT_set {W : World} {g : Nat} {d : Array Trc} (h : HoldsK Trc.cells 5 W g 0 d) {i : Nat} (hi : i < d.size) (x : Trc) : HoldsK Trc.cells 5 (W.setCells g (i * 5) x.cells) g 0 (d.setIfInBounds i x) := by
  unfold HoldsK
  rw [← setMany_set d i x hi]
  have := holds_setCells_c h (i * 5) x.cells (by rw [x.len, size_flatK]; omega)
  rwa [Nat.zero_add] at this
/-- The first ones of a row, behind stores to what lies past them. -/
theorem holdsT_pre {W : World} {g : Nat} {d : Array Trc} (h : HoldsK Trc.cells 5 W g 0 d) {i : Nat} (hi : i ≤ d.size) (vs : List Value) : HoldsK Trc.cells 5 (W.setCells g (i * 5) vs) g 0 (d.extract 0 i) := by
  intro j hj
  rw [size_flatK] at hj
  have hs : (d.extract 0 i).size = i := by simp; omega
  rw [hs] at hj
  have hj' : j < d.size * 5 := by omega
  obtain ⟨h1, h2⟩ := h j (by rw [size_flatK]; exact hj')
  refine ⟨?_, by rw [World.frozen?_setCells]; exact h2⟩
  rw [World.cell?_setCells_out g vs (i * 5) W ⟨g, 0 + j, none⟩ (fun _ _ => Or.inl (by show 0 + j < i * 5; omega)), h1, get_flatK _ _ _ _ hj', get_flatK _ _ _ _ (by rw [hs]; exact hj)]
  have e : (d.extract 0 i)[j / 5]! = d[j / 5]! := by
    have h5 : j / 5 < i := by omega
    rw [getElem!_pos (d.extract 0 i) (j / 5) (by rw [hs]; exact h5), getElem!_pos d (j / 5) (by omega)]
    simp
  rw [e]
theorem belowT_setCells {B : Nat} {a : World} (b : Nat) (hb : B ≤ b) : ∀ (vs : List Value) (o : Nat) {w : World}, Below B a w → Below B a (w.setCells b o vs)
  | [], _, _, h => h
  | v :: r, o, _, h => belowT_setCells b hb r (o + 1) (h.setCell (p := ⟨b, o, none⟩) hb v)
theorem gr_setCells {w W : World} {g : Nat} (h : Gr w W) (hg : w.heap.size ≤ g) (o : Nat) (vs : List Value) : Gr w (W.setCells g o vs) := belowT_setCells g hg vs o h
theorem gr_sortT {w W W' : World} {g : Nat} {d' : Array Trc} (h : Gr w W) (S : SWK Trc.cells 5 W g 0 d' W') (hg : w.heap.size ≤ g) : Gr w W' := by
  obtain ⟨n, os, rfl⟩ := S
  have hb : Below w.heap.size w W := h
  refine ⟨hb.os, hb.tape, hb.output, ?_, fun k hk => ?_⟩
  · exact Nat.le_trans hb.size (size_sortWorldK_c Trc.cells 5 W g 0 n d' os)
  · have hk' : k < W.heap.size := Nat.lt_of_lt_of_le hk hb.size
    rw [← hb.block k hk]
    simp only [sortWorldK, grow, putRowK, putRow, mapBlock, Sort.ahead]
    rw [Array.getElem?_append_left (by simpa using hk'), Array.getElem?_modify, if_neg (by omega)]
end Go.Proofs.YtliehlefpodhaaaDoor
namespace Go.Proofs.YtliehlefpodhaaaDoor
open Go.RowKit
section
variable {P : Program} {t e : TypeId} {i : TypeInfo} {size : Nat}
theorem run_slice_from (ht : P.underlying t = some (.slice e)) (hi : P.info? e = some i) (hs : i.size = size) (A : Option Addr) (n c k : Nat) (kl : IntKind) (hk : k ≤ n) (w : World) :
    (Instr.slice t (.slice A n c) (some (.int kl (k : Int))) none none).run P w = .ok (.slice (if c = k then A else A.map (·.add (k * size))) (n - k) (c - k)) w := by
  simp [Instr.slice, Instr.sliceBounds, Instr.sliceBound, asIntOf, run_underlying ht, sizeOf, typeInfo, hi, hs, hk, Result.andThen]
theorem run_sliceAt_from (ht : P.underlying t = some (.slice e)) (hi : P.info? e = some i) (hs : i.size = size) (A : Option Addr) (n c k : Nat) (kl : IntKind) (hk : k ≤ n) (w : World) :
    (Instr.sliceAt t (.slice A n c) (some (.int kl (k : Int))) none none).run P w = .ok (.slice (if c = k then A else A.map (·.add (k * size))) (n - k) (c - k)) w := by
  rw [← run_slice_from ht hi hs A n c k kl hk w]
  simp [Instr.sliceAt, run_underlying ht]
theorem Rd.cut {w : World} {A : Option Addr} {n c k : Nat} {xs : List Value} (h : Rd w size A n xs) (hk : k ≤ n) (hc : n ≤ c) : Rd w size (if c = k then A else A.map (·.add (k * size))) (n - k) (xs.drop (k * size)) := by
  refine ⟨by rw [List.length_drop, h.1, Nat.sub_mul], fun hn => ?_⟩
  obtain ⟨b, off, rfl, hb, hcell⟩ := h.2 (by omega)
  rw [if_neg (by omega)]
  refine ⟨b, off + k * size, by simp [Addr.add_lit], hb, fun j u hu => ?_⟩
  have := hcell (k * size + j) u (by rw [← hu, List.getElem?_drop])
  rwa [← Nat.add_assoc] at this
/-- s[k:] in a walk. -/
theorem wpList_slice_from {ops : Array Oper} {rest : List Oper} {o : Oper} {a : Act} {Q : Exit → Act → World → Prop} {w : World} (hg : o.guard = none) (x lo : Operand) (t : TypeId) (hop : o.op = .slice t x (some lo) none none)
    (e : TypeId) (i : TypeInfo) (size : Nat) (ht : P.underlying t = some (.slice e)) (hi : P.info? e = some i) (hs : i.size = size) (A : Option Addr) (n c k : Nat) (kl : IntKind) (K : Int) (hx : a.eval x = .slice A n c) (hl : a.eval lo = .int kl K) (hK : K = (k : Int)) (hk : k ≤ n) (hc : n ≤ c)
    (h : ∀ A', (∀ W xs, Rd W size A n xs → Rd W size A' (n - k) (xs.drop (k * size))) → wpList P ops Q rest (a.put o.dst (.slice A' (n - k) (c - k))) w) : wpList P ops Q (o :: rest) a w :=
  wpList_plain hg fun _ hK' => by
    subst hK
    have hrun := run_sliceAt_from ht hi hs A n c k kl hk w
    unfold Oper.wp
    simp [execOp, hop, hx, hl, hrun, Result.andThen]
    exact hK' _ _ (h _ (fun W xs hr => hr.cut hk hc))
theorem wpListIn_slice_from {F : Fence} {nF : Nat} {ops : Array Oper} {rest : List Oper} {o : Oper} {a : Act} {Q : Exit → Act → World → Prop} {w : World} (hg : o.guard = none) (x lo : Operand) (t : TypeId) (hop : o.op = .slice t x (some lo) none none)
    (e : TypeId) (i : TypeInfo) (size : Nat) (ht : P.underlying t = some (.slice e)) (hi : P.info? e = some i) (hs : i.size = size) (A : Option Addr) (n c k : Nat) (kl : IntKind) (K : Int) (hx : a.eval x = .slice A n c) (hl : a.eval lo = .int kl K) (hK : K = (k : Int)) (hk : k ≤ n) (hc : n ≤ c)
    (h : ∀ A', (∀ W xs, Rd W size A n xs → Rd W size A' (n - k) (xs.drop (k * size))) → wpListIn F nF P ops Q rest (a.put o.dst (.slice A' (n - k) (c - k))) w) : wpListIn F nF P ops Q (o :: rest) a w :=
  wpListIn_plain hg fun _ hK' => by
    subst hK
    have hrun := run_sliceAt_from ht hi hs A n c k kl hk w
    unfold Oper.wpIn
    refine ⟨?_, ?_⟩
    · simp [Oper.about, hop]
    · rw [Oper.semAt_plain F _ _ (by rw [hop]; intro c hc'; cases hc')]
      simp [execOp, hop, hx, hl, hrun, Result.andThen]
      exact hK' _ _ (h _ (fun W xs hr => hr.cut hk hc))
end
end Go.Proofs.YtliehlefpodhaaaDoor
namespace Go.Proofs.YtliehlefpodhaaaDoor
open Go.RowKit Go.Shelf Go.Sort

theorem info_trc : (Tryd.prog.info? 72).map (fun i => (i.zero, i.size, i.bytes)) = some (some (.agg #[.int .i64 0, .int .i64 0, .int .i64 0, .int .u8 0, .int .u8 0]), 5, 32) := by kernel_rfl
theorem fidx_spec (p : Trc → Bool) (zs : List Trc) : (fidx p zs = -1 ∧ ∀ x ∈ zs, p x = false) ∨ ∃ k : Nat, k < zs.length ∧ fidx p zs = k ∧ p zs[k]! = true ∧ ∀ j, j < k → p zs[j]! = false := by
  cases e : zs.findIdx? p with
  | none =>
    refine .inl ⟨by unfold fidx; rw [e], fun x hx => ?_⟩
    have := List.findIdx?_eq_none_iff.1 e x hx
    simpa using this
  | some k =>
    obtain ⟨hk, h1, h2⟩ := List.findIdx?_eq_some_iff_getElem.1 e
    refine .inr ⟨k, hk, by unfold fidx; rw [e], by rw [getElem!_pos zs k hk]; exact h1, fun j hj => ?_⟩
    have := h2 j hj
    rw [getElem!_pos zs j (by omega)]
    simpa using this
/-- How far the leaving out has come. -/
structure DQ (p : Trc → Bool) (zs : List Trc) (i j : Nat) (d : Array Trc) : Prop where
  size : d.size = zs.length
  lt : i < j
  le : j ≤ zs.length
  pre : (d.toList.take i) = (zs.take j).filter fun x => !p x
  post : ∀ q, j ≤ q → q < zs.length → d[q]! = zs[q]!
theorem DQ.start {p : Trc → Bool} {zs : List Trc} {k : Nat} (hk : k < zs.length) (hp : p zs[k]! = true) (h : ∀ j, j < k → p zs[j]! = false) : DQ p zs k (k + 1) zs.toArray := by
  refine ⟨by simp, by omega, by omega, ?_, fun q _ h2 => by simp [h2]⟩
  rw [List.take_succ_eq_append_getElem hk, List.filter_append]
  have e1 : (zs.take k).filter (fun x => !p x) = zs.take k := by
    rw [List.filter_eq_self]
    intro x hx
    obtain ⟨j, hj, rfl⟩ := List.getElem_of_mem hx
    have hj' : j < k := by simp at hj; omega
    have := h j hj'
    rw [getElem!_pos zs j (by omega)] at this
    simp [this]
  have e2 : p zs[k] = true := by rw [← getElem!_pos zs k hk]; exact hp
  simp [e1, e2]
theorem DQ.skip {p : Trc → Bool} {zs : List Trc} {i j : Nat} {d : Array Trc} (h : DQ p zs i j d) (hj : j < zs.length) (hp : p zs[j]! = true) : DQ p zs i (j + 1) d := by
  refine ⟨h.size, by have := h.lt; omega, by omega, ?_, fun q h1 h2 => h.post q (by omega) h2⟩
  rw [h.pre, List.take_succ_eq_append_getElem hj, List.filter_append]
  rw [getElem!_pos zs j hj] at hp
  simp [hp]
theorem DQ.put {p : Trc → Bool} {zs : List Trc} {i j : Nat} {d : Array Trc} (h : DQ p zs i j d) (hj : j < zs.length) (hp : p zs[j]! = false) : DQ p zs (i + 1) (j + 1) (d.setIfInBounds i zs[j]!) := by
  have hl := h.lt
  have hs := h.size
  refine ⟨by simpa using hs, by omega, by omega, ?_, fun q h1 h2 => ?_⟩
  · rw [List.take_succ_eq_append_getElem hj, List.filter_append, ← h.pre]
    have hi : i < (d.setIfInBounds i zs[j]!).toList.length := by simp; omega
    rw [List.take_succ_eq_append_getElem hi]
    congr 1
    · simp [List.take_set_of_le]
    · rw [getElem!_pos zs j hj] at hp
      simp [hp, hj]
  · rw [← h.post q (by omega) h2, getElem!_pos _ q (by simp; omega), getElem!_pos d q (by omega), Array.getElem_setIfInBounds, if_neg (by omega)]
theorem DQ.done {p : Trc → Bool} {zs : List Trc} {i : Nat} {d : Array Trc} (h : DQ p zs i zs.length d) : d.extract 0 i = (zs.filter fun x => !p x).toArray := by
  have := h.pre
  rw [List.take_length] at this
  rw [← this]
  apply Array.ext'
  simp

theorem run_clear_own {P : Program} {t e : TypeId} {z : Value} (ht : P.underlying t = some (.slice e)) (hv : ∀ w, (zeroValue e).run P w = .ok z w) (b o n c : Nat) (hn : 0 < n) (w : World)
    (hc : ∀ j, j < n * z.cells.size → (w.cell? ⟨b, o + j, none⟩).isSome = true) (hf : ∀ j, j < n * z.cells.size → w.frozen? ⟨b, o + j, none⟩ = false) (h1 : ∀ v ∈ (Builtin.zeroCells z.cells n).toList, v.oneCell' = true) (ty : TypeId) :
    (Builtin.clear_ #[t] ty #[.slice (some ⟨b, o, none⟩) n c]).run P w = .ok (.tuple #[]) (w.setCells b o (Builtin.zeroCells z.cells n).toList) := by
  have hl : (Builtin.zeroCells z.cells n).toList.length = n * z.cells.size := by simp [Builtin.zeroCells]
  have hst := run_storeCells_cells (P := P) b o (Builtin.zeroCells z.cells n).toList 0 w (by rw [hl]; simpa using hc) (by rw [hl]; simpa using hf) h1
  simp only [Nat.add_zero] at hst
  obtain ⟨m, rfl⟩ : ∃ m, n = m + 1 := ⟨n - 1, by omega⟩
  simp [Builtin.clear_, run_underlying ht, hv, hst]
theorem zero_trc_one (n : Nat) : ∀ v ∈ (Builtin.zeroCells (Value.cells (.agg #[.int .i64 0, .int .i64 0, .int .i64 0, .int .u8 0, .int .u8 0])) n).toList, v.oneCell' = true := by
  intro v hv
  have e : Value.cells (.agg #[.int .i64 0, .int .i64 0, .int .i64 0, .int .u8 0, .int .u8 0]) = #[.int .i64 0, .int .i64 0, .int .i64 0, .int .u8 0, .int .u8 0] := rfl
  rw [e] at hv
  unfold Builtin.zeroCells at hv
  simp only [Array.toList_map, List.mem_map] at hv
  obtain ⟨j, _, rfl⟩ := hv
  have : j % 5 < 5 := Nat.mod_lt _ (by omega)
  show (#[Value.int .i64 0, .int .i64 0, .int .i64 0, .int .u8 0, .int .u8 0][j % 5]!).oneCell' = true
  generalize j % 5 = q at this
  match q, this with
  | 0, _ => rfl
  | 1, _ => rfl
  | 2, _ => rfl
  | 3, _ => rfl
  | 4, _ => rfl

set_option maxRecDepth 100000 in
set_option maxHeartbeats 4000000 in
theorem deleteFunc_trc (g : Nat) (lb : Array Value) (eg : ∀ args w, (callFunc g args).run Tryd.prog w = .ok (.enter g args) w) (p : Trc → Bool) (zs : List Trc) (b cap : Nat) (w0 w : World) (hp : PredG Tryd.prog g lb Trc.val p zs w0)
    (hw : Gr w0 w) (hb : w0.heap.size ≤ b) (hbl : b < w.heap.size) (hH : HoldsK Trc.cells 5 w b 0 zs.toArray) (hcap : zs.length ≤ cap) (hbig : cap ≤ 9223372036854775807) :
    Calls Tryd.prog 43 #[.slice (some ⟨b, 0, none⟩) zs.length cap, .func (.func g) #[] lb] w fun e w' => e = .returned (.slice (some ⟨b, 0, none⟩) (zs.filter fun x => !p x).length cap) ∧
      (Gr w0 w' ∧ HoldsK Trc.cells 5 w' b 0 (zs.filter fun x => !p x).toArray ∧ b < w'.heap.size) := by
  have HI := hid (indexFunc_trc g lb eg p (some ⟨b, 0, none⟩) zs.length cap zs w (hp.gr hw) (by simpa using rdT_holds hH hbl) (by omega))
  have HH := hid hH
  have HP := hid hp
  have HW := hid hw
  clear hH hp hw
  rcases fidx_spec p zs with ⟨e1, e2⟩ | ⟨k, hk, e1, e2, e3⟩
  · rw [e1] at HI
    have HN : Hid ((zs.filter fun x => !p x) = zs) := by
      show (zs.filter fun x => !p x) = zs
      rw [List.filter_eq_self]
      intro x hx
      simp [e2 x hx]
    clear e1 e2
    go_enter Tryd.func43, Tryd.ntmps43
    go_wp2_with (go_at_call 51; refine HI.out.mono ?_; rintro e w1 ⟨rfl, hb1⟩; have HB := hid hb1; clear hb1)
    go_ret
    rw [HN.out]
    exact ⟨rfl, HW.out.trans HB.out, holdsT_gr HH.out HB.out hbl, Nat.lt_of_lt_of_le hbl HB.out.size⟩
  · rw [e1] at HI
    have HD := hid (DQ.start hk e2 e3)
    have hk1 : ((k : Int) == -1) = false := by simp
    clear e1 e2 e3
    obtain ⟨n, hn⟩ : ∃ n, zs.length = n := ⟨_, rfl⟩
    have HLn := hid hn
    rw [hn] at HI hk hcap
    rw [hn]
    clear hn
    have hbig' : (n : Int) ≤ 9223372036854775807 := by omega
    go_enter Tryd.func43, Tryd.ntmps43
    go_wp2_with (go_at_call 51; refine HI.out.mono ?_; rintro e w1 ⟨rfl, hb1⟩; have HB := hid hb1; clear hb1)
    go_loopg [5, 6, 7] n (fun gg s5 s6 _ wr => ∃ (i j : Nat) (d : Array Trc), s5 = .int .i64 i ∧ s6 = .int .i64 j ∧ j ≤ n ∧ i < j ∧ n - j ≤ gg ∧ Gr w0 wr ∧ b < wr.heap.size ∧ Hid (DQ p zs i j d ∧ HoldsK Trc.cells 5 wr b 0 d))
    case atStart => exact ⟨k, k + 1, zs.toArray, rfl, rfl, by omega, by omega, by omega, HW.out.trans HB.out, Nat.lt_of_lt_of_le hbl HB.out.size, HD.out, holdsT_gr HH.out HB.out hbl⟩
    case round =>
      obtain ⟨i, j, d, rfl, rfl, hjn, hij, hg, BW, hbw, HQ⟩ := hrel
      clear HI HB HH HD hk1
      by_cases hlt : j < n
      · have hjz : j < zs.length := by have := HLn.out; omega
        obtain ⟨x, hx⟩ : ∃ x, zs[j]! = x := ⟨_, rfl⟩
        have hdx : d[j]! = x := (HQ.out.1.post j (Nat.le_refl _) hjz).trans hx
        have hds : d.size = n := HQ.out.1.size.trans HLn.out
        obtain ⟨⟨c0, c1, c2, c3, c4⟩, _⟩ := holdsT_cells HQ.out.2 (i := j) (by omega)
        rw [hdx] at c0 c1 c2 c3 c4
        have HM : Hid (x ∈ zs) := by show x ∈ zs; rw [← hx]; exact mem_get hjz
        have HC := hid (HP.out (wr.alloc (.cells x.cells.toArray 72)) x HM.out (BW.alloc _))
        have HRow := hid (heap_alloc_new wr (.cells x.cells.toArray 72))
        have HX := hid hx
        have HZ := hid (And.intro hjz hds)
        clear hjz hdx hds hx
        have hin : i < n := by omega
        cases hq : p x with
        | true =>
          rw [hq] at HC
          have HT := hid hq
          clear hq
          obtain ⟨x0, x1, x2, x3, x4⟩ := x
          unfold Trc.cells Trc.val at HC
          unfold Trc.cells at HRow
          dsimp only at HC HRow c0 c1 c2 c3 c4
          go_wp2_with (go_at_fn g; refine HC.out.mono ?_; rintro e w2 ⟨rfl, hb2⟩; have HB2 := hid hb2; clear hb2)
          go_roundg (n - (j + 1))
          case measure => omega
          case rel =>
            have gg := (Gr.refl wr).alloc _ |>.trans HB2.out
            exact ⟨i, j + 1, d, rfl, by go_num, by omega, by omega, by omega, BW.trans gg, Nat.lt_of_lt_of_le hbw gg.size, HQ.out.1.skip HZ.out.1 (by rw [HX.out]; exact HT.out), holdsT_gr HQ.out.2 gg hbw⟩
        | false =>
          rw [hq] at HC
          have HT := hid hq
          clear hq
          have hi' : (i : Int) < (n : Int) := by omega
          obtain ⟨x0, x1, x2, x3, x4⟩ := x
          unfold Trc.cells Trc.val at HC
          unfold Trc.cells at HRow
          dsimp only at HC HRow c0 c1 c2 c3 c4
          go_wp2_with (go_at_fn g; refine HC.out.mono ?_; rintro e w2 ⟨rfl, hb2⟩; have hr2 := row_gr HRow.out hb2; have m0 := row_cell_at (v := .int .i64 x0) hr2 0 rfl; have m1 := row_cell_at (v := .int .i64 x1) hr2 1 rfl; have m2 := row_cell_at (v := .int .i64 x2) hr2 2 rfl; have m3 := row_cell_at (v := .int .u8 x3) hr2 3 rfl; have m4 := row_cell_at (v := .int .u8 x4) hr2 4 rfl; have gg := ((Gr.refl wr).alloc _).trans hb2; obtain ⟨⟨a0, a1, a2, a3, a4⟩, f0, f1, f2, f3, f4⟩ := holdsT_cells (holdsT_gr HQ.out.2 gg hbw) (i := i) (by have := HZ.out.2; omega); have HB2 := hid gg; clear hb2 hr2 gg)
          go_roundg (n - (j + 1))
          case measure => omega
          case rel =>
            refine ⟨i + 1, j + 1, d.setIfInBounds i ⟨x0, x1, x2, x3, x4⟩, by go_num, by go_num, by omega, by omega, by omega, ?_, ?_, ?_, ?_⟩
            · exact gr_setCells (BW.trans HB2.out) hb (i * 5) (⟨x0, x1, x2, x3, x4⟩ : Trc).cells
            · simpa using Nat.lt_of_lt_of_le hbw HB2.out.size
            · have h := HQ.out.1.put HZ.out.1 (by rw [HX.out]; exact HT.out)
              rwa [HX.out] at h
            · exact holdsT_set (holdsT_gr HQ.out.2 HB2.out hbw) (by have := HZ.out.2; omega) ⟨x0, x1, x2, x3, x4⟩
      · obtain rfl : j = n := by omega
        have HE := hid (HQ.out.1)
        have hds : d.size = j := HQ.out.1.size.trans HLn.out
        have hpl : Hid ((zs.filter fun x => !p x).length = i) := by
          show (zs.filter fun x => !p x).length = i
          have h1 := HQ.out.1.pre
          rw [show zs.take j = zs by rw [← HLn.out, List.take_length]] at h1
          rw [← h1]
          simp; omega
        have hcl := fun ty => run_clear_own (P := Tryd.prog) (t := 36) (e := 72) Tryd.underlying36 Tryd.zeroValue72 b (i * 5) (j - i) (cap - i) (by omega) wr
          (fun q hq => by
            have h5 : i * 5 + q < d.size * 5 := by rw [hds]; have : (j - i) * 5 = j * 5 - i * 5 := Nat.sub_mul _ _ _; have hq' : q < (j - i) * 5 := hq; omega
            have := (HQ.out.2 (i * 5 + q) (by rw [size_flatK]; exact h5)).1
            rw [Nat.zero_add] at this
            rw [this]; rfl)
          (fun q hq => by
            have h5 : i * 5 + q < d.size * 5 := by rw [hds]; have : (j - i) * 5 = j * 5 - i * 5 := Nat.sub_mul _ _ _; have hq' : q < (j - i) * 5 := hq; omega
            have := (HQ.out.2 (i * 5 + q) (by rw [size_flatK]; exact h5)).2
            rwa [Nat.zero_add] at this)
          (zero_trc_one _) ty
        obtain ⟨vs, hvs⟩ : ∃ vs, (Builtin.zeroCells (Value.cells (.agg #[.int .i64 0, .int .i64 0, .int .i64 0, .int .u8 0, .int .u8 0])) (j - i)).toList = vs := ⟨_, rfl⟩
        rw [hvs] at hcl
        have hi1 : (i : Int) < (j : Int) := by omega
        have hci : ¬ cap = i := by omega
        have HWf := hid (show Gr w0 (wr.setCells b (i * 5) vs) from gr_setCells BW hb _ _)
        have HHf := hid (holdsT_pre HQ.out.2 (i := i) (by omega) vs)
        have HS := hid (show b < (wr.setCells b (i * 5) vs).heap.size by simpa using hbw)
        clear hvs
        go_wp2
        go_ret
        refine ⟨by rw [hpl.out]; rfl, HWf.out, ?_, HS.out⟩
        have h := HE.out
        rw [← HLn.out] at h
        rw [← h.done]
        exact HHf.out
end Go.Proofs.YtliehlefpodhaaaDoor
namespace Go.Proofs.YtliehlefpodhaaaDoor
open Go.RowKit Go.Shelf Go.Sort

/-- A slice of traces in a row of the call's own. -/
structure TrOwn (w0 W : World) (A : Option Addr) (n cap : Nat) (l : List Trc) : Prop where
  len : n = l.length
  le : n ≤ cap
  big : cap ≤ 9223372036854775807
  row : (A = none ∧ n = 0 ∧ cap = 0) ∨ ∃ b, A = some ⟨b, 0, none⟩ ∧ w0.heap.size ≤ b ∧ b < W.heap.size ∧ HoldsK Trc.cells 5 W b 0 l.toArray
theorem TrOwn.gr {w0 W W' : World} {A : Option Addr} {n cap : Nat} {l : List Trc} (h : TrOwn w0 W A n cap l) (g : Gr W W') : TrOwn w0 W' A n cap l :=
  ⟨h.len, h.le, h.big, h.row.imp id fun ⟨b, e, h1, h2, h3⟩ => ⟨b, e, h1, Nat.lt_of_lt_of_le h2 g.size, holdsT_gr h3 g h2⟩⟩
theorem TrOwn.rd {w0 W : World} {A : Option Addr} {n cap : Nat} {l : List Trc} (h : TrOwn w0 W A n cap l) : Rd W 5 A n (l.flatMap Trc.cells) := by
  rcases h.row with ⟨rfl, h0, _⟩ | ⟨b, rfl, _, h2, h3⟩
  · have : l = [] := List.length_eq_zero_iff.1 (h.len.symm.trans h0)
    subst this
    exact ⟨by simp [h0], fun hn => absurd h0 (by omega)⟩
  · have := rdT_holds h3 h2
    rw [h.len]
    simpa using this
theorem trOwn_of {w0 W : World} {v : Value} {l : List Trc} (h : W.ownsRow w0.heap.size 72 5 v l.length (l.flatMap Trc.cells)) : ∃ A cap, v = .slice A l.length cap ∧ TrOwn w0 W A l.length cap l := by
  rcases h.2 with ⟨rfl, h0⟩ | ⟨g, cap, cur, rfl, hbg, hgg, h1, h2, h3, h4⟩
  · exact ⟨none, 0, by rw [h0], rfl, by omega, by omega, .inl ⟨rfl, h0, rfl⟩⟩
  · exact ⟨_, cap, rfl, rfl, h1, h2, .inr ⟨g, rfl, hbg, (Array.getElem?_eq_some_iff.1 hgg).1, holdsT_own hgg h4⟩⟩

set_option maxRecDepth 100000 in
set_option maxHeartbeats 2000000 in
theorem delete_own (g : Nat) (lb : Array Value) (eg : ∀ args w, (callFunc g args).run Tryd.prog w = .ok (.enter g args) w) (p : Trc → Bool) (l : List Trc) (A : Option Addr) (n cap : Nat) (w0 w : World) (hp : PredG Tryd.prog g lb Trc.val p l w0)
    (hw : Gr w0 w) (hO : TrOwn w0 w A n cap l) :
    Calls Tryd.prog 43 #[.slice A n cap, .func (.func g) #[] lb] w fun e w' => e = .returned (.slice A (l.filter fun x => !p x).length cap) ∧
      (Gr w0 w' ∧ TrOwn w0 w' A (l.filter fun x => !p x).length cap (l.filter fun x => !p x)) := by
  obtain ⟨rfl, hle, hbig, hrow⟩ := hO
  rcases hrow with ⟨rfl, h0, rfl⟩ | ⟨b, rfl, h1, h2, h3⟩
  · have hl : l = [] := List.length_eq_zero_iff.1 h0
    subst hl
    have HI := hid (indexFunc_trc g lb eg p none 0 0 [] w (fun W x hx => by simp at hx) ⟨rfl, fun h => absurd h (by simp)⟩ (by omega))
    have HW := hid hw
    clear hp hw
    have e1 : fidx p [] = -1 := rfl
    rw [e1] at HI
    simp only [List.length_nil, List.filter_nil]
    go_enter Tryd.func43, Tryd.ntmps43
    go_wp2_with (go_at_call 51; refine HI.out.mono ?_; rintro e w1 ⟨rfl, hb1⟩; have HB := hid hb1; clear hb1)
    go_ret
    exact ⟨rfl, HW.out.trans HB.out, rfl, by omega, by omega, .inl ⟨rfl, rfl, rfl⟩⟩
  · refine (deleteFunc_trc g lb eg p l b cap w0 w hp hw h1 h2 h3 hle hbig).mono ?_
    rintro e w' ⟨rfl, k1, k2, k3⟩
    exact ⟨rfl, k1, rfl, Nat.le_trans (List.length_filter_le _ _) hle, hbig, .inr ⟨b, rfl, h1, k3, k2⟩⟩

theorem cmpLays_trc (b size : Nat) (w : World) : CmpLays Tryd.prog 46 #[] Trc.cells 5 (fun x y => cmpI x.day y.day) b 0 size w :=
  fun _ _ _ _ x y => trCmp_any x y _
theorem swo_day : SWO (ltOf (fun x y : Trc => cmpI x.day y.day)) := {
  irrefl := fun x => by simp only [ltOf, decide_eq_false_iff_not, cmpI_neg]; omega
  trans := fun x y z h1 h2 => by
    simp only [ltOf, decide_eq_true_eq, cmpI_neg] at *
    omega
  ntrans := fun x y z h1 h2 => by
    simp only [ltOf, decide_eq_false_iff_not, cmpI_neg] at *
    omega }
theorem sep_day {x y : Trc} (h : x.inq < y.inq) : SepA AhT (ltOf (fun x y : Trc => cmpI x.day y.day)) x y := by
  unfold SepA ltOf AhT
  simp only [decide_eq_true_eq, decide_eq_false_iff_not, cmpI_neg]
  omega

set_option maxRecDepth 100000 in
set_option maxHeartbeats 2000000 in
theorem insertionT_none (fn : Value) (w : World) : Calls Tryd.prog 82 #[.slice none 0 0, .int .i64 0, .int .i64 0, fn] w fun e w' => e = .returned (.tuple #[]) ∧ w = w' := by
  go_enter Tryd.func82, Tryd.ntmps82
  go_wp2
  refine wp_loop_rounds 1 ?_
  rw [rounds_succ]
  go_wp2
  go_end0
  exact ⟨rfl, rfl⟩
set_option maxRecDepth 100000 in
set_option maxHeartbeats 2000000 in
theorem stableT_none (fn : Value) (w : World) : Calls Tryd.prog 70 #[.slice none 0 0, .int .i64 0, fn] w fun e w' => e = .returned (.tuple #[]) ∧ w = w' := by
  go_enter Tryd.func70, Tryd.ntmps70
  go_wp2
  refine wp_loop_rounds 1 ?_
  rw [rounds_succ]
  go_wp2_with ((go_at_call 82; (with_reducible refine (insertionT_none _ _).mono ?_); rotate_right; rintro e w' ⟨rfl, rfl⟩))
  refine wp_loop_rounds 1 ?_
  rw [rounds_succ]
  go_wp2
  go_end0
  exact ⟨rfl, rfl⟩

set_option maxRecDepth 100000 in
set_option maxHeartbeats 2000000 in
theorem sortStable_trc (l : List Trc) (A : Option Addr) (n cap : Nat) (w0 w : World) (hw : Gr w0 w) (hO : TrOwn w0 w A n cap l) (hn : n ≤ 40) (hd : l.Pairwise (fun x y => x.inq < y.inq)) :
    Calls Tryd.prog 45 #[.slice A n cap, .func (.func 46) #[] #[]] w fun e w' => e = .returned (.tuple #[]) ∧ (Gr w0 w' ∧ TrOwn w0 w' A n cap (sortT l)) := by
  have hsl : (sortT l).length = l.length := (sortT_perm l).length_eq
  obtain ⟨rfl, hle, hbig, hrow⟩ := hO
  rcases hrow with ⟨rfl, h0, rfl⟩ | ⟨b, rfl, h1, h2, h3⟩
  · have hl : l = [] := List.length_eq_zero_iff.1 h0
    subst hl
    have HW := hid hw
    clear hw hd hn h0 hsl
    simp only [List.length_nil]
    go_enter Tryd.func45, Tryd.ntmps45
    go_wp2_with ((go_at_call 70; (with_reducible refine (stableT_none _ _).mono ?_); rotate_right; rintro e w' ⟨rfl, rfl⟩))
    go_end0
    exact ⟨rfl, HW.out, rfl, by omega, by omega, .inl ⟨rfl, rfl, rfl⟩⟩
  · have R : RowK Trc.cells 5 w b 0 l.toArray := ⟨Trc.len, Trc.one, h3, h2⟩
    have eg : ∀ args w, (callFunc 46 args).run Tryd.prog w = .ok (.enter 46 args) w := enters_of Tryd.func46 (by kernel_rfl) rfl
    have HC := hid (stable_k Trc.cells (fun x y => cmpI x.day y.day) swo_day 46 #[] b 0 cap l.toArray w AhT (fun x y z h1 h2 => h1.trans h2) eg
      (cmpLays_trc b l.toArray.size w) R (by simpa using hn) (fun p q h4 h5 => sep_day (by
        have hq : q < l.length := by simpa using h5
        rw [getElem!_pos l.toArray p (by simp; omega), getElem!_pos l.toArray q (by simpa using hq)]
        simpa using List.pairwise_iff_getElem.1 hd p q (by omega) hq h4)))
    simp only [List.size_toArray] at HC
    have HR := hid R
    have HW := hid hw
    have HD := hid hd
    clear hw hd R eg h3
    go_enter Tryd.func45, Tryd.ntmps45
    go_wp2_with (go_at_call 70; refine HC.out.mono ?_; rintro e w1 ⟨rfl, d', T1, T2, S⟩; have T := hid (And.intro T1 (And.intro T2 S)); clear T1 T2 S)
    go_end0
    obtain ⟨T1, T2, S⟩ := T.out
    have hs : d'.size = l.length := by simpa using T1.1
    have hp : d'.toList.Perm l := by
      have p := T1.2.2
      have e1 : d'.extract 0 l.toArray.size = d' := by simp [← hs]
      have e2 : l.toArray.extract 0 l.toArray.size = l.toArray := by simp
      simp only [List.size_toArray] at e1 e2
      rw [e1, e2] at p
      simpa using p
    have ho : d'.toList.Pairwise AhT := by
      refine List.pairwise_iff_getElem.2 (fun i j hi hj hij => ?_)
      have q := T2 i j (Nat.zero_le _) hij (by simp at hj; omega)
      simp at hi hj
      rw [getElem!_pos d' i hi, getElem!_pos d' j hj] at q
      simpa using q
    have he := sortT_eq HD.out hp ho
    refine ⟨rfl, gr_sortT HW.out S h1, hsl.symm, hle, hbig, .inr ⟨b, rfl, h1, S.lt HR.out.hblk, ?_⟩⟩
    rw [← he]
    simpa using S.holds HR.out.hblk HR.out.hH (by simpa using hs)
end Go.Proofs.YtliehlefpodhaaaDoor
