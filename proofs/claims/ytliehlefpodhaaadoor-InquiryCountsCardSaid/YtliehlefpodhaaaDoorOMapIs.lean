/- A map that is known key by key, whatever its values are: made, looked up, written. For any program. The numbers of the library's functions behind slices.SortFunc at signals, as the shelf's contract asks them. No condition. Rows of things of k cells each that the call itself owns. For every row. The comparison of signals when lists are merged, and where a signal is. For all signals. slices.SortFunc at signals, by bureau and Id: what has no two of one place is put in order. For every list. The map of places that merging keeps, and what stays beside a row that grows. For all signals. -/
import Derived.DeepKeys4
import Derived.Ground.SlsfProg
import Derived.Laws.AppendOwn
import Derived.Laws.Rows
import Derived.Maps.Keyed
import Derived.Maps.Own
import Derived.Shelf.SlGeneric
import Derived.Shelf.SlSortCmp.KitK
import Derived.Shelf.SlSortCmp.WholeK
import Derived.Test.YtliehlefpodhaaaDoorProg
import Derived.WalkKit
import Derived.WalkSpells
import Derived.Test.YtliehlefpodhaaaDoorOBase
import Derived.Test.YtliehlefpodhaaaDoorORegGr
import Derived.Test.YtliehlefpodhaaaDoorOOrder
import Derived.Test.YtliehlefpodhaaaDoorOAmong9
import Derived.Test.YtliehlefpodhaaaDoorOGate
namespace Go.Proofs.YtliehlefpodhaaaDoor
open Go.RowKit Go.Maps
open Go.MapKept (Stamped)
open Go.ChangeMaps (setBlock)

/-- Block b is a map whose value at each key is that of f. -/
def MapIs {κ : Type} (P : Program) (k : TypeId) (enc : κ → Value) (w : World) (b : Nat) (f : κ → Option Value) : Prop :=
  ∃ es clock, w.heap[b]? = some (.map es clock) ∧ Stamped es clock ∧ (∀ x ∈ es.toList, ∃ q l, x.key = enc q ∧ keyOf P k (enc q) = some l ∧ f q = some x.val) ∧ (∀ q v, f q = some v → ∃ x ∈ es.toList, x.key = enc q)
section
variable {κ : Type} {P : Program} {k : TypeId} {enc : κ → Value} {w w' : World} {b : Nat} {f : κ → Option Value}
theorem MapIs.lt (h : MapIs P k enc w b f) : b < w.heap.size := by
  obtain ⟨es, clock, h, _⟩ := h
  exact (Array.getElem?_eq_some_iff.1 h).1
theorem MapIs.keep (h : MapIs P k enc w b f) (e : w'.heap[b]? = w.heap[b]?) : MapIs P k enc w' b f := by
  obtain ⟨es, clock, h, k⟩ := h
  exact ⟨es, clock, e.trans h, k⟩
theorem MapIs.gr (h : MapIs P k enc w b f) (g : Gr w w') : MapIs P k enc w' b f := h.keep (g.heap h.lt)
theorem MapIs.alloc (h : MapIs P k enc w b f) (o : Obj) : MapIs P k enc (w.alloc o) b f := h.gr ((Gr.refl w).alloc o)
theorem MapIs.drew (h : MapIs P k enc w b f) : MapIs P k enc w.drew b f := h
theorem MapIs.drewN (h : MapIs P k enc w b f) (n : Nat) : MapIs P k enc (w.drewN n) b f := h
theorem MapIs.far (h : MapIs P k enc w b f) {p : Addr} (hp : b ≠ p.block) (u : Value) : MapIs P k enc (w.setCell p u) b f := h.keep (Below.heap_setCell w p u b hp)
theorem MapIs.congr (h : MapIs P k enc w b f) {g : κ → Option Value} (e : ∀ q, f q = g q) : MapIs P k enc w b g := by
  have : f = g := funext e
  subst this
  exact h
theorem MapIs.new (w : World) : MapIs P k enc (w.alloc (.map #[] 0)) w.heap.size (fun _ => none) :=
  ⟨#[], 0, heap_alloc_new w _, by rw [Go.MapKept.stamped_iff]; simp, by simp, by simp⟩
theorem MapIs.found (h : MapIs P k enc w b f) (K : Keyed P k) (hinj : ∀ p q, enc p = enc q → p = q) {q : κ} {l : Lit} (hk : keyOf P k (enc q) = some l) :
    ∃ es clock, w.heap[b]? = some (.map es clock) ∧ Stamped es clock ∧ (∀ x ∈ es.toList, ∃ q l, x.key = enc q ∧ keyOf P k (enc q) = some l ∧ f q = some x.val) ∧ (∀ q v, f q = some v → ∃ x ∈ es.toList, x.key = enc q) ∧
      (((Instr.findKey k (enc q) es.toList).run P w = .ok none w ∧ f q = none ∧ ∀ e ∈ es.toList, e.key ≠ enc q) ∨
       ∃ j e, (Instr.findKey k (enc q) es.toList).run P w = .ok (some (j, e.val)) w ∧ es.toList[j]? = some e ∧ e.key = enc q ∧ f q = some e.val) := by
  obtain ⟨es, clock, hb, hs, h1, h2⟩ := h
  refine ⟨es, clock, hb, hs, h1, h2, ?_⟩
  rcases K.find w hk es.toList (fun x hx => by obtain ⟨q, l, e, h, _⟩ := h1 x hx; exact ⟨l, by rw [e]; exact h⟩) with ⟨r1, r2⟩ | ⟨j, e, r1, r2, r3⟩
  · refine .inl ⟨r1, ?_, r2⟩
    cases hf : f q with
    | none => rfl
    | some v =>
      obtain ⟨x, hx, e⟩ := h2 q v hf
      exact absurd e (r2 x hx)
  · refine .inr ⟨j, e, r1, r2, r3, ?_⟩
    obtain ⟨q', l', e', _, h'⟩ := h1 e (List.mem_of_getElem? r2)
    rw [hinj q q' (r3.symm.trans e')]
    exact h'
theorem MapIs.look {t E : TypeId} (h : MapIs P k enc w b f) (K : Keyed P k) (hinj : ∀ p q, enc p = enc q → p = q) (ht : P.underlying t = some (.map k E)) {q : κ} {l : Lit} (hk : keyOf P k (enc q) = some l) {z : Value}
    (hz : (zeroValue E).run P w = .ok z w) : (Instr.lookup t (.map (some b)) (enc q) false).run P w = .ok ((f q).getD z) w := by
  obtain ⟨es, clock, hb, _, _, _, h⟩ := h.found K hinj hk
  rcases h with ⟨r1, r2, _⟩ | ⟨j, e, r1, r2, r3, r4⟩
  · simp [Instr.lookup, run_underlying ht, MapKept.run_getObj_map hb, K.check w _ hk, r1, r2, hz, Result.andThen]
  · simp [Instr.lookup, run_underlying ht, MapKept.run_getObj_map hb, K.check w _ hk, r1, r4, Result.andThen]
theorem MapIs.lookOk {t E : TypeId} (h : MapIs P k enc w b f) (K : Keyed P k) (hinj : ∀ p q, enc p = enc q → p = q) (ht : P.underlying t = some (.map k E)) {q : κ} {l : Lit} (hk : keyOf P k (enc q) = some l) {z : Value}
    (hz : (zeroValue E).run P w = .ok z w) : (Instr.lookup t (.map (some b)) (enc q) true).run P w = .ok (.tuple #[(f q).getD z, .bool (f q).isSome]) w := by
  obtain ⟨es, clock, hb, _, _, _, h⟩ := h.found K hinj hk
  rcases h with ⟨r1, r2, _⟩ | ⟨j, e, r1, r2, r3, r4⟩
  · simp [Instr.lookup, run_underlying ht, MapKept.run_getObj_map hb, K.check w _ hk, r1, r2, hz, Result.andThen]
  · simp [Instr.lookup, run_underlying ht, MapKept.run_getObj_map hb, K.check w _ hk, r1, r4, Result.andThen]
theorem setBlock_block (w : World) (b : Nat) (o : Obj) {i : Nat} (hi : i ≠ b) : (setBlock w b o).heap[i]? = w.heap[i]? := by
  simp [setBlock, Ne.symm hi]
theorem setBlock_size (w : World) (b : Nat) (o : Obj) : (setBlock w b o).heap.size = w.heap.size := by simp [setBlock]
theorem setBlock_grown (w : World) (b : Nat) (o : Obj) : w.grownBy (setBlock w b o) (some b) :=
  ⟨rfl, rfl, rfl, by rw [setBlock_size]; exact Nat.le_refl _, fun i _ hne => setBlock_block w b o (fun e => hne (by rw [e]))⟩
theorem setBlock_same (w : World) (b : Nat) (o : Obj) (hb : b < w.heap.size) : (setBlock w b o).heap[b]? = some o := by
  simp [setBlock, hb]
theorem MapIs.put [DecidableEq κ] {t E : TypeId} (h : MapIs P k enc w b f) (K : Keyed P k) (hinj : ∀ p q, enc p = enc q → p = q) (ht : P.underlying t = some (.map k E)) {q : κ} {l : Lit} (hk : keyOf P k (enc q) = some l) (v : Value) :
    ∃ w', (Instr.mapUpdate t (.map (some b)) (enc q) v).run P w = .ok () w' ∧ MapIs P k enc w' b (fun p => if p = q then some v else f p) ∧ w.grownBy w' (some b) ∧ w'.heap.size = w.heap.size := by
  have hlt := h.lt
  obtain ⟨es, clock, hb, hs, h1, h2, h⟩ := h.found K hinj hk
  rcases h with ⟨r1, r2, r3⟩ | ⟨j, e, r1, r2, r3, r4⟩
  · refine ⟨setBlock w b (.map (es.push ⟨enc q, v, clock⟩) (clock + 1)), ?_, ⟨_, _, setBlock_same _ _ _ hlt, Go.MapKept.stamped_push hs r3, ?_, ?_⟩, setBlock_grown _ _ _, setBlock_size _ _ _⟩
    · simp [Instr.mapUpdate, run_underlying ht, MapKept.run_getObj_map hb, K.check w false hk, r1, MapKept.run_setObj_map _ hb, Result.andThen, setBlock]
    · intro x hx
      simp only [Array.toList_push, List.mem_append, List.mem_singleton] at hx
      rcases hx with hx | rfl
      · obtain ⟨p, l', e1, e2, e3⟩ := h1 x hx
        refine ⟨p, l', e1, e2, ?_⟩
        have hne : p ≠ q := fun e => r3 x hx (by rw [e1, e])
        simp only [hne, if_false]; exact e3
      · exact ⟨q, l, rfl, hk, by simp⟩
    · intro p u hu
      by_cases hpq : p = q
      · exact ⟨⟨enc q, v, clock⟩, by simp, by rw [hpq]⟩
      · simp only [hpq, if_false] at hu
        obtain ⟨x, hx, e⟩ := h2 p u hu
        exact ⟨x, by simp only [Array.toList_push, List.mem_append]; exact .inl hx, e⟩
  · have hj : es[j]? = some e := by simpa using r2
    have hmod : ∀ i x, (es.modify j (fun e' => { e' with key := enc q, val := v })).toList[i]? = some x → (i = j ∧ x = { e with key := enc q, val := v }) ∨ (i ≠ j ∧ es.toList[i]? = some x) := by
      intro i x hx
      rw [Array.getElem?_toList, Array.getElem?_modify] at hx
      by_cases hij : j = i
      · subst hij
        rw [if_pos rfl, hj] at hx
        exact .inl ⟨rfl, (Option.some.inj hx).symm⟩
      · rw [if_neg hij] at hx
        exact .inr ⟨fun e => hij e.symm, by simpa using hx⟩
    have hne : ∀ i x, i ≠ j → es.toList[i]? = some x → x.key ≠ enc q := by
      intro i x hij hx hxe
      have hp := ((Go.MapKept.stamped_iff es clock).1 hs).2.2
      rw [List.pairwise_iff_getElem] at hp
      obtain ⟨hi, ei⟩ := List.getElem?_eq_some_iff.1 hx
      obtain ⟨hj', ej⟩ := List.getElem?_eq_some_iff.1 r2
      rcases Nat.lt_or_gt_of_ne hij with h | h
      · exact hp i j hi hj' h (by rw [ei, ej, hxe, r3])
      · exact hp j i hj' hi h (by rw [ei, ej, hxe, r3])
    refine ⟨setBlock w b (.map (es.modify j (fun e' => { e' with key := enc q, val := v })) clock), ?_, ⟨_, _, setBlock_same _ _ _ hlt, ?_, ?_, ?_⟩, setBlock_grown _ _ _, setBlock_size _ _ _⟩
    · simp [Instr.mapUpdate, run_underlying ht, MapKept.run_getObj_map hb, K.check w false hk, r1, hj, r3, K.stays w hk, MapKept.run_setObj_map _ hb, Result.andThen, setBlock]
    · exact Go.MapKept.stamped_modify hs _ _ (fun _ _ => rfl) (fun e' _ he' => by rw [hj] at he'; cases he'; exact r3.symm)
    · intro x hx
      obtain ⟨i, hi⟩ := List.mem_iff_getElem?.1 hx
      rcases hmod i x hi with ⟨_, rfl⟩ | ⟨hij, hx'⟩
      · exact ⟨q, l, rfl, hk, by simp⟩
      · obtain ⟨p, l', e1, e2, e3⟩ := h1 x (List.mem_of_getElem? hx')
        refine ⟨p, l', e1, e2, ?_⟩
        have hpq : p ≠ q := fun e => hne i x hij hx' (by rw [e1, e])
        simp only [hpq, if_false]; exact e3
    · intro p u hu
      have hjl : j < es.size := (Array.getElem?_eq_some_iff.1 hj).1
      have hnew : (es.modify j (fun e' => { e' with key := enc q, val := v })).toList[j]? = some { e with key := enc q, val := v } := by
        rw [Array.getElem?_toList, Array.getElem?_modify, if_pos rfl, hj]; rfl
      by_cases hpq : p = q
      · exact ⟨_, List.mem_of_getElem? hnew, by rw [hpq]⟩
      · simp only [hpq, if_false] at hu
        obtain ⟨x, hx, e1⟩ := h2 p u hu
        obtain ⟨i, hi⟩ := List.mem_iff_getElem?.1 hx
        have hij : j ≠ i := by
          rintro rfl
          rw [r2] at hi
          cases hi
          exact hpq (hinj p q (e1.symm.trans r3))
        refine ⟨x, List.mem_of_getElem? (i := i) ?_, e1⟩
        rw [Array.getElem?_toList, Array.getElem?_modify, if_neg hij]
        simpa using hi
end
/-- m[k] = v, met in a walk. -/
theorem wpList_mapUpdate_is {κ : Type} [DecidableEq κ] {P : Program} {k E : TypeId} (enc : κ → Value) (w : World) {ops : Array Oper} {rest : List Oper} {o : Oper} {a : Act} {Q : Exit → Act → World → Prop}
    (hg : o.guard = none) (m x u : Operand) (t : TypeId) (hop : o.op = Op.mapUpdate t m x u) (K : Keyed P k) (hinj : ∀ p q, enc p = enc q → p = q) (ht : P.underlying t = some (.map k E)) (b : Nat) (f : κ → Option Value)
    (hm : a.eval m = .map (some b)) (h : MapIs P k enc w b f) (q : κ) (v : Value) (l : Lit) (hx : a.eval x = enc q) (hv : a.eval u = v) (hk : keyOf P k (enc q) = some l)
    (hK : ∀ w', MapIs P k enc w' b (fun p => if p = q then some v else f p) → w.grownBy w' (some b) → w'.heap.size = w.heap.size → wpList P ops Q rest (a.put o.dst undef) w') : wpList P ops Q (o :: rest) a w :=
  wpList_plain hg fun _ hK' => by
    obtain ⟨w', hrun, r1, r2, r3⟩ := h.put K hinj ht hk v
    unfold Oper.wp
    simp [execOp, hop, hm, hx, hv, hrun, Result.andThen]
    exact hK' _ _ (hK w' r1 r2 r3)
/-- v := m[k], met in a walk. -/
theorem wpList_lookup_is {κ : Type} {P : Program} {k E : TypeId} (enc : κ → Value) (w : World) {ops : Array Oper} {rest : List Oper} {o : Oper} {a : Act} {Q : Exit → Act → World → Prop}
    (hg : o.guard = none) (m x : Operand) (t : TypeId) (hop : o.op = Op.lookup t m x false) (K : Keyed P k) (hinj : ∀ p q, enc p = enc q → p = q) (ht : P.underlying t = some (.map k E)) (b : Nat) (f : κ → Option Value)
    (hm : a.eval m = .map (some b)) (h : MapIs P k enc w b f) (q : κ) (l : Lit) (z : Value) (hx : a.eval x = enc q) (hk : keyOf P k (enc q) = some l) (hz : (zeroValue E).run P w = .ok z w)
    (hK : wpList P ops Q rest (a.put o.dst ((f q).getD z)) w) : wpList P ops Q (o :: rest) a w :=
  wpList_plain hg fun _ hK' => by
    have hrun := h.look K hinj ht hk hz
    unfold Oper.wp
    simp [execOp, hop, hm, hx, hrun, Result.andThen]
    exact hK' _ _ hK
/-- v, ok := m[k], met in a walk. -/
theorem wpList_lookup_is_ok {κ : Type} {P : Program} {k E : TypeId} (enc : κ → Value) (w : World) {ops : Array Oper} {rest : List Oper} {o : Oper} {a : Act} {Q : Exit → Act → World → Prop}
    (hg : o.guard = none) (m x : Operand) (t : TypeId) (hop : o.op = Op.lookup t m x true) (K : Keyed P k) (hinj : ∀ p q, enc p = enc q → p = q) (ht : P.underlying t = some (.map k E)) (b : Nat) (f : κ → Option Value)
    (hm : a.eval m = .map (some b)) (h : MapIs P k enc w b f) (q : κ) (l : Lit) (z : Value) (hx : a.eval x = enc q) (hk : keyOf P k (enc q) = some l) (hz : (zeroValue E).run P w = .ok z w)
    (hK : wpList P ops Q rest (a.put o.dst (.tuple #[(f q).getD z, .bool (f q).isSome])) w) : wpList P ops Q (o :: rest) a w :=
  wpList_plain hg fun _ hK' => by
    have hrun := h.lookOk K hinj ht hk hz
    unfold Oper.wp
    simp [execOp, hop, hm, hx, hrun, Result.andThen]
    exact hK' _ _ hK
theorem int_inj {q : IntKind} (x y : Int) (h : Value.int q x = Value.int q y) : x = y := by injection h
end Go.Proofs.YtliehlefpodhaaaDoor
namespace Go.Proofs.YtliehlefpodhaaaDoor
open Go.Shelf
def sortSig_ren : Go.Shelf.Ren := ⟨fun | 6 => 55 | 15 => 73 | 14 => 72 | 28 => 93 | 29 => 94 | 20 => 85 | 21 => 86 | 22 => 87 | 23 => 88 | 24 => 89 | 25 => 90 | 26 => 91 | 27 => 92 | 46 => 99 | 47 => 100 | 48 => 101 | 49 => 102 | 50 => 103 | 57 => 106 | n => n, fun | 22 => 23 | 24 => 67 | 25 => 109 | 3 => 3 | 39 => 130 | 0 => 0 | 53 => 116 | 55 => 152 | 4 => 4 | 46 => 144 | 45 => 143 | 50 => 148 | 5 => 5 | 9 => 9 | 66 => 155 | 70 => 159 | 76 => 162 | 77 => 43 | n => n, fun | n => n⟩
theorem sortSig : Go.Proofs.SlLaysF0.n6 Tryd.prog sortSig_ren := {
  mixed := by kernel_rfl
  f6 := ⟨Tryd.f55.name, by decide, Tryd.func55.trans (congrArg some (by kernel_rfl))⟩
  f14 := ⟨Tryd.f72.name, by decide, Tryd.func72.trans (congrArg some (by kernel_rfl))⟩
  f15 := Tryd.func73.trans (congrArg some (by kernel_rfl))
  f20 := ⟨Tryd.f85.name, by decide, Tryd.func85.trans (congrArg some (by kernel_rfl))⟩
  f21 := ⟨Tryd.f86.name, by decide, Tryd.func86.trans (congrArg some (by kernel_rfl))⟩
  f22 := ⟨Tryd.f87.name, by decide, Tryd.func87.trans (congrArg some (by kernel_rfl))⟩
  f23 := ⟨Tryd.f88.name, by decide, Tryd.func88.trans (congrArg some (by kernel_rfl))⟩
  f24 := ⟨Tryd.f89.name, by decide, Tryd.func89.trans (congrArg some (by kernel_rfl))⟩
  f25 := ⟨Tryd.f90.name, by decide, Tryd.func90.trans (congrArg some (by kernel_rfl))⟩
  f26 := ⟨Tryd.f91.name, by decide, Tryd.func91.trans (congrArg some (by kernel_rfl))⟩
  f27 := ⟨Tryd.f92.name, by decide, Tryd.func92.trans (congrArg some (by kernel_rfl))⟩
  f28 := Tryd.func93.trans (congrArg some (by kernel_rfl))
  f29 := Tryd.func94.trans (congrArg some (by kernel_rfl))
  f46 := ⟨Tryd.f99.name, by decide, Tryd.func99.trans (congrArg some (by kernel_rfl))⟩
  f47 := Tryd.func100.trans (congrArg some (by kernel_rfl))
  f48 := Tryd.func101.trans (congrArg some (by kernel_rfl))
  f49 := ⟨Tryd.f102.name, by decide, Tryd.func102.trans (congrArg some (by kernel_rfl))⟩
  f50 := ⟨Tryd.f103.name, by decide, Tryd.func103.trans (congrArg some (by kernel_rfl))⟩
  f57 := ⟨Tryd.f106.name, by decide, Tryd.func106.trans (congrArg some (by kernel_rfl))⟩
  t0 := Tryd.underlying0
  a0 := Tryd.isAgg0
  z0 := Tryd.sizeOf0
  v0 := Tryd.zeroValue0
  t3 := Tryd.underlying3
  a3 := Tryd.isAgg3
  z3 := Tryd.sizeOf3
  v3 := Tryd.zeroValue3
  t4 := Tryd.underlying4
  a4 := Tryd.isAgg4
  z4 := Tryd.sizeOf4
  v4 := Tryd.zeroValue4
  t5 := Tryd.underlying5
  a5 := Tryd.isAgg5
  z5 := Tryd.sizeOf5
  v5 := Tryd.zeroValue5
  t9 := Tryd.underlying9
  a9 := Tryd.isAgg9
  z9 := Tryd.sizeOf9
  v9 := Tryd.zeroValue9
  t22 := Tryd.underlying23
  a22 := Tryd.isAgg23
  z22 := Tryd.sizeOf23
  v22 := Tryd.zeroValue23
  t25 := Tryd.underlying109
  a25 := Tryd.isAgg109
  z25 := Tryd.sizeOf109
  v25 := Tryd.zeroValue109
  t39 := Tryd.underlying130
  a39 := Tryd.isAgg130
  z39 := Tryd.sizeOf130
  v39 := Tryd.zeroValue130
  t45 := Tryd.underlying143
  a45 := Tryd.isAgg143
  z45 := Tryd.sizeOf143
  v45 := Tryd.zeroValue143
  t46 := Tryd.underlying144
  a46 := Tryd.isAgg144
  z46 := Tryd.sizeOf144
  v46 := Tryd.zeroValue144
  t50 := Tryd.underlying148
  a50 := Tryd.isAgg148
  z50 := Tryd.sizeOf148
  v50 := Tryd.zeroValue148
  t53 := Tryd.underlying116
  a53 := Tryd.isAgg116
  z53 := Tryd.sizeOf116
  v53 := Tryd.zeroValue116
  t55 := Tryd.underlying152
  a55 := Tryd.isAgg152
  z55 := Tryd.sizeOf152
  v55 := Tryd.zeroValue152
  t66 := Tryd.underlying155
  a66 := Tryd.isAgg155
  z66 := Tryd.sizeOf155
  v66 := Tryd.zeroValue155
  t70 := Tryd.underlying159
  a70 := Tryd.isAgg159
  z70 := Tryd.sizeOf159
  v70 := Tryd.zeroValue159
  t76 := Tryd.underlying162
  a76 := Tryd.isAgg162
  z76 := Tryd.sizeOf162
  v76 := Tryd.zeroValue162
  t77 := Tryd.underlying43
  a77 := Tryd.isAgg43
  z77 := Tryd.sizeOf43
  v77 := Tryd.zeroValue43 }
end Go.Proofs.YtliehlefpodhaaaDoor
namespace Go.Proofs.YtliehlefpodhaaaDoor
open Go.RowKit Go.Shelf Go.Sort Go.Lib
variable {α : Type} [Inhabited α] {enc : α → List Value} {k : Nat}

theorem flatK_at (hl : ∀ x, (enc x).length = k) (es : List α) (j : Nat) (hj : j < es.length * k) : (es.flatMap enc)[j]? = some ((enc es.toArray[j / k]!)[j % k]!) := by
  have hk : 0 < k := by
    rcases Nat.eq_zero_or_pos k with rfl | h
    · simp at hj
    · exact h
  have hkk : j / k < es.length := Nat.div_lt_of_lt_mul (by rw [Nat.mul_comm]; exact hj)
  have e : j = j / k * k + j % k := (Nat.div_add_mod' j k).symm
  have h1 := flatMap_get hl hkk (Nat.mod_lt j hk)
  rw [← e] at h1
  rw [h1]
  have h2 : es[j / k]! = es.toArray[j / k]! := by
    rw [getElem!_pos es _ hkk, getElem!_pos es.toArray _ (by simpa using hkk)]
    simp
  rw [h2]
  have hm : j % k < (enc es.toArray[j / k]!).length := by rw [hl]; exact Nat.mod_lt j hk
  rw [List.getElem?_eq_getElem hm, getElem!_pos (enc es.toArray[j / k]!) (j % k) hm]
theorem holdsK_own (hl : ∀ x, (enc x).length = k) {W : World} {g : Nat} {cur : Array Value} {t : TypeId} {es : List α} (h : W.heap[g]? = some (.cells cur t (0, 0))) (hx : cur.toList.take (es.length * k) = es.flatMap enc) : HoldsK enc k W g 0 es.toArray := by
  intro j hj
  rw [size_flatK] at hj
  have hj' : j < es.length * k := by simpa using hj
  have e1 : (cur.toList.take (es.length * k))[j]? = some ((enc es.toArray[j / k]!)[j % k]!) := by rw [hx]; exact flatK_at hl es j hj'
  rw [List.getElem?_take, if_pos hj', Array.getElem?_toList] at e1
  refine ⟨?_, by simp [World.frozen?, h]⟩
  rw [Nat.zero_add, cell_of_row W g j cur t _ h, e1, get_flatK _ _ _ _ hj]
  rfl
theorem rdK_holds (hl : ∀ x, (enc x).length = k) {W : World} {g : Nat} {d : Array α} (h : HoldsK enc k W g 0 d) (hg : g < W.heap.size) : Rd W k (some ⟨g, 0, none⟩) d.size (d.toList.flatMap enc) := by
  refine ⟨by rw [flatMap_len hl]; simp, fun _ => ⟨g, 0, rfl, hg, fun j u hu => ?_⟩⟩
  have hj : j < d.size * k := by
    have h1 := (List.getElem?_eq_some_iff.1 hu).1
    rw [flatMap_len hl] at h1
    simpa [Nat.mul_comm] using h1
  rw [flatK_at hl d.toList j (by simpa using hj)] at hu
  have := (h j (by rw [size_flatK]; exact hj)).1
  rw [this, get_flatK _ _ _ _ hj]
  simpa using hu
theorem holdsK_gr {W W' : World} {g : Nat} {d : Array α} (h : HoldsK enc k W g 0 d) (kk : Gr W W') (hg : g < W.heap.size) : HoldsK enc k W' g 0 d := fun j hj =>
  ⟨(kk.cell hg).trans (h j hj).1, (kk.frozen hg).trans (h j hj).2⟩
theorem gr_sortK {w W W' : World} {g : Nat} {d' : Array α} (h : Gr w W) (S : SWK enc k W g 0 d' W') (hg : w.heap.size ≤ g) : Gr w W' := by
  obtain ⟨n, os, rfl⟩ := S
  have hb : Below w.heap.size w W := h
  refine ⟨hb.os, hb.tape, hb.output, ?_, fun q hq => ?_⟩
  · exact Nat.le_trans hb.size (size_sortWorldK_c enc k W g 0 n d' os)
  · have hk' : q < W.heap.size := Nat.lt_of_lt_of_le hq hb.size
    rw [← hb.block q hq]
    simp only [sortWorldK, grow, putRowK, putRow, mapBlock, Sort.ahead]
    rw [Array.getElem?_append_left (by simpa using hk'), Array.getElem?_modify, if_neg (by omega)]
/-- A slice of the call's own: it holds a list. -/
structure OwnK (enc : α → List Value) (k : Nat) (w0 W : World) (A : Option Addr) (n cap : Nat) (l : List α) : Prop where
  len : n = l.length
  le : n ≤ cap
  big : cap ≤ 9223372036854775807
  row : (A = none ∧ n = 0 ∧ cap = 0) ∨ ∃ b, A = some ⟨b, 0, none⟩ ∧ w0.heap.size ≤ b ∧ b < W.heap.size ∧ HoldsK enc k W b 0 l.toArray
theorem OwnK.gr {w0 W W' : World} {A : Option Addr} {n cap : Nat} {l : List α} (h : OwnK enc k w0 W A n cap l) (g : Gr W W') : OwnK enc k w0 W' A n cap l :=
  ⟨h.len, h.le, h.big, h.row.imp id fun ⟨b, e, h1, h2, h3⟩ => ⟨b, e, h1, Nat.lt_of_lt_of_le h2 g.size, holdsK_gr h3 g h2⟩⟩
theorem OwnK.mono {w0 w1 W : World} {A : Option Addr} {n cap : Nat} {l : List α} (h : OwnK enc k w1 W A n cap l) (hs : w0.heap.size ≤ w1.heap.size) : OwnK enc k w0 W A n cap l :=
  ⟨h.len, h.le, h.big, h.row.imp id fun ⟨b, e, h1, h2, h3⟩ => ⟨b, e, Nat.le_trans hs h1, h2, h3⟩⟩
theorem OwnK.rd (hl : ∀ x, (enc x).length = k) {w0 W : World} {A : Option Addr} {n cap : Nat} {l : List α} (h : OwnK enc k w0 W A n cap l) : Rd W k A n (l.flatMap enc) := by
  obtain ⟨h1, _, _, h4⟩ := h
  subst h1
  rcases h4 with ⟨rfl, h0, _⟩ | ⟨b, rfl, _, h2, h3⟩
  · have : l = [] := List.length_eq_zero_iff.1 h0
    subst this
    exact Rd.nil_
  · simpa using rdK_holds hl h3 h2
theorem OwnK.none_ {w0 W : World} : OwnK enc k w0 W none 0 0 [] := ⟨rfl, by omega, by omega, .inl ⟨rfl, rfl, rfl⟩⟩
theorem OwnK.addr {w0 W : World} {A : Option Addr} {n cap : Nat} {l : List α} (h : OwnK enc k w0 W A n cap l) : ∀ b o, A = some ⟨b, o, none⟩ → b < W.heap.size := by
  intro b o e
  rcases h.row with ⟨rfl, _⟩ | ⟨g, rfl, _, h2, _⟩
  · cases e
  · cases e; exact h2
theorem ownK_of (hl : ∀ x, (enc x).length = k) {base : Nat} {w0 W : World} {t : TypeId} {v : Value} {l : List α} (h : W.ownsRow base t k v l.length (l.flatMap enc)) (hb : w0.heap.size ≤ base) : ∃ A cap, v = .slice A l.length cap ∧ OwnK enc k w0 W A l.length cap l := by
  rcases h.2 with ⟨rfl, h0⟩ | ⟨g, cap, cur, rfl, hbg, hgg, h1, h2, h3, h4⟩
  · exact ⟨none, 0, by rw [h0], rfl, by omega, by omega, .inl ⟨rfl, h0, rfl⟩⟩
  · exact ⟨_, cap, rfl, rfl, h1, h2, .inr ⟨g, rfl, Nat.le_trans hb hbg, (Array.getElem?_eq_some_iff.1 hgg).1, holdsK_own hl hgg h4⟩⟩
end Go.Proofs.YtliehlefpodhaaaDoor
namespace Go.Proofs.YtliehlefpodhaaaDoor
open Go.RowKit Go.Shelf Go.Sort

set_option maxHeartbeats 2000000 in
theorem mergeCmp_any (x y : Sig) (w : World) :
    Calls Tryd.prog 56 #[x.val, y.val] w fun e w' => e = .returned (.int .i64 (byN [Sig.bureau, Sig.id] x y)) ∧ Gs w w' := by
  have H := hid (fun W B (h0 : W.cell? ⟨B, 0, none⟩ = some (.func (.func 58) #[] #[])) (h1 : W.cell? ⟨B, 1, none⟩ = some (.func (.func 59) #[] #[])) => by2_any x y B 2 W h0 h1)
  generalize byN [Sig.bureau, Sig.id] x y = r at *
  unfold Sig.val at *
  go_enter Tryd.func56, Tryd.ntmps56
  go_wp2_with (go_at_call 57; (with_reducible refine (H.out _ _ ?_ ?_).mono ?_); rotate_right; rintro e w1 ⟨rfl, hb⟩; have HB := hid hb; clear hb)
  all_goals first
    | (rw [cell_top _ _ _ _ _ (by simp)]; rfl)
    | (go_ret
       exact ⟨rfl, (((Gs.refl w).alloc _).alloc _ |>.alloc _).trans HB.out⟩)

/-- A place, as a key. -/
def encPl (p : Int × Int) : Value := .agg #[.int .i64 p.1, .int .i64 p.2]
theorem encPl_inj (p q : Int × Int) (h : encPl p = encPl q) : p = q := by
  obtain ⟨a, b⟩ := p
  obtain ⟨c, d⟩ := q
  unfold encPl at h
  injection h with h
  simp at h
  rw [h.1, h.2]
set_option maxHeartbeats 2000000 in
theorem at_any (x : Sig) (w : World) :
    Calls Tryd.prog 54 #[x.val] w fun e w' => e = .returned (encPl (x.bureau, x.id)) ∧ Gs w w' := by
  obtain ⟨x0, x1, x2, x3, x4, x5⟩ := x
  unfold Sig.val encPl
  dsimp only
  go_enter Tryd.func54, Tryd.ntmps54
  go_wp2
  refine bodyPost_ret (v := .agg #[.int .i64 x0, .int .i64 x1]) ?_ rfl ⟨rfl, ((Gs.refl w).alloc _).alloc _⟩
  exact results_cell_row (p := 2) (ty := 104) Tryd.results54 _ _ (w.heap.size + 1) 104 _ (0, 0) _ rfl (heap_alloc2_new w _ _) Tryd.underlying104 rfl (by kernel_rfl)
end Go.Proofs.YtliehlefpodhaaaDoor
namespace Go.Proofs.YtliehlefpodhaaaDoor
open Go.RowKit Go.Shelf Go.Sort Go.Lib

theorem Sig.one9 (x : Sig) : ∀ v ∈ x.cells, v.oneCell' = true := by
  intro v hv
  simp [Sig.cells] at hv
  rcases hv with rfl | rfl | rfl | rfl | rfl | rfl <;> rfl
theorem cmpLays_sig (b size : Nat) (w : World) : CmpLays Tryd.prog 56 #[] Sig.cells 6 (fun x y => byN [Sig.bureau, Sig.id] x y) b 0 size w :=
  fun _ _ _ _ x y => mergeCmp_any x y _
theorem swo_pl : SWO (ltOf (fun x y : Sig => byN [Sig.bureau, Sig.id] x y)) := {
  irrefl := fun x => by
    simp only [ltOf, by2_neg]
    cases h : befB x x with
    | false => rfl
    | true => exact (BefS.anti (show BefS x x from h) h).elim
  trans := fun x y z h1 h2 => by
    simp only [ltOf, by2_neg] at *
    exact BefS.trans (show BefS x y from h1) h2
  ntrans := fun x y z h1 h2 => by
    simp only [ltOf, by2_neg] at *
    cases h : befB x z with
    | false => rfl
    | true =>
      exfalso
      have h3 : BefS x z := h
      rw [BefS_iff] at h3
      have n1 : ¬ BefS x y := fun e => by rw [show befB x y = true from e] at h1; cases h1
      have n2 : ¬ BefS y z := fun e => by rw [show befB y z = true from e] at h2; cases h2
      rw [BefS_iff] at n1 n2
      omega }

set_option maxRecDepth 100000 in
set_option maxHeartbeats 2000000 in
theorem sortSig_any (a b' l : List Sig) (A : Option Addr) (n cap : Nat) (w0 w : World) (hw : Gr w0 w) (hO : OwnK Sig.cells 6 w0 w A n cap l) (hA : ∃ g, A = some ⟨g, 0, none⟩) (hl : l = a ++ newsS a b') (ha : a.Pairwise BefS) (hb : b'.Pairwise BefS) (hn : n ≤ 1000) :
    Calls Tryd.prog 55 #[.slice A n cap, .func (.func 56) #[] #[]] w fun e w' => e = .returned (.tuple #[]) ∧ (Gr w0 w' ∧ OwnK Sig.cells 6 w0 w' A n cap (mergeAll a b')) := by
  obtain ⟨rfl, hle, hbig, hrow⟩ := hO
  rcases hrow with ⟨rfl, h0, rfl⟩ | ⟨b, rfl, h1, h2, h3⟩
  · obtain ⟨g, h⟩ := hA
    cases h
  · have eg : ∀ args w, (callFunc 56 args).run Tryd.prog w = .ok (.enter 56 args) w := enters_of Tryd.func56 (by kernel_rfl) rfl
    have hsz : l.length < 4611686018427387904 := by omega
    have H := AnyQ.slices_SortFunc sortSig 6 Tryd.isAgg67 Tryd.sizeOf67 Sig.cells Sig.len Sig.one9 (fun x y => byN [Sig.bureau, Sig.id] x y) swo_pl 56 #[] b 0 cap l.toArray w eg (cmpLays_sig b _ w) h3 h2 (by simpa using hsz)
    simp only [List.size_toArray] at H
    refine H.mono ?_
    rintro e w' ⟨rfl, d', m, os, T1, T2, rfl⟩
    have S : SWK Sig.cells 6 w b 0 d' (sortWorldK Sig.cells 6 w b 0 m d' os) := ⟨m, os, rfl⟩
    have hs : d'.size = l.length := by simpa using T1.1
    have hp : d'.toList.Perm l := by
      have p := T1.2.2
      have e1 : d'.extract 0 l.toArray.size = d' := by simp [← hs]
      have e2 : l.toArray.extract 0 l.toArray.size = l.toArray := by simp
      simp only [List.size_toArray] at e1 e2
      rw [e1, e2] at p
      simpa using p
    have hap : l.Pairwise (fun x y => samePl x y = false) := by
      rw [hl]
      refine List.pairwise_append.2 ⟨ha.imp (fun k => k.apart), news_pairwise hb, fun x hx y hy => ?_⟩
      rw [samePl_comm]
      exact news_apart y hy x hx
    have hap2 : d'.toList.Pairwise (fun x y => samePl x y = false) := (hp.pairwise_iff (fun {x y} h => by rw [samePl_comm]; exact h)).2 hap
    have ho : d'.toList.Pairwise BefS := by
      refine List.pairwise_iff_getElem.2 (fun i j hi hj hij => ?_)
      have q := T2 i j (Nat.zero_le _) hij (by simp at hj; omega)
      have q2 := List.pairwise_iff_getElem.1 hap2 i j hi hj hij
      simp only [ltOf, by2_neg] at q
      have hi2 : i < d'.size := by simpa using hi
      have hj2 : j < d'.size := by simpa using hj
      rw [getElem!_pos d' i hi2, getElem!_pos d' j hj2] at q
      rcases befS_total q2 with h | h
      · exact h
      · exfalso
        have h' : befB d'[j] d'[i] = true := by simpa [BefS] using h
        rw [h'] at q
        cases q
    have he := mergeAll_eq ha hb (hl ▸ hp) ho
    have hml : (mergeAll a b').length = l.length := by rw [← he]; simpa using hs
    refine ⟨rfl, gr_sortK hw S h1, hml.symm, hle, hbig, .inr ⟨b, rfl, h1, S.lt h2, ?_⟩⟩
    rw [← he]
    simpa using S.holds h2 h3 (by simpa using hs)
end Go.Proofs.YtliehlefpodhaaaDoor
namespace Go.Proofs.YtliehlefpodhaaaDoor
open Go.RowKit Go.Shelf Go.Sort Go.Maps

theorem laidOut9 : laidOutB Tryd.prog = true := by kernel_rfl
theorem keyed_pl : Keyed Tryd.prog 104 := Keyed.of_law (deep_law_laid laidOut9 (m := 3) (by omega) (of_decide_eq_true (by kernel_rfl)) (by kernel_rfl) (by rw [Tryd.underlying104]))
theorem key_pl (b i : Int) (hb : 0 ≤ b ∧ b ≤ 9) (hi : 0 ≤ i ∧ i ≤ 999999) : ∃ l, keyOf Tryd.prog 104 (encPl (b, i)) = some l := by
  have w1 : (Lit.int IntKind.i64 b).wf = true := by simp only [Lit.wf, Bool.and_eq_true, decide_eq_true_eq]; exact ⟨by show -9223372036854775808 ≤ b; omega, by show b ≤ 9223372036854775807; omega⟩
  have w2 : (Lit.int IntKind.i64 i).wf = true := by simp only [Lit.wf, Bool.and_eq_true, decide_eq_true_eq]; exact ⟨by show -9223372036854775808 ≤ i; omega, by show i ≤ 9223372036854775807; omega⟩
  unfold keyOf encPl
  simp only [Tryd.underlying104]
  have hI : ∀ (d : Nat) (n : Int), (Lit.int IntKind.i64 n).wf = true → Tryd.prog.keyLits (d + 1) 3 [.int .i64 n] = some [.int .i64 n] := by
    intro d n hn
    unfold Program.keyLits
    simp only [Tryd.underlying3]
    simp [hn]
  have hc3 : Tryd.prog.cellsOf 3 = 1 := by kernel_rfl
  have hc : Tryd.prog.cellsOf 104 = 2 := by kernel_rfl
  have hkt : Tryd.prog.keyType 104 = true := by kernel_rfl
  have hpos : 0 < Tryd.prog.types.size := of_decide_eq_true (by kernel_rfl)
  obtain ⟨m, hm⟩ : ∃ m, Tryd.prog.types.size = m + 1 := ⟨Tryd.prog.types.size - 1, by omega⟩
  have hs : Tryd.prog.keyLits (m + 1 + 1) 104 [.int .i64 b, .int .i64 i] = some [.int .i64 b, .int .i64 i] := by
    unfold Program.keyLits
    simp only [Tryd.underlying104]
    rw [if_pos ⟨by rw [hc]; rfl, by kernel_rfl⟩]
    simp [hc3, hI m b w1, hI m i w2]
  have hfm : Value.formed Tryd.prog 104 (.agg #[.int .i64 b, .int .i64 i]) = true := by
    unfold Value.formed
    simp only [Tryd.underlying104, hc]
    rfl
  rw [hkt, hfm, hm]
  have hs' : Tryd.prog.keyLits (m + 1 + 1) 104 (Value.agg #[Value.int IntKind.i64 b, Value.int IntKind.i64 i]).cells.toList = some [.int .i64 b, .int .i64 i] := hs
  rw [hs']
  exact ⟨_, rfl⟩
/-- What is known at a place. -/
def plF (o : List Sig) (p : Int × Int) : Option Value := (o.find? fun y => p.1 == y.bureau && p.2 == y.id).map Sig.val
theorem plF_at (o : List Sig) (x : Sig) : plF o (x.bureau, x.id) = (o.find? (samePl x)).map Sig.val := rfl
theorem plF_nil (p : Int × Int) : plF [] p = none := rfl
theorem plF_snoc {o : List Sig} {x : Sig} (h : o.find? (samePl x) = none) (p : Int × Int) : (if p = (x.bureau, x.id) then some x.val else plF o p) = plF (o ++ [x]) p := by
  by_cases e : p = (x.bureau, x.id)
  · subst e
    rw [if_pos rfl, plF_at, List.find?_append, h]
    have : [x].find? (samePl x) = some x := by simp [samePl]
    rw [this]; rfl
  · rw [if_neg e]
    unfold plF
    rw [List.find?_append]
    have : [x].find? (fun y => p.1 == y.bureau && p.2 == y.id) = none := by
      rw [List.find?_eq_none]
      intro y hy
      simp at hy
      subst hy
      simp
      intro h1 h2
      exact e (by rw [← h1, ← h2])
    rw [this, Option.or_none]
/-- A block beside a row that grows. -/
theorem beside_row {W W' : World} {base : Nat} {e t : TypeId} {size n h : Nat} {v : Value} {xs : List Value} {cs : Array Value} (hown : W.ownsRow base e size v n xs) (hg : W.grownBy W' v.ownBlock) (hr : W.heap[h]? = some (.cells cs t (0, 0))) (ht : t ≠ e) : W'.heap[h]? = some (.cells cs t (0, 0)) := by
  refine (hg.block h (Array.getElem?_eq_some_iff.1 hr).1 (fun ee => ?_)).trans hr
  rcases hown.2 with ⟨rfl, _⟩ | ⟨g, cap, cur, rfl, _, hgg, _⟩
  · simp [Value.ownBlock] at ee
  · simp [Value.ownBlock] at ee
    subst ee
    rw [hr] at hgg
    simp at hgg
    exact ht hgg.2
theorem mapIs_beside {W W' : World} {k e : TypeId} {κ : Type} {enc : κ → Value} {base size n h : Nat} {v : Value} {xs : List Value} {f : κ → Option Value} (hown : W.ownsRow base e size v n xs) (hg : W.grownBy W' v.ownBlock) (hm : MapIs Tryd.prog k enc W h f) (hb : h < base) : MapIs Tryd.prog k enc W' h f := by
  refine hm.keep (hg.block h hm.lt (fun ee => ?_))
  have := (hown.lt h ee.symm).1
  omega
end Go.Proofs.YtliehlefpodhaaaDoor
