/- A map that is known key by key, whatever its values are: made, looked up, written. For any program. -/
import Derived.Maps.Keyed
import Derived.Maps.Own
import Derived.WalkKit
import Derived.Test.YtlkjimfkapcenaaGreatDoorQBase
namespace Go.Proofs.YtlkjimfkapcenaaGreatDoor
open Go.RowKit Go.Maps
open Go.MapKept (Stamped)
open Go.ChangeMaps (setBlock)

/-- Block b is a map whose value at each key is that of f. -/
def MapIs {κ : Type} (P : Program) (k : TypeId) (enc : κ → Value) (w : World) (b : Nat) (f : κ → Option Value) : Prop :=
  ∃ es clock, w.heap[b]? = some (.map es clock) ∧ Stamped es clock ∧ (∀ x ∈ es.toList, ∃ q l, x.key = enc q ∧ keyOf P k (enc q) = some l ∧ f q = some x.val) ∧ (∀ q v, f q = some v → ∃ x ∈ es.toList, x.key = enc q)
section
variable {κ : Type} {P : Program} {k : TypeId} {enc : κ → Value} {w w' : World} {b : Nat} {f : κ → Option Value}
theorem MapIs.lt (h : MapIs P k enc w b f) : b < w.heap.size := by
  obtain ⟨es, clock, h, _⟩ := h
  exact (Array.getElem?_eq_some_iff.1 h).1
theorem MapIs.keep (h : MapIs P k enc w b f) (e : w'.heap[b]? = w.heap[b]?) : MapIs P k enc w' b f := by
  obtain ⟨es, clock, h, k⟩ := h
  exact ⟨es, clock, e.trans h, k⟩
theorem MapIs.gr (h : MapIs P k enc w b f) (g : Gr w w') : MapIs P k enc w' b f := h.keep (g.heap h.lt)
theorem MapIs.alloc (h : MapIs P k enc w b f) (o : Obj) : MapIs P k enc (w.alloc o) b f := h.gr ((Gr.refl w).alloc o)
theorem MapIs.drew (h : MapIs P k enc w b f) : MapIs P k enc w.drew b f := h
theorem MapIs.drewN (h : MapIs P k enc w b f) (n : Nat) : MapIs P k enc (w.drewN n) b f := h
theorem MapIs.far (h : MapIs P k enc w b f) {p : Addr} (hp : b ≠ p.block) (u : Value) : MapIs P k enc (w.setCell p u) b f := h.keep (Below.heap_setCell w p u b hp)
theorem MapIs.congr (h : MapIs P k enc w b f) {g : κ → Option Value} (e : ∀ q, f q = g q) : MapIs P k enc w b g := by
  have : f = g := funext e
  subst this
  exact h
theorem MapIs.new (w : World) : MapIs P k enc (w.alloc (.map #[] 0)) w.heap.size (fun _ => none) :=
  ⟨#[], 0, heap_alloc_new w _, by rw [Go.MapKept.stamped_iff]; simp, by simp, by simp⟩
theorem MapIs.found (h : MapIs P k enc w b f) (K : Keyed P k) (hinj : ∀ p q, enc p = enc q → p = q) {q : κ} {l : Lit} (hk : keyOf P k (enc q) = some l) :
    ∃ es clock, w.heap[b]? = some (.map es clock) ∧ Stamped es clock ∧ (∀ x ∈ es.toList, ∃ q l, x.key = enc q ∧ keyOf P k (enc q) = some l ∧ f q = some x.val) ∧ (∀ q v, f q = some v → ∃ x ∈ es.toList, x.key = enc q) ∧
      (((Instr.findKey k (enc q) es.toList).run P w = .ok none w ∧ f q = none ∧ ∀ e ∈ es.toList, e.key ≠ enc q) ∨
       ∃ j e, (Instr.findKey k (enc q) es.toList).run P w = .ok (some (j, e.val)) w ∧ es.toList[j]? = some e ∧ e.key = enc q ∧ f q = some e.val) := by
  obtain ⟨es, clock, hb, hs, h1, h2⟩ := h
  refine ⟨es, clock, hb, hs, h1, h2, ?_⟩
  rcases K.find w hk es.toList (fun x hx => by obtain ⟨q, l, e, h, _⟩ := h1 x hx; exact ⟨l, by rw [e]; exact h⟩) with ⟨r1, r2⟩ | ⟨j, e, r1, r2, r3⟩
  · refine .inl ⟨r1, ?_, r2⟩
    cases hf : f q with
    | none => rfl
    | some v =>
      obtain ⟨x, hx, e⟩ := h2 q v hf
      exact absurd e (r2 x hx)
  · refine .inr ⟨j, e, r1, r2, r3, ?_⟩
    obtain ⟨q', l', e', _, h'⟩ := h1 e (List.mem_of_getElem? r2)
    rw [hinj q q' (r3.symm.trans e')]
    exact h'
theorem MapIs.look {t E : TypeId} (h : MapIs P k enc w b f) (K : Keyed P k) (hinj : ∀ p q, enc p = enc q → p = q) (ht : P.underlying t = some (.map k E)) {q : κ} {l : Lit} (hk : keyOf P k (enc q) = some l) {z : Value}
    (hz : (zeroValue E).run P w = .ok z w) : (Instr.lookup t (.map (some b)) (enc q) false).run P w = .ok ((f q).getD z) w := by
  obtain ⟨es, clock, hb, _, _, _, h⟩ := h.found K hinj hk
  rcases h with ⟨r1, r2, _⟩ | ⟨j, e, r1, r2, r3, r4⟩
  · simp [Instr.lookup, run_underlying ht, MapKept.run_getObj_map hb, K.check w _ hk, r1, r2, hz, Result.andThen]
  · simp [Instr.lookup, run_underlying ht, MapKept.run_getObj_map hb, K.check w _ hk, r1, r4, Result.andThen]
theorem MapIs.lookOk {t E : TypeId} (h : MapIs P k enc w b f) (K : Keyed P k) (hinj : ∀ p q, enc p = enc q → p = q) (ht : P.underlying t = some (.map k E)) {q : κ} {l : Lit} (hk : keyOf P k (enc q) = some l) {z : Value}
    (hz : (zeroValue E).run P w = .ok z w) : (Instr.lookup t (.map (some b)) (enc q) true).run P w = .ok (.tuple #[(f q).getD z, .bool (f q).isSome]) w := by
  obtain ⟨es, clock, hb, _, _, _, h⟩ := h.found K hinj hk
  rcases h with ⟨r1, r2, _⟩ | ⟨j, e, r1, r2, r3, r4⟩
  · simp [Instr.lookup, run_underlying ht, MapKept.run_getObj_map hb, K.check w _ hk, r1, r2, hz, Result.andThen]
  · simp [Instr.lookup, run_underlying ht, MapKept.run_getObj_map hb, K.check w _ hk, r1, r4, Result.andThen]
theorem setBlock_block (w : World) (b : Nat) (o : Obj) {i : Nat} (hi : i ≠ b) : (setBlock w b o).heap[i]? = w.heap[i]? := by
  simp [setBlock, Ne.symm hi]
theorem setBlock_size (w : World) (b : Nat) (o : Obj) : (setBlock w b o).heap.size = w.heap.size := by simp [setBlock]
theorem setBlock_grown (w : World) (b : Nat) (o : Obj) : w.grownBy (setBlock w b o) (some b) :=
  ⟨rfl, rfl, rfl, by rw [setBlock_size]; exact Nat.le_refl _, fun i _ hne => setBlock_block w b o (fun e => hne (by rw [e]))⟩
theorem setBlock_same (w : World) (b : Nat) (o : Obj) (hb : b < w.heap.size) : (setBlock w b o).heap[b]? = some o := by
  simp [setBlock, hb]
theorem MapIs.put [DecidableEq κ] {t E : TypeId} (h : MapIs P k enc w b f) (K : Keyed P k) (hinj : ∀ p q, enc p = enc q → p = q) (ht : P.underlying t = some (.map k E)) {q : κ} {l : Lit} (hk : keyOf P k (enc q) = some l) (v : Value) :
    ∃ w', (Instr.mapUpdate t (.map (some b)) (enc q) v).run P w = .ok () w' ∧ MapIs P k enc w' b (fun p => if p = q then some v else f p) ∧ w.grownBy w' (some b) ∧ w'.heap.size = w.heap.size := by
  have hlt := h.lt
  obtain ⟨es, clock, hb, hs, h1, h2, h⟩ := h.found K hinj hk
  rcases h with ⟨r1, r2, r3⟩ | ⟨j, e, r1, r2, r3, r4⟩
  · refine ⟨setBlock w b (.map (es.push ⟨enc q, v, clock⟩) (clock + 1)), ?_, ⟨_, _, setBlock_same _ _ _ hlt, Go.MapKept.stamped_push hs r3, ?_, ?_⟩, setBlock_grown _ _ _, setBlock_size _ _ _⟩
    · simp [Instr.mapUpdate, run_underlying ht, MapKept.run_getObj_map hb, K.check w false hk, r1, MapKept.run_setObj_map _ hb, Result.andThen, setBlock]
    · intro x hx
      simp only [Array.toList_push, List.mem_append, List.mem_singleton] at hx
      rcases hx with hx | rfl
      · obtain ⟨p, l', e1, e2, e3⟩ := h1 x hx
        refine ⟨p, l', e1, e2, ?_⟩
        have hne : p ≠ q := fun e => r3 x hx (by rw [e1, e])
        simp only [hne, if_false]; exact e3
      · exact ⟨q, l, rfl, hk, by simp⟩
    · intro p u hu
      by_cases hpq : p = q
      · exact ⟨⟨enc q, v, clock⟩, by simp, by rw [hpq]⟩
      · simp only [hpq, if_false] at hu
        obtain ⟨x, hx, e⟩ := h2 p u hu
        exact ⟨x, by simp only [Array.toList_push, List.mem_append]; exact .inl hx, e⟩
  · have hj : es[j]? = some e := by simpa using r2
    have hmod : ∀ i x, (es.modify j (fun e' => { e' with key := enc q, val := v })).toList[i]? = some x → (i = j ∧ x = { e with key := enc q, val := v }) ∨ (i ≠ j ∧ es.toList[i]? = some x) := by
      intro i x hx
      rw [Array.getElem?_toList, Array.getElem?_modify] at hx
      by_cases hij : j = i
      · subst hij
        rw [if_pos rfl, hj] at hx
        exact .inl ⟨rfl, (Option.some.inj hx).symm⟩
      · rw [if_neg hij] at hx
        exact .inr ⟨fun e => hij e.symm, by simpa using hx⟩
    have hne : ∀ i x, i ≠ j → es.toList[i]? = some x → x.key ≠ enc q := by
      intro i x hij hx hxe
      have hp := ((Go.MapKept.stamped_iff es clock).1 hs).2.2
      rw [List.pairwise_iff_getElem] at hp
      obtain ⟨hi, ei⟩ := List.getElem?_eq_some_iff.1 hx
      obtain ⟨hj', ej⟩ := List.getElem?_eq_some_iff.1 r2
      rcases Nat.lt_or_gt_of_ne hij with h | h
      · exact hp i j hi hj' h (by rw [ei, ej, hxe, r3])
      · exact hp j i hj' hi h (by rw [ei, ej, hxe, r3])
    refine ⟨setBlock w b (.map (es.modify j (fun e' => { e' with key := enc q, val := v })) clock), ?_, ⟨_, _, setBlock_same _ _ _ hlt, ?_, ?_, ?_⟩, setBlock_grown _ _ _, setBlock_size _ _ _⟩
    · simp [Instr.mapUpdate, run_underlying ht, MapKept.run_getObj_map hb, K.check w false hk, r1, hj, r3, K.stays w hk, MapKept.run_setObj_map _ hb, Result.andThen, setBlock]
    · exact Go.MapKept.stamped_modify hs _ _ (fun _ _ => rfl) (fun e' _ he' => by rw [hj] at he'; cases he'; exact r3.symm)
    · intro x hx
      obtain ⟨i, hi⟩ := List.mem_iff_getElem?.1 hx
      rcases hmod i x hi with ⟨_, rfl⟩ | ⟨hij, hx'⟩
      · exact ⟨q, l, rfl, hk, by simp⟩
      · obtain ⟨p, l', e1, e2, e3⟩ := h1 x (List.mem_of_getElem? hx')
        refine ⟨p, l', e1, e2, ?_⟩
        have hpq : p ≠ q := fun e => hne i x hij hx' (by rw [e1, e])
        simp only [hpq, if_false]; exact e3
    · intro p u hu
      have hjl : j < es.size := (Array.getElem?_eq_some_iff.1 hj).1
      have hnew : (es.modify j (fun e' => { e' with key := enc q, val := v })).toList[j]? = some { e with key := enc q, val := v } := by
        rw [Array.getElem?_toList, Array.getElem?_modify, if_pos rfl, hj]; rfl
      by_cases hpq : p = q
      · exact ⟨_, List.mem_of_getElem? hnew, by rw [hpq]⟩
      · simp only [hpq, if_false] at hu
        obtain ⟨x, hx, e1⟩ := h2 p u hu
        obtain ⟨i, hi⟩ := List.mem_iff_getElem?.1 hx
        have hij : j ≠ i := by
          rintro rfl
          rw [r2] at hi
          cases hi
          exact hpq (hinj p q (e1.symm.trans r3))
        refine ⟨x, List.mem_of_getElem? (i := i) ?_, e1⟩
        rw [Array.getElem?_toList, Array.getElem?_modify, if_neg hij]
        simpa using hi
end
/-- m[k] = v, met in a walk. -/
theorem wpList_mapUpdate_is {κ : Type} [DecidableEq κ] {P : Program} {k E : TypeId} (enc : κ → Value) (w : World) {ops : Array Oper} {rest : List Oper} {o : Oper} {a : Act} {Q : Exit → Act → World → Prop}
    (hg : o.guard = none) (m x u : Operand) (t : TypeId) (hop : o.op = Op.mapUpdate t m x u) (K : Keyed P k) (hinj : ∀ p q, enc p = enc q → p = q) (ht : P.underlying t = some (.map k E)) (b : Nat) (f : κ → Option Value)
    (hm : a.eval m = .map (some b)) (h : MapIs P k enc w b f) (q : κ) (v : Value) (l : Lit) (hx : a.eval x = enc q) (hv : a.eval u = v) (hk : keyOf P k (enc q) = some l)
    (hK : ∀ w', MapIs P k enc w' b (fun p => if p = q then some v else f p) → w.grownBy w' (some b) → w'.heap.size = w.heap.size → wpList P ops Q rest (a.put o.dst undef) w') : wpList P ops Q (o :: rest) a w :=
  wpList_plain hg fun _ hK' => by
    obtain ⟨w', hrun, r1, r2, r3⟩ := h.put K hinj ht hk v
    unfold Oper.wp
    simp [execOp, hop, hm, hx, hv, hrun, Result.andThen]
    exact hK' _ _ (hK w' r1 r2 r3)
/-- v := m[k], met in a walk. -/
theorem wpList_lookup_is {κ : Type} {P : Program} {k E : TypeId} (enc : κ → Value) (w : World) {ops : Array Oper} {rest : List Oper} {o : Oper} {a : Act} {Q : Exit → Act → World → Prop}
    (hg : o.guard = none) (m x : Operand) (t : TypeId) (hop : o.op = Op.lookup t m x false) (K : Keyed P k) (hinj : ∀ p q, enc p = enc q → p = q) (ht : P.underlying t = some (.map k E)) (b : Nat) (f : κ → Option Value)
    (hm : a.eval m = .map (some b)) (h : MapIs P k enc w b f) (q : κ) (l : Lit) (z : Value) (hx : a.eval x = enc q) (hk : keyOf P k (enc q) = some l) (hz : (zeroValue E).run P w = .ok z w)
    (hK : wpList P ops Q rest (a.put o.dst ((f q).getD z)) w) : wpList P ops Q (o :: rest) a w :=
  wpList_plain hg fun _ hK' => by
    have hrun := h.look K hinj ht hk hz
    unfold Oper.wp
    simp [execOp, hop, hm, hx, hrun, Result.andThen]
    exact hK' _ _ hK
/-- v, ok := m[k], met in a walk. -/
theorem wpList_lookup_is_ok {κ : Type} {P : Program} {k E : TypeId} (enc : κ → Value) (w : World) {ops : Array Oper} {rest : List Oper} {o : Oper} {a : Act} {Q : Exit → Act → World → Prop}
    (hg : o.guard = none) (m x : Operand) (t : TypeId) (hop : o.op = Op.lookup t m x true) (K : Keyed P k) (hinj : ∀ p q, enc p = enc q → p = q) (ht : P.underlying t = some (.map k E)) (b : Nat) (f : κ → Option Value)
    (hm : a.eval m = .map (some b)) (h : MapIs P k enc w b f) (q : κ) (l : Lit) (z : Value) (hx : a.eval x = enc q) (hk : keyOf P k (enc q) = some l) (hz : (zeroValue E).run P w = .ok z w)
    (hK : wpList P ops Q rest (a.put o.dst (.tuple #[(f q).getD z, .bool (f q).isSome])) w) : wpList P ops Q (o :: rest) a w :=
  wpList_plain hg fun _ hK' => by
    have hrun := h.lookOk K hinj ht hk hz
    unfold Oper.wp
    simp [execOp, hop, hm, hx, hrun, Result.andThen]
    exact hK' _ _ hK
theorem int_inj {q : IntKind} (x y : Int) (h : Value.int q x = Value.int q y) : x = y := by injection h
end Go.Proofs.YtlkjimfkapcenaaGreatDoor
