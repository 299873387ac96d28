/- A range over a map that is known key by key, whose round stores at keys that are there. For any program. -/
import Derived.Maps.RangeRun
import Derived.Test.YtlkjimfkapcenaaQRegGr
import Derived.Test.YtlkjimfkapcenaaQMapIs
namespace Go.Proofs.Ytlkjimfkapcenaa
open Go.RowKit Go.Maps
open Go.MapKept (Stamped)
open Go.ChangeMaps (setBlock)

/-- Block b is a map whose value at each key is that of f; block r is an iterator over it: 'left' are the keys still to come, cnt how many. -/
def MapRg {κ : Type} (P : Program) (k : TypeId) (enc : κ → Value) (w : World) (b r : Nat) (f : κ → Option Value) (left : κ → Prop) (cnt : Nat) : Prop :=
  ∃ es clock since seen c0, w.heap[b]? = some (.map es clock) ∧ Stamped es clock ∧ (∀ x ∈ es.toList, ∃ q l, x.key = enc q ∧ keyOf P k (enc q) = some l ∧ f q = some x.val) ∧ (∀ q v, f q = some v → ∃ x ∈ es.toList, x.key = enc q) ∧
    w.heap[r]? = some (.mapIter (some b) since seen c0) ∧ (∀ n ∈ es.toList.map (·.born), n < since) ∧ (since ≤ c0 ∧ since ≤ clock) ∧ (es.toList.map (·.born)).countP (fun n => !seen.contains n) = cnt ∧
    (∀ x ∈ es.toList, ∀ q, x.key = enc q → (left q ↔ seen.contains x.born = false)) ∧ (∀ q, left q → ∃ v, f q = some v)
section
variable {κ : Type} {P : Program} {k : TypeId} {enc : κ → Value} {w w' : World} {b r : Nat} {f : κ → Option Value} {left : κ → Prop} {cnt : Nat}
theorem MapRg.is (h : MapRg P k enc w b r f left cnt) : MapIs P k enc w b f := by
  obtain ⟨es, clock, since, seen, c0, h1, h2, h3, h4, _⟩ := h
  exact ⟨es, clock, h1, h2, h3, h4⟩
theorem MapRg.lt (h : MapRg P k enc w b r f left cnt) : r < w.heap.size := by
  obtain ⟨es, clock, since, seen, c0, _, _, _, _, h5, _⟩ := h
  exact (Array.getElem?_eq_some_iff.1 h5).1
theorem MapRg.ne (h : MapRg P k enc w b r f left cnt) : r ≠ b := by
  obtain ⟨es, clock, since, seen, c0, h1, _, _, _, h5, _⟩ := h
  rintro rfl
  rw [h1] at h5
  cases h5
theorem MapRg.keep (h : MapRg P k enc w b r f left cnt) (e1 : w'.heap[b]? = w.heap[b]?) (e2 : w'.heap[r]? = w.heap[r]?) : MapRg P k enc w' b r f left cnt := by
  obtain ⟨es, clock, since, seen, c0, h1, h2, h3, h4, h5, h6⟩ := h
  exact ⟨es, clock, since, seen, c0, e1.trans h1, h2, h3, h4, e2.trans h5, h6⟩
theorem MapRg.gr (h : MapRg P k enc w b r f left cnt) (g : Gr w w') : MapRg P k enc w' b r f left cnt := h.keep (g.heap h.is.lt) (g.heap h.lt)
theorem left_count (es : Array MapEntry) (seen : Array Nat) : (leftOf es seen).size = (es.toList.map (·.born)).countP (fun n => !seen.contains n) := by
  unfold leftOf
  rw [← Array.length_toList, Array.toList_filter, ← List.countP_eq_length_filter, List.countP_map]
  rfl
/-- The iterator's start. -/
theorem MapIs.range (h : MapIs P k enc w b f) (hinj : ∀ p q, enc p = enc q → p = q) {t E : TypeId} (ht : P.underlying t = some (.map k E)) :
    ∃ w' cnt, (Instr.range t (.map (some b))).run P w = .ok (.pointer (some ⟨w.heap.size, 0, none⟩)) w' ∧ MapRg P k enc w' b w.heap.size f (fun q => ∃ v, f q = some v) cnt ∧ Gr w w' := by
  obtain ⟨es, clock, h1, h2, h3, h4⟩ := h
  have hs := (Go.MapKept.stamped_iff es clock).1 h2
  have hg : Gr w (w.alloc (.mapIter (some b) clock #[] clock)) := (Gr.refl w).alloc _
  refine ⟨_, _, run_range_map w t k E b es clock ht h1, ⟨es, clock, clock, #[], clock, row_gr h1 hg, h2, h3, h4, heap_alloc_new w _, ?_, ⟨Nat.le_refl _, Nat.le_refl _⟩, rfl, ?_, fun _ h => h⟩, hg⟩
  · intro n hn
    obtain ⟨x, hx, rfl⟩ := List.mem_map.1 hn
    exact hs.1 x hx
  · intro x hx q hq
    refine ⟨fun _ => by simp, fun _ => ?_⟩
    obtain ⟨q', l, e1, e2, e3⟩ := h3 x hx
    have : q' = q := hinj _ _ (e1.symm.trans hq)
    subst this
    exact ⟨_, e3⟩
theorem setBlock_heap (w : World) (b : Nat) (o : Obj) {i : Nat} (hi : i ≠ b) : (setBlock w b o).heap[i]? = w.heap[i]? := by
  simp [setBlock, Ne.symm hi]
/-- The iterator's step. -/
theorem MapRg.next (h : MapRg P k enc w b r f left cnt) (hinj : ∀ p q, enc p = enc q → p = q) (ty : TypeId) :
    (cnt = 0 ∧ (∀ q, ¬ left q) ∧ (Instr.next (.pointer (some ⟨r, 0, none⟩)) false ty).run P w = .ok (.tuple #[.bool false]) w) ∨
    ∃ q v w' cnt', left q ∧ f q = some v ∧ (Instr.next (.pointer (some ⟨r, 0, none⟩)) false ty).run P w = .ok (.tuple #[.bool true, enc q, v]) w' ∧ MapRg P k enc w' b r f (fun p => left p ∧ p ≠ q) cnt' ∧ cnt' < cnt ∧ w.grownBy w' (some r) ∧
      (Instr.entry (.pointer (some ⟨r, 0, none⟩))).run P w' = .ok (.tuple #[enc q, v]) w' := by
  have hne := h.ne
  have hrlt := h.lt
  obtain ⟨es, clock, since, seen, c0, h1, h2, h3, h4, h5, h6, h7, h8, h9, h10⟩ := h
  have hst := (Go.MapKept.stamped_iff es clock).1 h2
  rcases run_next_at (P := P) w ty r b since c0 seen es clock h5 h1 (fun x hx => h6 _ (List.mem_map.2 ⟨x, hx, rfl⟩)) h7.1 with ⟨h0, hrun⟩ | ⟨e, he, w1, hal, hrun⟩
  · refine .inl ⟨by rw [← h8, ← left_count, h0], fun q hq => ?_, hrun⟩
    obtain ⟨v, hv⟩ := h10 q hq
    obtain ⟨x, hx, e⟩ := h4 q v hv
    have h11 := all_seen es seen h0 x hx
    rw [(h9 x hx q e).1 hq] at h11
    cases h11
  · obtain ⟨hem, hes⟩ := mem_left he
    obtain ⟨q, l, e1, e2, e3⟩ := h3 e hem
    have hr1 : w1.heap[r]? = some (.mapIter (some b) since seen c0) := by rcases hal with rfl | rfl <;> exact h5
    have hb1 : w1.heap[b]? = some (.map es clock) := by rcases hal with rfl | rfl <;> exact h1
    have hz1 : w1.heap.size = w.heap.size := by rcases hal with rfl | rfl <;> rfl
    have hb2 : (setBlock w1 r (.mapIter (some b) since (seen.push e.born) clock)).heap[b]? = some (.map es clock) := (setBlock_heap _ _ _ (fun e => hne e.symm)).trans hb1
    have hr2 : (setBlock w1 r (.mapIter (some b) since (seen.push e.born) clock)).heap[r]? = some (.mapIter (some b) since (seen.push e.born) clock) := setBlock_same _ _ _ (by omega)
    refine .inr ⟨q, e.val, _, _, (h9 e hem q e1).2 hes, e3, by rw [hrun, e1], ⟨es, clock, since, seen.push e.born, clock, hb2, h2, h3, h4, hr2, h6, ⟨h7.2, h7.2⟩, rfl, ?_, fun p hp => h10 p hp.1⟩, ?_, ?_, ?_⟩
    · intro x hx p hp
      rw [contains_push]
      constructor
      · rintro ⟨hl, hpq⟩
        rw [(h9 x hx p hp).1 hl, Bool.false_or]
        have : x.born ≠ e.born := fun eb => by
          have := born_inj hst.2.1 hx hem eb
          subst this
          exact hpq (hinj _ _ (hp.symm.trans e1))
        simpa using this
      · intro hc
        simp only [Bool.or_eq_false_iff] at hc
        refine ⟨(h9 x hx p hp).2 hc.1, ?_⟩
        rintro rfl
        have hkk : x.key = e.key := hp.trans e1.symm
        have hpw := hst.2.2
        have : x = e := by
          obtain ⟨i, hi, rfl⟩ := List.getElem_of_mem hx
          obtain ⟨j, hj, rfl⟩ := List.getElem_of_mem hem
          rw [List.pairwise_iff_getElem] at hpw
          rcases Nat.lt_trichotomy i j with hlt | rfl | hlt
          · exact absurd hkk (hpw i j hi hj hlt)
          · rfl
          · exact absurd hkk.symm (hpw j i hj hi hlt)
        rw [this] at hc
        simp at hc
    · rw [← h8, ← left_count, ← left_count]
      exact left_shrinks es seen e he
    · rcases hal with rfl | rfl <;> exact ⟨rfl, rfl, rfl, by simp [setBlock], fun i _ hi => setBlock_heap _ _ _ (fun e1 => hi (by rw [e1]))⟩
    · rw [run_entry_at _ r b since seen es clock e hr2 hb2 hem hst.2.1, e1]
/-- A store at a key that is there. -/
theorem MapRg.put [DecidableEq κ] {t E : TypeId} (h : MapRg P k enc w b r f left cnt) (K : Keyed P k) (hinj : ∀ p q, enc p = enc q → p = q) (ht : P.underlying t = some (.map k E)) {q : κ} {l : Lit} (hk : keyOf P k (enc q) = some l) (hq : ∃ u, f q = some u) (v : Value) :
    ∃ w', (Instr.mapUpdate t (.map (some b)) (enc q) v).run P w = .ok () w' ∧ MapRg P k enc w' b r (fun p => if p = q then some v else f p) left cnt ∧ w.grownBy w' (some b) ∧ w'.heap.size = w.heap.size := by
  have hne := h.ne
  have his := h.is
  have hlt := his.lt
  obtain ⟨es, clock, since, seen, c0, hb, hs, h1, h2, h5, h6, h7, h8, h9, h10⟩ := h
  obtain ⟨es', clock', hb', _, _, _, hf⟩ := his.found K hinj hk
  rw [hb] at hb'
  injection hb' with hb'
  injection hb' with e1 e2
  subst e1 e2
  rcases hf with ⟨_, r2, _⟩ | ⟨j, e, r1, r2, r3, r4⟩
  · obtain ⟨u, hu⟩ := hq
    rw [hu] at r2
    cases r2
  · have hj : es[j]? = some e := by simpa using r2
    have hborn : (es.modify j (fun e' => { e' with key := enc q, val := v })).toList.map (·.born) = es.toList.map (·.born) := by
      refine List.ext_getElem? (fun i => ?_)
      rw [List.getElem?_map, List.getElem?_map, Array.getElem?_toList, Array.getElem?_toList, Array.getElem?_modify]
      split
      · rw [Option.map_map]; rfl
      · rfl
    have hmod : ∀ i x, (es.modify j (fun e' => { e' with key := enc q, val := v })).toList[i]? = some x → (i = j ∧ x = { e with key := enc q, val := v }) ∨ (i ≠ j ∧ es.toList[i]? = some x) := by
      intro i x hx
      rw [Array.getElem?_toList, Array.getElem?_modify] at hx
      by_cases hij : j = i
      · subst hij
        rw [if_pos rfl, hj] at hx
        exact .inl ⟨rfl, (Option.some.inj hx).symm⟩
      · rw [if_neg hij] at hx
        exact .inr ⟨fun e => hij e.symm, by simpa using hx⟩
    obtain ⟨w', hrun, his', hg, hz⟩ := his.put K hinj ht hk v
    have hw' : w' = setBlock w b (.map (es.modify j (fun e' => { e' with key := enc q, val := v })) clock) := by
      have : (Instr.mapUpdate t (.map (some b)) (enc q) v).run P w = .ok () (setBlock w b (.map (es.modify j (fun e' => { e' with key := enc q, val := v })) clock)) := by
        simp [Instr.mapUpdate, run_underlying ht, MapKept.run_getObj_map hb, K.check w false hk, r1, hj, r3, K.stays w hk, MapKept.run_setObj_map _ hb, Result.andThen, setBlock]
      rw [this] at hrun
      injection hrun with _ e
      exact e.symm
    refine ⟨w', hrun, ?_, hg, hz⟩
    obtain ⟨es2, clock2, g1, g2, g3, g4⟩ := his'
    have hsame := setBlock_same w b (.map (es.modify j (fun e' => { e' with key := enc q, val := v })) clock) hlt
    rw [← hw', g1] at hsame
    injection hsame with hsame
    injection hsame with e3 e4
    subst e3 e4
    refine ⟨_, _, since, seen, c0, g1, g2, g3, g4, ?_, by rw [hborn]; exact h6, h7, by rw [hborn]; exact h8, ?_, ?_⟩
    · rw [hw', setBlock_heap _ _ _ hne]; exact h5
    · intro x hx p hp
      obtain ⟨i, hi⟩ := List.mem_iff_getElem?.1 hx
      rcases hmod i x hi with ⟨_, rfl⟩ | ⟨_, hx'⟩
      · exact h9 e (List.mem_of_getElem? r2) p (by rw [r3]; exact hp)
      · exact h9 x (List.mem_of_getElem? hx') p hp
    · intro p hp
      dsimp only
      split
      · exact ⟨v, rfl⟩
      · exact h10 p hp
end
section
variable {κ : Type} {P : Program} {k E : TypeId} {enc : κ → Value} {w : World} {o : Oper} {a : Act} {Q : Exit → Act → World → Prop} {K : Act → World → Prop} {b r : Nat} {f : κ → Option Value} {left : κ → Prop} {cnt : Nat}
/-- The laws at an operation. -/
theorem op_lookup_ok (enc : κ → Value) (m x : Operand) (t : TypeId) (hop : o.op = Op.lookup t m x true) (Ky : Keyed P k) (hinj : ∀ p q, enc p = enc q → p = q) (ht : P.underlying t = some (.map k E)) (b : Nat) (f : κ → Option Value)
    (hm : a.eval m = .map (some b)) (h : MapIs P k enc w b f) (q : κ) (l : Lit) (z : Value) (hx : a.eval x = enc q) (hk : keyOf P k (enc q) = some l) (hz : (zeroValue E).run P w = .ok z w)
    (hK : K (a.put o.dst (.tuple #[(f q).getD z, .bool (f q).isSome])) w) : o.wp P a w K Q := by
  have hrun := h.lookOk Ky hinj ht hk hz
  unfold Oper.wp
  simp [execOp, hop, hm, hx, hrun, Result.andThen]
  exact hK
theorem op_range (enc : κ → Value) (m : Operand) (t : TypeId) (hop : o.op = Op.range t m) (hinj : ∀ p q, enc p = enc q → p = q) (ht : P.underlying t = some (.map k E)) (hm : a.eval m = .map (some b)) (h : MapIs P k enc w b f)
    (hK : ∀ w' cnt, MapRg P k enc w' b w.heap.size f (fun q => ∃ v, f q = some v) cnt → Gr w w' → K (a.put o.dst (.pointer (some ⟨w.heap.size, 0, none⟩))) w') : o.wp P a w K Q := by
  obtain ⟨w', cnt, hrun, h1, h2⟩ := h.range hinj ht
  unfold Oper.wp
  simp [execOp, hop, hm, hrun, Result.andThen]
  exact hK w' cnt h1 h2
theorem op_next (enc : κ → Value) (it : Operand) (hop : o.op = Op.next it false) (hinj : ∀ p q, enc p = enc q → p = q) (hit : a.eval it = .pointer (some ⟨r, 0, none⟩)) (h : MapRg P k enc w b r f left cnt)
    (hDone : cnt = 0 → (∀ q, ¬ left q) → K (a.put o.dst (.tuple #[.bool false])) w)
    (hMore : ∀ q v w' cnt', left q → f q = some v → MapRg P k enc w' b r f (fun p => left p ∧ p ≠ q) cnt' → cnt' < cnt → w.grownBy w' (some r) → (Instr.entry (.pointer (some ⟨r, 0, none⟩))).run P w' = .ok (.tuple #[enc q, v]) w' →
      K (a.put o.dst (.tuple #[.bool true, enc q, v])) w') : o.wp P a w K Q := by
  unfold Oper.wp
  rcases h.next hinj o.type with ⟨h0, hl, hrun⟩ | ⟨q, v, w', cnt', hl, hf, hrun, hrg, hlt, hgr, hen⟩
  · simp [execOp, hop, hit, hrun, Result.andThen]
    exact hDone h0 hl
  · simp [execOp, hop, hit, hrun, Result.andThen]
    exact hMore q v w' cnt' hl hf hrg hlt hgr hen
theorem op_put [DecidableEq κ] (enc : κ → Value) (m x u : Operand) (t : TypeId) (hop : o.op = Op.mapUpdate t m x u) (Ky : Keyed P k) (hinj : ∀ p q, enc p = enc q → p = q) (ht : P.underlying t = some (.map k E)) (hm : a.eval m = .map (some b)) (h : MapIs P k enc w b f)
    (q : κ) (v : Value) (l : Lit) (hx : a.eval x = enc q) (hv : a.eval u = v) (hk : keyOf P k (enc q) = some l)
    (hK : ∀ w', MapIs P k enc w' b (fun p => if p = q then some v else f p) → w.grownBy w' (some b) → w'.heap.size = w.heap.size → K (a.put o.dst undef) w') : o.wp P a w K Q := by
  obtain ⟨w', hrun, r1, r2, r3⟩ := h.put Ky hinj ht hk v
  unfold Oper.wp
  simp [execOp, hop, hm, hx, hv, hrun, Result.andThen]
  exact hK w' r1 r2 r3
theorem op_put_rg [DecidableEq κ] (enc : κ → Value) (m x u : Operand) (t : TypeId) (hop : o.op = Op.mapUpdate t m x u) (Ky : Keyed P k) (hinj : ∀ p q, enc p = enc q → p = q) (ht : P.underlying t = some (.map k E)) (hm : a.eval m = .map (some b)) (h : MapRg P k enc w b r f left cnt)
    (q : κ) (v : Value) (l : Lit) (hx : a.eval x = enc q) (hv : a.eval u = v) (hk : keyOf P k (enc q) = some l) (hq : ∃ u, f q = some u)
    (hK : ∀ w', MapRg P k enc w' b r (fun p => if p = q then some v else f p) left cnt → w.grownBy w' (some b) → w'.heap.size = w.heap.size → K (a.put o.dst undef) w') : o.wp P a w K Q := by
  obtain ⟨w', hrun, r1, r2, r3⟩ := h.put Ky hinj ht hk hq v
  unfold Oper.wp
  simp [execOp, hop, hm, hx, hv, hrun, Result.andThen]
  exact hK w' r1 r2 r3
end
end Go.Proofs.Ytlkjimfkapcenaa
