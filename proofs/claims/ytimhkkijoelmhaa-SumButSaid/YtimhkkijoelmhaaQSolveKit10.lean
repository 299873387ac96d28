/- For solve of the reference: the rows and the new row as they lie, and their changes in place. -/
import Derived.Laws.OwnMore
import Derived.Maps.AppendAt
import Derived.Test.YtimhkkijoelmhaaQLine10
namespace Go.Proofs.Ytimhkkijoelmhaa
open Go.RowKit

/-- The rows as they lie in the midst of solve: all of the call's own. -/
structure SvIn (base : Nat) (w : World) (N : Nat) (v : Value) (vs : List RwV) : Prop where
  own : w.ownsRow base 99 2 v vs.length (vs.flatMap (RwV.cells N))
  each : ∀ r ∈ vs, w.ownsRow base 110 2 (.slice r.a N r.c) N (r.x.flatMap frC)
  sep : ∀ r ∈ vs, v.ownBlock = none ∨ (Value.slice r.a N r.c).ownBlock ≠ v.ownBlock
theorem SvIn.gr {base N : Nat} {w w' : World} {v : Value} {vs : List RwV} (h : SvIn base w N v vs) (g : Gr w w') : SvIn base w' N v vs :=
  ⟨ownT_gf h.own g, fun r hr => ownT_gf (h.each r hr) g, h.sep⟩
theorem SvIn.nil (base N : Nat) (w : World) : SvIn base w N (.slice none 0 0) [] :=
  ⟨⟨rfl, .inl ⟨rfl, rfl⟩⟩, fun _ h => by simp at h, fun _ h => by simp at h⟩
theorem SvIn.rows {base c N : Nat} {w : World} {A : Option Addr} {vs : List RwV} (h : SvIn base w N (.slice A vs.length c) vs) : RowsIn w A vs.length N vs :=
  ⟨Rd.of_own h.own, fun r hr => ⟨Rd.of_own (h.each r hr), own_cap10 (h.each r hr), by have := (Rd.of_own (h.each r hr)).len; rw [flatMap_len frC_len] at this; omega⟩⟩
/-- The new row as it lies: its head in a block, its factors above that. -/
structure PR (X : Nat) (i : Int) (v : Value) (j : Nat) (xs : List Rat) (w : World) : Prop where
  row : w.heap[X]? = some (.cells #[.int .i64 i, v] 99 (0, 0))
  own : w.ownsRow (X + 1) 110 2 v j (xs.flatMap frC)
theorem PR.gr {X : Nat} {i : Int} {v : Value} {j : Nat} {xs : List Rat} {w w' : World} (h : PR X i v j xs w) (g : Gr w w') : PR X i v j xs w' := ⟨row_gr h.row g, ownT_gf h.own g⟩
theorem PR.store {X : Nat} {i : Int} {v v' : Value} {j : Nat} {xs : List Rat} {w : World} (h : w.heap[X]? = some (.cells #[.int .i64 i, v] 99 (0, 0))) (o : w.ownsRow (X + 1) 110 2 v' j (xs.flatMap frC)) : PR X i v' j xs (w.setCell ⟨X, 1, none⟩ v') :=
  ⟨heap_setCell_same w X 1 _ _ _ h, ownsRow_setCell_below o (show X < X + 1 by omega) _⟩
theorem take_fr {xs : List Rat} {j : Nat} (hj : j < xs.length) {r : Rat} (h : xs[j]! = r) : (xs.take (j + 1)).flatMap frC = (xs.take j).flatMap frC ++ frC r := by
  rw [fr_take_succ hj, h]
theorem newR_left {n m k i : Nat} {bits : Nat → Bool} (hi : i < n) : (newR n m bits k)[i]! = bitR (bits i) := by
  rw [getElem!_pos _ i (by rw [newR_len]; omega)]
  unfold newR
  rw [List.getElem_append_left (by simpa using hi)]
  simp
theorem newR_right {n m k i : Nat} {bits : Nat → Bool} (hi : i < m) : (newR n m bits k)[n + i]! = bitR (i == k) := by
  rw [getElem!_pos _ (n + i) (by rw [newR_len]; omega)]
  unfold newR
  rw [List.getElem_append_right (by simp)]
  simp


theorem info_rw10 : (Try.prog.info? 99).map (fun i => (i.zero, i.size, i.bytes)) = some (some (.agg #[.int .i64 0, .slice none 0 0]), 2, 32) := by kernel_rfl
/-- The first p things changed. -/
def mapTo {α : Type} (g : α → α) (p : Nat) (xs : List α) : List α := (xs.take p).map g ++ xs.drop p
section
variable {α : Type} {g : α → α} {p : Nat} {xs : List α}
theorem mapTo_zero : mapTo g 0 xs = xs := by simp [mapTo]
theorem mapTo_all (h : xs.length ≤ p) : mapTo g p xs = xs.map g := by
  unfold mapTo
  rw [List.take_of_length_le h, List.drop_eq_nil_of_le h, List.append_nil]
theorem mapTo_len : (mapTo g p xs).length = xs.length := by
  simp [mapTo]; omega
theorem mapTo_opt (i : Nat) : (mapTo g p xs)[i]? = if i < p then (xs[i]?).map g else xs[i]? := by
  unfold mapTo
  by_cases h : i < p
  · rw [if_pos h]
    by_cases hi : i < xs.length
    · rw [List.getElem?_append_left (by simp; omega)]
      simp [h]
    · rw [List.getElem?_eq_none (by simp; omega), List.getElem?_eq_none (by omega)]
      rfl
  · rw [if_neg h]
    by_cases hi : i < xs.length
    · rw [List.getElem?_append_right (by simp; omega)]
      simp only [List.getElem?_drop, List.length_map, List.length_take]
      congr 1
      omega
    · rw [List.getElem?_eq_none (by simp; omega), List.getElem?_eq_none (by omega)]
theorem mapTo_get [Inhabited α] : (mapTo g p xs)[p]! = xs[p]! := by
  rw [List.getElem!_eq_getElem?_getD, List.getElem!_eq_getElem?_getD, mapTo_opt, if_neg (Nat.lt_irrefl p)]
theorem mapTo_set [Inhabited α] (h : p < xs.length) : (mapTo g p xs).set p (g xs[p]!) = mapTo g (p + 1) xs := by
  rw [getElem!_pos xs p h]
  apply List.ext_getElem?
  intro i
  rw [List.getElem?_set, mapTo_opt, mapTo_opt, mapTo_len]
  by_cases e : p = i
  · subst e
    rw [if_pos rfl, if_pos h, if_pos (by omega), List.getElem?_eq_getElem h]
    rfl
  · rw [if_neg e]
    by_cases hi : i < p
    · rw [if_pos hi, if_pos (by omega)]
    · rw [if_neg hi, if_neg (by omega)]
end
theorem flat_set2 {α : Type} {g : α → List Value} (hg : ∀ x, (g x).length = 2) {y : α} {a b : Value} (hy : g y = [a, b]) : ∀ {l : List α} {k : Nat}, k < l.length → ((l.flatMap g).set (k * 2) a).set (k * 2 + 1) b = (l.set k y).flatMap g := by
  intro l
  induction l with
  | nil => intro k h; simp at h
  | cons x l ih =>
    intro k h
    have hx := hg x
    obtain ⟨u, v, e⟩ : ∃ u v, g x = [u, v] := by
      match hgx : g x, hx with
      | [u, v], _ => exact ⟨u, v, rfl⟩
    cases k with
    | zero => simp [List.flatMap_cons, e, hy]
    | succ k =>
      rw [show (k + 1) * 2 = k * 2 + 1 + 1 by omega]
      simp only [List.flatMap_cons, e, List.cons_append, List.nil_append, List.set_cons_succ]
      rw [ih (by simpa using h)]
theorem own_off {w : World} {base : Nat} {e : TypeId} {size n c b o m : Nat} {xs : List Value} (h : w.ownsRow base e size (.slice (some ⟨b, o, none⟩) n c) m xs) : o = 0 := by
  rcases h.2 with ⟨h', _⟩ | ⟨g', cap', cur, h', _⟩
  · simp at h'
  · simp only [Value.slice.injEq, Option.some.injEq, Addr.mk.injEq, and_true] at h'
    exact h'.1.2
theorem own_fz {w : World} {base : Nat} {e : TypeId} {size n c b m : Nat} {xs : List Value} (h : w.ownsRow base e size (.slice (some ⟨b, 0, none⟩) n c) m xs) (j : Nat) : w.frozen? ⟨b, j, none⟩ = false := by
  rcases h.2 with ⟨h', _⟩ | ⟨g', cap', cur, h', _, hg, _⟩
  · simp at h'
  · have e1 : b = g' := by
      have h2 := congrArg Value.ownBlock h'
      simpa [Value.ownBlock] using h2
    subst e1
    exact frozen_of_row w b j cur e hg
/-- A change of one factor of the new row. -/
theorem PR.set {X bx : Nat} {i : Int} {j c N : Nat} {xs : List Rat} {w : World} {y : Rat} (h : PR X i (.slice (some ⟨bx, 0, none⟩) N c) N xs w) (hj : j < xs.length) :
    X < bx ∧ PR X i (.slice (some ⟨bx, 0, none⟩) N c) N (xs.set j y) ((w.setCell ⟨bx, j * 2, none⟩ (.int .i64 y.num)).setCell ⟨bx, j * 2 + 1, none⟩ (.int .i64 y.den)) := by
  have hb : X < bx := by
    have := (h.own.lt bx rfl).1
    omega
  refine ⟨hb, ?_, ?_⟩
  · rw [heap_setCell_other _ _ _ _ (by show X ≠ bx; omega), heap_setCell_other _ _ _ _ (by show X ≠ bx; omega)]
    exact h.row
  · have h2 := (World.ownsRow.stored (World.ownsRow.stored h.own (j * 2) (.int .i64 y.num)).1 (j * 2 + 1) (.int .i64 y.den)).1
    rw [flat_set2 frC_len (y := y) rfl hj] at h2
    exact h2
theorem mem_set_of {α : Type} {l : List α} {k : Nat} {y r : α} (h : r ∈ l.set k y) : r ∈ l ∨ r = y := List.mem_or_eq_of_mem_set h
/-- A row is put in the place of another. -/
theorem SvIn.set {base N n c g l : Nat} {w : World} {vs : List RwV} {r : RwV} (h : SvIn base w N (.slice (some ⟨g, 0, none⟩) n c) vs) (hn : vs.length = n) (hl : l < vs.length)
    (ho : w.ownsRow base 110 2 (.slice r.a N r.c) N (r.x.flatMap frC)) (hs : (Value.slice r.a N r.c).ownBlock ≠ some g) :
    SvIn base ((w.setCell ⟨g, l * 2, none⟩ (.int .i64 r.i)).setCell ⟨g, l * 2 + 1, none⟩ (.slice r.a N r.c)) N (.slice (some ⟨g, 0, none⟩) n c) (vs.set l r) := by
  subst hn
  refine ⟨?_, ?_, ?_⟩
  · have h2 := (World.ownsRow.stored (World.ownsRow.stored h.own (l * 2) (.int .i64 r.i)).1 (l * 2 + 1) (.slice r.a N r.c)).1
    rw [flat_set2 (RwV.clen N) (y := r) rfl hl] at h2
    rw [List.length_set]
    exact h2
  · intro q hq
    rcases mem_set_of hq with hq | rfl
    · have hne : (Value.slice q.a N q.c).ownBlock ≠ some g := by
        rcases h.sep q hq with e | e
        · cases e
        · exact e
      exact ownsRow_setCell_other (ownsRow_setCell_other (h.each q hq) (a := ⟨g, l * 2, none⟩) hne _) (a := ⟨g, l * 2 + 1, none⟩) hne _
    · exact ownsRow_setCell_other (ownsRow_setCell_other ho (a := ⟨g, l * 2, none⟩) hs _) (a := ⟨g, l * 2 + 1, none⟩) hs _
  · intro q hq
    rcases mem_set_of hq with hq | rfl
    · exact h.sep q hq
    · exact .inr hs
/-- A row is put behind the others. -/
theorem SvIn.push {base N n : Nat} {w w9 : World} {v v' : Value} {vs : List RwV} {r : RwV} (h : SvIn base w N v vs) (hn : vs.length = n)
    (ho : w.ownsRow base 110 2 (.slice r.a N r.c) N (r.x.flatMap frC)) (hs : (Value.slice r.a N r.c).ownBlock = none ∨ (Value.slice r.a N r.c).ownBlock ≠ v.ownBlock)
    (ho9 : w9.ownsRow base 99 2 v' (n + 1) (vs.flatMap (RwV.cells N) ++ r.cells N)) (hg : w.grownBy w9 v.ownBlock) (hat : v'.ownBlock = v.ownBlock ∨ v'.ownBlock = some w.heap.size) :
    SvIn base w9 N v' (vs ++ [r]) := by
  subst hn
  have key : ∀ q : RwV, w.ownsRow base 110 2 (.slice q.a N q.c) N (q.x.flatMap frC) → ((Value.slice q.a N q.c).ownBlock = none ∨ (Value.slice q.a N q.c).ownBlock ≠ v.ownBlock) →
      w9.ownsRow base 110 2 (.slice q.a N q.c) N (q.x.flatMap frC) ∧ (v'.ownBlock = none ∨ (Value.slice q.a N q.c).ownBlock ≠ v'.ownBlock) := by
    intro q h1 h2
    refine ⟨h1.kept hg h2, ?_⟩
    rcases hat with e | e
    · rw [e]
      rcases h2 with h2 | h2
      · rw [h2]
        cases v.ownBlock with
        | none => exact .inl rfl
        | some z => exact .inr (by simp)
      · exact .inr h2
    · refine .inr fun e2 => ?_
      rw [e] at e2
      have := (h1.lt _ e2).2
      omega
  have sep' : ∀ q ∈ vs, (Value.slice q.a N q.c).ownBlock = none ∨ (Value.slice q.a N q.c).ownBlock ≠ v.ownBlock := by
    intro q hq
    rcases h.sep q hq with e | e
    · rw [e]
      cases hb : (Value.slice q.a N q.c).ownBlock with
      | none => exact .inl rfl
      | some z => exact .inr (by simp)
    · exact .inr e
  refine ⟨by simpa using ho9, ?_, ?_⟩
  · intro q hq
    rcases List.mem_append.1 hq with hq | hq
    · exact (key q (h.each q hq) (sep' q hq)).1
    · rw [List.mem_singleton.1 hq]
      exact (key r ho hs).1
  · intro q hq
    rcases List.mem_append.1 hq with hq | hq
    · exact (key q (h.each q hq) (sep' q hq)).2
    · rw [List.mem_singleton.1 hq]
      exact (key r ho hs).2
end Go.Proofs.Ytimhkkijoelmhaa
