/- Signals that are dealt out to three lists of the call's own. For any program. -/
import Derived.Test.YtliehlefpodhaaaDoorQAnyPure
import Derived.Test.YtliehlefpodhaaaDoorOAppend
import Derived.Test.YtliehlefpodhaaaDoorQTwoOwn
namespace Go.Proofs.YtliehlefpodhaaaDoor
open Go.RowKit Go.Shelf
section
variable {P : Program} (w : World)
theorem wp_append_own_at {o : Oper} {a : Act} {K : Act → World → Prop} {Q : Exit → Act → World → Prop} (s x : Operand) (t : TypeId)
    (ho : o.op = .call { callee := .builtin .append, args := #[s, x], argTypes := #[t, t] })
    (base : Nat) (e : TypeId) (i : TypeInfo) (z : Value) (size bytes : Nat) (ht : P.underlying t = some (.slice e)) (hi : P.info? e = some i) (hz : i.zero = some z)
    (hsize : i.size = size) (hby : i.bytes = bytes) (hzs : z.cells.size = size) (hsz : 0 < size)
    (v : Value) (n : Nat) (xs : List Value) (hs : a.eval s = v) (hown : w.ownsRow base e size v n xs)
    (ad : Addr) (m c : Nat) (news : List Value) (hx : a.eval x = .slice (some ad) m c) (hl : news.length = m * size) (hnews : ∀ j u, news[j]? = some u → w.cell? (ad.add j) = some u) (h1 : ∀ u ∈ news, u.oneCell' = true)
    (h63 : n + m ≤ maxLen) (hbytes : (n + m) * bytes ≤ 140737488355328) (hbase : base ≤ w.heap.size)
    (h : ∀ v' w', w'.ownsRow base e size v' (n + m) (xs ++ news) → w.grownBy w' v.ownBlock → (v'.ownBlock = v.ownBlock ∨ v'.ownBlock = some w.heap.size) → K (a.put o.dst v') w') : o.wp P a w K Q := by
  obtain ⟨v', w', hr, h2, h3, _, h5⟩ := run_append_own_at (P := P) w base t o.type e i z size bytes ht hi hz hsize hby hzs hsz v n xs hown ad m c news hl hnews h1 h63 hbytes hbase
  unfold Oper.wp execOp
  simp only [ho, resolve, invoke, builtin, Sem.run_bind, Sem.run_pure, Result.andThen_ok, List.map_toArray, List.map_cons, List.map_nil, hs, hx, hr]
  exact h v' w' h2 h3 h5
end
/-- Three lists of the call's own, in a row of three. -/
structure Parts (W : World) (b base : Nat) (T e : TypeId) (S : Nat → Value) (l : Nat → List Sig) : Prop where
  row : VBlk W b T 3 S
  lt : b < base
  own : ∀ k, k < 3 → W.ownsRow base e 6 (S k) (l k).length ((l k).flatMap Sig.cells)
  ne : ∀ j k, j < 3 → k < 3 → j ≠ k → ∀ q, (S j).ownBlock = some q → (S k).ownBlock = some q → False
theorem Parts.gr {W W' : World} {b base : Nat} {T e : TypeId} {S : Nat → Value} {l : Nat → List Sig} (h : Parts W b base T e S l) (g : Gr W W') : Parts W' b base T e S l :=
  ⟨h.row.gr g, h.lt, fun k hk => ownT_gr (h.own k hk) g, h.ne⟩
theorem Parts.congr {W : World} {b base : Nat} {T e : TypeId} {S : Nat → Value} {l l' : Nat → List Sig} (h : Parts W b base T e S l) (hl : ∀ k, k < 3 → l k = l' k) : Parts W b base T e S l' :=
  ⟨h.row, h.lt, fun k hk => by rw [← hl k hk]; exact h.own k hk, h.ne⟩
theorem Parts.row9 {W W1 w9 : World} {b base : Nat} {T e : TypeId} {S : Nat → Value} {l : Nat → List Sig} (h : Parts W b base T e S l) {k : Nat} (hk : k < 3) (g1 : Gr W W1) (hg : W1.grownBy w9 (S k).ownBlock) : VBlk w9 b T 3 S :=
  (h.row.gr g1).keep (hg.block b (by have := g1.size; have := h.row.lt; omega) (fun e1 => by have := ((h.own k hk).lt b e1.symm).1; have := h.lt; omega))
theorem and_one_small : ∀ e : Nat, e ≤ 7 → bits BinOp.and IntKind.u32 (e : Int) 1 = ((e % 2 : Nat) : Int)
  | 0, _ => by decide
  | 1, _ => by decide
  | 2, _ => by decide
  | 3, _ => by decide
  | 4, _ => by decide
  | 5, _ => by decide
  | 6, _ => by decide
  | 7, _ => by decide
theorem bit_at {s j : Nat} (hs : s ≤ 7) : bits BinOp.and IntKind.u32 ((s : Int) / 2 ^ j) 1 = ((s / 2 ^ j % 2 : Nat) : Int) := by
  have h := and_one_small (s / 2 ^ j) (Nat.le_trans (Nat.div_le_self _ _) hs)
  rw [← h]
  congr 1
theorem Parts.push {W W1 w9 : World} {b base : Nat} {T e : TypeId} {S : Nat → Value} {l : Nat → List Sig} (h : Parts W b base T e S l) {k : Nat} (hk : k < 3) (g1 : Gr W W1) {v' : Value} {x : Sig}
    (hown : w9.ownsRow base e 6 v' ((l k).length + 1) ((l k).flatMap Sig.cells ++ x.cells)) (hg : W1.grownBy w9 (S k).ownBlock) (hat : v'.ownBlock = (S k).ownBlock ∨ v'.ownBlock = some W1.heap.size) :
    Parts (w9.setCell ⟨b, k, none⟩ v') b base T e (fun j => if j = k then v' else S j) (fun j => if j = k then l k ++ [x] else l j) := by
  have hz := g1.size
  have hbl := h.row.lt
  have hlt := fun j hj q e1 => (h.own j hj).lt q e1
  have far : ∀ {v : Value} {n : Nat} {xs : List Value}, w9.ownsRow base e 6 v n xs → (w9.setCell ⟨b, k, none⟩ v').ownsRow base e 6 v n xs := by
    intro v n xs ho
    refine ⟨ho.1, ?_⟩
    rcases ho.2 with h0 | ⟨g, cap, cur, h1, h2, h3, h4⟩
    · exact .inl h0
    · exact .inr ⟨g, cap, cur, h1, h2, by rw [Below.heap_setCell _ _ _ _ (by show g ≠ b; have := h.lt; omega)]; exact h3, h4⟩
  have hrow9 : VBlk w9 b T 3 S := (h.row.gr g1).keep (hg.block b (by omega) (fun e1 => by have := (hlt k hk b e1.symm).1; have := h.lt; omega))
  refine ⟨hrow9.set_ k v', h.lt, fun j hj => ?_, fun i j hi hj hij q e1 e2 => ?_⟩
  · by_cases e1 : j = k
    · subst e1
      simp only [if_true]
      have := far hown
      rw [List.length_append, List.flatMap_append]
      simpa using this
    · simp only [if_neg e1]
      refine far ((ownT_gr (h.own j hj) g1).kept hg ?_)
      cases e2 : (S j).ownBlock with
      | none => exact .inl rfl
      | some q => exact .inr (fun e3 => h.ne j k hj hk e1 q e2 e3.symm)
  · by_cases c1 : i = k
    · have c2 : j ≠ k := fun c2 => hij (c1.trans c2.symm)
      simp only [if_pos c1] at e1
      simp only [if_neg c2] at e2
      rcases hat with c3 | c3
      · exact h.ne k j hk hj (fun c => c2 c.symm) q (c3.symm.trans e1) e2
      · have := (hlt j hj q e2).2
        rw [c3] at e1
        cases e1
        omega
    · by_cases c2 : j = k
      · simp only [if_neg c1] at e1
        simp only [if_pos c2] at e2
        rcases hat with c3 | c3
        · exact h.ne i k hi hk c1 q e1 (c3.symm.trans e2)
        · have := (hlt i hi q e1).2
          rw [c3] at e2
          cases e2
          omega
      · simp only [if_neg c1] at e1
        simp only [if_neg c2] at e2
        exact h.ne i j hi hj hij q e1 e2
/-- The world of the call behind it. -/
theorem Parts.push_gr {w0 W W1 w9 : World} {b base k : Nat} {T e : TypeId} {S : Nat → Value} {l : Nat → List Sig} (h : Parts W b base T e S l) (hk : k < 3) (hb : w0.heap.size ≤ b) (g0 : Gr w0 W) (g1 : Gr W W1) (v' : Value)
    (hg : W1.grownBy w9 (S k).ownBlock) : Gr w0 (w9.setCell ⟨b, k, none⟩ v') := by
  have h1 := g0.size
  have h2 := g1.size
  have h3 := h.lt
  exact ((show Below w0.heap.size w0 W1 from g0.trans g1).grown hg (by omega) (fun q e1 => by have := ((h.own k hk).lt q e1).1; omega)).setCell (show w0.heap.size ≤ b from hb) v'

/-- The choice at a place. -/
def choZ (us : List Int) (i : Nat) : Int := if i < us.length then us[i]! else 0
def setN (us : List Int) (i : Nat) : Nat := (choZ us i % 7 + 1).toNat
theorem setN_in (us : List Int) (i : Nat) : 1 ≤ setN us i ∧ setN us i ≤ 7 := by unfold setN; omega
theorem choZ_in {us : List Int} (h : ∀ z ∈ us, 0 ≤ z ∧ z ≤ 4294967295) (i : Nat) : 0 ≤ choZ us i ∧ choZ us i ≤ 4294967295 := by
  unfold choZ
  split
  · rename_i hi
    rw [getElem!_pos us i hi]
    exact h _ (List.getElem_mem hi)
  · omega
end Go.Proofs.YtliehlefpodhaaaDoor
