/- Two rows of the call's own that grow one after the other, beside an element that was just read. For any program. -/
import Derived.Test.YtliehlefpodhaaaDoorOOwnKept
import Derived.Test.YtliehlefpodhaaaDoorORegGr
import Derived.Maps.AppendAt
namespace Go.Proofs.YtliehlefpodhaaaDoor
open Go.RowKit Go.Shelf

theorem cellsT_at (W : World) (C : Array Value) (t : TypeId) (xs : List Value) (g : Nat) (hg : g = W.heap.size) (h : C.toList = xs) : ∀ j u, xs[j]? = some u → (W.alloc (.cells C t)).cell? ((⟨g, 0, none⟩ : Addr).add j) = some u := by
  subst hg
  exact cellsT_new W C t xs h
/-- Two rows of the call's own, at two places. -/
structure TwoOwn (W : World) (base : Nat) (e : TypeId) (size : Nat) (v : Value) (n : Nat) (xs : List Value) (u : Value) (m : Nat) (ys : List Value) : Prop where
  fst : W.ownsRow base e size v n xs
  snd : W.ownsRow base e size u m ys
  ne : ∀ q, v.ownBlock = some q → u.ownBlock = some q → False
theorem TwoOwn.gr {W W' : World} {base n m size : Nat} {e : TypeId} {v u : Value} {xs ys : List Value} (h : TwoOwn W base e size v n xs u m ys) (g : Gr W W') : TwoOwn W' base e size v n xs u m ys :=
  ⟨ownT_gr h.fst g, ownT_gr h.snd g, h.ne⟩
theorem TwoOwn.symm {W : World} {base n m size : Nat} {e : TypeId} {v u : Value} {xs ys : List Value} (h : TwoOwn W base e size v n xs u m ys) : TwoOwn W base e size u m ys v n xs :=
  ⟨h.snd, h.fst, fun q a b => h.ne q b a⟩
theorem TwoOwn.new (W : World) (base : Nat) (e : TypeId) (size : Nat) : TwoOwn W base e size (.slice none 0 0) 0 [] (.slice none 0 0) 0 [] :=
  ⟨World.ownsRow_nil _ _ _ _, World.ownsRow_nil _ _ _ _, fun _ h => by cases h⟩
/-- In the midst of a round: the rows, and the element in block bx. -/
structure StepF (wo W : World) (bx : Nat) (ox : Obj) (e : TypeId) (size : Nat) (v : Value) (n : Nat) (xs : List Value) (u : Value) (m : Nat) (ys : List Value) : Prop where
  gr : Gr wo W
  two : TwoOwn W wo.heap.size e size v n xs u m ys
  row : W.heap[bx]? = some ox
  low : wo.heap.size ≤ bx
  vne : v.ownBlock ≠ some bx
  une : u.ownBlock ≠ some bx
theorem StepF.start {wo wr : World} {ox : Obj} {e : TypeId} {size n m : Nat} {v u : Value} {xs ys : List Value} (g : Gr wo wr) (h : TwoOwn wr wo.heap.size e size v n xs u m ys) : StepF wo (wr.alloc ox) wr.heap.size ox e size v n xs u m ys :=
  ⟨g.trans ((Gr.refl wr).alloc _), h.gr ((Gr.refl wr).alloc _), heap_alloc_new wr ox, g.size,
    fun e1 => by have := (h.fst.lt _ e1).2; omega, fun e1 => by have := (h.snd.lt _ e1).2; omega⟩
theorem StepF.symm {wo W : World} {bx : Nat} {ox : Obj} {e : TypeId} {size n m : Nat} {v u : Value} {xs ys : List Value} (h : StepF wo W bx ox e size v n xs u m ys) : StepF wo W bx ox e size u m ys v n xs :=
  ⟨h.gr, h.two.symm, h.row, h.low, h.une, h.vne⟩
theorem StepF.lt {wo W : World} {bx : Nat} {ox : Obj} {e : TypeId} {size n m : Nat} {v u : Value} {xs ys : List Value} (h : StepF wo W bx ox e size v n xs u m ys) : bx < W.heap.size :=
  (Array.getElem?_eq_some_iff.1 h.row).1
/-- Behind an append to the first row, of an element that was laid for it. -/
theorem StepF.push {wo W W9 : World} {bx : Nat} {ox oz : Obj} {e : TypeId} {size n m n' : Nat} {v v' u : Value} {xs xs' ys : List Value} (h : StepF wo W bx ox e size v n xs u m ys)
    (hown : W9.ownsRow wo.heap.size e size v' n' xs') (hg : (W.alloc oz).grownBy W9 v.ownBlock) (hat : v'.ownBlock = v.ownBlock ∨ v'.ownBlock = some (W.alloc oz).heap.size) : StepF wo W9 bx ox e size v' n' xs' u m ys := by
  have hsz : (W.alloc oz).heap.size = W.heap.size + 1 := by simp
  have hlt := h.lt
  have hs := h.gr.size
  have hu := fun q e1 => (h.two.snd.lt q e1).2
  have gW : Gr W (W.alloc oz) := (Gr.refl W).alloc _
  refine ⟨?_, ⟨hown, ?_, ?_⟩, ?_, h.low, ?_, h.une⟩
  · exact (show Below wo.heap.size wo (W.alloc oz) from h.gr.trans gW).grown hg (by omega) (fun q e1 => (h.two.fst.lt q e1).1)
  · refine (ownT_gr h.two.snd gW).kept hg ?_
    cases e1 : u.ownBlock with
    | none => exact .inl rfl
    | some q => exact .inr (fun e2 => h.two.ne q e2.symm e1)
  · intro q e1 e2
    rcases hat with e3 | e3
    · exact h.two.ne q (e3.symm.trans e1) e2
    · have := hu q e2
      rw [e3] at e1
      cases e1
      omega
  · rw [hg.block bx (by omega) (fun e1 => h.vne e1.symm), gW.heap hlt]
    exact h.row
  · intro e1
    rcases hat with e3 | e3
    · exact h.vne (e3.symm.trans e1)
    · rw [e3] at e1
      cases e1
      omega
end Go.Proofs.YtliehlefpodhaaaDoor
