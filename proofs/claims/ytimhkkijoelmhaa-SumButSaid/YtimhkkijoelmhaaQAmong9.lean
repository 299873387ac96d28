/- What is kept by worlds that only grew: boxes and rows. For any program. -/
import Derived.OwnWalkIn
import Derived.RangeFuncBox
import Derived.RangeFuncNested
import Derived.Shelf.Abstract
import Derived.Test.YtimhkkijoelmhaaQRegGr
namespace Go.Proofs.Ytimhkkijoelmhaa
open Go.RowKit Go.Shelf
theorem grown_of_gr {w w' : World} (g : Gr w w') : w.grownBy w' none := ⟨g.os, g.tape, g.output, Gr.size g, fun _ hi _ => Gr.heap g hi⟩
theorem boxed_gr {W W' : World} {B : Nat} {t : TypeId} {v : Value} (h : Boxed W B t v) (g : Gr W W') : Boxed W' B t v := h.kept (grown_of_gr g) (by simp)
theorem keeps_of_gr {W W' : World} (g : Gr W W') : KeepsOthers W W' := KeepsOthers.of_grownBy (grown_of_gr g) (fun j o e _ => by cases e)
theorem row_kept {W W' : World} {B : Nat} {C : Array Value} {t : TypeId} {z : Nat × Nat} {row : Option Nat} (h : W.heap[B]? = some (.cells C t z)) (hg : W.grownBy W' row) (hr : ∀ r, row = some r → ∃ o : Obj, W.heap[r]? = some o ∧ o.isCells = false) : W'.heap[B]? = some (.cells C t z) := by
  refine (hg.block B (Array.getElem?_eq_some_iff.1 h).1 (fun e' => ?_)).trans h
  obtain ⟨o, ho, hc⟩ := hr B e'.symm
  rw [h] at ho
  cases ho
  cases hc
end Go.Proofs.Ytimhkkijoelmhaa
