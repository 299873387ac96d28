/- What open of the package sum is made of: its loop's things, its maps. -/
import Derived.Laws.EntriesVeiled
import Derived.Test.YtimhkkijoelmhaaQCheck10
import Derived.Test.YtimhkkijoelmhaaQOrd10
import Derived.Test.YtimhkkijoelmhaaQOrdered10
import Derived.Test.YtimhkkijoelmhaaQLow10
import Derived.Test.YtimhkkijoelmhaaQAudit10
import Derived.Test.YtimhkkijoelmhaaQMapRg10
namespace Go.Proofs.Ytimhkkijoelmhaa
open Go.RowKit Go.Maps

theorem fresh_any (bk : Nat) (w : World) : Calls Try.prog 81 #[.pointer (some ⟨bk, 0, none⟩)] w fun e w' =>
    e = .returned (.func (.func 100) #[] #[.pointer (some ⟨w.heap.size, 0, none⟩), .pointer (some ⟨w.heap.size + 1, 0, none⟩)]) ∧
      (Gr w w' ∧ w'.heap[w.heap.size]? = some (.cells #[.pointer (some ⟨bk, 0, none⟩)] 81 (0, 0)) ∧ w'.heap[w.heap.size + 1]? = some (.cells #[.func (.func 99) #[] #[]] 147 (0, 0))) := by
  go_enter Try.func81, Try.ntmps81
  go_wp2
  go_ret
  refine ⟨rfl, by (repeat (first | with_reducible exact Gr.refl _ | with_reducible refine Gr.alloc ?_ _ | with_reducible refine Gr.setCell ?_ (by simp) _ | with_reducible refine Gr.setCell ?_ (by simp; omega) _ | with_reducible refine Gr.drew ?_ | with_reducible refine Gr.drewN ?_ _)), ?_⟩
  exact rows2 w _ _
/-- The lines of an open audit: the map of those that are led. -/
def LinesIn (w : World) (ml n m : Nat) (rows : List Rw) : Prop :=
  ∃ f : Int → Option Value, MapIs Try.prog 3 (Value.int .i64) w ml f ∧ (∀ r ∈ rows, ∃ v, f (r.1 : Int) = some v ∧ LnIn w n m v r.2) ∧ (∀ q v, f q = some v → ∃ r ∈ rows, q = (r.1 : Int))
theorem LinesIn.gr {w w' : World} {ml n m : Nat} {rows : List Rw} (h : LinesIn w ml n m rows) (g : Gr w w') : LinesIn w' ml n m rows := by
  obtain ⟨f, h1, h2, h3⟩ := h
  exact ⟨f, h1.gr g, fun r hr => by obtain ⟨v, e, hv⟩ := h2 r hr; exact ⟨v, e, hv.gr g⟩, h3⟩
/-- What a key finds. -/
theorem lines_get {w : World} {n m : Nat} {rows : List Rw} {f : Int → Option Value} (h2 : ∀ r ∈ rows, ∃ v, f (r.1 : Int) = some v ∧ LnIn w n m v r.2) (h3 : ∀ q v, f q = some v → ∃ r ∈ rows, q = (r.1 : Int)) (i : Nat) :
    (lookR rows i = none ∧ f (i : Int) = none) ∨ ∃ x v, lookR rows i = some x ∧ f (i : Int) = some v ∧ LnIn w n m v x := by
  cases hl : lookR rows i with
  | none =>
    left
    refine ⟨rfl, ?_⟩
    cases hf : f (i : Int) with
    | none => rfl
    | some v =>
      obtain ⟨r, hr, e⟩ := h3 _ _ hf
      exact absurd (by omega) (lookR_none hl r hr)
  | some x =>
    right
    obtain ⟨v, hv, hL⟩ := h2 _ (lookR_some hl)
    exact ⟨x, v, rfl, hv, hL⟩
theorem zero_line (w : World) : (zeroValue 90).run Try.prog w = .ok (.agg #[.slice none 0 0, .slice none 0 0]) w := by kernel_rfl
theorem zero_int (w : World) : (zeroValue 3).run Try.prog w = .ok (.int .i64 0) w := by kernel_rfl
end Go.Proofs.Ytimhkkijoelmhaa
