/- A region that draws its order, that reads, and whose calls may make memory: walked once, in the order of the text. For any program. -/
import Derived.Test.YtimhkkijoelmhaaBase
import Derived.BigQuiet
import Derived.Deep.QuietTactic
namespace Go.Proofs.Ytimhkkijoelmhaa
open Go.RowKit

/-- A world that grew out of w. -/
structure GrW (w : World) where
  W : World
  gr : Gr w W
instance (w : World) : Inhabited (GrW w) := ⟨⟨w, Gr.refl w⟩⟩
theorem wp_region_gr {P : Program} {id : Nat} {Q : Exit → Act → World → Prop} {a : Act} {w : World} {l : List Oper} (hm : P.follows .mixedOrders = true) (hB : Region.lexB .any l.toArray = true)
    (h : wpQuiet P l.toArray (fun w' => ∃ p : GrW w, w' = p.W) (fun a' => ∀ w', (∃ p : GrW w, w' = p.W) → Q .normal a' w') l a) : (Code.region id l.toArray true).wp P Q a w :=
  wp_region_quiet (C := fun w' => ∃ p : GrW w, w' = p.W) hm hB ⟨⟨_, (Gr.refl w).drew⟩, rfl⟩ (by simpa using h)
section
variable {P : Program} {f : FuncId} {args : Array Value} {w : World} {v : Value}
theorem calls_gr {p : GrW w} (h : Calls P f args p.W fun e w' => e = .returned v ∧ Gr p.W w') : Calls P f args p.W fun e w'' => e = .returned v ∧ ∃ p' : GrW w, w'' = p'.W :=
  h.mono fun _ w' ⟨he, hg⟩ => ⟨he, ⟨w', p.gr.trans hg⟩, rfl⟩
theorem calls_gr_same {p : GrW w} (h : Calls P f args p.W fun e w' => e = .returned v ∧ p.W = w') : Calls P f args p.W fun e w'' => e = .returned v ∧ ∃ p' : GrW w, w'' = p'.W :=
  h.mono fun _ _ ⟨he, hg⟩ => ⟨he, p, hg.symm⟩
theorem GrW.cell {b o : Nat} (h : w.cell? ⟨b, o, none⟩ = some v) (p : GrW w) : p.W.cell? ⟨b, o, none⟩ = some v := (p.gr.cell (block_lt_of_cell h)).trans h
end
end Go.Proofs.Ytimhkkijoelmhaa
