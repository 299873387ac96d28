/- How places agree, in the reference. For all valid stays. -/
import Derived.Deep.LoopGhost
import Derived.IntWalk
import Derived.WalkLawsBesides
import Derived.Test.YtlkjimfkapcenaaGreatDoorQEditsTop
import Derived.Test.YtlkjimfkapcenaaGreatDoorQRegGr
namespace Go.Proofs.YtlkjimfkapcenaaGreatDoor
open Go.RowKit

/-- A stay's days are days. -/
def Rng (s : Sty) : Prop := 0 ≤ s.from_ ∧ s.from_ ≤ 100000 ∧ 0 ≤ s.to_ ∧ s.to_ ≤ 100000
/-- Whether two stays are at one place, and overlap enough. -/
def hitB (t : Int) (o s : Sty) : Bool := decide (o.place = s.place) && overB t s o
theorem places_hit {t : Int} {xs ys : List Sty} {i k : Nat} (hi : i < xs.length) (hk : k < ys.length) (h : hitB t xs[i]! ys[k]! = true) : placesN t xs ys = 3 := by
  unfold placesN
  rw [if_pos]
  rw [placesB_iff]
  simp only [hitB, Bool.and_eq_true, decide_eq_true_eq] at h
  exact ⟨_, mem_get hk, _, mem_get hi, h.1, h.2⟩
theorem places_miss {t : Int} {xs ys : List Sty} (h : ∀ i, i < xs.length → ∀ k, k < ys.length → hitB t xs[i]! ys[k]! = false) : placesN t xs ys = 1 := by
  unfold placesN
  rw [if_neg]
  rw [placesB_iff]
  rintro ⟨s, hs, o, ho, e, hv⟩
  obtain ⟨k, hk, rfl⟩ := List.getElem_of_mem hs
  obtain ⟨i, hi, rfl⟩ := List.getElem_of_mem ho
  have := h i hi k hk
  rw [getElem!_pos xs i hi, getElem!_pos ys k hk] at this
  simp [hitB, e, hv] at this

end Go.Proofs.YtlkjimfkapcenaaGreatDoor
