/- The map of places that merging keeps, and what stays beside a row that grows. For all signals. -/
import Derived.Test.YtliehlefpodhaaaDoorQMapIs
import Derived.Test.YtliehlefpodhaaaDoorQMergeSort
import Derived.DeepKeys4
import Derived.WalkSpells
namespace Go.Proofs.YtliehlefpodhaaaDoor
open Go.RowKit Go.Shelf Go.Sort Go.Maps

theorem laidOut9 : laidOutB Tryd.prog = true := by kernel_rfl
theorem keyed_pl : Keyed Tryd.prog 104 := Keyed.of_law (deep_law_laid laidOut9 (m := 3) (by omega) (of_decide_eq_true (by kernel_rfl)) (by kernel_rfl) (by rw [Tryd.underlying104]))
theorem key_pl (b i : Int) (hb : 0 ≤ b ∧ b ≤ 9) (hi : 0 ≤ i ∧ i ≤ 999999) : ∃ l, keyOf Tryd.prog 104 (encPl (b, i)) = some l := by
  have w1 : (Lit.int IntKind.i64 b).wf = true := by simp only [Lit.wf, Bool.and_eq_true, decide_eq_true_eq]; exact ⟨by show -9223372036854775808 ≤ b; omega, by show b ≤ 9223372036854775807; omega⟩
  have w2 : (Lit.int IntKind.i64 i).wf = true := by simp only [Lit.wf, Bool.and_eq_true, decide_eq_true_eq]; exact ⟨by show -9223372036854775808 ≤ i; omega, by show i ≤ 9223372036854775807; omega⟩
  unfold keyOf encPl
  simp only [Tryd.underlying104]
  have hI : ∀ (d : Nat) (n : Int), (Lit.int IntKind.i64 n).wf = true → Tryd.prog.keyLits (d + 1) 3 [.int .i64 n] = some [.int .i64 n] := by
    intro d n hn
    unfold Program.keyLits
    simp only [Tryd.underlying3]
    simp [hn]
  have hc3 : Tryd.prog.cellsOf 3 = 1 := by kernel_rfl
  have hc : Tryd.prog.cellsOf 104 = 2 := by kernel_rfl
  have hkt : Tryd.prog.keyType 104 = true := by kernel_rfl
  have hpos : 0 < Tryd.prog.types.size := of_decide_eq_true (by kernel_rfl)
  obtain ⟨m, hm⟩ : ∃ m, Tryd.prog.types.size = m + 1 := ⟨Tryd.prog.types.size - 1, by omega⟩
  have hs : Tryd.prog.keyLits (m + 1 + 1) 104 [.int .i64 b, .int .i64 i] = some [.int .i64 b, .int .i64 i] := by
    unfold Program.keyLits
    simp only [Tryd.underlying104]
    rw [if_pos ⟨by rw [hc]; rfl, by kernel_rfl⟩]
    simp [hc3, hI m b w1, hI m i w2]
  have hfm : Value.formed Tryd.prog 104 (.agg #[.int .i64 b, .int .i64 i]) = true := by
    unfold Value.formed
    simp only [Tryd.underlying104, hc]
    rfl
  rw [hkt, hfm, hm]
  have hs' : Tryd.prog.keyLits (m + 1 + 1) 104 (Value.agg #[Value.int IntKind.i64 b, Value.int IntKind.i64 i]).cells.toList = some [.int .i64 b, .int .i64 i] := hs
  rw [hs']
  exact ⟨_, rfl⟩
/-- What is known at a place. -/
def plF (o : List Sig) (p : Int × Int) : Option Value := (o.find? fun y => p.1 == y.bureau && p.2 == y.id).map Sig.val
theorem plF_at (o : List Sig) (x : Sig) : plF o (x.bureau, x.id) = (o.find? (samePl x)).map Sig.val := rfl
theorem plF_nil (p : Int × Int) : plF [] p = none := rfl
theorem plF_snoc {o : List Sig} {x : Sig} (h : o.find? (samePl x) = none) (p : Int × Int) : (if p = (x.bureau, x.id) then some x.val else plF o p) = plF (o ++ [x]) p := by
  by_cases e : p = (x.bureau, x.id)
  · subst e
    rw [if_pos rfl, plF_at, List.find?_append, h]
    have : [x].find? (samePl x) = some x := by simp [samePl]
    rw [this]; rfl
  · rw [if_neg e]
    unfold plF
    rw [List.find?_append]
    have : [x].find? (fun y => p.1 == y.bureau && p.2 == y.id) = none := by
      rw [List.find?_eq_none]
      intro y hy
      simp at hy
      subst hy
      simp
      intro h1 h2
      exact e (by rw [← h1, ← h2])
    rw [this, Option.or_none]
/-- A block beside a row that grows. -/
theorem beside_row {W W' : World} {base : Nat} {e t : TypeId} {size n h : Nat} {v : Value} {xs : List Value} {cs : Array Value} (hown : W.ownsRow base e size v n xs) (hg : W.grownBy W' v.ownBlock) (hr : W.heap[h]? = some (.cells cs t (0, 0))) (ht : t ≠ e) : W'.heap[h]? = some (.cells cs t (0, 0)) := by
  refine (hg.block h (Array.getElem?_eq_some_iff.1 hr).1 (fun ee => ?_)).trans hr
  rcases hown.2 with ⟨rfl, _⟩ | ⟨g, cap, cur, rfl, _, hgg, _⟩
  · simp [Value.ownBlock] at ee
  · simp [Value.ownBlock] at ee
    subst ee
    rw [hr] at hgg
    simp at hgg
    exact ht hgg.2
theorem mapIs_beside {W W' : World} {k e : TypeId} {κ : Type} {enc : κ → Value} {base size n h : Nat} {v : Value} {xs : List Value} {f : κ → Option Value} (hown : W.ownsRow base e size v n xs) (hg : W.grownBy W' v.ownBlock) (hm : MapIs Tryd.prog k enc W h f) (hb : h < base) : MapIs Tryd.prog k enc W' h f := by
  refine hm.keep (hg.block h hm.lt (fun ee => ?_))
  have := (hown.lt h ee.symm).1
  omega
end Go.Proofs.YtliehlefpodhaaaDoor
