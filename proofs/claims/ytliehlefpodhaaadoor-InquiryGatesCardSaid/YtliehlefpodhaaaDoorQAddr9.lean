/- Where the signals of an argument lie: in memory that is there. For every argument. -/
import Derived.Test.YtliehlefpodhaaaDoorQGate
import Derived.ProofKit
namespace Go.Proofs.YtliehlefpodhaaaDoor
open Go.RowKit

theorem has_lt {P : Program} {w : World} {r : Reach} {base : Nat} {a : Addr} {e : TypeId} {n : Nat} (h : w.has P r base a e n) : a.block < w.heap.size := by
  obtain ⟨_, _, row, cells, hs, _⟩ := h
  unfold World.shape? at hs
  rcases Nat.lt_or_ge a.block w.heap.size with h | h
  · exact h
  · rw [Array.getElem?_eq_none h] at hs
    simp at hs
set_option maxRecDepth 100000 in
theorem cell_addr {w : World} {r : Reach} {base : Nat} {A : Option Addr} {n c : Nat} {t e : TypeId} (ht : Tryd.prog.underlying t = some (.slice e)) (h : Cell.okWide Tryd.prog w r base t (.slice A n c)) : ∀ b o, A = some ⟨b, o, none⟩ → b < w.heap.size := by
  intro b o hA
  subst hA
  unfold Cell.okWide at h
  rw [ht] at h
  unfold Cell.ok at h
  rw [ht] at h
  exact has_lt h.2.2
set_option maxRecDepth 100000 in
theorem gate_addr {w : World} {r : Reach} {base : Nat} {g : Gat} (hv : Value.okWide Tryd.prog w r base 25 g.val) : ∀ b o, g.sa = some ⟨b, o, none⟩ → b < w.heap.size := by
  unfold Value.okWide at hv
  rw [Tryd.underlying25] at hv
  obtain ⟨cs, e, _, ts, hct, _, hall⟩ := hv
  have e' : #[.slice g.la g.ln g.lc, .slice g.sa g.sn g.sc] = cs := by unfold Gat.val at e; injection e
  subst e'
  have hts : Tryd.prog.cellTypes Tryd.prog.depth 25 = some [22, 23] := by kernel_rfl
  obtain rfl := Option.some.inj (hts.symm.trans hct)
  obtain ⟨u, hu, hok⟩ := hall 1 _ rfl
  have hu2 : u = 23 := (Option.some.inj hu).symm
  subst hu2
  exact cell_addr Tryd.underlying23 hok
set_option maxRecDepth 100000 in
theorem sigs_addr {w : World} {r : Reach} {base : Nat} {A : Option Addr} {n c : Nat} (hv : Value.okWide Tryd.prog w r base 23 (.slice A n c)) : ∀ b o, A = some ⟨b, o, none⟩ → b < w.heap.size := by
  unfold Value.okWide at hv
  rw [Tryd.underlying23] at hv
  exact cell_addr Tryd.underlying23 hv
end Go.Proofs.YtliehlefpodhaaaDoor
