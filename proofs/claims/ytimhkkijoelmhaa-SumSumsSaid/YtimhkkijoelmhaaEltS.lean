/- slices.Values at subjects; what a row of subjects reads as. (Printed by gen_sumkit.py.) -/
import Derived.Test.YtimhkkijoelmhaaProg
import Derived.Test.YtimhkkijoelmhaaSumSpec
import Derived.RangeFuncBox
import Derived.RangeFuncLeaves
import Derived.Shelf.Abstract
import Derived.OwnWalkIn
import Derived.TacticsInMore
import Derived.LoopNIn
import Derived.LoopIn
namespace Go.Proofs.Ytimhkkijoelmhaa
open Go.RowKit Go.Shelf
attribute [local go_sem] Oper.semAt_some

def sq_upto {α : Type} (f : Nat → α) (k : Nat) : List α := (List.range k).map f
theorem sq_upto_succ {α : Type} (f : Nat → α) (k : Nat) : sq_upto f (k + 1) = sq_upto f k ++ [f k] := by simp [sq_upto, List.range_succ]
theorem sq_upto_length {α : Type} (f : Nat → α) (k : Nat) : (sq_upto f k).length = k := by simp [sq_upto]
theorem sq_upto_all {α : Type} (d : α) (zs : List α) : sq_upto (fun j => zs[j]?.getD d) zs.length = zs := by
  apply List.ext_getElem
  · simp [sq_upto]
  · intro i h1 h2
    simp [sq_upto, h2]
theorem sq_upto_take {α : Type} (d : α) (zs : List α) {k : Nat} (hk : k ≤ zs.length) : sq_upto (fun j => zs[j]?.getD d) k = zs.take k := by
  apply List.ext_getElem
  · simp [sq_upto, hk]
  · intro i h1 h2
    have : i < zs.length := by simp [sq_upto] at h1; omega
    simp [sq_upto, this]
theorem Sbj.one (e : Sbj) : ∀ v ∈ e.cells, v.oneCell' = true := by
  intro v hv
  simp [Sbj.cells] at hv
  rcases hv with rfl | rfl <;> rfl

/-- Two cells from o on hold the element. -/
def Holds2 (W : World) (b o : Nat) (e : Sbj) : Prop := ∀ j u, e.cells[j]? = some u → W.cell? ⟨b, o + j, none⟩ = some u
theorem Holds2.all {W : World} {b o : Nat} {e : Sbj} (h : Holds2 W b o e) : W.cell? ⟨b, o, none⟩ = some (.int .i64 e.id) ∧ W.cell? ⟨b, o + 1, none⟩ = some (.slice e.a e.n e.c) := ⟨h 0 _ rfl, h 1 _ rfl⟩
theorem Holds2.below {n₀ : Nat} {W W' : World} {b o : Nat} {e : Sbj} (h : Holds2 W b o e) (g : Below n₀ W W') (hb : b < n₀) : Holds2 W' b o e := fun j u hu => (g.cell (p := ⟨b, o + j, none⟩) hb).trans (h j u hu)

set_option maxRecDepth 100000 in
set_option maxHeartbeats 2000000 in
theorem sr_values1_in (f : Nat → Sbj) (F : Fence) (n : Nat) (h7 : F.fn 95) (hro : F.round = none) (hn : 1 ≤ n) (l Bs n₀ : Nat) (A : Option Addr) (len cap : Nat) (hreach : len * 16 ≤ 140737488351232) (J Jx : List Sbj → World → Prop)
    (hJa : ∀ pre W o, J pre W → J pre (W.alloc o))
    (hY : ∀ pre x W, J pre W → pre.length < len → YieldAt F (n - 1) Try.prog l #[x.val] W fun e W' =>
      (e = .returned (.bool true) ∧ J (pre ++ [x]) W' ∧ Below n₀ W W') ∨ (e = .returned (.bool false) ∧ Jx (pre ++ [x]) W'))
    (W : World) (hn₀ : n₀ ≤ W.heap.size) (hBs : W.cell? ⟨Bs, 0, none⟩ = some (.slice A len cap)) (hA : 0 < len → ∃ b off, A = some ⟨b, off, none⟩ ∧ b < n₀ ∧ ∀ j, j < len → Holds2 W b (off + j * 2) (f j)) (h0 : J [] W) :
    CallsIn F n Try.prog 95 #[.func (.yield l) #[] #[], .pointer (some ⟨Bs, 0, none⟩)] W fun e W' => (∃ v, e = .returned v) ∧
      ((∃ ys, ys = sq_upto f len ∧ J ys W') ∨ (∃ pre, (∃ k, k ≤ len ∧ pre = sq_upto f k) ∧ Jx pre W')) := by
  refine callsIn_of_wp Try.func95 rfl h7 ?_ hro
  simp only [Try.ntmps95, List.size_toArray, List.length_cons, List.length_nil, Nat.reduceAdd, Nat.reduceSub, Array.replicate_succ, Array.replicate_zero, List.push_toArray, List.append_toArray, List.nil_append, List.cons_append]
  gi_wp2
  gi_loopw [7] (fun i wr => ∃ k : Nat, k ≤ len ∧ i = .int .i64 k ∧ J (sq_upto f k) wr ∧ Below n₀ W wr)
    (fun i _ => len - (intOf i).toNat)
  case atStart => exact ⟨0, Nat.zero_le _, rfl, h0, Below.refl _ _⟩
  case round =>
    obtain ⟨k, hk, rfl, hJs, hnx⟩ := hrel
    by_cases hlt : k < len
    · obtain ⟨b, off, rfl, hb, hc⟩ := hA (by omega)
      obtain ⟨c0, c1⟩ := ((hc k hlt).below hnx hb).all
      obtain ⟨fn, tmps, assign, body, hy, hR⟩ := hY _ (f k) (wr.alloc (.cells (f k).cells.toArray 60)) (hJa _ _ _ hJs) (by rw [sq_upto_length]; exact hlt)
      have HR := hid hR
      have HN := hid (hnx.trans ((Below.refl n₀ wr).alloc (Nat.le_trans hn₀ hnx.size) (.cells (f k).cells.toArray 60)))
      clear hR hJs hnx hY hc hA
      have HF : Hid (sq_upto f (k + 1) = sq_upto f k ++ [f k]) := sq_upto_succ f k
      unfold Sbj.val at hy
      unfold Sbj.cells at hy HR HN
      generalize hfk : f k = x at *
      obtain ⟨id, A, n1, c', vs⟩ := x
      dsimp only at *
      gi_wp2
      refine HR.out.mono ?_
      rintro e W3 (⟨rfl, hJ3, hk3⟩ | ⟨rfl, hJx3⟩)
      · gi_wp2
        go_roundw
        case rel => exact ⟨k + 1, by omega, by simp, by rw [HF.out]; exact hJ3, HN.out.trans hk3⟩
        case measure => simp [intOf]; omega
      · gi_wp2
        refine bodyPost_ret (results_none rfl _ _ _) rfl ?_
        exact ⟨⟨_, rfl⟩, .inr ⟨_, ⟨k + 1, by omega, HF.out.symm⟩, hJx3⟩⟩
    · obtain rfl : k = len := by omega
      gi_wp2
      go_end0
      exact ⟨⟨_, rfl⟩, .inl ⟨_, rfl, hJs⟩⟩

/-- A slice that reads as these elements. -/
def RdE (W : World) (A : Option Addr) (n : Nat) (es : List Sbj) : Prop := es.length = n ∧ (0 < n → ∃ b off, A = some ⟨b, off, none⟩ ∧ b < W.heap.size ∧ ∀ j e, es[j]? = some e → Holds2 W b (off + j * 2) e)
theorem RdE.gr {W W' : World} {A : Option Addr} {n : Nat} {es : List Sbj} (h : RdE W A n es) (g : Gr W W') : RdE W' A n es :=
  ⟨h.1, fun hn => by
    obtain ⟨b, off, e, hb, hc⟩ := h.2 hn
    exact ⟨b, off, e, Nat.lt_of_lt_of_le hb g.size, fun j x hx k u hu => (g.cell hb).trans (hc j x hx k u hu)⟩⟩

set_option maxHeartbeats 1000000 in
theorem sr_values_in (F : Fence) (n : Nat) (h5 : F.fn 70) (hro : F.round = none) (a : Option Addr) (len cap : Nat) (w : World) :
    CallsIn F n Try.prog 70 #[.slice a len cap] w fun e w' => e = .returned (.func (.func 95) #[] #[.pointer (some ⟨w.heap.size, 0, none⟩)]) ∧ w' = w.alloc (.cells #[.slice a len cap] 22) := by
  refine callsIn_of_wp Try.func70 rfl h5 ?_ hro
  simp only [Try.ntmps70, List.size_toArray, List.length_cons, List.length_nil, Nat.reduceAdd, Nat.reduceSub, Array.replicate_succ, Array.replicate_zero, List.push_toArray, List.append_toArray, List.nil_append, List.cons_append]
  gi_wp2
  go_ret
  exact ⟨rfl, rfl⟩

theorem sr_values_stops (F : Fence) (n : Nat) (h7 : F.fn 95) (hro : F.round = none) (hn : 1 ≤ n) (Bs n₀ : Nat) (A : Option Addr) (cap : Nat) (zs : List Sbj) (hreach : zs.length * 16 ≤ 140737488351232) (w0 w : World) (hBs : Bs < w.heap.size) (hn₀ : w0.heap.size = n₀) (hg : Gr w0 w)
    (hc : w.cell? ⟨Bs, 0, none⟩ = some (.slice A zs.length cap)) (hI : RdE w0 A zs.length zs) :
    SeqStopsK F n Try.prog 95 #[.pointer (some ⟨Bs, 0, none⟩)] (fun x : Sbj => #[x.val]) (Below n₀) (fun ys => ys = zs) (fun pre => pre <+: zs) zs.length w := fun l J Jx W hW hJ _ hY h0 => by
  subst hn₀
  have hc' := (hW.cell (p := ⟨Bs, 0, none⟩) hBs).trans hc
  have hgW : Gr w0 W := hg.trans hW
  refine (sr_values1_in (fun j => zs[j]?.getD default) F n h7 hro hn l Bs w0.heap.size A zs.length cap hreach J Jx (fun pre V o h => hJ pre V _ none h (World.grownBy_alloc V o none) (fun r e => by cases e)) hY W hgW.size hc' ?_ h0).mono ?_
  · intro hp
    obtain ⟨b, off, e, hb, hh⟩ := hI.2 hp
    refine ⟨b, off, e, hb, fun j hj k u hu => ?_⟩
    rw [hgW.cell hb]
    exact hh j _ (by simp [hj]) k u hu
  · rintro e W' ⟨he, ⟨ys, rfl, hj⟩ | ⟨pre, ⟨k, hk, rfl⟩, hj⟩⟩
    · exact ⟨he, .inl ⟨_, sq_upto_all default zs, hj⟩⟩
    · exact ⟨he, .inr ⟨_, by rw [sq_upto_take default zs hk]; exact List.take_prefix _ _, hj⟩⟩
end Go.Proofs.Ytimhkkijoelmhaa
