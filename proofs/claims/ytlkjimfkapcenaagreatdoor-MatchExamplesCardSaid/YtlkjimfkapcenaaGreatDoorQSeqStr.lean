/- slices.Values at strings: what a loop over it is handed. (Turned from a worked text of the kit at ints.) A record in a row, with where its names and stays lie; slices.Values at records. given of the package match: the iterator over a person's given names. For every record with at least one name. -/
import Derived.LoopIn
import Derived.LoopNIn
import Derived.OwnWalkIn
import Derived.RangeFuncBox
import Derived.RangeFuncLeaves
import Derived.Shelf.Abstract
import Derived.TacticsInMore
import Derived.Test.YtlkjimfkapcenaaGreatDoorQWithin
namespace Go.Proofs.YtlkjimfkapcenaaGreatDoor
open Go.RowKit Go.Shelf
attribute [local go_sem] Oper.semAt_some

def sq_upto {α : Type} (f : Nat → α) (k : Nat) : List α := (List.range k).map f
theorem sq_upto_succ {α : Type} (f : Nat → α) (k : Nat) : sq_upto f (k + 1) = sq_upto f k ++ [f k] := by simp [sq_upto, List.range_succ]
theorem sq_upto_length {α : Type} (f : Nat → α) (k : Nat) : (sq_upto f k).length = k := by simp [sq_upto]
theorem sq_upto_all {α : Type} (d : α) (zs : List α) : sq_upto (fun j => zs[j]?.getD d) zs.length = zs := by
  apply List.ext_getElem
  · simp [sq_upto]
  · intro i h1 h2
    simp [sq_upto, h2]

set_option maxRecDepth 100000 in
set_option maxHeartbeats 2000000 in
theorem sq_values1_in {α : Type} (str : α → ByteArray) (f : Nat → α) (F : Fence) (n : Nat) (h7 : F.fn 102) (hro : F.round = none) (hn : 1 ≤ n) (l Bs n₀ b off len cap : Nat) (hreach : len * 16 ≤ 140737488351232) (hb : b < n₀) (J Jx : List α → World → Prop)
    (hY : ∀ pre x W, J pre W → pre.length < len → YieldAt F (n - 1) Tryz.prog l #[.string (str x)] W fun e W' =>
      (e = .returned (.bool true) ∧ J (pre ++ [x]) W' ∧ Below n₀ W W') ∨ (e = .returned (.bool false) ∧ Jx (pre ++ [x]) W'))
    (W : World) (hBs : W.cell? ⟨Bs, 0, none⟩ = some (.slice (some ⟨b, off, none⟩) len cap)) (hc : ∀ j, j < len → W.cell? ⟨b, off + j, none⟩ = some (.string (str (f j)))) (h0 : J [] W) :
    CallsIn F n Tryz.prog 102 #[.func (.yield l) #[] #[], .pointer (some ⟨Bs, 0, none⟩)] W fun e W' => (∃ v, e = .returned v) ∧
      ((∃ ys, ys = sq_upto f len ∧ J ys W') ∨ (∃ pre, (∃ k, k ≤ len ∧ pre = sq_upto f k) ∧ Jx pre W')) := by
  refine callsIn_of_wp Tryz.func102 rfl h7 ?_ hro
  simp only [Tryz.ntmps102, List.size_toArray, List.length_cons, List.length_nil, Nat.reduceAdd, Nat.reduceSub, Array.replicate_succ, Array.replicate_zero, List.push_toArray, List.append_toArray, List.nil_append, List.cons_append]
  gi_wp2
  gi_loopw [7] (fun i wr => ∃ k : Nat, k ≤ len ∧ i = .int .i64 k ∧ J (sq_upto f k) wr ∧ Below n₀ W wr)
    (fun i _ => len - (intOf i).toNat)
  case atStart => exact ⟨0, Nat.zero_le _, rfl, h0, Below.refl _ _⟩
  case round =>
    obtain ⟨k, hk, rfl, hJs, hnx⟩ := hrel
    have hcx : k < len → wr.cell? ⟨b, off + k, none⟩ = some (.string (str (f k))) := fun h => (hnx.cell (p := ⟨b, off + k, none⟩) hb).trans (hc k h)
    by_cases hlt : k < len
    · obtain ⟨fn, tmps, assign, body, hy, hR⟩ := hY _ (f k) wr hJs (by rw [sq_upto_length]; exact hlt)
      have hcx' := hcx hlt
      gi_wp2
      refine hR.mono ?_
      rintro e W3 (⟨rfl, hJ3, hk3⟩ | ⟨rfl, hJx3⟩)
      · -- THE ROUND GOES ON
        gi_wp2
        go_roundw
        case rel => exact ⟨k + 1, by omega, by simp, by rw [sq_upto_succ]; exact hJ3, hnx.trans hk3⟩
        case measure => simp [intOf]; omega
      · gi_wp2
        refine bodyPost_ret (results_none rfl _ _ _) rfl ?_
        exact ⟨⟨_, rfl⟩, .inr ⟨_, ⟨k + 1, by omega, (sq_upto_succ _ _).symm⟩, hJx3⟩⟩
    · obtain rfl : k = len := by omega
      gi_wp2
      go_end0
      exact ⟨⟨_, rfl⟩, .inl ⟨_, rfl, hJs⟩⟩

theorem sq_upto_take {α : Type} (d : α) (zs : List α) {k : Nat} (hk : k ≤ zs.length) : sq_upto (fun j => zs[j]?.getD d) k = zs.take k := by
  apply List.ext_getElem
  · simp [sq_upto, hk]
  · intro i h1 h2
    have : i < zs.length := by simp [sq_upto] at h1; omega
    simp [sq_upto, this]

def SqStrs {α : Type} (str : α → ByteArray) (d : α) (n₀ : Nat) (W : World) (sv : Value) (zs : List α) : Prop :=
  (sv = .slice none 0 0 ∧ zs = []) ∨ ∃ b off cap, sv = .slice (some ⟨b, off, none⟩) zs.length cap ∧ b < n₀ ∧ ∀ j, j < zs.length → W.cell? ⟨b, off + j, none⟩ = some (.string (str (zs[j]?.getD d)))
theorem SqStrs.below {α : Type} {str : α → ByteArray} {d : α} {n₀ : Nat} {A B : World} (h : Below n₀ A B) {sv : Value} {zs : List α} : SqStrs str d n₀ A sv zs → SqStrs str d n₀ B sv zs
  | .inl e => .inl e
  | .inr ⟨b, off, cap, e, hb, hc⟩ => .inr ⟨b, off, cap, e, hb, fun j hj => (h.cell (p := ⟨b, off + j, none⟩) hb).trans (hc j hj)⟩

set_option maxRecDepth 100000 in
set_option maxHeartbeats 1000000 in
theorem sq_values1_nil_in {α : Type} (F : Fence) (n : Nat) (h7 : F.fn 102) (hro : F.round = none) (l Bs : Nat) (J : List α → World → Prop) (W : World) (hBs : W.cell? ⟨Bs, 0, none⟩ = some (.slice none 0 0)) (h0 : J [] W) :
    CallsIn F n Tryz.prog 102 #[.func (.yield l) #[] #[], .pointer (some ⟨Bs, 0, none⟩)] W fun e W' => (∃ v, e = .returned v) ∧ J [] W' := by
  refine callsIn_of_wp Tryz.func102 rfl h7 ?_ hro
  simp only [Tryz.ntmps102, List.size_toArray, List.length_cons, List.length_nil, Nat.reduceAdd, Nat.reduceSub, Array.replicate_succ, Array.replicate_zero, List.push_toArray, List.append_toArray, List.nil_append, List.cons_append]
  gi_wp2
  gi_loopw [7] (fun i wr => i = .int .i64 0 ∧ J [] wr) (fun _ _ => 0)
  case atStart => exact ⟨rfl, h0⟩
  case round =>
    obtain ⟨rfl, hJs⟩ := hrel
    gi_wp2
    go_end0
    exact ⟨⟨_, rfl⟩, hJs⟩

set_option maxHeartbeats 1000000 in
theorem sq_values_in (F : Fence) (n : Nat) (h5 : F.fn 92) (hro : F.round = none) (a : Option Addr) (len cap : Nat) (w : World) :
    CallsIn F n Tryz.prog 92 #[.slice a len cap] w fun e w' => e = .returned (.func (.func 102) #[] #[.pointer (some ⟨w.heap.size, 0, none⟩)]) ∧ w' = w.alloc (.cells #[.slice a len cap] 36) := by
  refine callsIn_of_wp Tryz.func92 rfl h5 ?_ hro
  simp only [Tryz.ntmps92, List.size_toArray, List.length_cons, List.length_nil, Nat.reduceAdd, Nat.reduceSub, Array.replicate_succ, Array.replicate_zero, List.push_toArray, List.append_toArray, List.nil_append, List.cons_append]
  gi_wp2
  go_ret
  exact ⟨rfl, rfl⟩

theorem sq_values_stops {α : Type} (str : α → ByteArray) (d : α) (F : Fence) (n : Nat) (h7 : F.fn 102) (hro : F.round = none) (hn : 1 ≤ n) (Bs n₀ : Nat) (sv : Value) (zs : List α) (hreach : zs.length * 16 ≤ 140737488351232) (w : World) (hBs : Bs < w.heap.size) (hn₀ : n₀ ≤ w.heap.size)
    (hc : w.cell? ⟨Bs, 0, none⟩ = some sv) (hI : SqStrs str d n₀ w sv zs) :
    SeqStopsK F n Tryz.prog 102 #[.pointer (some ⟨Bs, 0, none⟩)] (fun x : α => #[Value.string (str x)]) (Below n₀) (fun ys => ys = zs) (fun pre => pre <+: zs) zs.length w := fun l J Jx W hW _ _ hY h0 => by
  have hc' := (hW.cell (p := ⟨Bs, 0, none⟩) hBs).trans hc
  rcases hI.below (hW.mono hn₀) with ⟨rfl, rfl⟩ | ⟨b, off, cap, rfl, hb, hcs⟩
  · exact (sq_values1_nil_in F n h7 hro l Bs J W hc' h0).mono fun e W' ⟨he, hj⟩ => ⟨he, .inl ⟨_, rfl, hj⟩⟩
  · refine (sq_values1_in str (fun j => zs[j]?.getD d) F n h7 hro hn l Bs n₀ b off zs.length cap hreach hb J Jx hY W hc' hcs h0).mono ?_
    rintro e W' ⟨he, ⟨ys, rfl, hj⟩ | ⟨pre, ⟨k, hk, rfl⟩, hj⟩⟩
    · exact ⟨he, .inl ⟨_, sq_upto_all d zs, hj⟩⟩
    · exact ⟨he, .inr ⟨_, by rw [sq_upto_take d zs hk]; exact List.take_prefix _ _, hj⟩⟩

end Go.Proofs.YtlkjimfkapcenaaGreatDoor
namespace Go.Proofs.YtlkjimfkapcenaaGreatDoor
open Go.RowKit Go.Shelf
attribute [local go_sem] Oper.semAt_some

structure Elt where
  r : Rcd
  A : Option Addr
  n : Nat
  c : Nat
  B : Option Addr
  m : Nat
  d : Nat
def Elt.cells (e : Elt) : List Value := [.int .i64 e.r.id, .slice e.A e.n e.c, .int .u8 e.r.suffix, .int .i64 e.r.lo, .int .i64 e.r.hi, .string e.r.number, .bool e.r.twin, .slice e.B e.m e.d]
def Elt.val (e : Elt) : Value := .agg e.cells.toArray
instance : Inhabited Elt := ⟨⟨⟨0, [], 0, 0, 0, ⟨#[]⟩, false, []⟩, none, 0, 0, none, 0, 0⟩⟩
theorem Elt.val_rcd (e : Elt) : e.val = e.r.val e.A e.n e.c e.B e.m e.d := rfl
theorem Elt.len (e : Elt) : e.cells.length = 8 := rfl
theorem Elt.one (e : Elt) : ∀ v ∈ e.cells, v.oneCell' = true := by
  intro v hv
  simp [Elt.cells] at hv
  rcases hv with rfl | rfl | rfl | rfl | rfl | rfl | rfl | rfl <;> rfl

/-- Eight cells from o on hold the element. -/
def Holds8 (W : World) (b o : Nat) (e : Elt) : Prop := ∀ j u, e.cells[j]? = some u → W.cell? ⟨b, o + j, none⟩ = some u
theorem Holds8.all {W : World} {b o : Nat} {e : Elt} (h : Holds8 W b o e) :
    W.cell? ⟨b, o, none⟩ = some (.int .i64 e.r.id) ∧ W.cell? ⟨b, o + 1, none⟩ = some (.slice e.A e.n e.c) ∧ W.cell? ⟨b, o + 2, none⟩ = some (.int .u8 e.r.suffix) ∧ W.cell? ⟨b, o + 3, none⟩ = some (.int .i64 e.r.lo) ∧
    W.cell? ⟨b, o + 4, none⟩ = some (.int .i64 e.r.hi) ∧ W.cell? ⟨b, o + 5, none⟩ = some (.string e.r.number) ∧ W.cell? ⟨b, o + 6, none⟩ = some (.bool e.r.twin) ∧ W.cell? ⟨b, o + 7, none⟩ = some (.slice e.B e.m e.d) :=
  ⟨h 0 _ rfl, h 1 _ rfl, h 2 _ rfl, h 3 _ rfl, h 4 _ rfl, h 5 _ rfl, h 6 _ rfl, h 7 _ rfl⟩
theorem Holds8.below {n₀ : Nat} {W W' : World} {b o : Nat} {e : Elt} (h : Holds8 W b o e) (g : Below n₀ W W') (hb : b < n₀) : Holds8 W' b o e := fun j u hu => (g.cell (p := ⟨b, o + j, none⟩) hb).trans (h j u hu)

set_option maxRecDepth 100000 in
set_option maxHeartbeats 2000000 in
theorem sr_values1_in (f : Nat → Elt) (F : Fence) (n : Nat) (h7 : F.fn 75) (hro : F.round = none) (hn : 1 ≤ n) (l Bs n₀ : Nat) (A : Option Addr) (len cap : Nat) (hreach : len * 16 ≤ 140737488351232) (J Jx : List Elt → World → Prop)
    (hJa : ∀ pre W o, J pre W → J pre (W.alloc o))
    (hY : ∀ pre x W, J pre W → pre.length < len → YieldAt F (n - 1) Tryz.prog l #[x.val] W fun e W' =>
      (e = .returned (.bool true) ∧ J (pre ++ [x]) W' ∧ Below n₀ W W') ∨ (e = .returned (.bool false) ∧ Jx (pre ++ [x]) W'))
    (W : World) (hn₀ : n₀ ≤ W.heap.size) (hBs : W.cell? ⟨Bs, 0, none⟩ = some (.slice A len cap)) (hA : 0 < len → ∃ b off, A = some ⟨b, off, none⟩ ∧ b < n₀ ∧ ∀ j, j < len → Holds8 W b (off + j * 8) (f j)) (h0 : J [] W) :
    CallsIn F n Tryz.prog 75 #[.func (.yield l) #[] #[], .pointer (some ⟨Bs, 0, none⟩)] W fun e W' => (∃ v, e = .returned v) ∧
      ((∃ ys, ys = sq_upto f len ∧ J ys W') ∨ (∃ pre, (∃ k, k ≤ len ∧ pre = sq_upto f k) ∧ Jx pre W')) := by
  refine callsIn_of_wp Tryz.func75 rfl h7 ?_ hro
  simp only [Tryz.ntmps75, List.size_toArray, List.length_cons, List.length_nil, Nat.reduceAdd, Nat.reduceSub, Array.replicate_succ, Array.replicate_zero, List.push_toArray, List.append_toArray, List.nil_append, List.cons_append]
  gi_wp2
  gi_loopw [7] (fun i wr => ∃ k : Nat, k ≤ len ∧ i = .int .i64 k ∧ J (sq_upto f k) wr ∧ Below n₀ W wr)
    (fun i _ => len - (intOf i).toNat)
  case atStart => exact ⟨0, Nat.zero_le _, rfl, h0, Below.refl _ _⟩
  case round =>
    obtain ⟨k, hk, rfl, hJs, hnx⟩ := hrel
    by_cases hlt : k < len
    · obtain ⟨b, off, rfl, hb, hc⟩ := hA (by omega)
      obtain ⟨c0, c1, c2, c3, c4, c5, c6, c7⟩ := ((hc k hlt).below hnx hb).all
      obtain ⟨fn, tmps, assign, body, hy, hR⟩ := hY _ (f k) (wr.alloc (.cells (f k).cells.toArray 41)) (hJa _ _ _ hJs) (by rw [sq_upto_length]; exact hlt)
      have HR := hid hR
      have HN := hid (hnx.trans ((Below.refl n₀ wr).alloc (Nat.le_trans hn₀ hnx.size) (.cells (f k).cells.toArray 41)))
      clear hR hJs hnx hY hc hA
      have HF : Hid (sq_upto f (k + 1) = sq_upto f k ++ [f k]) := sq_upto_succ f k
      unfold Elt.val at hy
      unfold Elt.cells at hy HR HN
      generalize hfk : f k = x at *
      obtain ⟨⟨id, names, suf, l1, h1, p, tw, stays⟩, A, n1, c', B, m, d⟩ := x
      dsimp only at *
      gi_wp2
      refine HR.out.mono ?_
      rintro e W3 (⟨rfl, hJ3, hk3⟩ | ⟨rfl, hJx3⟩)
      · gi_wp2
        go_roundw
        case rel => exact ⟨k + 1, by omega, by simp, by rw [HF.out]; exact hJ3, HN.out.trans hk3⟩
        case measure => simp [intOf]; omega
      · gi_wp2
        refine bodyPost_ret (results_none rfl _ _ _) rfl ?_
        exact ⟨⟨_, rfl⟩, .inr ⟨_, ⟨k + 1, by omega, HF.out.symm⟩, hJx3⟩⟩
    · obtain rfl : k = len := by omega
      gi_wp2
      go_end0
      exact ⟨⟨_, rfl⟩, .inl ⟨_, rfl, hJs⟩⟩

/-- A slice that reads as these elements. -/
def RdE (W : World) (A : Option Addr) (n : Nat) (es : List Elt) : Prop := es.length = n ∧ (0 < n → ∃ b off, A = some ⟨b, off, none⟩ ∧ b < W.heap.size ∧ ∀ j e, es[j]? = some e → Holds8 W b (off + j * 8) e)
theorem RdE.gr {W W' : World} {A : Option Addr} {n : Nat} {es : List Elt} (h : RdE W A n es) (g : Gr W W') : RdE W' A n es :=
  ⟨h.1, fun hn => by
    obtain ⟨b, off, e, hb, hc⟩ := h.2 hn
    exact ⟨b, off, e, Nat.lt_of_lt_of_le hb g.size, fun j x hx k u hu => (g.cell hb).trans (hc j x hx k u hu)⟩⟩

set_option maxHeartbeats 1000000 in
theorem sr_values_in (F : Fence) (n : Nat) (h5 : F.fn 58) (hro : F.round = none) (a : Option Addr) (len cap : Nat) (w : World) :
    CallsIn F n Tryz.prog 58 #[.slice a len cap] w fun e w' => e = .returned (.func (.func 75) #[] #[.pointer (some ⟨w.heap.size, 0, none⟩)]) ∧ w' = w.alloc (.cells #[.slice a len cap] 25) := by
  refine callsIn_of_wp Tryz.func58 rfl h5 ?_ hro
  simp only [Tryz.ntmps58, List.size_toArray, List.length_cons, List.length_nil, Nat.reduceAdd, Nat.reduceSub, Array.replicate_succ, Array.replicate_zero, List.push_toArray, List.append_toArray, List.nil_append, List.cons_append]
  gi_wp2
  go_ret
  exact ⟨rfl, rfl⟩

theorem sr_values_stops (F : Fence) (n : Nat) (h7 : F.fn 75) (hro : F.round = none) (hn : 1 ≤ n) (Bs n₀ : Nat) (A : Option Addr) (cap : Nat) (zs : List Elt) (hreach : zs.length * 16 ≤ 140737488351232) (w0 w : World) (hBs : Bs < w.heap.size) (hn₀ : w0.heap.size = n₀) (hg : Gr w0 w)
    (hc : w.cell? ⟨Bs, 0, none⟩ = some (.slice A zs.length cap)) (hI : RdE w0 A zs.length zs) :
    SeqStopsK F n Tryz.prog 75 #[.pointer (some ⟨Bs, 0, none⟩)] (fun x : Elt => #[x.val]) (Below n₀) (fun ys => ys = zs) (fun pre => pre <+: zs) zs.length w := fun l J Jx W hW hJ _ hY h0 => by
  subst hn₀
  have hc' := (hW.cell (p := ⟨Bs, 0, none⟩) hBs).trans hc
  have hgW : Gr w0 W := hg.trans hW
  refine (sr_values1_in (fun j => zs[j]?.getD default) F n h7 hro hn l Bs w0.heap.size A zs.length cap hreach J Jx (fun pre V o h => hJ pre V _ none h (World.grownBy_alloc V o none) (fun r e => by cases e)) hY W hgW.size hc' ?_ h0).mono ?_
  · intro hp
    obtain ⟨b, off, e, hb, hh⟩ := hI.2 hp
    refine ⟨b, off, e, hb, fun j hj k u hu => ?_⟩
    rw [hgW.cell hb]
    exact hh j _ (by simp [hj]) k u hu
  · rintro e W' ⟨he, ⟨ys, rfl, hj⟩ | ⟨pre, ⟨k, hk, rfl⟩, hj⟩⟩
    · exact ⟨he, .inl ⟨_, sq_upto_all default zs, hj⟩⟩
    · exact ⟨he, .inr ⟨_, by rw [sq_upto_take default zs hk]; exact List.take_prefix _ _, hj⟩⟩
end Go.Proofs.YtlkjimfkapcenaaGreatDoor
namespace Go.Proofs.YtlkjimfkapcenaaGreatDoor
open Go.RowKit Go.Shelf
attribute [local go_sem] Oper.semAt_some

set_option maxRecDepth 100000 in
set_option maxHeartbeats 1000000 in
theorem given_in (F : Fence) (k : Nat) (hF : F.fn 70) (hV : F.fn 92) (hro : F.round = none) (hk : 2 ≤ k) (r : Rcd) (b0 off n c : Nat) (B : Option Addr) (m d : Nat) (w : World) (hn : 1 ≤ n) (hc : n ≤ c) (hbig : c ≤ 9223372036854775807) :
    CallsIn F k Tryz.prog 70 #[r.val (some ⟨b0, off, none⟩) n c B m d] w fun e w' => e = .returned (.func (.func 102) #[] #[.pointer (some ⟨w.heap.size + 1, 0, none⟩)]) ∧
      ∃ (o' : Nat) (T1 T2 : TypeId) (C : Array Value), (1 < n → o' = off + 1) ∧ w' = (w.alloc (.cells C T1)).alloc (.cells #[.slice (some ⟨b0, o', none⟩) (n - 1) (c - 1)] T2) := by
  obtain ⟨id, names, suf, l1, h1, p, tw, stays⟩ := r
  unfold Rcd.val
  dsimp only
  have hn' : (1 : Int) ≤ n := by omega
  have hc' : (n : Int) ≤ c := by omega
  have hb' : (c : Int) ≤ 9223372036854775807 := by omega
  by_cases h1c : c = 1
  · obtain rfl : n = 1 := by omega
    subst h1c
    refine callsIn_of_wp Tryz.func70 rfl hF ?_ hro
    simp only [Tryz.ntmps70, List.size_toArray, List.length_cons, List.length_nil, Nat.reduceAdd, Nat.reduceSub, Array.replicate_succ, Array.replicate_zero, List.push_toArray, List.append_toArray, List.nil_append, List.cons_append]
    gi_wp2_with (refine ⟨fun _ => (by omega), ?_⟩; gi_at_call 92; refine (sq_values_in F (k - 1) hV hro _ _ _ _).mono ?_; rintro e w' ⟨rfl, rfl⟩)
    go_ret
    refine ⟨by rfl, off, _, _, _, fun h => absurd h (by omega), by rfl⟩
  · have h2c : 1 < c := by omega
    have h3c : (1 : Int) < c := by omega
    refine callsIn_of_wp Tryz.func70 rfl hF ?_ hro
    simp only [Tryz.ntmps70, List.size_toArray, List.length_cons, List.length_nil, Nat.reduceAdd, Nat.reduceSub, Array.replicate_succ, Array.replicate_zero, List.push_toArray, List.append_toArray, List.nil_append, List.cons_append]
    gi_wp2_with (refine ⟨fun _ => (by omega), ?_⟩; gi_at_call 92; refine (sq_values_in F (k - 1) hV hro _ _ _ _).mono ?_; rintro e w' ⟨rfl, rfl⟩)
    go_ret
    refine ⟨by rfl, off + 1, _, _, _, fun _ => rfl, by rfl⟩
end Go.Proofs.YtlkjimfkapcenaaGreatDoor
