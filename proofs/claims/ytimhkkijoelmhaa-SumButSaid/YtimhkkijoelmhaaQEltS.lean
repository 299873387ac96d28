/- slices.Values at subjects; what a row of subjects reads as. (Printed by gen_sumkit.py.) Rows of subjects and of conditions: what lies where. For any program. Fractions, as the sums' audits hold them: numbers in lowest terms. No program in sight. Alternating sums over rows of numbers, as the audits want them: how great the numbers of a solved audit become. No program in sight. An audit at work, in plain functions: rows of fractions, each led by a subject that is in no other one. How great their numbers become. No program in sight. Fractions made whole: the least common multiple of the lower numbers, and what is left by the greatest common divisor. No program in sight. -/
import Derived.LoopIn
import Derived.LoopNIn
import Derived.OwnWalkIn
import Derived.RangeFuncBox
import Derived.RangeFuncLeaves
import Derived.Shelf.Abstract
import Derived.TacticsInMore
import Derived.Test.YtimhkkijoelmhaaProg
import Derived.Test.YtimhkkijoelmhaaQBase
namespace Go.Proofs.Ytimhkkijoelmhaa
open Go.RowKit Go.Shelf
attribute [local go_sem] Oper.semAt_some

def sq_upto {α : Type} (f : Nat → α) (k : Nat) : List α := (List.range k).map f
theorem sq_upto_succ {α : Type} (f : Nat → α) (k : Nat) : sq_upto f (k + 1) = sq_upto f k ++ [f k] := by simp [sq_upto, List.range_succ]
theorem sq_upto_length {α : Type} (f : Nat → α) (k : Nat) : (sq_upto f k).length = k := by simp [sq_upto]
theorem sq_upto_all {α : Type} (d : α) (zs : List α) : sq_upto (fun j => zs[j]?.getD d) zs.length = zs := by
  apply List.ext_getElem
  · simp [sq_upto]
  · intro i h1 h2
    simp [sq_upto, h2]
theorem sq_upto_take {α : Type} (d : α) (zs : List α) {k : Nat} (hk : k ≤ zs.length) : sq_upto (fun j => zs[j]?.getD d) k = zs.take k := by
  apply List.ext_getElem
  · simp [sq_upto, hk]
  · intro i h1 h2
    have : i < zs.length := by simp [sq_upto] at h1; omega
    simp [sq_upto, this]
theorem Sbj.one (e : Sbj) : ∀ v ∈ e.cells, v.oneCell' = true := by
  intro v hv
  simp [Sbj.cells] at hv
  rcases hv with rfl | rfl <;> rfl

/-- Two cells from o on hold the element. -/
def Holds2 (W : World) (b o : Nat) (e : Sbj) : Prop := ∀ j u, e.cells[j]? = some u → W.cell? ⟨b, o + j, none⟩ = some u
theorem Holds2.all {W : World} {b o : Nat} {e : Sbj} (h : Holds2 W b o e) : W.cell? ⟨b, o, none⟩ = some (.int .i64 e.id) ∧ W.cell? ⟨b, o + 1, none⟩ = some (.slice e.a e.n e.c) := ⟨h 0 _ rfl, h 1 _ rfl⟩
theorem Holds2.below {n₀ : Nat} {W W' : World} {b o : Nat} {e : Sbj} (h : Holds2 W b o e) (g : Below n₀ W W') (hb : b < n₀) : Holds2 W' b o e := fun j u hu => (g.cell (p := ⟨b, o + j, none⟩) hb).trans (h j u hu)

set_option maxRecDepth 100000 in
set_option maxHeartbeats 2000000 in
theorem sr_values1_in (f : Nat → Sbj) (F : Fence) (n : Nat) (h7 : F.fn 95) (hro : F.round = none) (hn : 1 ≤ n) (l Bs n₀ : Nat) (A : Option Addr) (len cap : Nat) (hreach : len * 16 ≤ 140737488351232) (J Jx : List Sbj → World → Prop)
    (hJa : ∀ pre W o, J pre W → J pre (W.alloc o))
    (hY : ∀ pre x W, J pre W → pre.length < len → YieldAt F (n - 1) Try.prog l #[x.val] W fun e W' =>
      (e = .returned (.bool true) ∧ J (pre ++ [x]) W' ∧ Below n₀ W W') ∨ (e = .returned (.bool false) ∧ Jx (pre ++ [x]) W'))
    (W : World) (hn₀ : n₀ ≤ W.heap.size) (hBs : W.cell? ⟨Bs, 0, none⟩ = some (.slice A len cap)) (hA : 0 < len → ∃ b off, A = some ⟨b, off, none⟩ ∧ b < n₀ ∧ ∀ j, j < len → Holds2 W b (off + j * 2) (f j)) (h0 : J [] W) :
    CallsIn F n Try.prog 95 #[.func (.yield l) #[] #[], .pointer (some ⟨Bs, 0, none⟩)] W fun e W' => (∃ v, e = .returned v) ∧
      ((∃ ys, ys = sq_upto f len ∧ J ys W') ∨ (∃ pre, (∃ k, k ≤ len ∧ pre = sq_upto f k) ∧ Jx pre W')) := by
  refine callsIn_of_wp Try.func95 rfl h7 ?_ hro
  simp only [Try.ntmps95, List.size_toArray, List.length_cons, List.length_nil, Nat.reduceAdd, Nat.reduceSub, Array.replicate_succ, Array.replicate_zero, List.push_toArray, List.append_toArray, List.nil_append, List.cons_append]
  gi_wp2
  gi_loopw [7] (fun i wr => ∃ k : Nat, k ≤ len ∧ i = .int .i64 k ∧ J (sq_upto f k) wr ∧ Below n₀ W wr)
    (fun i _ => len - (intOf i).toNat)
  case atStart => exact ⟨0, Nat.zero_le _, rfl, h0, Below.refl _ _⟩
  case round =>
    obtain ⟨k, hk, rfl, hJs, hnx⟩ := hrel
    by_cases hlt : k < len
    · obtain ⟨b, off, rfl, hb, hc⟩ := hA (by omega)
      obtain ⟨c0, c1⟩ := ((hc k hlt).below hnx hb).all
      obtain ⟨fn, tmps, assign, body, hy, hR⟩ := hY _ (f k) (wr.alloc (.cells (f k).cells.toArray 60)) (hJa _ _ _ hJs) (by rw [sq_upto_length]; exact hlt)
      have HR := hid hR
      have HN := hid (hnx.trans ((Below.refl n₀ wr).alloc (Nat.le_trans hn₀ hnx.size) (.cells (f k).cells.toArray 60)))
      clear hR hJs hnx hY hc hA
      have HF : Hid (sq_upto f (k + 1) = sq_upto f k ++ [f k]) := sq_upto_succ f k
      unfold Sbj.val at hy
      unfold Sbj.cells at hy HR HN
      generalize hfk : f k = x at *
      obtain ⟨id, A, n1, c', vs⟩ := x
      dsimp only at *
      gi_wp2
      refine HR.out.mono ?_
      rintro e W3 (⟨rfl, hJ3, hk3⟩ | ⟨rfl, hJx3⟩)
      · gi_wp2
        go_roundw
        case rel => exact ⟨k + 1, by omega, by simp, by rw [HF.out]; exact hJ3, HN.out.trans hk3⟩
        case measure => simp [intOf]; omega
      · gi_wp2
        refine bodyPost_ret (results_none rfl _ _ _) rfl ?_
        exact ⟨⟨_, rfl⟩, .inr ⟨_, ⟨k + 1, by omega, HF.out.symm⟩, hJx3⟩⟩
    · obtain rfl : k = len := by omega
      gi_wp2
      go_end0
      exact ⟨⟨_, rfl⟩, .inl ⟨_, rfl, hJs⟩⟩

/-- A slice that reads as these elements. -/
def RdE (W : World) (A : Option Addr) (n : Nat) (es : List Sbj) : Prop := es.length = n ∧ (0 < n → ∃ b off, A = some ⟨b, off, none⟩ ∧ b < W.heap.size ∧ ∀ j e, es[j]? = some e → Holds2 W b (off + j * 2) e)
theorem RdE.gr {W W' : World} {A : Option Addr} {n : Nat} {es : List Sbj} (h : RdE W A n es) (g : Gr W W') : RdE W' A n es :=
  ⟨h.1, fun hn => by
    obtain ⟨b, off, e, hb, hc⟩ := h.2 hn
    exact ⟨b, off, e, Nat.lt_of_lt_of_le hb g.size, fun j x hx k u hu => (g.cell hb).trans (hc j x hx k u hu)⟩⟩

set_option maxHeartbeats 1000000 in
theorem sr_values_in (F : Fence) (n : Nat) (h5 : F.fn 70) (hro : F.round = none) (a : Option Addr) (len cap : Nat) (w : World) :
    CallsIn F n Try.prog 70 #[.slice a len cap] w fun e w' => e = .returned (.func (.func 95) #[] #[.pointer (some ⟨w.heap.size, 0, none⟩)]) ∧ w' = w.alloc (.cells #[.slice a len cap] 22) := by
  refine callsIn_of_wp Try.func70 rfl h5 ?_ hro
  simp only [Try.ntmps70, List.size_toArray, List.length_cons, List.length_nil, Nat.reduceAdd, Nat.reduceSub, Array.replicate_succ, Array.replicate_zero, List.push_toArray, List.append_toArray, List.nil_append, List.cons_append]
  gi_wp2
  go_ret
  exact ⟨rfl, rfl⟩

theorem sr_values_stops (F : Fence) (n : Nat) (h7 : F.fn 95) (hro : F.round = none) (hn : 1 ≤ n) (Bs n₀ : Nat) (A : Option Addr) (cap : Nat) (zs : List Sbj) (hreach : zs.length * 16 ≤ 140737488351232) (w0 w : World) (hBs : Bs < w.heap.size) (hn₀ : w0.heap.size = n₀) (hg : Gr w0 w)
    (hc : w.cell? ⟨Bs, 0, none⟩ = some (.slice A zs.length cap)) (hI : RdE w0 A zs.length zs) :
    SeqStopsK F n Try.prog 95 #[.pointer (some ⟨Bs, 0, none⟩)] (fun x : Sbj => #[x.val]) (Below n₀) (fun ys => ys = zs) (fun pre => pre <+: zs) zs.length w := fun l J Jx W hW hJ _ hY h0 => by
  subst hn₀
  have hc' := (hW.cell (p := ⟨Bs, 0, none⟩) hBs).trans hc
  have hgW : Gr w0 W := hg.trans hW
  refine (sr_values1_in (fun j => zs[j]?.getD default) F n h7 hro hn l Bs w0.heap.size A zs.length cap hreach J Jx (fun pre V o h => hJ pre V _ none h (World.grownBy_alloc V o none) (fun r e => by cases e)) hY W hgW.size hc' ?_ h0).mono ?_
  · intro hp
    obtain ⟨b, off, e, hb, hh⟩ := hI.2 hp
    refine ⟨b, off, e, hb, fun j hj k u hu => ?_⟩
    rw [hgW.cell hb]
    exact hh j _ (by simp [hj]) k u hu
  · rintro e W' ⟨he, ⟨ys, rfl, hj⟩ | ⟨pre, ⟨k, hk, rfl⟩, hj⟩⟩
    · exact ⟨he, .inl ⟨_, sq_upto_all default zs, hj⟩⟩
    · exact ⟨he, .inr ⟨_, by rw [sq_upto_take default zs hk]; exact List.take_prefix _ _, hj⟩⟩
end Go.Proofs.Ytimhkkijoelmhaa
namespace Go.Proofs.Ytimhkkijoelmhaa
open Go.RowKit

/-- A table as it lies. -/
structure SbjsIn (w : World) (A : Option Addr) (n : Nat) (zs : List Sbj) : Prop where
  rd : Rd w 2 A n (zs.flatMap Sbj.cells)
  big : n ≤ 9223372036854775807
  vals : ∀ s ∈ zs, Rd w 1 s.a s.n (s.vals.map (Value.int .i64)) ∧ s.n ≤ 9223372036854775807
  wf : ∀ s ∈ zs, -9223372036854775808 ≤ s.id ∧ s.id ≤ 9223372036854775807
theorem SbjsIn.gr {w w' : World} {A : Option Addr} {n : Nat} {zs : List Sbj} (h : SbjsIn w A n zs) (g : Gr w w') : SbjsIn w' A n zs := ⟨h.rd.gr g, h.big, fun s hs => ⟨(h.vals s hs).1.gr g, (h.vals s hs).2⟩, h.wf⟩
theorem SbjsIn.len {w : World} {A : Option Addr} {n : Nat} {zs : List Sbj} (h : SbjsIn w A n zs) : zs.length = n := by
  have := h.rd.len
  rw [flatMap_len Sbj.len] at this
  omega
/-- A subject of the row, cell by cell. -/
theorem Rd.sbj {w : World} {A : Option Addr} {n : Nat} {zs : List Sbj} (h : Rd w 2 A n (zs.flatMap Sbj.cells)) {k : Nat} (hk : k < n) :
    k < zs.length ∧ ∃ b off, A = some ⟨b, off, none⟩ ∧ b < w.heap.size ∧ w.cell? ⟨b, off + k * 2, none⟩ = some (.int .i64 zs[k]!.id) ∧ w.cell? ⟨b, off + k * 2 + 1, none⟩ = some (.slice zs[k]!.a zs[k]!.n zs[k]!.c) := by
  have hl := h.len
  rw [flatMap_len Sbj.len] at hl
  have hk' : k < zs.length := by omega
  obtain ⟨b, off, e, hb, hc⟩ := h.at_ (by omega)
  have g : ∀ j, j < 2 → (zs.flatMap Sbj.cells)[k * 2 + j]? = (zs[k]!.cells)[j]? := fun j hj => flatMap_get Sbj.len hk' hj
  refine ⟨hk', b, off, e, hb, hc (k * 2) _ (by rw [← Nat.add_zero (k * 2), g 0 (by omega)]; rfl), ?_⟩
  rw [Nat.add_assoc]
  exact hc (k * 2 + 1) _ (by rw [g 1 (by omega)]; rfl)
/-- A question as it lies. -/
structure QstIn (w : World) (q : Qst) : Prop where
  rd : Rd w 3 q.a q.n (q.whs.flatMap Whr.cells)
  big : q.n ≤ 9223372036854775807
theorem QstIn.gr {w w' : World} {q : Qst} (h : QstIn w q) (g : Gr w w') : QstIn w' q := ⟨h.rd.gr g, h.big⟩
theorem QstIn.len {w : World} {q : Qst} (h : QstIn w q) : q.whs.length = q.n := by
  have := h.rd.len
  rw [flatMap_len Whr.len] at this
  omega
theorem Rd.whr {w : World} {A : Option Addr} {n : Nat} {zs : List Whr} (h : Rd w 3 A n (zs.flatMap Whr.cells)) {k : Nat} (hk : k < n) :
    k < zs.length ∧ ∃ b off, A = some ⟨b, off, none⟩ ∧ b < w.heap.size ∧ w.cell? ⟨b, off + k * 3, none⟩ = some (.int .i64 zs[k]!.col) ∧ w.cell? ⟨b, off + k * 3 + 1, none⟩ = some (.int .i64 zs[k]!.lo) ∧ w.cell? ⟨b, off + k * 3 + 2, none⟩ = some (.int .i64 zs[k]!.hi) := by
  have hl := h.len
  rw [flatMap_len Whr.len] at hl
  have hk' : k < zs.length := by omega
  obtain ⟨b, off, e, hb, hc⟩ := h.at_ (by omega)
  have g : ∀ j, j < 3 → (zs.flatMap Whr.cells)[k * 3 + j]? = (zs[k]!.cells)[j]? := fun j hj => flatMap_get Whr.len hk' hj
  refine ⟨hk', b, off, e, hb, hc (k * 3) _ (by rw [← Nat.add_zero (k * 3), g 0 (by omega)]; rfl), ?_, ?_⟩
  · rw [Nat.add_assoc]
    exact hc (k * 3 + 1) _ (by rw [g 1 (by omega)]; rfl)
  · rw [Nat.add_assoc]
    exact hc (k * 3 + 2) _ (by rw [g 2 (by omega)]; rfl)
/-- A value of a subject. -/
theorem Rd.int_at {w : World} {A : Option Addr} {n : Nat} {zs : List Int} (h : Rd w 1 A n (zs.map (Value.int .i64))) {k : Nat} (hk : k < n) : k < zs.length ∧ ∃ b off, A = some ⟨b, off, none⟩ ∧ b < w.heap.size ∧ w.cell? ⟨b, off + k, none⟩ = some (.int .i64 zs[k]!) := by
  have hl : zs.length = n := by have := h.len; simpa using this
  obtain ⟨b, off, e, hb, hc⟩ := h.at_ (by omega)
  exact ⟨by omega, b, off, e, hb, hc k _ (Rd.get (enc := Value.int .i64) (zs := zs) (by omega))⟩
theorem SbjsIn.rdE {w : World} {A : Option Addr} {n : Nat} {zs : List Sbj} (h : SbjsIn w A n zs) : RdE w A n zs := by
  refine ⟨h.len, fun hn => ?_⟩
  obtain ⟨b, off, e, hb, hc⟩ := h.rd.at_ hn
  refine ⟨b, off, e, hb, fun j x hx k u hu => ?_⟩
  have hj : j < zs.length := (List.getElem?_eq_some_iff.1 hx).1
  have hk : k < 2 := by
    have := (List.getElem?_eq_some_iff.1 hu).1
    rwa [Sbj.len] at this
  have hxx : zs[j]! = x := by
    rw [getElem!_pos zs j hj]
    exact (List.getElem?_eq_some_iff.1 hx).2
  rw [Nat.add_assoc]
  exact hc (j * 2 + k) u (by rw [flatMap_get Sbj.len hj hk, hxx]; exact hu)
end Go.Proofs.Ytimhkkijoelmhaa
namespace Go.Proofs.Ytimhkkijoelmhaa
open Go.RowKit

/-- A fraction, as it lies. -/
def frV (r : Rat) : Value := .agg #[.int .i64 r.num, .int .i64 r.den]
def frC (r : Rat) : List Value := [.int .i64 r.num, .int .i64 r.den]
theorem frC_len (r : Rat) : (frC r).length = 2 := rfl
/-- A fraction of small numbers. -/
def Sm (B : Nat) (r : Rat) : Prop := r.num.natAbs ≤ B ∧ r.den ≤ B
theorem Sm.mono {B B' : Nat} {r : Rat} (h : Sm B r) (hb : B ≤ B') : Sm B' r := ⟨Nat.le_trans h.1 hb, Nat.le_trans h.2 hb⟩
theorem den_pos (r : Rat) : 0 < r.den := Nat.pos_of_ne_zero r.den_nz
/-- The greatest common divisor of some numbers. -/
def gcdL (xs : List Int) : Nat := xs.foldl (fun g x => Nat.gcd g x.natAbs) 0
theorem gcdL_snoc (xs : List Int) (x : Int) : gcdL (xs ++ [x]) = Nat.gcd (gcdL xs) x.natAbs := by
  unfold gcdL
  rw [List.foldl_append]
  rfl
theorem gcdL_two (a b : Int) : gcdL [a, b] = Nat.gcd a.natAbs b.natAbs := by
  show Nat.gcd (Nat.gcd 0 a.natAbs) b.natAbs = _
  rw [Nat.gcd_zero_left]
theorem gcdL_le {B : Nat} (xs : List Int) (h : ∀ x ∈ xs, x.natAbs ≤ B) : gcdL xs ≤ B := by
  have key : ∀ (xs : List Int) (g : Nat), g ≤ B → (∀ x ∈ xs, x.natAbs ≤ B) → xs.foldl (fun g x => Nat.gcd g x.natAbs) g ≤ B := by
    intro xs
    induction xs with
    | nil => intro g hg _; exact hg
    | cons x r ih =>
      intro g hg hx
      refine ih _ ?_ (fun y hy => hx y (List.mem_cons_of_mem _ hy))
      have h2 := hx x (by simp)
      show Nat.gcd g x.natAbs ≤ B
      rcases Nat.eq_zero_or_pos g with e | e
      · rw [e, Nat.gcd_zero_left]; exact h2
      · exact Nat.le_trans (Nat.gcd_le_left _ e) hg
  exact key xs 0 (Nat.zero_le _) h
theorem gcd_step (g n : Nat) : Nat.gcd n (g % n) = Nat.gcd g n := by
  rw [Nat.gcd_comm n, ← Nat.gcd_rec, Nat.gcd_comm]
/-- What the program reckons: both numbers by their greatest common divisor, with the sign of the lower one. -/
theorem low_num {a b : Int} (hb : b ≠ 0) : Int.tdiv a (if b < 0 then -(Nat.gcd a.natAbs b.natAbs : Int) else (Nat.gcd a.natAbs b.natAbs : Int)) = (Rat.divInt a b).num := by
  have hg : (Nat.gcd a.natAbs b.natAbs : Int) ∣ a := by
    rw [Int.ofNat_dvd_left]; exact Nat.gcd_dvd_left _ _
  have e : (Int.gcd b a : Int) = (Nat.gcd a.natAbs b.natAbs : Int) := by rw [Int.gcd, Nat.gcd_comm]
  rw [Rat.num_divInt, e]
  generalize (Nat.gcd a.natAbs b.natAbs : Int) = g at *
  obtain ⟨k, rfl⟩ := hg
  by_cases hn : b < 0
  · rw [if_pos hn, Int.sign_eq_neg_one_of_neg hn, Int.tdiv_neg]
    rcases Int.lt_trichotomy g 0 with h | h | h
    · rw [Int.mul_tdiv_cancel_left _ (by omega), show -1 * (g * k) = g * (-k) by rw [Int.mul_neg, Int.neg_one_mul], Int.mul_ediv_cancel_left _ (by omega)]
    · subst h; simp
    · rw [Int.mul_tdiv_cancel_left _ (by omega), show -1 * (g * k) = g * (-k) by rw [Int.mul_neg, Int.neg_one_mul], Int.mul_ediv_cancel_left _ (by omega)]
  · rw [if_neg hn, Int.sign_eq_one_of_pos (by omega), Int.one_mul]
    by_cases h : g = 0
    · subst h; simp
    · rw [Int.mul_tdiv_cancel_left _ h, Int.mul_ediv_cancel_left _ h]
theorem low_den {a b : Int} (hb : b ≠ 0) : Int.tdiv b (if b < 0 then -(Nat.gcd a.natAbs b.natAbs : Int) else (Nat.gcd a.natAbs b.natAbs : Int)) = ((Rat.divInt a b).den : Int) := by
  have hg : (Nat.gcd a.natAbs b.natAbs : Int) ∣ b := by
    rw [Int.ofNat_dvd_left]; exact Nat.gcd_dvd_right _ _
  have hp : 0 < Nat.gcd a.natAbs b.natAbs := Nat.gcd_pos_of_pos_right _ (by omega)
  rw [Rat.den_divInt, if_neg hb, Int.gcd, Nat.gcd_comm b.natAbs]
  rw [Int.natCast_ediv]
  generalize hgg : Nat.gcd a.natAbs b.natAbs = g at *
  obtain ⟨k, hk⟩ := hg
  have hgz : (g : Int) ≠ 0 := by omega
  by_cases hn : b < 0
  · rw [if_pos hn, Int.tdiv_neg, Int.ofNat_natAbs_of_nonpos (by omega), hk, Int.mul_tdiv_cancel_left _ hgz, show -((g : Int) * k) = g * (-k) by rw [Int.mul_neg], Int.mul_ediv_cancel_left _ hgz]
  · rw [if_neg hn, Int.natAbs_of_nonneg (by omega), hk, Int.mul_tdiv_cancel_left _ hgz, Int.mul_ediv_cancel_left _ hgz]
theorem fr_times (f o : Rat) : Rat.divInt (f.num * o.num) ((f.den : Int) * o.den) = f * o := by
  rw [Rat.mul_def', ← Rat.divInt_ofNat]
  rfl
theorem fr_less (f o : Rat) : Rat.divInt (f.num * o.den - o.num * f.den) ((f.den : Int) * o.den) = f - o := by
  rw [Rat.sub_def', ← Rat.divInt_ofNat]
  rfl
theorem fr_turned (f : Rat) : Rat.divInt (f.den : Int) f.num = f⁻¹ := (Rat.inv_def f).symm
theorem fr_none (f : Rat) : (f.num = 0 ∧ (f.den : Int) = 1) ↔ f = 0 := by
  constructor
  · rintro ⟨h, _⟩
    exact Rat.num_eq_zero.1 h
  · rintro rfl
    exact ⟨rfl, rfl⟩
theorem one_C (r : Rat) : ∀ v ∈ frC r, v.oneCell' = true := by
  intro v hv
  simp [frC] at hv
  rcases hv with rfl | rfl <;> rfl
/-- A fraction of the row, cell by cell. -/
theorem Rd.fr {w : World} {A : Option Addr} {n : Nat} {zs : List Rat} (h : Rd w 2 A n (zs.flatMap frC)) {k : Nat} (hk : k < n) :
    k < zs.length ∧ ∃ b off, A = some ⟨b, off, none⟩ ∧ b < w.heap.size ∧ w.cell? ⟨b, off + k * 2, none⟩ = some (.int .i64 zs[k]!.num) ∧ w.cell? ⟨b, off + k * 2 + 1, none⟩ = some (.int .i64 zs[k]!.den) := by
  have hl := h.len
  rw [flatMap_len frC_len] at hl
  have hk' : k < zs.length := by omega
  obtain ⟨b, off, e, hb, hc⟩ := h.at_ (by omega)
  have g : ∀ j, j < 2 → (zs.flatMap frC)[k * 2 + j]? = (frC zs[k]!)[j]? := fun j hj => flatMap_get frC_len hk' hj
  refine ⟨hk', b, off, e, hb, hc (k * 2) _ (by rw [← Nat.add_zero (k * 2), g 0 (by omega)]; rfl), ?_⟩
  rw [Nat.add_assoc]
  exact hc (k * 2 + 1) _ (by rw [g 1 (by omega)]; rfl)
end Go.Proofs.Ytimhkkijoelmhaa
namespace Go.Proofs.Ytimhkkijoelmhaa

/-- A row more, ahead of a function of columns, sign by sign. -/
def dl (a : Nat → Rat) : (List Nat → Rat) → List Nat → Rat
  | _, [] => 0
  | F, x :: c => a x * F c - dl a (fun d => F (x :: d)) c
theorem dl_nil (a : Nat → Rat) (F : List Nat → Rat) : dl a F [] = 0 := rfl
theorem dl_cons (a : Nat → Rat) (F : List Nat → Rat) (x : Nat) (c : List Nat) : dl a F (x :: c) = a x * F c - dl a (fun d => F (x :: d)) c := rfl
theorem dl_sub (a : Nat → Rat) (c : List Nat) : ∀ (F G : List Nat → Rat), dl a (fun d => F d - G d) c = dl a F c - dl a G c := by
  induction c with
  | nil => intro F G; rw [dl_nil, dl_nil, dl_nil]; grind
  | cons x c ih => intro F G; rw [dl_cons, dl_cons, dl_cons, ih]; grind
theorem dl_mul (a : Nat → Rat) (k : Rat) (c : List Nat) : ∀ (F : List Nat → Rat), dl a (fun d => k * F d) c = k * dl a F c := by
  induction c with
  | nil => intro F; rw [dl_nil, dl_nil]; grind
  | cons x c ih => intro F; rw [dl_cons, dl_cons, ih]; grind
theorem dl_zero (a : Nat → Rat) (c : List Nat) : ∀ (F : List Nat → Rat), (∀ d, F d = 0) → dl a F c = 0 := by
  induction c with
  | nil => intro F _; rfl
  | cons x c ih => intro F h; rw [dl_cons, ih _ (fun d => h (x :: d)), h]; grind
theorem dl_left (a b : Nat → Rat) (k : Rat) (c : List Nat) : ∀ (F : List Nat → Rat), dl (fun j => a j - b j * k) F c = dl a F c - dl b F c * k := by
  induction c with
  | nil => intro F; rw [dl_nil, dl_nil, dl_nil]; grind
  | cons x c ih => intro F; rw [dl_cons, dl_cons, dl_cons, ih]; grind
theorem dl_times (a : Nat → Rat) (k : Rat) (c : List Nat) : ∀ (F : List Nat → Rat), dl (fun j => a j * k) F c = dl a F c * k := by
  induction c with
  | nil => intro F; rw [dl_nil, dl_nil]; grind
  | cons x c ih => intro F; rw [dl_cons, dl_cons, ih]; grind
theorem dl_vanish (a : Nat → Rat) (c : List Nat) : ∀ (F : List Nat → Rat), (∀ x ∈ c, a x = 0) → dl a F c = 0 := by
  induction c with
  | nil => intro F _; rfl
  | cons x c ih => intro F h; rw [dl_cons, ih _ (fun y hy => h y (List.mem_cons_of_mem _ hy)), h x List.mem_cons_self]; grind
theorem dl_anti (a b : Nat → Rat) (c : List Nat) : ∀ (F : List Nat → Rat), dl a (dl b F) c + dl b (dl a F) c = 0 := by
  induction c with
  | nil => intro F; rw [dl_nil, dl_nil]; grind
  | cons x c ih =>
    intro F
    have e : ∀ (p q : Nat → Rat), dl p (fun d => dl q F (x :: d)) c = q x * dl p F c - dl p (dl q (fun d => F (x :: d))) c := by
      intro p q
      have h := dl_sub p c (fun d => q x * F d) (fun d => dl q (fun d => F (x :: d)) d)
      rw [dl_mul] at h
      exact h
    have h := ih (fun d => F (x :: d))
    rw [dl_cons, dl_cons, e, e, ]
    grind
/-- The determinant of rows, the newest first, at columns. -/
def dt : List (Nat → Rat) → List Nat → Rat
  | [], [] => 1
  | [], _ :: _ => 0
  | q :: qs, c => dl q (dt qs) c
theorem dt_cons (q : Nat → Rat) (qs : List (Nat → Rat)) (c : List Nat) : dt (q :: qs) c = dl q (dt qs) c := rfl
/-- A row depends on others. -/
def Sp (qs : List (Nat → Rat)) (a : Nat → Rat) : Prop := ∀ c, dl a (dt qs) c = 0
theorem Sp.self (q : Nat → Rat) (qs : List (Nat → Rat)) : Sp (q :: qs) q := by
  intro c
  have h := dl_anti q q c (dt qs)
  have e : dl q (dt (q :: qs)) c = dl q (dl q (dt qs)) c := rfl
  rw [e]
  grind
theorem Sp.more {qs : List (Nat → Rat)} {a : Nat → Rat} (h : Sp qs a) (q : Nat → Rat) : Sp (q :: qs) a := by
  intro c
  have h1 := dl_anti a q c (dt qs)
  have h2 := dl_zero q c (dl a (dt qs)) h
  have e : dl a (dt (q :: qs)) c = dl a (dl q (dt qs)) c := rfl
  rw [e]
  grind
theorem Sp.sub {qs : List (Nat → Rat)} {a b : Nat → Rat} (h : Sp qs a) (g : Sp qs b) (k : Rat) : Sp qs (fun j => a j - b j * k) := by
  intro c
  rw [dl_left, h, g]
  grind
theorem Sp.mul {qs : List (Nat → Rat)} {a : Nat → Rat} (h : Sp qs a) (k : Rat) : Sp qs (fun j => a j * k) := by
  intro c
  rw [dl_times, h]
  grind
theorem Sp.congr {qs : List (Nat → Rat)} {a b : Nat → Rat} (h : Sp qs a) (e : ∀ j, b j = a j) : Sp qs b := by
  have : b = a := funext e
  rw [this]; exact h

/-- A whole number that is not great. -/
def IsZ (B : Nat) (x : Rat) : Prop := ∃ z : Int, x = (z : Rat) ∧ z.natAbs ≤ B
theorem IsZ.mono {B B' : Nat} {x : Rat} (h : IsZ B x) (hb : B ≤ B') : IsZ B' x := by
  obtain ⟨z, e, hz⟩ := h
  exact ⟨z, e, Nat.le_trans hz hb⟩
theorem IsZ.zero (B : Nat) : IsZ B 0 := ⟨0, rfl, by simp⟩
theorem IsZ.one {B : Nat} (h : 1 ≤ B) : IsZ B 1 := ⟨1, rfl, by simpa using h⟩
theorem IsZ.sub {A B : Nat} {x y : Rat} (h : IsZ A x) (g : IsZ B y) : IsZ (A + B) (x - y) := by
  obtain ⟨z, rfl, hz⟩ := h
  obtain ⟨u, rfl, hu⟩ := g
  exact ⟨z - u, by rw [Rat.intCast_sub], by omega⟩
theorem IsZ.neg {A : Nat} {x : Rat} (h : IsZ A x) : IsZ A (-x) := by
  obtain ⟨z, rfl, hz⟩ := h
  exact ⟨-z, by rw [Rat.intCast_neg], by omega⟩
theorem IsZ.bit {A : Nat} {x a : Rat} (h : IsZ A x) (ha : a = 0 ∨ a = 1) : IsZ A (a * x) := by
  rcases ha with rfl | rfl
  · rw [Rat.zero_mul]; exact IsZ.zero A
  · rw [Rat.one_mul]; exact h
theorem dl_isZ {a : Nat → Rat} {B : Nat} (ha : ∀ x, a x = 0 ∨ a x = 1) (c : List Nat) : ∀ (F : List Nat → Rat), (∀ d, d.length + 1 = c.length → IsZ B (F d)) → IsZ (c.length * B) (dl a F c) := by
  induction c with
  | nil => intro F _; exact IsZ.zero _
  | cons x c ih =>
    intro F h
    rw [dl_cons]
    have h1 := (h c rfl).bit (ha x)
    have h2 := ih (fun d => F (x :: d)) (fun d hd => h (x :: d) (by simp [hd]))
    have := h1.sub h2
    rw [List.length_cons, Nat.succ_mul, Nat.add_comm]
    exact this
def fac : Nat → Nat
  | 0 => 1
  | n + 1 => (n + 1) * fac n
theorem dt_isZ {qs : List (Nat → Rat)} (hq : ∀ q ∈ qs, ∀ x, q x = 0 ∨ q x = 1) : ∀ (c : List Nat), c.length = qs.length → IsZ (fac qs.length) (dt qs c) := by
  induction qs with
  | nil =>
    intro c hc
    obtain rfl : c = [] := List.eq_nil_of_length_eq_zero hc
    exact IsZ.one (Nat.le_refl _)
  | cons q qs ih =>
    intro c hc
    rw [dt_cons]
    have := dl_isZ (hq q List.mem_cons_self) c (dt qs) (fun d hd => ih (fun q hq' => hq q (List.mem_cons_of_mem _ hq')) d (by simp at hc; omega))
    rw [hc] at this
    exact this
/-- A row that is 1 at one of the columns alone. -/
theorem dl_pick {a : Nat → Rat} (p : List Nat) : ∀ (i : Nat) (_hi : i < p.length) (F : List Nat → Rat), a p[i]! = 1 → (∀ j, j < p.length → j ≠ i → a p[j]! = 0) → dl a F p = F (p.eraseIdx i) ∨ dl a F p = - F (p.eraseIdx i) := by
  induction p with
  | nil => intro i hi; exact absurd hi (by simp)
  | cons x c ih =>
    intro i hi F h1 h0
    rw [dl_cons]
    match i with
    | 0 =>
      refine .inl ?_
      have hv := dl_vanish a c (fun d => F (x :: d)) (fun y hy => by
        obtain ⟨j, hj, rfl⟩ := List.getElem_of_mem hy
        have := h0 (j + 1) (by simpa using hj) (by omega)
        simpa [hj] using this)
      have h1' : a x = 1 := by simpa using h1
      rw [hv, h1']
      simp only [List.eraseIdx_cons_zero]
      grind
    | i + 1 =>
      have hx : a x = 0 := by simpa using h0 0 (by simp) (by omega)
      rw [hx]
      simp only [List.eraseIdx_cons_succ]
      rcases ih i (by simpa using hi) (fun d => F (x :: d)) (by simpa using h1) (fun j hj hne => by simpa using h0 (j + 1) (by simpa using hj) (by omega)) with e | e
      · refine .inr ?_; rw [e]; grind
      · refine .inl ?_; rw [e]; grind
/-- A fraction with a lower number that is known is not great. -/
theorem sm_of {B : Nat} {d x : Rat} (hd : d ≠ 0) (h1 : IsZ B d) (h2 : IsZ B (d * x)) : Sm B x := by
  obtain ⟨u, rfl, hu⟩ := h1
  obtain ⟨z, e, hz⟩ := h2
  have hu0 : u ≠ 0 := by rintro rfl; exact hd rfl
  have hx : x = Rat.divInt z u := by
    rw [Rat.divInt_eq_div, ← e]
    grind
  subst hx
  constructor
  · rw [Rat.num_divInt]
    by_cases hz0 : z = 0
    · subst hz0; simp
    · have hg : (Int.gcd u z : Int) ∣ z := Int.gcd_dvd_right ..
      have hgp : 0 < Int.gcd u z := Int.gcd_pos_of_ne_zero_left _ hu0
      generalize Int.gcd u z = g at *
      obtain ⟨k, rfl⟩ := hg
      rw [show u.sign * ((g : Int) * k) = (g : Int) * (u.sign * k) by rw [← Int.mul_assoc, ← Int.mul_assoc, Int.mul_comm u.sign], Int.mul_ediv_cancel_left _ (by omega), Int.natAbs_mul]
      rw [Int.natAbs_mul, Int.natAbs_natCast] at hz
      have : k.natAbs ≤ g * k.natAbs := Nat.le_mul_of_pos_left _ hgp
      have hs : u.sign.natAbs ≤ 1 := by
        rcases Int.lt_trichotomy u 0 with h | h | h
        · rw [Int.sign_eq_neg_one_of_neg h]; decide
        · exact absurd h hu0
        · rw [Int.sign_eq_one_of_pos h]; decide
      have := Nat.mul_le_mul_right k.natAbs hs
      omega
  · rw [Rat.den_divInt, if_neg hu0]
    exact Nat.le_trans (Nat.div_le_self _ _) hu
end Go.Proofs.Ytimhkkijoelmhaa
namespace Go.Proofs.Ytimhkkijoelmhaa

abbrev Rw := Nat × List Rat
/-- A factor of a row; 0 behind its end. -/
def cv (r : List Rat) (j : Nat) : Rat := r.getD j 0
theorem cv_lt {r : List Rat} {j : Nat} (h : j < r.length) : cv r j = r[j] := by
  unfold cv
  rw [List.getD_eq_getElem?_getD, List.getElem?_eq_getElem h]
  rfl
theorem cv_ge {r : List Rat} {j : Nat} (h : r.length ≤ j) : cv r j = 0 := by
  unfold cv
  rw [List.getD_eq_getElem?_getD, List.getElem?_eq_none h]
  rfl
theorem cv_ext {a b : List Rat} (h : a.length = b.length) (e : ∀ j, j < a.length → cv a j = cv b j) : a = b := by
  refine List.ext_getElem h (fun j h1 h2 => ?_)
  have := e j h1
  rwa [cv_lt h1, cv_lt h2] at this
/-- A row less so much of another one. -/
def subR (a b : List Rat) (f : Rat) : List Rat := List.zipWith (fun x y => x - y * f) a b
theorem subR_len (a b : List Rat) (f : Rat) (h : b.length = a.length) : (subR a b f).length = a.length := by simp [subR, h]
theorem cv_sub (a b : List Rat) (f : Rat) (h : b.length = a.length) (j : Nat) : cv (subR a b f) j = cv a j - cv b j * f := by
  by_cases hj : j < a.length
  · rw [cv_lt (by rw [subR_len _ _ _ h]; exact hj), cv_lt hj, cv_lt (by omega)]
    simp [subR]
  · rw [cv_ge (by rw [subR_len _ _ _ h]; omega), cv_ge (by omega), cv_ge (by omega)]
    grind
theorem subR_zero (a b : List Rat) (h : b.length = a.length) : subR a b 0 = a := by
  refine cv_ext (subR_len _ _ _ h) (fun j _ => ?_)
  rw [cv_sub _ _ _ h]
  grind
def divR (x : List Rat) (f : Rat) : List Rat := x.map (· / f)
theorem cv_div (x : List Rat) (f : Rat) (j : Nat) : cv (divR x f) j = cv x j * f⁻¹ := by
  by_cases hj : j < x.length
  · rw [cv_lt (by simpa [divR] using hj), cv_lt hj]
    simp [divR, Rat.div_def]
  · rw [cv_ge (by simpa [divR] using hj), cv_ge (by omega), Rat.zero_mul]
def bitR (b : Bool) : Rat := if b = true then 1 else 0
theorem bitR_bit (b : Bool) : bitR b = 0 ∨ bitR b = 1 := by cases b <;> simp [bitR]
/-- The equation that a question is. -/
def newR (n m : Nat) (bits : Nat → Bool) (k : Nat) : List Rat := (List.range n).map (fun i => bitR (bits i)) ++ (List.range m).map (fun i => bitR (i == k))
theorem newR_len (n m : Nat) (bits : Nat → Bool) (k : Nat) : (newR n m bits k).length = n + m := by simp [newR]
theorem newR_bit (n m : Nat) (bits : Nat → Bool) (k j : Nat) : cv (newR n m bits k) j = 0 ∨ cv (newR n m bits k) j = 1 := by
  by_cases hj : j < (newR n m bits k).length
  · rw [cv_lt hj]
    have key : ∀ v ∈ newR n m bits k, v = 0 ∨ v = 1 := by
      intro v hv
      simp only [newR, List.mem_append, List.mem_map] at hv
      rcases hv with ⟨i, _, rfl⟩ | ⟨i, _, rfl⟩ <;> exact bitR_bit _
    exact key _ (List.getElem_mem hj)
  · exact .inl (cv_ge (by omega))
/-- What earlier rows say is taken away. -/
def awayR (rows : List Rw) (x : List Rat) : List Rat := rows.foldl (fun r row => subR r row.2 (cv r row.1)) x
def firstR (n : Nat) (x : List Rat) : Option Nat := (List.range n).find? (fun i => decide (cv x i ≠ 0))
/-- A row behind the rest, with 1 for the subject that leads it. -/
def putR (rows : List Rw) (f : Nat) (y : List Rat) : List Rw := rows.map (fun row => (row.1, subR row.2 y (cv row.2 f))) ++ [(f, y)]
def stepR (n : Nat) (rows : List Rw) (x0 : List Rat) : List Rw :=
  match firstR n (awayR rows x0) with
  | none => rows
  | some f => putR rows f (divR (awayR rows x0) (cv (awayR rows x0) f))
/-- The rows of so many questions. -/
def solveR (n m : Nat) (asks : Nat → Nat → Bool) : Nat → List Rw
  | 0 => []
  | k + 1 => stepR n (solveR n m asks k) (newR n m (asks k) k)

/-- Rows that are solved. -/
structure Bk (N n : Nat) (qs : List (Nat → Rat)) (rows : List Rw) : Prop where
  len : ∀ r ∈ rows, r.2.length = N
  lead : ∀ r ∈ rows, r.1 < n
  nd : (rows.map (·.1)).Nodup
  delta : ∀ r ∈ rows, ∀ s ∈ rows, cv r.2 s.1 = if r.1 = s.1 then 1 else 0
  sp : ∀ r ∈ rows, Sp qs (cv r.2)
  det : dt qs (rows.map (·.1)).reverse ≠ 0
  q01 : ∀ q ∈ qs, ∀ j, q j = 0 ∨ q j = 1
  cnt : qs.length = rows.length
theorem Bk.nil (N n : Nat) : Bk N n [] [] :=
  ⟨by simp, by simp, by simp, by simp, by simp, by show (1 : Rat) ≠ 0; decide, by simp, rfl⟩
theorem fst_inj {rows : List Rw} (nd : (rows.map (·.1)).Nodup) {r s : Rw} (hr : r ∈ rows) (hs : s ∈ rows) (e : r.1 = s.1) : r = s := by
  obtain ⟨i, hi, rfl⟩ := List.getElem_of_mem hr
  obtain ⟨j, hj, rfl⟩ := List.getElem_of_mem hs
  have := (List.nodup_iff_pairwise_ne.1 nd)
  rw [List.pairwise_iff_getElem] at this
  rcases Nat.lt_trichotomy i j with h | h | h
  · exact absurd (by rw [List.getElem_map, List.getElem_map]; exact e) (this i j (by simpa using hi) (by simpa using hj) h)
  · subst h; rfl
  · exact absurd (by rw [List.getElem_map, List.getElem_map]; exact e.symm) (this j i (by simpa using hj) (by simpa using hi) h)
section
variable {N n : Nat} {qs : List (Nat → Rat)} {rows : List Rw}
theorem Bk.detZ (h : Bk N n qs rows) : IsZ (fac rows.length) (dt qs (rows.map (·.1)).reverse) := by
  have := dt_isZ h.q01 (rows.map (·.1)).reverse (by simp [h.cnt])
  rwa [h.cnt] at this
/-- What the rows' columns say of any row that vanishes on none but the rest. -/
theorem Bk.at_ (_h : Bk N n qs rows) {a : Nat → Rat} (ha : ∀ r ∈ rows, a r.1 = 0) (j : Nat) : dl a (dt qs) (j :: (rows.map (·.1)).reverse) = a j * dt qs (rows.map (·.1)).reverse := by
  rw [dl_cons, dl_vanish a _ _ (fun x hx => by
    simp only [List.mem_reverse, List.mem_map] at hx
    obtain ⟨r, hr, rfl⟩ := hx
    exact ha r hr)]
  grind
/-- A row's factors are whole numbers over the determinant. -/
theorem Bk.entry (h : Bk N n qs rows) {r : Rw} (hr : r ∈ rows) (j : Nat) : IsZ (fac rows.length) (dt qs (rows.map (·.1)).reverse * cv r.2 j) := by
  have h0 := h.sp r hr (j :: (rows.map (·.1)).reverse)
  rw [dl_cons] at h0
  obtain ⟨i, hi, hir⟩ := List.getElem_of_mem (show r.1 ∈ (rows.map (·.1)).reverse by simp only [List.mem_reverse, List.mem_map]; exact ⟨r, hr, rfl⟩)
  have hnd : ((rows.map (·.1)).reverse).Nodup := (List.reverse_perm _).nodup_iff.2 h.nd
  have e : dt qs (rows.map (·.1)).reverse * cv r.2 j = dl (cv r.2) (fun d => dt qs (j :: d)) (rows.map (·.1)).reverse := by grind
  rw [e]
  have hz : IsZ (fac rows.length) (dt qs (j :: (rows.map (·.1)).reverse.eraseIdx i)) := by
    have := dt_isZ h.q01 (j :: (rows.map (·.1)).reverse.eraseIdx i) (by
      rw [List.length_cons, List.length_eraseIdx_of_lt hi]
      simp only [List.length_reverse, List.length_map] at hi ⊢
      rw [h.cnt]; omega)
    rwa [h.cnt] at this
  have hd : ∀ k (hk : k < (rows.map (·.1)).reverse.length), cv r.2 (rows.map (·.1)).reverse[k]! = if k = i then 1 else 0 := by
    intro k hk
    have hm : (rows.map (·.1)).reverse[k] ∈ (rows.map (·.1)).reverse := List.getElem_mem hk
    rw [getElem!_pos _ k hk]
    have hm' := hm
    simp only [List.mem_reverse, List.mem_map] at hm'
    obtain ⟨s, hs, es⟩ := hm'
    rw [← es, h.delta r hr s hs, es, ← hir]
    by_cases hki : k = i
    · subst hki; simp
    · rw [if_neg hki, if_neg]
      intro e1
      have := (List.nodup_iff_pairwise_ne.1 hnd)
      rw [List.pairwise_iff_getElem] at this
      rcases Nat.lt_or_gt_of_ne hki with hlt | hlt
      · exact this k i hk hi hlt e1.symm
      · exact this i k hi hk hlt e1
  rcases dl_pick (a := cv r.2) (rows.map (·.1)).reverse i hi (fun d => dt qs (j :: d)) (by rw [hd i hi, if_pos rfl]) (fun k hk hne => by rw [hd k hk, if_neg hne]) with e2 | e2
  · rw [e2]; exact hz
  · rw [e2]; exact hz.neg
/-- Some of the rows are taken away. -/
theorem Bk.away (h : Bk N n qs rows) {x : List Rat} (hx : x.length = N) (h01 : ∀ j, cv x j = 0 ∨ cv x j = 1) : ∀ (L : List Rw), (∀ r ∈ L, r ∈ rows) → (L.map (·.1)).Nodup → 
    (awayR L x).length = N ∧ (∀ s ∈ rows, cv (awayR L x) s.1 = if s ∈ L then 0 else cv x s.1) ∧ (∀ c, dl (cv (awayR L x)) (dt qs) c = dl (cv x) (dt qs) c) ∧
    (∀ j, IsZ ((1 + L.length) * fac rows.length) (dt qs (rows.map (·.1)).reverse * cv (awayR L x) j)) := by
  intro L
  -- from the end
  suffices H : ∀ (R : List Rw), (∀ r ∈ R, r ∈ rows) → (R.map (·.1)).Nodup → 
      (awayR R.reverse x).length = N ∧ (∀ s ∈ rows, cv (awayR R.reverse x) s.1 = if s ∈ R then 0 else cv x s.1) ∧ (∀ c, dl (cv (awayR R.reverse x)) (dt qs) c = dl (cv x) (dt qs) c) ∧
      (∀ j, IsZ ((1 + R.length) * fac rows.length) (dt qs (rows.map (·.1)).reverse * cv (awayR R.reverse x) j)) by
    intro h1 h2
    have := H L.reverse (fun r hr => h1 r (List.mem_reverse.1 hr)) (by rw [List.map_reverse]; exact (List.reverse_perm _).nodup_iff.2 h2)
    simpa using this
  intro R
  induction R with
  | nil =>
    intro _ _
    refine ⟨hx, fun s _ => by simp [awayR], fun c => rfl, fun j => ?_⟩
    have := h.detZ.bit (h01 j)
    simp only [List.length_nil, Nat.add_zero, Nat.one_mul, List.reverse_nil]
    rw [Rat.mul_comm]
    exact this
  | cons r R ih =>
    intro h1 h2
    have hr := h1 r List.mem_cons_self
    rw [List.map_cons, List.nodup_cons] at h2
    obtain ⟨i1, i2, i3, i4⟩ := ih (fun s hs => h1 s (List.mem_cons_of_mem _ hs)) h2.2
    have hrR : r ∉ R := fun hm => h2.1 (List.mem_map.2 ⟨r, hm, rfl⟩)
    have e : awayR (r :: R).reverse x = subR (awayR R.reverse x) r.2 (cv x r.1) := by
      have : cv (awayR R.reverse x) r.1 = cv x r.1 := by rw [i2 r hr, if_neg hrR]
      rw [← this]
      unfold awayR
      rw [List.reverse_cons, List.foldl_append]
      rfl
    rw [e]
    have hl := h.len r hr
    have hl' : r.2.length = (awayR R.reverse x).length := by omega
    refine ⟨by rw [subR_len _ _ _ hl', i1], fun s hs => ?_, fun c => ?_, fun j => ?_⟩
    · rw [cv_sub _ _ _ hl', h.delta r hr s hs, i2 s hs]
      by_cases hsr : r.1 = s.1
      · have := fst_inj h.nd hr hs hsr
        subst this
        rw [if_pos hsr, if_neg hrR, if_pos List.mem_cons_self]
        grind
      · have hne : s ≠ r := fun e => hsr (by rw [e])
        rw [if_neg hsr]
        simp only [List.mem_cons, hne, false_or]
        grind
    · have hc : (cv (subR (awayR R.reverse x) r.2 (cv x r.1))) = fun j => cv (awayR R.reverse x) j - cv r.2 j * cv x r.1 := funext fun j => cv_sub _ _ _ hl' j
      rw [hc, dl_left, i3, h.sp r hr]
      grind
    · rw [cv_sub _ _ _ hl']
      have a1 := i4 j
      have a2 := (h.entry hr j).bit (h01 r.1)
      have := a1.sub a2
      have e1 : dt qs (rows.map (·.1)).reverse * cv (awayR R.reverse x) j - cv x r.1 * (dt qs (rows.map (·.1)).reverse * cv r.2 j) = dt qs (rows.map (·.1)).reverse * (cv (awayR R.reverse x) j - cv r.2 j * cv x r.1) := by grind
      rw [e1] at this
      refine this.mono ?_
      rw [List.length_cons, show 1 + (R.length + 1) = (1 + R.length) + 1 by omega, Nat.succ_mul]
      omega
/-- All of the rows are taken away, in any order. -/
theorem Bk.full (h : Bk N n qs rows) {x : List Rat} (hx : x.length = N) (h01 : ∀ j, cv x j = 0 ∨ cv x j = 1) {L : List Rw} (h1 : ∀ r, r ∈ L ↔ r ∈ rows) (h2 : (L.map (·.1)).Nodup) (j : Nat) :
    cv (awayR L x) j * dt qs (rows.map (·.1)).reverse = dl (cv x) (dt qs) (j :: (rows.map (·.1)).reverse) := by
  obtain ⟨_, i2, i3, _⟩ := h.away hx h01 L (fun r hr => (h1 r).1 hr) h2
  rw [← i3, h.at_ (fun r hr => by rw [i2 r hr, if_pos ((h1 r).2 hr)])]
theorem Bk.any_order (h : Bk N n qs rows) {x : List Rat} (hx : x.length = N) (h01 : ∀ j, cv x j = 0 ∨ cv x j = 1) {L : List Rw} (h1 : ∀ r, r ∈ L ↔ r ∈ rows) (h2 : (L.map (·.1)).Nodup) : awayR L x = awayR rows x := by
  have a := (h.away hx h01 L (fun r hr => (h1 r).1 hr) h2).1
  have b := (h.away hx h01 rows (fun r hr => hr) h.nd).1
  refine cv_ext (by rw [a, b]) (fun j _ => ?_)
  have e1 := h.full hx h01 h1 h2 j
  have e2 := h.full hx h01 (fun r => Iff.rfl) h.nd j
  have hd := h.det
  grind
/-- A new row. -/
theorem Bk.put (h : Bk N n qs rows) {x : List Rat} (hx : x.length = N) (h01 : ∀ j, cv x j = 0 ∨ cv x j = 1) {f : Nat} (hf : f < n) (hne : cv (awayR rows x) f ≠ 0) :
    Bk N n (cv x :: qs) (putR rows f (divR (awayR rows x) (cv (awayR rows x) f))) := by
  obtain ⟨i1, i2, i3, _⟩ := h.away hx h01 rows (fun r hr => hr) h.nd
  have hful := h.full hx h01 (fun r => Iff.rfl) h.nd
  generalize hy : awayR rows x = y at *
  have hyp : ∀ r ∈ rows, cv y r.1 = 0 := fun r hr => by rw [i2 r hr, if_pos hr]
  have hfp : ∀ r ∈ rows, f ≠ r.1 := fun r hr e => hne (by rw [e]; exact hyp r hr)
  have hz : (divR y (cv y f)).length = N := by simp [divR, i1]
  have hzp : ∀ r ∈ rows, cv (divR y (cv y f)) r.1 = 0 := fun r hr => by rw [cv_div, hyp r hr, Rat.zero_mul]
  have hzf : cv (divR y (cv y f)) f = 1 := by rw [cv_div]; exact Rat.mul_inv_cancel _ hne
  have hzs : Sp (cv x :: qs) (cv (divR y (cv y f))) := by
    refine Sp.congr (a := fun j => cv y j * (cv y f)⁻¹) (Sp.mul ?_ _) (fun j => cv_div _ _ _)
    intro c
    have h1 := dl_anti (cv x) (cv y) c (dt qs)
    have h2 := dl_anti (cv x) (cv x) c (dt qs)
    have e3 : dl (cv y) (dt qs) = dl (cv x) (dt qs) := funext i3
    have e4 : dl (cv y) (dt (cv x :: qs)) c = dl (cv y) (dl (cv x) (dt qs)) c := rfl
    rw [e4]
    rw [e3] at h1
    grind
  generalize divR y (cv y f) = z at *
  have hmem : ∀ r, r ∈ putR rows f z ↔ (∃ s ∈ rows, r = (s.1, subR s.2 z (cv s.2 f))) ∨ r = (f, z) := by
    intro r
    simp only [putR, List.mem_append, List.mem_map, List.mem_singleton]
    constructor
    · rintro (⟨s, hs, e⟩ | e)
      · exact .inl ⟨s, hs, e.symm⟩
      · exact .inr e
    · rintro (⟨s, hs, e⟩ | e)
      · exact .inl ⟨s, hs, e.symm⟩
      · exact .inr e
  have hfst : (putR rows f z).map (·.1) = rows.map (·.1) ++ [f] := by simp [putR, Function.comp_def]
  have hsl : ∀ s ∈ rows, z.length = s.2.length := fun s hs => by rw [hz, h.len s hs]
  refine ⟨fun r hr => ?_, fun r hr => ?_, ?_, fun r hr s hs => ?_, fun r hr => ?_, ?_, fun q hq => ?_, ?_⟩
  · rcases (hmem r).1 hr with ⟨s, hs, rfl⟩ | rfl
    · rw [subR_len _ _ _ (hsl s hs), h.len s hs]
    · exact hz
  · rcases (hmem r).1 hr with ⟨s, hs, rfl⟩ | rfl
    · exact h.lead s hs
    · exact hf
  · rw [hfst, List.nodup_append]
    refine ⟨h.nd, by simp, fun a ha b hb => ?_⟩
    simp only [List.mem_map, List.mem_singleton] at ha hb
    obtain ⟨r, hr, rfl⟩ := ha
    subst hb
    exact fun e => hfp r hr e.symm
  · rcases (hmem r).1 hr with ⟨r', hr', rfl⟩ | rfl
    · rcases (hmem s).1 hs with ⟨s', hs', rfl⟩ | rfl
      · simp only [cv_sub _ _ _ (hsl r' hr'), hzp s' hs', h.delta r' hr' s' hs']
        grind
      · simp only [cv_sub _ _ _ (hsl r' hr'), hzf]
        rw [if_neg (fun e => hfp r' hr' e.symm)]
        grind
    · rcases (hmem s).1 hs with ⟨s', hs', rfl⟩ | rfl
      · simp only [hzp s' hs']
        rw [if_neg (hfp s' hs')]
      · simp only [hzf, if_pos]
  · rcases (hmem r).1 hr with ⟨s, hs, rfl⟩ | rfl
    · refine Sp.congr (a := fun j => cv s.2 j - cv z j * cv s.2 f) (Sp.sub ((h.sp s hs).more _) hzs _) (fun j => cv_sub _ _ _ (hsl s hs) j)
    · exact hzs
  · rw [hfst, List.reverse_append, dt_cons]
    show dl (cv x) (dt qs) (f :: (rows.map (·.1)).reverse) ≠ 0
    rw [← hful f]
    have hd := h.det
    intro e
    rcases Rat.mul_eq_zero.1 e with e | e
    · exact hne e
    · exact hd e
  · rcases List.mem_cons.1 hq with rfl | hq
    · exact h01
    · exact h.q01 q hq
  · simp [putR, h.cnt]
end
theorem fac_le {a b : Nat} (h : a ≤ b) : fac a ≤ fac b := by
  induction h with
  | refl => exact Nat.le_refl _
  | step _ ih => exact Nat.le_trans ih (Nat.le_mul_of_pos_left _ (Nat.succ_pos _))
end Go.Proofs.Ytimhkkijoelmhaa
namespace Go.Proofs.Ytimhkkijoelmhaa
open Go.RowKit

def lcmL (l : List Rat) : Nat := l.foldl (fun d x => Nat.lcm d x.den) 1
theorem lcmL_snoc (l : List Rat) (x : Rat) : lcmL (l ++ [x]) = Nat.lcm (lcmL l) x.den := by
  unfold lcmL
  rw [List.foldl_append]
  rfl
theorem lcmL_take {l : List Rat} {k : Nat} (hk : k < l.length) : lcmL (l.take (k + 1)) = Nat.lcm (lcmL (l.take k)) l[k]!.den := by
  rw [List.take_succ_eq_append_getElem hk, lcmL_snoc, ← getElem!_pos l k hk]
theorem lcm_fold (l : List Rat) (d : Nat) : d ∣ l.foldl (fun d x => Nat.lcm d x.den) d ∧ (∀ x ∈ l, x.den ∣ l.foldl (fun d x => Nat.lcm d x.den) d) ∧ ∀ D, d ∣ D → (∀ x ∈ l, x.den ∣ D) → l.foldl (fun d x => Nat.lcm d x.den) d ∣ D := by
  induction l generalizing d with
  | nil => exact ⟨Nat.dvd_refl _, by simp, fun D h _ => h⟩
  | cons x r ih =>
    obtain ⟨h1, h2, h3⟩ := ih (Nat.lcm d x.den)
    refine ⟨Nat.dvd_trans (Nat.dvd_lcm_left _ _) h1, ?_, ?_⟩
    · intro y hy
      rcases List.mem_cons.1 hy with rfl | hy
      · exact Nat.dvd_trans (Nat.dvd_lcm_right _ _) h1
      · exact h2 y hy
    · intro D hd hx
      exact h3 D (Nat.lcm_dvd hd (hx x (by simp))) (fun y hy => hx y (List.mem_cons_of_mem _ hy))
theorem den_dvd_lcmL {l : List Rat} {x : Rat} (h : x ∈ l) : x.den ∣ lcmL l := (lcm_fold l 1).2.1 x h
theorem lcmL_dvd {l : List Rat} {D : Nat} (h : ∀ x ∈ l, x.den ∣ D) : lcmL l ∣ D := (lcm_fold l 1).2.2 D (Nat.one_dvd _) h
theorem lcmL_pos (l : List Rat) : 0 < lcmL l := by
  have key : ∀ (l : List Rat) (d : Nat), 0 < d → 0 < l.foldl (fun d x => Nat.lcm d x.den) d := by
    intro l
    induction l with
    | nil => intro d h; exact h
    | cons x r ih => intro d h; exact ih _ (Nat.lcm_pos h (den_pos x))
  exact key l 1 (by omega)
theorem lcmL_le {l : List Rat} {D : Nat} (h : ∀ x ∈ l, x.den ∣ D) (hD : 0 < D) : lcmL l ≤ D := Nat.le_of_dvd hD (lcmL_dvd h)
theorem lcm_step (d b : Nat) : d / Nat.gcd d b * b = Nat.lcm d b := Nat.div_mul_right_comm (Nat.gcd_dvd_left d b) b
/-- The fractions times the least common multiple of their lower numbers. -/
def numsR (l : List Rat) : List Int := l.map fun x => ((lcmL l / x.den : Nat) : Int) * x.num
theorem numsR_len (l : List Rat) : (numsR l).length = l.length := by simp [numsR]
theorem numsR_get {l : List Rat} {k : Nat} (hk : k < l.length) : (numsR l)[k]! = ((lcmL l / l[k]!.den : Nat) : Int) * l[k]!.num := by
  rw [getElem!_pos (numsR l) k (by rw [numsR_len]; exact hk), getElem!_pos l k hk]
  simp [numsR]
theorem numsR_le {l : List Rat} {D B : Nat} (h : ∀ x ∈ l, x.den ∣ D) (hD : 0 < D) (hB : ∀ x ∈ l, x.num.natAbs ≤ B) : ∀ z ∈ numsR l, z.natAbs ≤ D * B := by
  intro z hz
  obtain ⟨x, hx, rfl⟩ := List.mem_map.1 hz
  rw [Int.natAbs_mul, Int.natAbs_natCast]
  exact Nat.mul_le_mul (Nat.le_trans (Nat.div_le_self _ _) (lcmL_le h hD)) (hB x hx)
def wholeR (l : List Rat) : List Int := if 1 < gcdL (numsR l) then (numsR l).map (fun z => z.tdiv (gcdL (numsR l) : Int)) else numsR l
theorem wholeR_len (l : List Rat) : (wholeR l).length = l.length := by
  unfold wholeR
  split <;> simp [numsR_len]
theorem tdiv_nat (a b : Nat) : Int.tdiv (a : Int) (b : Int) = ((a / b : Nat) : Int) := rfl
end Go.Proofs.Ytimhkkijoelmhaa
