/- until of the package inquiry: what a loop over it is handed. For every slice of signals. until of the package inquiry: a loop over it is handed the signals of a file until a day that are of some kinds. For every slice of signals. Freezes and alerts, as a loop finds them. For all signals. No program in sight. latest of the package inquiry: the latest signal that a loop is handed. For every iterator. -/
import Derived.LoopIn
import Derived.LoopNIn
import Derived.OwnWalkIn
import Derived.RangeFuncBox
import Derived.RangeFuncKeeps
import Derived.RangeFuncLeaves
import Derived.RangeFuncNested
import Derived.Shelf.Abstract
import Derived.TacticsInMore
import Derived.Test.YtliehlefpodhaaaDoorOBase
import Derived.Test.YtliehlefpodhaaaDoorOIn
import Derived.Test.YtliehlefpodhaaaDoorOGs
import Derived.Test.YtliehlefpodhaaaDoorORegGr
import Derived.Test.YtliehlefpodhaaaDoorOOrder
import Derived.Test.YtliehlefpodhaaaDoorOAmong9
namespace Go.Proofs.YtliehlefpodhaaaDoor
open Go.RowKit Go.Shelf
attribute [local go_sem] Oper.semAt_some

/-- The blocks that S names are as they were; the rest only grew. -/
structure Kpt (S : Nat → Prop) (w w' : World) : Prop where
  os : w'.os = w.os
  tape : w'.tape = w.tape
  output : w'.output = w.output
  size : w.heap.size ≤ w'.heap.size
  block : ∀ k, S k → w'.heap[k]? = w.heap[k]?
theorem Kpt.refl (S : Nat → Prop) (w : World) : Kpt S w w := ⟨rfl, rfl, rfl, Nat.le_refl _, fun _ _ => rfl⟩
theorem Kpt.trans {S : Nat → Prop} {a b c : World} (h : Kpt S a b) (k : Kpt S b c) : Kpt S a c :=
  ⟨k.os.trans h.os, k.tape.trans h.tape, k.output.trans h.output, Nat.le_trans h.size k.size, fun i hi => (k.block i hi).trans (h.block i hi)⟩
theorem Kpt.of_below {S : Nat → Prop} {n : Nat} {a b : World} (h : Below n a b) (hS : ∀ k, S k → k < n) : Kpt S a b := ⟨h.os, h.tape, h.output, h.size, fun k hk => h.block k (hS k hk)⟩
theorem Kpt.of_gr {S : Nat → Prop} {a b : World} (h : Gr a b) (hS : ∀ k, S k → k < a.heap.size) : Kpt S a b := Kpt.of_below h hS
theorem Kpt.setCell {S : Nat → Prop} {a b : World} (h : Kpt S a b) {p : Addr} (hp : ¬ S p.block) (u : Value) : Kpt S a (b.setCell p u) :=
  ⟨h.os, h.tape, h.output, by simpa [World.setCell] using h.size, fun k hk => (Below.heap_setCell b p u k (fun e => hp (e ▸ hk))).trans (h.block k hk)⟩
theorem Kpt.cell {S : Nat → Prop} {a b : World} (h : Kpt S a b) {k o : Nat} (hk : S k) : b.cell? ⟨k, o, none⟩ = a.cell? ⟨k, o, none⟩ := by
  have hb : Below (k + 1) a ({ b with heap := b.heap }) ∨ True := Or.inr trivial
  unfold World.cell?
  rw [h.block k hk]
theorem kpt_t {S : Nat → Prop} {A B C : World} (h : Kpt S A B) (k : Kpt S B C) : Kpt S A C := h.trans k
theorem kpt_b {S : Nat → Prop} {w : World} (hS : ∀ k, S k → k < w.heap.size) (W : World) (l : Nat) (o o' : Obj) (hl : w.heap.size ≤ l) (h : W.heap[l]? = some o) (h1 : o.isCells = false) (h2 : o.isWalk = false) : Kpt S W (W.putObj l o') :=
  Kpt.of_below (belowK_b (n₀ := w.heap.size) (Nat.le_refl _) W l o o' hl h h1 h2) hS

/-- Which signals until yields. -/
def selB (file last : Int) (ks : List Int) (x : Sig) : Bool := x.file == file && decide (x.day ≤ last) && ks.any fun y => x.kind == y
/-- The four boxes that it holds. -/
structure UnBox (W : World) (g : Nat) (A : Option Addr) (len cap : Nat) (file last : Int) (K : Option Addr) (m kc : Nat) : Prop where
  b0 : W.cell? ⟨g, 0, none⟩ = some (.slice A len cap)
  b1 : W.cell? ⟨g + 1, 0, none⟩ = some (.int .i64 file)
  b2 : W.cell? ⟨g + 2, 0, none⟩ = some (.int .i64 last)
  b3 : W.cell? ⟨g + 3, 0, none⟩ = some (.slice K m kc)
theorem Rd.kpt {S : Nat → Prop} {w w' : World} {size n : Nat} {A : Option Addr} {xs : List Value} (h : Rd w size A n xs) (g : Kpt S w w') (hS : ∀ b o, A = some ⟨b, o, none⟩ → S b) : Rd w' size A n xs :=
  ⟨h.1, fun hn => by
    obtain ⟨b, off, e, hb, hc⟩ := h.2 hn
    exact ⟨b, off, e, Nat.lt_of_lt_of_le hb g.size, fun j u hu => (g.cell (hS b off e)).trans (hc j u hu)⟩⟩

set_option maxRecDepth 100000 in
set_option maxHeartbeats 4000000 in
theorem until1_in (S : Nat → Prop) (file last : Int) (ks : List Int) (zs : List Sig) (n : Nat) (hn : 1 ≤ n) (l g : Nat) (A : Option Addr) (len cap : Nat) (K : Option Addr) (m kc : Nat) (J Jx : List Sig → World → Prop)
    (hJa : ∀ pre W o, J pre W → J pre (W.alloc o))
    (hY : ∀ pre x W, J pre W → pre.length < 1000 → YieldAt Fence.wide (n - 1) Tryd.prog l #[x.val] W fun e W' =>
      (e = .returned (.bool true) ∧ J (pre ++ [x]) W' ∧ Kpt S W W') ∨ (e = .returned (.bool false) ∧ Jx (pre ++ [x]) W'))
    (W : World) (hS : ∀ k, S k → k < W.heap.size) (hB : UnBox W g A len cap file last K m kc) (hg : S g ∧ S (g + 1) ∧ S (g + 2) ∧ S (g + 3))
    (hZ : SigsIn W A len zs) (hZS : ∀ b o, A = some ⟨b, o, none⟩ → S b) (hlen : len < 1000) (hK : Rd W 1 K m (ks.map (Value.int .u8))) (hKS : ∀ b o, K = some ⟨b, o, none⟩ → S b) (hm : m ≤ 1000) (h0 : J [] W) :
    CallsIn Fence.wide n Tryd.prog 95 #[.func (.yield l) #[] #[], .pointer (some ⟨g, 0, none⟩), .pointer (some ⟨g + 1, 0, none⟩), .pointer (some ⟨g + 2, 0, none⟩), .pointer (some ⟨g + 3, 0, none⟩)] W fun e W' => (∃ v, e = .returned v) ∧
      ((∃ ys, ys = zs.filter (selB file last ks) ∧ J ys W') ∨ (∃ pre, pre <+: zs.filter (selB file last ks) ∧ Jx pre W')) := by
  obtain ⟨hg0, hg1, hg2, hg3⟩ := hg
  have HL := hid hZ.rd.sig_len
  have HZ := hid hZ
  have HK := hid hK
  have HB := hid hB
  have b0 := hB.b0
  have hbig := hZ.big
  have hlen' : (len : Int) < 1000 := by omega
  clear hZ hK hB
  have HPre : Hid (∀ k x, k < len → zs[k]! = x → (zs.take (k + 1)).filter (selB file last ks) = (zs.take k).filter (selB file last ks) ++ (if selB file last ks x then [x] else [])) := by
    intro k x hk hx
    have hk' : k < zs.length := by have := HL.out; omega
    rw [List.take_succ_eq_append_getElem hk', List.filter_append, ← getElem!_pos zs k hk', hx]
    congr 1
    cases h : selB file last ks x <;> simp [h]
  have HCnt : Hid (∀ k, k ≤ len → ((zs.take k).filter (selB file last ks)).length < 1000) := by
    intro k hk
    have h1 := List.length_filter_le (selB file last ks) (zs.take k)
    have h2 := List.length_take_le k zs
    omega
  have HPfx : Hid (∀ k, (zs.take k).filter (selB file last ks) <+: zs.filter (selB file last ks)) := fun k => (List.take_prefix k zs).filter _
  have HAll : Hid ((zs.take len).filter (selB file last ks) = zs.filter (selB file last ks)) := by
    rw [show (Hid ((zs.take len).filter (selB file last ks) = zs.filter (selB file last ks))) = ((zs.take len).filter (selB file last ks) = zs.filter (selB file last ks)) from rfl, List.take_of_length_le (by have := HL.out; omega)]
  refine callsIn_of_wp Tryd.func95 rfl trivial ?_ rfl
  simp only [Tryd.ntmps95, List.size_toArray, List.length_cons, List.length_nil, Nat.reduceAdd, Nat.reduceSub, Array.replicate_succ, Array.replicate_zero, List.push_toArray, List.append_toArray, List.nil_append, List.cons_append]
  gi_wp2
  clear b0
  gi_loopw [7, 10] (fun _ i wr => ∃ k : Nat, k ≤ len ∧ i = .int .i64 k ∧ J ((zs.take k).filter (selB file last ks)) wr ∧ Kpt S W wr)
    (fun _ i _ => len - (intOf i).toNat)
  case atStart => exact ⟨0, Nat.zero_le _, rfl, h0, Kpt.refl _ _⟩
  case round =>
    obtain ⟨k, hk, rfl, hJs, hnx⟩ := hrel
    by_cases hlt : k < len
    · obtain ⟨hk', b, off, hA, hb, c0, c1, c2, c3, c4, c5⟩ := (HZ.out.rd.kpt hnx hZS).sig hlt
      have hSz := hnx.size
      have hu := HZ.out.u8 _ (mem_get hk')
      obtain ⟨u1, u2⟩ := hu
      obtain ⟨x, hx⟩ : ∃ x, zs[k]! = x := ⟨_, rfl⟩
      rw [hx] at c0 c1 c2 c3 c4 c5 u1 u2
      have HF := hid (HPre.out k x hlt hx)
      have hW1 : Kpt S W (wr.alloc (.cells x.cells.toArray 67)) := hnx.trans (Kpt.of_gr ((Gr.refl wr).alloc _) (fun k hk => Nat.lt_of_lt_of_le (hS k hk) hSz))
      have HW1 := hid hW1
      have HJ1 := hid (hJa _ _ (.cells x.cells.toArray 67) hJs)
      have f1 := (hnx.cell (o := 0) hg1).trans HB.out.b1
      have f2 := (hnx.cell (o := 0) hg2).trans HB.out.b2
      have f3 := (hnx.cell (o := 0) hg3).trans HB.out.b3
      have g1 := Nat.lt_of_lt_of_le (hS _ hg1) hSz
      have g2 := Nat.lt_of_lt_of_le (hS _ hg2) hSz
      have g3 := Nat.lt_of_lt_of_le (hS _ hg3) hSz
      have HC := hid (contains_u8 x.kind K m kc ks _ (HK.out.kpt hW1 hKS) (by omega))
      have HY := hid (hY _ x _ HJ1.out (HCnt.out k hk))
      have HJn : Hid (selB file last ks x = false → J ((zs.take (k + 1)).filter (selB file last ks)) (wr.alloc (.cells x.cells.toArray 67))) := by
        intro h
        rw [HF.out, h]
        simpa using HJ1.out
      have HJp : Hid (selB file last ks x = true → (zs.take (k + 1)).filter (selB file last ks) = (zs.take k).filter (selB file last ks) ++ [x]) := by
        intro h
        rw [HF.out, h]
        rfl
      have HX : Hid (selB file last ks x = (x.file == file && decide (x.day ≤ last) && ks.any fun y => x.kind == y)) := rfl
      clear hW1 hJs hnx hY hx HF hk' h0
      obtain ⟨x0, x1, x2, x3, x4, x5⟩ := x
      unfold Sig.cells at HC HY HJn HW1
      unfold Sig.val at HY
      dsimp only at HC HY HJn HJp HW1 HX c0 c1 c2 c3 c4 c5 u1 u2
      generalize selB file last ks ⟨x0, x1, x2, x3, x4, x5⟩ = sb at HJn HJp HX
      generalize (ks.any fun y => x4 == y) = r at HC HX
      subst hA
      by_cases e1 : x2 = file
      · have e1' : (x2 == file) = true := by simpa using e1
        rw [e1'] at HX
        have E1 := hid e1
        clear e1
        by_cases e2 : x3 ≤ last
        · rw [show decide (x3 ≤ last) = true by simpa using e2] at HX
          have e2' : decide (x3 ≤ last) = true := by simpa using e2
          cases r with
          | true =>
            have HP := hid (HJp.out (by rw [HX.out]; rfl))
            clear HJp HJn HX
            obtain ⟨fn, tmps, assign, body, hy, hR⟩ := HY.out
            have HR := hid hR
            clear hR HY
            gi_wp2_with (first | (refine ⟨trivial, ?_⟩; gi_at_call 96; refine (callsIn_wide.2 HC.out).mono ?_; rintro e w' ⟨rfl, rfl⟩) | ((with_reducible refine And.intro ?_ ?_); first | exact trivial | (intro _ hx; cases hx)))
            refine HR.out.mono ?_
            rintro e W3 (⟨rfl, hJ3, hk3⟩ | ⟨rfl, hJx3⟩)
            · gi_wp2
              go_roundw
              case rel => exact ⟨k + 1, by omega, by simp, by rw [HP.out]; exact hJ3, HW1.out.trans hk3⟩
              case measure => simp [intOf]; omega
            · gi_wp2
              refine bodyPost_ret (results_none rfl _ _ _) rfl ?_
              exact ⟨⟨_, rfl⟩, .inr ⟨_, by rw [← HP.out]; exact HPfx.out (k + 1), hJx3⟩⟩
          | false =>
            have HP := hid (HJn.out (by rw [HX.out]; rfl))
            clear HJp HJn HX HY
            gi_wp2_with (first | (refine ⟨trivial, ?_⟩; gi_at_call 96; refine (callsIn_wide.2 HC.out).mono ?_; rintro e w' ⟨rfl, rfl⟩) | ((with_reducible refine And.intro ?_ ?_); first | exact trivial | (intro _ hx; cases hx)))
            go_roundw
            case rel => exact ⟨k + 1, by omega, by simp, HP.out, HW1.out⟩
            case measure => simp [intOf]; omega
        · have e2' : decide (x3 ≤ last) = false := by simpa using e2
          have HP := hid (HJn.out (by rw [HX.out, e2']; rfl))
          clear HJp HJn HX HY HC
          gi_wp2_with (first | ((with_reducible refine And.intro ?_ ?_); first | exact trivial | (intro _ hx; cases hx)))
          go_roundw
          case rel => exact ⟨k + 1, by omega, by simp, HP.out, HW1.out⟩
          case measure => simp [intOf]; omega
      · have e1' : (x2 == file) = false := by simpa using e1
        have HP := hid (HJn.out (by rw [HX.out, e1']; rfl))
        clear HJp HJn HX HY HC e1
        gi_wp2_with (first | ((with_reducible refine And.intro ?_ ?_); first | exact trivial | (intro _ hx; cases hx)))
        go_roundw
        case rel => exact ⟨k + 1, by omega, by simp, HP.out, HW1.out⟩
        case measure => simp [intOf]; omega
    · obtain rfl : k = len := by omega
      gi_wp2
      go_end0
      rw [HAll.out] at hJs
      exact ⟨⟨_, rfl⟩, .inl ⟨_, rfl, hJs⟩⟩
end Go.Proofs.YtliehlefpodhaaaDoor
namespace Go.Proofs.YtliehlefpodhaaaDoor
open Go.RowKit Go.Shelf

set_option maxHeartbeats 1000000 in
theorem until_any (A : Option Addr) (len cap : Nat) (file last : Int) (K : Option Addr) (m kc : Nat) (w : World) :
    Calls Tryd.prog 76 #[.slice A len cap, .int .i64 file, .int .i64 last, .slice K m kc] w fun e w' =>
      e = .returned (.func (.func 95) #[] #[.pointer (some ⟨w.heap.size, 0, none⟩), .pointer (some ⟨w.heap.size + 1, 0, none⟩), .pointer (some ⟨w.heap.size + 1 + 1, 0, none⟩), .pointer (some ⟨w.heap.size + 1 + 1 + 1, 0, none⟩)]) ∧
      (Gr w w' ∧ w'.heap.size = w.heap.size + 4 ∧ UnBox w' w.heap.size A len cap file last K m kc) := by
  go_enter Tryd.func76, Tryd.ntmps76
  go_wp2
  go_ret
  refine ⟨rfl, ((((Gr.refl w).alloc _).alloc _).alloc _).alloc _, by simp, ?_⟩
  refine ⟨?_, ?_, ?_, ?_⟩
  · exact (Gr.cell (((((Gr.refl _).alloc _).alloc _).alloc _)) (by simp)).trans (cell_top w #[.slice A len cap] _ _ 0 rfl)
  · exact (Gr.cell ((((Gr.refl _).alloc _).alloc _)) (by simp)).trans (cell_top (w.alloc _) #[.int .i64 file] _ _ 0 (by simp))
  · exact (Gr.cell ((Gr.refl _).alloc _) (by simp)).trans (cell_top ((w.alloc _).alloc _) #[.int .i64 last] _ _ 0 (by simp))
  · exact cell_top (((w.alloc _).alloc _).alloc _) #[.slice K m kc] _ _ 0 (by simp)

theorem until_stops (S : Nat → Prop) (file last : Int) (ks : List Int) (zs : List Sig) (n : Nat) (hn : 1 ≤ n) (g : Nat) (A : Option Addr) (len cap : Nat) (K : Option Addr) (m kc : Nat) (w : World) (hS : ∀ k, S k → k < w.heap.size)
    (hB : UnBox w g A len cap file last K m kc) (hg : S g ∧ S (g + 1) ∧ S (g + 2) ∧ S (g + 3)) (hZ : SigsIn w A len zs) (hZS : ∀ b o, A = some ⟨b, o, none⟩ → S b) (hlen : len < 1000)
    (hK : Rd w 1 K m (ks.map (Value.int .u8))) (hKS : ∀ b o, K = some ⟨b, o, none⟩ → S b) (hm : m ≤ 1000) :
    SeqStopsK Fence.wide n Tryd.prog 95 #[.pointer (some ⟨g, 0, none⟩), .pointer (some ⟨g + 1, 0, none⟩), .pointer (some ⟨g + 2, 0, none⟩), .pointer (some ⟨g + 3, 0, none⟩)] (fun x : Sig => #[x.val]) (Kpt S)
      (fun ys => ys = zs.filter (selB file last ks)) (fun pre => pre <+: zs.filter (selB file last ks)) 1000 w := fun l J Jx W hW hJ _ hY h0 => by
  have k : Kpt S w W := Kpt.of_gr hW hS
  obtain ⟨g0, g1, g2, g3⟩ := hg
  exact until1_in S file last ks zs n hn l g A len cap K m kc J Jx (fun pre W1 o h => hJ pre W1 _ none h (World.grownBy_alloc W1 o none) (fun r e => by cases e)) hY W
    (fun i hi => Nat.lt_of_lt_of_le (hS i hi) hW.size) ⟨(k.cell g0).trans hB.b0, (k.cell g1).trans hB.b1, (k.cell g2).trans hB.b2, (k.cell g3).trans hB.b3⟩ ⟨g0, g1, g2, g3⟩ (hZ.gr hW) hZS hlen (hK.gr hW) hKS hm h0
end Go.Proofs.YtliehlefpodhaaaDoor
namespace Go.Proofs.YtliehlefpodhaaaDoor

theorem latestS_snoc (l : List Sig) (x : Sig) : latestS (l ++ [x]) = laterS (latestS l) x := by
  unfold latestS
  rw [List.foldl_append]
  rfl
theorem laterS_some (b : Option Sig) (x : Sig) : (laterS b x).isSome = true := by
  unfold laterS
  split
  · rfl
  · split <;> rfl
theorem selB_two (file last a b : Int) : selB file last [a, b] = ofB file last a b := by
  funext x
  unfold selB ofB
  simp
/-- What the loop over lifts has found. -/
def frz (o : Option Sig) (day : Int) (pre : List Sig) : Bool := (o.isSome && (o.getD default).kind == 1) && !(pre.any fun x => laterB x (o.getD default) && decide (day ≤ x.till))
theorem frz_snoc (o : Option Sig) (day : Int) (pre : List Sig) (x : Sig) : frz o day (pre ++ [x]) = (frz o day pre && !(laterB x (o.getD default) && decide (day ≤ x.till))) := by
  unfold frz
  rw [List.any_append]
  simp only [List.any_cons, List.any_nil, Bool.or_false, Bool.not_or, Bool.and_assoc]
theorem frz_all (l : List Sig) (file day : Int) : frz (latestS (l.filter (selB file day [1, 2]))) day (l.filter (selB file day [3])) = frozenB l file day := by
  unfold frozenB latestOf
  rw [← selB_two]
  cases h : latestS (l.filter (selB file day [1, 2])) with
  | none => rfl
  | some f =>
    unfold frz
    dsimp only [Option.getD, Option.isSome]
    rw [List.any_filter]
    congr 3
    funext x
    unfold selB liftB
    simp only [List.any_cons, List.any_nil, Bool.or_false]
    cases (x.kind == 3) <;> cases (x.file == file) <;> cases (laterB x f) <;> cases (decide (x.day ≤ day)) <;> cases (decide (day ≤ x.till)) <;> rfl
/-- Whether there is an alert, by the latest one. -/
def alr (o : Option Sig) (day : Int) : Bool := o.isSome && ((o.getD default).kind == 4) && decide (day ≤ (o.getD default).till)
theorem alr_all (l : List Sig) (file day : Int) : alr (latestS (l.filter (selB file day [4, 5]))) day = alertB l file day := by
  unfold alertB latestOf
  rw [← selB_two]
  cases h : latestS (l.filter (selB file day [4, 5])) with
  | none => rfl
  | some a => simp [alr]
end Go.Proofs.YtliehlefpodhaaaDoor
namespace Go.Proofs.YtliehlefpodhaaaDoor
open Go.RowKit Go.Shelf Go.Sort
attribute [local go_sem] Oper.semAt_some

def LtI (w : World) (pre : List Sig) (W : World) : Prop :=
  Boxed W w.heap.size 109 (.func (.func 77) #[] #[]) ∧ W.heap[w.heap.size + 1]? = some (.cells (default : Sig).cells.toArray 67 (0, 0)) ∧
    W.heap[w.heap.size + 1 + 1]? = some (.cells ((latestS pre).getD default).cells.toArray 67 (0, 0)) ∧ Boxed W (w.heap.size + 1 + 1 + 1) 4 (.bool (latestS pre).isSome) ∧ Below w.heap.size w W
theorem ltI_own (w : World) {B : Nat} (hB : w.heap.size ≤ B) : OwnFrom B (LtI w) := by
  rintro s X Y row ⟨b1, b2, b3, b4, hb⟩ hg hr
  have hr' : ∀ r, row = some r → ∃ o : Obj, X.heap[r]? = some o ∧ o.isCells = false := fun r e => (hr r e).2
  exact ⟨row_kept b1 hg hr', row_kept b2 hg hr', row_kept b3 hg hr', row_kept b4 hg hr', ownFrom_below (β := Unit) (Nat.le_refl _) hB () X Y row hb hg hr⟩

/-- The best one is set to x. -/
def put6 (W : World) (g : Nat) (x : Sig) : World := ((((((W.setCell ⟨g, 0, none⟩ (.int .i64 x.bureau)).setCell ⟨g, 1, none⟩ (.int .i64 x.id)).setCell ⟨g, 2, none⟩ (.int .i64 x.file)).setCell ⟨g, 3, none⟩ (.int .i64 x.day)).setCell ⟨g, 4, none⟩ (.int .u8 x.kind)).setCell ⟨g, 5, none⟩ (.int .i64 x.till))
theorem put6_keeps {W W1 : World} (h : KeepsOthers W W1) (g : Nat) (x : Sig) : KeepsOthers W (put6 W1 g x) :=
  (((((h.trans (KeepsOthers.setCell _ _ _)).trans (KeepsOthers.setCell _ _ _)).trans (KeepsOthers.setCell _ _ _)).trans (KeepsOthers.setCell _ _ _)).trans (KeepsOthers.setCell _ _ _)).trans (KeepsOthers.setCell _ _ _)
theorem put6_kpt {S : Nat → Prop} {W W1 : World} (h : Kpt S W W1) {g : Nat} (hg : ¬ S g) (x : Sig) : Kpt S W (put6 W1 g x) :=
  (((((h.setCell (p := ⟨g, 0, none⟩) hg _).setCell (p := ⟨g, 1, none⟩) hg _).setCell (p := ⟨g, 2, none⟩) hg _).setCell (p := ⟨g, 3, none⟩) hg _).setCell (p := ⟨g, 4, none⟩) hg _).setCell (p := ⟨g, 5, none⟩) hg _
theorem put6_row {W : World} {g : Nat} {t : TypeId} {z : Sig} (h : W.heap[g]? = some (.cells z.cells.toArray t (0, 0))) (x : Sig) : (put6 W g x).heap[g]? = some (.cells x.cells.toArray t (0, 0)) := set6_row h
theorem put6_other {W : World} {g k : Nat} (hk : k ≠ g) (x : Sig) : (put6 W g x).heap[k]? = W.heap[k]? := set6_other hk _ _ _ _ _ _
theorem put6_gr {w W : World} {g : Nat} (h : Gr w W) (hg : w.heap.size ≤ g) (x : Sig) : Gr w (put6 W g x) := set6_gr h hg _ _ _ _ _ _
theorem heap_drew' (W : World) : W.drew.heap = W.heap := rfl
theorem ltI_put {w W W1 : World} {pre : List Sig} {x : Sig} (h : LtI w pre W) (g : Gr W W1) (hp : laterS (latestS pre) x = some x) : LtI w (pre ++ [x]) ((put6 W1 (w.heap.size + 1 + 1) x).setCell ⟨w.heap.size + 1 + 1 + 1, 0, none⟩ (.bool true)) := by
  obtain ⟨b1, b2, b3, b4, hb⟩ := h
  have b1 := boxed_gr b1 g
  have b2 := row_gr b2 g
  have b3 := row_gr b3 g
  have b4 := boxed_gr b4 g
  have hb := Gr.trans (show Gr w W from hb) g
  refine ⟨?_, ?_, ?_, ?_, ?_⟩
  · exact ((Below.heap_setCell _ _ _ _ (by simp; omega)).trans (put6_other (by omega) x)).trans b1
  · exact ((Below.heap_setCell _ _ _ _ (by simp)).trans (put6_other (by omega) x)).trans b2
  · rw [latestS_snoc, hp]
    exact (Below.heap_setCell _ _ _ _ (by simp)).trans (put6_row b3 x)
  · rw [latestS_snoc, hp]
    exact Boxed.set _ (((put6_other (by omega) x)).trans b4)
  · exact Gr.setCell (put6_gr hb (by omega) x) (by simp; omega) _
theorem ltI_skip {w W W1 : World} {pre : List Sig} {x : Sig} (h : LtI w pre W) (g : Gr W W1) (hp : laterS (latestS pre) x = latestS pre) : LtI w (pre ++ [x]) W1 := by
  obtain ⟨b1, b2, b3, b4, hb⟩ := h
  exact ⟨boxed_gr b1 g, row_gr b2 g, by rw [latestS_snoc, hp]; exact row_gr b3 g, by rw [latestS_snoc, hp]; exact boxed_gr b4 g, Gr.trans (show Gr w W from hb) g⟩
theorem frozen6 {W : World} {g : Nat} {t : TypeId} {cs : Array Value} (h : W.heap[g]? = some (.cells cs t (0, 0))) : W.frozen? ⟨g, 0, none⟩ = false ∧ W.frozen? ⟨g, 1, none⟩ = false ∧ W.frozen? ⟨g, 2, none⟩ = false ∧ W.frozen? ⟨g, 3, none⟩ = false ∧ W.frozen? ⟨g, 4, none⟩ = false ∧ W.frozen? ⟨g, 5, none⟩ = false :=
  ⟨frozen_of_row W g 0 _ _ h, frozen_of_row W g 1 _ _ h, frozen_of_row W g 2 _ _ h, frozen_of_row W g 3 _ _ h, frozen_of_row W g 4 _ _ h, frozen_of_row W g 5 _ _ h⟩

set_option maxRecDepth 100000 in
set_option maxHeartbeats 4000000 in
theorem latest_any (zs : List Sig) (gf : Nat) (lb : Array Value) (eg : ∀ args w, (callFunc gf args).run Tryd.prog w = .ok (.enter gf args) w) (w : World)
    (hseq : SeqStopsK Fence.wide 2 Tryd.prog gf lb (fun x : Sig => #[x.val]) (Kpt fun k => k < w.heap.size) (fun ys => ys = zs) (fun pre => pre <+: zs) 1000 w) :
    Calls Tryd.prog 75 #[.func (.func gf) #[] lb, .func (.func 77) #[] #[]] w fun e w' =>
      e = .returned (.tuple #[((latestS zs).getD default).val, .bool (latestS zs).isSome]) ∧ Gr w w' := by
  have HS := hid hseq
  clear hseq
  refine (callsIn_wide (n := 3)).1 ?_
  refine callsIn_of_wp_marks Tryd.func75 rfl trivial ?_ rfl
  simp only [Tryd.ntmps75, List.size_toArray, List.length_cons, List.length_nil, Nat.reduceAdd, Nat.reduceSub, Array.replicate_succ, Array.replicate_zero, List.push_toArray, List.append_toArray, List.nil_append, List.cons_append]
  gi_wp2
  have hI0 : LtI w [] (((((w.alloc (.cells #[.func (.func 77) #[] #[]] 109)).alloc (.cells (default : Sig).cells.toArray 67)).alloc (.cells (default : Sig).cells.toArray 67)).alloc (.cells #[.bool false] 4))) := by
    refine ⟨((((Boxed.new w _ _).alloc _).alloc _).alloc _), ?_, ?_, ?_, (((((Gr.refl w).alloc _).alloc _).alloc _).alloc _)⟩
    · exact row_gr (W := (w.alloc _).alloc _) (by simpa using heap_alloc_new (w.alloc _) (.cells (default : Sig).cells.toArray 67)) (((Gr.refl _).alloc _).alloc _)
    · exact row_gr (W := ((w.alloc _).alloc _).alloc _) (by have h := heap_alloc_new ((w.alloc (.cells #[.func (.func 77) #[] #[]] 109)).alloc (.cells (default : Sig).cells.toArray 67)) (.cells (default : Sig).cells.toArray 67); simp only [World.size_alloc] at h; exact h) ((Gr.refl _).alloc _)
    · have h := Boxed.new (((w.alloc (.cells #[.func (.func 77) #[] #[]] 109)).alloc (.cells (default : Sig).cells.toArray 67)).alloc (.cells (default : Sig).cells.toArray 67)) 4 (.bool false)
      simp only [World.size_alloc] at h
      exact h
  have hsz : (((((w.alloc (.cells #[.func (.func 77) #[] #[]] 109)).alloc (.cells (default : Sig).cells.toArray 67)).alloc (.cells (default : Sig).cells.toArray 67)).alloc (.cells #[.bool false] 4))).heap.size = w.heap.size + 4 := by simp
  have ed : (default : Sig).cells.toArray = #[.int .i64 0, .int .i64 0, .int .i64 0, .int .i64 0, .int .u8 0, .int .i64 0] := rfl
  rw [ed] at hI0 hsz
  generalize (((((w.alloc (.cells #[.func (.func 77) #[] #[]] 109)).alloc (.cells #[.int .i64 0, .int .i64 0, .int .i64 0, .int .i64 0, .int .u8 0, .int .i64 0] 67)).alloc (.cells #[.int .i64 0, .int .i64 0, .int .i64 0, .int .i64 0, .int .u8 0, .int .i64 0] 67)).alloc (.cells #[.bool false] 4))) = W0 at hI0 hsz ⊢
  refine wpIn_rangeFunc_ownH rfl (by omega) (gf := gf) (lb := lb) rfl trivial eg (w0 := w) HS.out kpt_t (fun W l o o' hl => kpt_b (w := w) (fun _ h => h) W l o o' (by omega)) hI0.2.2.2.2 (fun _ => rfl)
    (LtI w) (fun _ _ _ => False) (ltI_own w (by omega)) (fun c => fun _ _ _ _ h _ _ => h) hI0
    (fun x a' W => ∃ Bx, w.heap.size + 1 + 1 + 1 < Bx ∧ W.heap[Bx]? = some (.cells x.cells.toArray 67 (0, 0)) ∧ a' = { tmps := #[.func (.func gf) #[] lb, .func (.func 77) #[] #[], undef, .pointer (some ⟨w.heap.size, 0, none⟩), .pointer (some ⟨w.heap.size + 1, 0, none⟩), .bool false, .pointer (some ⟨w.heap.size + 1 + 1, 0, none⟩), .pointer (some ⟨w.heap.size + 1 + 1 + 1, 0, none⟩), .pointer (some ⟨Bx, 0, none⟩), .func (.func gf) #[] lb, x.val, undef, undef, undef, undef, undef, undef, undef, undef, undef, undef, undef, undef], defers := [] })
    (fun x a' _ X Y row hs hg hr => by obtain ⟨Bx, e1, e2, e3⟩ := hs; exact ⟨Bx, e1, row_kept e2 hg (fun r e => (hr r e).2), e3⟩)
    ?assign ?body ?done ?stop
  case assign =>
    rintro l pre x W K hL hK
    have hl := hL.2.2.2.1.lt
    have HK := hid (hK { tmps := #[.func (.func gf) #[] lb, .func (.func 77) #[] #[], undef, .pointer (some ⟨w.heap.size, 0, none⟩), .pointer (some ⟨w.heap.size + 1, 0, none⟩), .bool false, .pointer (some ⟨w.heap.size + 1 + 1, 0, none⟩), .pointer (some ⟨w.heap.size + 1 + 1 + 1, 0, none⟩), .pointer (some ⟨W.heap.size, 0, none⟩), .func (.func gf) #[] lb, x.val, undef, undef, undef, undef, undef, undef, undef, undef, undef, undef, undef, undef], defers := [] } (W.alloc (.cells x.cells.toArray 67))
      ((KeepsOthers.alloc _ _).from _) (Kpt.of_below ((Below.refl w.heap.size W).alloc (by omega) _) (fun _ h => h)) ((ltI_own w (Nat.le_refl _)).alloc _ hL) ⟨W.heap.size, hl, by simpa using World.alloc_heap_new W (.cells x.cells.toArray 67), rfl⟩)
    clear hK hL
    obtain ⟨x0, x1, x2, x3, x4, x5⟩ := x
    unfold Sig.val Sig.cells at *
    dsimp only at *
    gi_wp2
    exact HK.out
  case body =>
    rintro l pre x a' W hl ⟨r, hr⟩ hL ⟨Bx, hBx, dX, rfl⟩ hlt
    have HL := hid hL
    have b1 := Boxed.cell hL.1
    have b4 := Boxed.cell hL.2.2.2.1
    have f4 := Boxed.frozen hL.2.2.2.1
    have b3 := hL.2.2.1
    have hBs := hL.2.2.2.2.size
    have HO := hid (fun y W => order_any x y W)
    have HX := hid dX
    clear hL hr HS hI0
    obtain ⟨x0, x1, x2, x3, x4, x5⟩ := x
    unfold Sig.cells at dX HX
    unfold Sig.val at HO ⊢
    dsimp only at dX HX HO ⊢
    obtain ⟨c0, c1, c2, c3, c4, c5⟩ := cellsat6 dX
    clear dX
    have HB3 := hid b3
    cases hlp : latestS pre with
    | none =>
      rw [hlp] at b3 b4 HB3
      have HQ : Hid (laterS (latestS pre) ⟨x0, x1, x2, x3, x4, x5⟩ = some ⟨x0, x1, x2, x3, x4, x5⟩) := by show laterS (latestS pre) _ = _; rw [hlp]; rfl
      clear hlp
      obtain ⟨g0, g1, g2, g3, g4, g5⟩ := frozen6 b3
      unfold Option.isSome at b4
      dsimp only at b4
      obtain ⟨d0, d1, d2, d3, d4, d5⟩ := cellsat6 (W := W) (g := w.heap.size + 1 + 1) (v0 := .int .i64 0) (v1 := .int .i64 0) (v2 := .int .i64 0) (v3 := .int .i64 0) (v4 := .int .u8 0) (v5 := .int .i64 0) b3
      clear b3
      gi_wp2_with ((with_reducible refine And.intro ?_ ?_); first | exact trivial | (intro _ hx; cases hx))
      have hk := put6_kpt (Kpt.refl (fun k => k < w.heap.size) W) (g := w.heap.size + 1 + 1) (by omega) ⟨x0, x1, x2, x3, x4, x5⟩
      exact ⟨((put6_keeps (KeepsOthers.refl W) _ ⟨x0, x1, x2, x3, x4, x5⟩).trans (KeepsOthers.setCell _ _ _)).from _, hk.setCell (p := ⟨w.heap.size + 1 + 1 + 1, 0, none⟩) (by simp; omega) _, ltI_put HL.out (Gr.refl W) HQ.out⟩
    | some y =>
      rw [hlp] at b3 b4 HB3
      unfold Option.isSome at b4
      dsimp only [Option.getD] at b4 b3 HB3
      have HR := hid (by3_pos ⟨x0, x1, x2, x3, x4, x5⟩ y)
      have HQ : Hid (laterS (latestS pre) ⟨x0, x1, x2, x3, x4, x5⟩ = if laterB ⟨x0, x1, x2, x3, x4, x5⟩ y then some ⟨x0, x1, x2, x3, x4, x5⟩ else some y) := by show laterS (latestS pre) _ = _; rw [hlp]; rfl
      have HE := hid hlp
      clear hlp
      replace HO := hid (fun W => HO.out y W)
      obtain ⟨y0, y1, y2, y3, y4, y5⟩ := y
      unfold Sig.cells at b3
      dsimp only at b3 HO
      obtain ⟨d0, d1, d2, d3, d4, d5⟩ := cellsat6 b3
      clear b3
      generalize byN [Sig.day, Sig.bureau, Sig.id] ⟨x0, x1, x2, x3, x4, x5⟩ ⟨y0, y1, y2, y3, y4, y5⟩ = rr at HO HR
      by_cases hpos : 0 < rr
      · have HLT : Hid (laterB ⟨x0, x1, x2, x3, x4, x5⟩ ⟨y0, y1, y2, y3, y4, y5⟩ = true) := by
          show laterB _ _ = true
          rw [← HR.out]; simpa using hpos
        clear HR
        gi_wp2_with (refine ⟨trivial, ?_⟩; gi_at_call 77; refine (CallsIn.inRound l (callsIn_wide.2 (HO.out _))).mono ?_; rintro e w1 ⟨rfl, hb1⟩; obtain ⟨e0, e1, e2, e3, e4, e5⟩ := cellsat6 (row_gr HX.out hb1.gr); obtain ⟨g0, g1, g2, g3, g4, g5⟩ := frozen6 (row_gr HB3.out hb1.gr); obtain ⟨m0, m1, m2, m3, m4, m5⟩ := cellsat6 (row_gr HB3.out hb1.gr); have k4 := Boxed.cell (boxed_gr HL.out.2.2.2.1 hb1.gr); have h4 := Boxed.frozen (boxed_gr HL.out.2.2.2.1 hb1.gr); have HG := hid hb1.gr; clear hb1)
        have hk := put6_kpt (Kpt.of_gr HG.out (fun k (h : k < w.heap.size) => Nat.lt_of_lt_of_le h hBs)) (g := w.heap.size + 1 + 1) (by omega) ⟨x0, x1, x2, x3, x4, x5⟩
        exact ⟨((put6_keeps (keeps_of_gr HG.out) _ ⟨x0, x1, x2, x3, x4, x5⟩).trans (KeepsOthers.setCell _ _ _)).from _, hk.setCell (p := ⟨w.heap.size + 1 + 1 + 1, 0, none⟩) (by simp; omega) _, ltI_put HL.out HG.out (by rw [HQ.out, HLT.out]; rfl)⟩
      · have HLT : Hid (laterB ⟨x0, x1, x2, x3, x4, x5⟩ ⟨y0, y1, y2, y3, y4, y5⟩ = false) := by
          show laterB _ _ = false
          rw [← HR.out]; simpa using hpos
        clear HR
        gi_wp2_with (refine ⟨trivial, ?_⟩; gi_at_call 77; refine (CallsIn.inRound l (callsIn_wide.2 (HO.out _))).mono ?_; rintro e w1 ⟨rfl, hb1⟩; have HG := hid hb1.gr; clear hb1)
        exact ⟨(keeps_of_gr HG.out).from _, Kpt.of_gr HG.out (fun k (h : k < w.heap.size) => Nat.lt_of_lt_of_le h hBs), ltI_skip HL.out HG.out (by rw [HQ.out, HLT.out, HE.out]; rfl)⟩
  case done =>
    rintro D ys W hD rfl hL hK
    have HL := hid hL
    have b4 := Boxed.cell hL.2.2.2.1
    have b3 := hL.2.2.1
    have b2 := hL.2.1
    have HB2 := hid b2
    have HK := hid hK
    clear hL HS hI0 hK
    obtain ⟨y, hy⟩ : ∃ y, (latestS ys).getD default = y := ⟨_, rfl⟩
    obtain ⟨sm, hsm⟩ : ∃ sm, (latestS ys).isSome = sm := ⟨_, rfl⟩
    rw [hy] at b3
    rw [hsm] at b4
    have HY := hid hy
    have HM := hid hsm
    clear hy hsm
    obtain ⟨y0, y1, y2, y3, y4, y5⟩ := y
    unfold Sig.cells at b3
    dsimp only at b3
    obtain ⟨d0, d1, d2, d3, d4, d5⟩ := cellsat6 b3
    obtain ⟨g0, g1, g2, g3, g4, g5⟩ := frozen6 b2
    obtain ⟨m0, m1, m2, m3, m4, m5⟩ := cellsat6 (W := W) (g := w.heap.size + 1) (v0 := .int .i64 0) (v1 := .int .i64 0) (v2 := .int .i64 0) (v3 := .int .i64 0) (v4 := .int .u8 0) (v5 := .int .i64 0) b2
    clear b3 b2
    gi_wp2
    gi_region
    have hR0 := put6_row (W := W) (g := w.heap.size + 1) (t := 67) (z := default) HB2.out ⟨y0, y1, y2, y3, y4, y5⟩
    have ho0 := (put6_other (W := W) (g := w.heap.size + 1) (k := D) (by omega) ⟨y0, y1, y2, y3, y4, y5⟩).trans HK.out
    have hg0 := (put6_gr (show Gr w W from HL.out.2.2.2.2) (g := w.heap.size + 1) (by omega) ⟨y0, y1, y2, y3, y4, y5⟩).drew
    rw [← heap_drew'] at hR0 ho0
    obtain ⟨Wf, hWf⟩ : ∃ Wf, (put6 W (w.heap.size + 1) ⟨y0, y1, y2, y3, y4, y5⟩).drew = Wf := ⟨_, rfl⟩
    rw [hWf] at hR0 ho0 hg0
    unfold put6 at hWf
    dsimp only at hWf
    rw [hWf]
    clear hWf HL HB2 HK d0 d1 d2 d3 d4 d5 g0 g1 g2 g3 g4 g5 m0 m1 m2 m3 m4 m5 b4
    have HH := hid (And.intro hR0 (And.intro ho0 hg0))
    clear hR0 ho0 hg0
    gi_wp2
    obtain ⟨hR0, ho0, hg0⟩ := HH.out
    refine ⟨by simp, .inl ⟨_, _, rfl, run_takeDeferred ho0, ?_⟩⟩
    obtain ⟨r0, r1, r2, r3, r4, r5⟩ := cellsat6 (row_kept hR0 (grownBy_putObj' _ D (.deferred none)) (fun r e => by cases e; exact ⟨_, ho0, rfl⟩))
    refine ⟨.tuple #[(⟨y0, y1, y2, y3, y4, y5⟩ : Sig).val, .bool sm], ?_, by rw [HY.out, HM.out], ?_⟩
    · simp [results, Tryd.f75, go_sem, r0, r1, r2, r3, r4, r5, Sig.val]
    · exact (show Below w.heap.size w Wf from hg0).trans (belowK_b (w := w) (Nat.le_refl _) _ D _ _ (by omega) ho0 rfl rfl)
  case stop =>
    rintro D c pre W hD hpre h hK
    exact h.elim
end Go.Proofs.YtliehlefpodhaaaDoor
