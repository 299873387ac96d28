/- until of the package inquiry: what a loop over it is handed. For every slice of signals. Freezes and alerts, as a loop finds them. For all signals. No program in sight. -/
import Derived.LoopIn
import Derived.LoopNIn
import Derived.OwnWalkIn
import Derived.RangeFuncBox
import Derived.RangeFuncLeaves
import Derived.RangeFuncNested
import Derived.Shelf.Abstract
import Derived.TacticsInMore
import Derived.Test.YtliehlefpodhaaaDoorQBase
import Derived.Test.YtliehlefpodhaaaDoorQIn
import Derived.Test.YtliehlefpodhaaaDoorQGs
namespace Go.Proofs.YtliehlefpodhaaaDoor
open Go.RowKit Go.Shelf
attribute [local go_sem] Oper.semAt_some

/-- The blocks that S names are as they were; the rest only grew. -/
structure Kpt (S : Nat → Prop) (w w' : World) : Prop where
  os : w'.os = w.os
  tape : w'.tape = w.tape
  output : w'.output = w.output
  size : w.heap.size ≤ w'.heap.size
  block : ∀ k, S k → w'.heap[k]? = w.heap[k]?
theorem Kpt.refl (S : Nat → Prop) (w : World) : Kpt S w w := ⟨rfl, rfl, rfl, Nat.le_refl _, fun _ _ => rfl⟩
theorem Kpt.trans {S : Nat → Prop} {a b c : World} (h : Kpt S a b) (k : Kpt S b c) : Kpt S a c :=
  ⟨k.os.trans h.os, k.tape.trans h.tape, k.output.trans h.output, Nat.le_trans h.size k.size, fun i hi => (k.block i hi).trans (h.block i hi)⟩
theorem Kpt.of_below {S : Nat → Prop} {n : Nat} {a b : World} (h : Below n a b) (hS : ∀ k, S k → k < n) : Kpt S a b := ⟨h.os, h.tape, h.output, h.size, fun k hk => h.block k (hS k hk)⟩
theorem Kpt.of_gr {S : Nat → Prop} {a b : World} (h : Gr a b) (hS : ∀ k, S k → k < a.heap.size) : Kpt S a b := Kpt.of_below h hS
theorem Kpt.setCell {S : Nat → Prop} {a b : World} (h : Kpt S a b) {p : Addr} (hp : ¬ S p.block) (u : Value) : Kpt S a (b.setCell p u) :=
  ⟨h.os, h.tape, h.output, by simpa [World.setCell] using h.size, fun k hk => (Below.heap_setCell b p u k (fun e => hp (e ▸ hk))).trans (h.block k hk)⟩
theorem Kpt.cell {S : Nat → Prop} {a b : World} (h : Kpt S a b) {k o : Nat} (hk : S k) : b.cell? ⟨k, o, none⟩ = a.cell? ⟨k, o, none⟩ := by
  have hb : Below (k + 1) a ({ b with heap := b.heap }) ∨ True := Or.inr trivial
  unfold World.cell?
  rw [h.block k hk]
theorem kpt_t {S : Nat → Prop} {A B C : World} (h : Kpt S A B) (k : Kpt S B C) : Kpt S A C := h.trans k
theorem kpt_b {S : Nat → Prop} {w : World} (hS : ∀ k, S k → k < w.heap.size) (W : World) (l : Nat) (o o' : Obj) (hl : w.heap.size ≤ l) (h : W.heap[l]? = some o) (h1 : o.isCells = false) (h2 : o.isWalk = false) : Kpt S W (W.putObj l o') :=
  Kpt.of_below (belowK_b (n₀ := w.heap.size) (Nat.le_refl _) W l o o' hl h h1 h2) hS

/-- Which signals until yields. -/
def selB (file last : Int) (ks : List Int) (x : Sig) : Bool := x.file == file && decide (x.day ≤ last) && ks.any fun y => x.kind == y
/-- The four boxes that it holds. -/
structure UnBox (W : World) (g : Nat) (A : Option Addr) (len cap : Nat) (file last : Int) (K : Option Addr) (m kc : Nat) : Prop where
  b0 : W.cell? ⟨g, 0, none⟩ = some (.slice A len cap)
  b1 : W.cell? ⟨g + 1, 0, none⟩ = some (.int .i64 file)
  b2 : W.cell? ⟨g + 2, 0, none⟩ = some (.int .i64 last)
  b3 : W.cell? ⟨g + 3, 0, none⟩ = some (.slice K m kc)
theorem Rd.kpt {S : Nat → Prop} {w w' : World} {size n : Nat} {A : Option Addr} {xs : List Value} (h : Rd w size A n xs) (g : Kpt S w w') (hS : ∀ b o, A = some ⟨b, o, none⟩ → S b) : Rd w' size A n xs :=
  ⟨h.1, fun hn => by
    obtain ⟨b, off, e, hb, hc⟩ := h.2 hn
    exact ⟨b, off, e, Nat.lt_of_lt_of_le hb g.size, fun j u hu => (g.cell (hS b off e)).trans (hc j u hu)⟩⟩

set_option maxRecDepth 100000 in
set_option maxHeartbeats 4000000 in
theorem until1_in (S : Nat → Prop) (file last : Int) (ks : List Int) (zs : List Sig) (n : Nat) (hn : 1 ≤ n) (l g : Nat) (A : Option Addr) (len cap : Nat) (K : Option Addr) (m kc : Nat) (J Jx : List Sig → World → Prop)
    (hJa : ∀ pre W o, J pre W → J pre (W.alloc o))
    (hY : ∀ pre x W, J pre W → pre.length < 1000 → YieldAt Fence.wide (n - 1) Tryd.prog l #[x.val] W fun e W' =>
      (e = .returned (.bool true) ∧ J (pre ++ [x]) W' ∧ Kpt S W W') ∨ (e = .returned (.bool false) ∧ Jx (pre ++ [x]) W'))
    (W : World) (hS : ∀ k, S k → k < W.heap.size) (hB : UnBox W g A len cap file last K m kc) (hg : S g ∧ S (g + 1) ∧ S (g + 2) ∧ S (g + 3))
    (hZ : SigsIn W A len zs) (hZS : ∀ b o, A = some ⟨b, o, none⟩ → S b) (hlen : len < 1000) (hK : Rd W 1 K m (ks.map (Value.int .u8))) (hKS : ∀ b o, K = some ⟨b, o, none⟩ → S b) (hm : m ≤ 1000) (h0 : J [] W) :
    CallsIn Fence.wide n Tryd.prog 95 #[.func (.yield l) #[] #[], .pointer (some ⟨g, 0, none⟩), .pointer (some ⟨g + 1, 0, none⟩), .pointer (some ⟨g + 2, 0, none⟩), .pointer (some ⟨g + 3, 0, none⟩)] W fun e W' => (∃ v, e = .returned v) ∧
      ((∃ ys, ys = zs.filter (selB file last ks) ∧ J ys W') ∨ (∃ pre, pre <+: zs.filter (selB file last ks) ∧ Jx pre W')) := by
  obtain ⟨hg0, hg1, hg2, hg3⟩ := hg
  have HL := hid hZ.rd.sig_len
  have HZ := hid hZ
  have HK := hid hK
  have HB := hid hB
  have b0 := hB.b0
  have hbig := hZ.big
  have hlen' : (len : Int) < 1000 := by omega
  clear hZ hK hB
  have HPre : Hid (∀ k x, k < len → zs[k]! = x → (zs.take (k + 1)).filter (selB file last ks) = (zs.take k).filter (selB file last ks) ++ (if selB file last ks x then [x] else [])) := by
    intro k x hk hx
    have hk' : k < zs.length := by have := HL.out; omega
    rw [List.take_succ_eq_append_getElem hk', List.filter_append, ← getElem!_pos zs k hk', hx]
    congr 1
    cases h : selB file last ks x <;> simp [h]
  have HCnt : Hid (∀ k, k ≤ len → ((zs.take k).filter (selB file last ks)).length < 1000) := by
    intro k hk
    have h1 := List.length_filter_le (selB file last ks) (zs.take k)
    have h2 := List.length_take_le k zs
    omega
  have HPfx : Hid (∀ k, (zs.take k).filter (selB file last ks) <+: zs.filter (selB file last ks)) := fun k => (List.take_prefix k zs).filter _
  have HAll : Hid ((zs.take len).filter (selB file last ks) = zs.filter (selB file last ks)) := by
    rw [show (Hid ((zs.take len).filter (selB file last ks) = zs.filter (selB file last ks))) = ((zs.take len).filter (selB file last ks) = zs.filter (selB file last ks)) from rfl, List.take_of_length_le (by have := HL.out; omega)]
  refine callsIn_of_wp Tryd.func95 rfl trivial ?_ rfl
  simp only [Tryd.ntmps95, List.size_toArray, List.length_cons, List.length_nil, Nat.reduceAdd, Nat.reduceSub, Array.replicate_succ, Array.replicate_zero, List.push_toArray, List.append_toArray, List.nil_append, List.cons_append]
  gi_wp2
  clear b0
  gi_loopw [7, 10] (fun _ i wr => ∃ k : Nat, k ≤ len ∧ i = .int .i64 k ∧ J ((zs.take k).filter (selB file last ks)) wr ∧ Kpt S W wr)
    (fun _ i _ => len - (intOf i).toNat)
  case atStart => exact ⟨0, Nat.zero_le _, rfl, h0, Kpt.refl _ _⟩
  case round =>
    obtain ⟨k, hk, rfl, hJs, hnx⟩ := hrel
    by_cases hlt : k < len
    · obtain ⟨hk', b, off, hA, hb, c0, c1, c2, c3, c4, c5⟩ := (HZ.out.rd.kpt hnx hZS).sig hlt
      have hSz := hnx.size
      have hu := HZ.out.u8 _ (mem_get hk')
      obtain ⟨u1, u2⟩ := hu
      obtain ⟨x, hx⟩ : ∃ x, zs[k]! = x := ⟨_, rfl⟩
      rw [hx] at c0 c1 c2 c3 c4 c5 u1 u2
      have HF := hid (HPre.out k x hlt hx)
      have hW1 : Kpt S W (wr.alloc (.cells x.cells.toArray 67)) := hnx.trans (Kpt.of_gr ((Gr.refl wr).alloc _) (fun k hk => Nat.lt_of_lt_of_le (hS k hk) hSz))
      have HW1 := hid hW1
      have HJ1 := hid (hJa _ _ (.cells x.cells.toArray 67) hJs)
      have f1 := (hnx.cell (o := 0) hg1).trans HB.out.b1
      have f2 := (hnx.cell (o := 0) hg2).trans HB.out.b2
      have f3 := (hnx.cell (o := 0) hg3).trans HB.out.b3
      have g1 := Nat.lt_of_lt_of_le (hS _ hg1) hSz
      have g2 := Nat.lt_of_lt_of_le (hS _ hg2) hSz
      have g3 := Nat.lt_of_lt_of_le (hS _ hg3) hSz
      have HC := hid (contains_u8 x.kind K m kc ks _ (HK.out.kpt hW1 hKS) (by omega))
      have HY := hid (hY _ x _ HJ1.out (HCnt.out k hk))
      have HJn : Hid (selB file last ks x = false → J ((zs.take (k + 1)).filter (selB file last ks)) (wr.alloc (.cells x.cells.toArray 67))) := by
        intro h
        rw [HF.out, h]
        simpa using HJ1.out
      have HJp : Hid (selB file last ks x = true → (zs.take (k + 1)).filter (selB file last ks) = (zs.take k).filter (selB file last ks) ++ [x]) := by
        intro h
        rw [HF.out, h]
        rfl
      have HX : Hid (selB file last ks x = (x.file == file && decide (x.day ≤ last) && ks.any fun y => x.kind == y)) := rfl
      clear hW1 hJs hnx hY hx HF hk' h0
      obtain ⟨x0, x1, x2, x3, x4, x5⟩ := x
      unfold Sig.cells at HC HY HJn HW1
      unfold Sig.val at HY
      dsimp only at HC HY HJn HJp HW1 HX c0 c1 c2 c3 c4 c5 u1 u2
      generalize selB file last ks ⟨x0, x1, x2, x3, x4, x5⟩ = sb at HJn HJp HX
      generalize (ks.any fun y => x4 == y) = r at HC HX
      subst hA
      by_cases e1 : x2 = file
      · have e1' : (x2 == file) = true := by simpa using e1
        rw [e1'] at HX
        have E1 := hid e1
        clear e1
        by_cases e2 : x3 ≤ last
        · rw [show decide (x3 ≤ last) = true by simpa using e2] at HX
          have e2' : decide (x3 ≤ last) = true := by simpa using e2
          cases r with
          | true =>
            have HP := hid (HJp.out (by rw [HX.out]; rfl))
            clear HJp HJn HX
            obtain ⟨fn, tmps, assign, body, hy, hR⟩ := HY.out
            have HR := hid hR
            clear hR HY
            gi_wp2_with (first | (refine ⟨trivial, ?_⟩; gi_at_call 96; refine (callsIn_wide.2 HC.out).mono ?_; rintro e w' ⟨rfl, rfl⟩) | ((with_reducible refine And.intro ?_ ?_); first | exact trivial | (intro _ hx; cases hx)))
            refine HR.out.mono ?_
            rintro e W3 (⟨rfl, hJ3, hk3⟩ | ⟨rfl, hJx3⟩)
            · gi_wp2
              go_roundw
              case rel => exact ⟨k + 1, by omega, by simp, by rw [HP.out]; exact hJ3, HW1.out.trans hk3⟩
              case measure => simp [intOf]; omega
            · gi_wp2
              refine bodyPost_ret (results_none rfl _ _ _) rfl ?_
              exact ⟨⟨_, rfl⟩, .inr ⟨_, by rw [← HP.out]; exact HPfx.out (k + 1), hJx3⟩⟩
          | false =>
            have HP := hid (HJn.out (by rw [HX.out]; rfl))
            clear HJp HJn HX HY
            gi_wp2_with (first | (refine ⟨trivial, ?_⟩; gi_at_call 96; refine (callsIn_wide.2 HC.out).mono ?_; rintro e w' ⟨rfl, rfl⟩) | ((with_reducible refine And.intro ?_ ?_); first | exact trivial | (intro _ hx; cases hx)))
            go_roundw
            case rel => exact ⟨k + 1, by omega, by simp, HP.out, HW1.out⟩
            case measure => simp [intOf]; omega
        · have e2' : decide (x3 ≤ last) = false := by simpa using e2
          have HP := hid (HJn.out (by rw [HX.out, e2']; rfl))
          clear HJp HJn HX HY HC
          gi_wp2_with (first | ((with_reducible refine And.intro ?_ ?_); first | exact trivial | (intro _ hx; cases hx)))
          go_roundw
          case rel => exact ⟨k + 1, by omega, by simp, HP.out, HW1.out⟩
          case measure => simp [intOf]; omega
      · have e1' : (x2 == file) = false := by simpa using e1
        have HP := hid (HJn.out (by rw [HX.out, e1']; rfl))
        clear HJp HJn HX HY HC e1
        gi_wp2_with (first | ((with_reducible refine And.intro ?_ ?_); first | exact trivial | (intro _ hx; cases hx)))
        go_roundw
        case rel => exact ⟨k + 1, by omega, by simp, HP.out, HW1.out⟩
        case measure => simp [intOf]; omega
    · obtain rfl : k = len := by omega
      gi_wp2
      go_end0
      rw [HAll.out] at hJs
      exact ⟨⟨_, rfl⟩, .inl ⟨_, rfl, hJs⟩⟩
end Go.Proofs.YtliehlefpodhaaaDoor
namespace Go.Proofs.YtliehlefpodhaaaDoor

theorem latestS_snoc (l : List Sig) (x : Sig) : latestS (l ++ [x]) = laterS (latestS l) x := by
  unfold latestS
  rw [List.foldl_append]
  rfl
theorem laterS_some (b : Option Sig) (x : Sig) : (laterS b x).isSome = true := by
  unfold laterS
  split
  · rfl
  · split <;> rfl
theorem selB_two (file last a b : Int) : selB file last [a, b] = ofB file last a b := by
  funext x
  unfold selB ofB
  simp
/-- What the loop over lifts has found. -/
def frz (o : Option Sig) (day : Int) (pre : List Sig) : Bool := (o.isSome && (o.getD default).kind == 1) && !(pre.any fun x => laterB x (o.getD default) && decide (day ≤ x.till))
theorem frz_snoc (o : Option Sig) (day : Int) (pre : List Sig) (x : Sig) : frz o day (pre ++ [x]) = (frz o day pre && !(laterB x (o.getD default) && decide (day ≤ x.till))) := by
  unfold frz
  rw [List.any_append]
  simp only [List.any_cons, List.any_nil, Bool.or_false, Bool.not_or, Bool.and_assoc]
theorem frz_all (l : List Sig) (file day : Int) : frz (latestS (l.filter (selB file day [1, 2]))) day (l.filter (selB file day [3])) = frozenB l file day := by
  unfold frozenB latestOf
  rw [← selB_two]
  cases h : latestS (l.filter (selB file day [1, 2])) with
  | none => rfl
  | some f =>
    unfold frz
    dsimp only [Option.getD, Option.isSome]
    rw [List.any_filter]
    congr 3
    funext x
    unfold selB liftB
    simp only [List.any_cons, List.any_nil, Bool.or_false]
    cases (x.kind == 3) <;> cases (x.file == file) <;> cases (laterB x f) <;> cases (decide (x.day ≤ day)) <;> cases (decide (day ≤ x.till)) <;> rfl
/-- Whether there is an alert, by the latest one. -/
def alr (o : Option Sig) (day : Int) : Bool := o.isSome && ((o.getD default).kind == 4) && decide (day ≤ (o.getD default).till)
theorem alr_all (l : List Sig) (file day : Int) : alr (latestS (l.filter (selB file day [4, 5]))) day = alertB l file day := by
  unfold alertB latestOf
  rw [← selB_two]
  cases h : latestS (l.filter (selB file day [4, 5])) with
  | none => rfl
  | some a => simp [alr]
end Go.Proofs.YtliehlefpodhaaaDoor
