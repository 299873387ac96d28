/- fresh of the package sum: a loop over it is handed each question's place and the equation that it is. -/
import Derived.LoopIn
import Derived.LoopNIn
import Derived.OwnWalkIn
import Derived.Shelf.Abstract
import Derived.TacticsInMore
import Derived.Test.YtimhkkijoelmhaaQBits10
import Derived.Test.YtimhkkijoelmhaaQRangeY10
namespace Go.Proofs.Ytimhkkijoelmhaa
open Go.RowKit Go.Shelf
attribute [local go_sem] Oper.semAt_some

/-- All rows of cells are as they were; the rest only grew. -/
structure KC (w w' : World) : Prop where
  os : w'.os = w.os
  tape : w'.tape = w.tape
  output : w'.output = w.output
  size : w.heap.size ≤ w'.heap.size
  rows : ∀ (k : Nat) (o : Obj), w.heap[k]? = some o → o.isCells = true → w'.heap[k]? = some o
theorem KC.refl (w : World) : KC w w := ⟨rfl, rfl, rfl, Nat.le_refl _, fun _ _ h _ => h⟩
theorem KC.trans {a b c : World} (h : KC a b) (k : KC b c) : KC a c :=
  ⟨k.os.trans h.os, k.tape.trans h.tape, k.output.trans h.output, Nat.le_trans h.size k.size, fun i o hi ho => k.rows i o (h.rows i o hi ho) ho⟩
theorem KC.of_gr {a b : World} (h : Gr a b) : KC a b := ⟨h.os, h.tape, h.output, h.size, fun _ _ hk _ => row_gr hk h⟩
theorem KC.putObj {W : World} {l : Nat} {o : Obj} (o' : Obj) (h : W.heap[l]? = some o) (hc : o.isCells = false) : KC W (W.putObj l o') := by
  have hg := grownBy_putObj' W l o'
  refine ⟨hg.os, hg.tape, hg.output, hg.size, fun k q hk hq => (hg.block k (Array.getElem?_eq_some_iff.1 hk).1 ?_).trans hk⟩
  intro e
  injection e with e
  subst e
  rw [h] at hk
  injection hk with e
  subst e
  rw [hc] at hq
  cases hq
theorem KC.grown {W W' : World} {b : Nat} {es : Array MapEntry} {ck : Nat} (hg : W.grownBy W' (some b)) (hm : W.heap[b]? = some (.map es ck)) : KC W W' := by
  refine ⟨hg.os, hg.tape, hg.output, hg.size, fun k q hk hq => (hg.block k (Array.getElem?_eq_some_iff.1 hk).1 ?_).trans hk⟩
  intro e
  injection e with e
  subst e
  rw [hm] at hk
  injection hk with e
  subst e
  cases hq
theorem KC.cell {a b : World} (h : KC a b) {k o : Nat} {v : Value} (hv : a.cell? ⟨k, o, none⟩ = some v) : b.cell? ⟨k, o, none⟩ = some v := by
  unfold World.cell? at hv ⊢
  cases hk : a.heap[k]? with
  | none => rw [hk] at hv; cases hv
  | some q =>
    rw [hk] at hv
    cases q with
    | cells cs t f => rw [h.rows k _ hk rfl]; exact hv
    | _ => cases hv
theorem KC.row {a b : World} (h : KC a b) {k : Nat} {cs : Array Value} {t : TypeId} {f : Nat × Nat} (hk : a.heap[k]? = some (.cells cs t f)) : b.heap[k]? = some (.cells cs t f) := h.rows k _ hk rfl
theorem Rd.kc {w w' : World} {size n : Nat} {A : Option Addr} {xs : List Value} (h : Rd w size A n xs) (g : KC w w') : Rd w' size A n xs :=
  ⟨h.1, fun hn => by
    obtain ⟨b, off, e, hb, hc⟩ := h.2 hn
    exact ⟨b, off, e, Nat.lt_of_lt_of_le hb g.size, fun j u hu => g.cell (hc j u hu)⟩⟩
section
variable {w w' : World}
theorem SbjsIn.kc {A : Option Addr} {n : Nat} {zs : List Sbj} (h : SbjsIn w A n zs) (g : KC w w') : SbjsIn w' A n zs :=
  ⟨h.rd.kc g, h.big, fun s hs => ⟨(h.vals s hs).1.kc g, (h.vals s hs).2⟩, h.wf⟩
theorem QstsIn.kc {A : Option Addr} {n : Nat} {zs : List Qst} (h : QstsIn w A n zs) (g : KC w w') : QstsIn w' A n zs :=
  ⟨h.rd.kc g, h.big, fun q hq => ⟨(h.whs q hq).rd.kc g, (h.whs q hq).big⟩⟩
theorem LnIn.kc {n m : Nat} {v : Value} {x : List Rat} (h : LnIn w n m v x) (g : KC w w') : LnIn w' n m v x := by
  obtain ⟨A, c, B, d, e, h1, h2, h3⟩ := h
  exact ⟨A, c, B, d, e, h1.kc g, h2.kc g, h3⟩
end
/-- A world in which all rows are as they were. -/
structure KCW (W0 : World) where
  W : World
  kc : KC W0 W
instance (W0 : World) : Inhabited (KCW W0) := ⟨⟨W0, KC.refl _⟩⟩
theorem KCW.cell {W0 : World} {b o : Nat} {v : Value} (h : W0.cell? ⟨b, o, none⟩ = some v) (p : KCW W0) : p.W.cell? ⟨b, o, none⟩ = some v := p.kc.cell h
/-- What a question asks of the table. -/
def asksF (zs : List Sbj) (qs : List Qst) (k i : Nat) : Bool := askedB zs[i]! qs[k]!

set_option maxRecDepth 100000 in
set_option maxHeartbeats 8000000 in
theorem fresh2_y (m g1 g2 bk : Nat) (QA : Option Addr) (qn qc : Nat) (A : Option Addr) (n c ma ml : Nat) (zs : List Sbj) (qs : List Qst) (w : World) (h1 : w.heap[g1]? = some (.cells #[.pointer (some ⟨bk, 0, none⟩)] 81 (0, 0)))
    (h2 : w.heap[g2]? = some (.cells #[.func (.func 99) #[] #[]] 147 (0, 0))) (hb : BkIn w bk QA qn qc A n c ma ml) (hi : SbjsIn w A n zs) (hq : QstsIn w QA qn qs)
    (hx : ∀ s ∈ zs, ∀ q ∈ qs, ∀ x ∈ q.whs, 0 ≤ x.col ∧ x.col < s.n) (hn : n ≤ 24) (hqn : qn ≤ 24) :
    SeqY m Try.prog 100 #[.pointer (some ⟨g1, 0, none⟩), .pointer (some ⟨g2, 0, none⟩)] (fun x : Nat × Value => #[.int .i64 x.1, x.2]) KC
      (fun pre x W => x.1 = pre.length ∧ pre.length < qn ∧ LnIn W n qn x.2 (newR n qn (asksF zs qs pre.length) pre.length)) (fun xs => xs.length = qn) w := by
  intro l J W hW hJ hY h0
  have hlq := hq.len
  have hln := hi.len
  have H1 := hid (fun W' (k : KC w W') => k.row h1)
  have H2 := hid (fun W' (k : KC w W') => k.row h2)
  have HB := hid (fun W' (k : KC w W') => k.row hb.row)
  have HI := hid (fun W' (k : KC w W') => hi.kc k)
  have HQ := hid (fun W' (k : KC w W') => hq.kc k)
  have HX := hid hx
  have HJ := hid hJ
  have HY := hid hY
  have hk0 : KC w W := KC.of_gr hW
  have hqz : (qn : Int) ≤ 24 := by omega
  have hnz : (n : Int) ≤ 24 := by omega
  have u1 := row_cell_at (v := .pointer (some ⟨bk, 0, none⟩)) (H1.out W hk0) 0 rfl
  have u2 := row_cell_at (v := .slice QA qn qc) (HB.out W hk0) 0 rfl
  have hz1 : g1 < W.heap.size := block_lt_of_cell u1
  have hz2 : bk < W.heap.size := block_lt_of_cell u2
  clear h1 h2 hb hi hq hx hJ hY
  refine callsIn_of_wp Try.func100 rfl trivial ?_ rfl
  simp only [Try.ntmps100, List.size_toArray, List.length_cons, List.length_nil, Nat.reduceAdd, Nat.reduceSub, Array.replicate_succ, Array.replicate_zero, List.push_toArray, List.append_toArray, List.nil_append, List.cons_append]
  gi_wp2
  clear u1 u2
  gi_loopw [4, 11] (fun _ i wr => ∃ k : Nat, k ≤ qn ∧ i = .int .i64 k ∧ (∃ pre, pre.length = k ∧ J pre wr) ∧ KC w wr)
    (fun _ i _ => qn - (intOf i).toNat)
  case atStart => exact ⟨0, Nat.zero_le _, rfl, ⟨[], rfl, h0⟩, hk0⟩
  case round =>
    obtain ⟨k, hk, rfl, ⟨pre, hpre, hJs⟩, hkb⟩ := hrel
    by_cases hlt : k < qn
    · obtain ⟨hk', b, off, hA, hbl, c0, c1, c2, c3⟩ := (HQ.out wr hkb).rd.qst hlt
      have hmem := mem_get hk'
      subst hA
      have hkz : (k : Int) < (qn : Int) := by omega
      have hk0' : (0 : Int) ≤ (k : Int) := by omega
      have hbz : b < wr.heap.size := hbl
      have IQ0 := hid ((HQ.out wr hkb).whs _ hmem)
      have HX0 := hid (fun s hs x hx' => HX.out s hs _ hmem x hx')
      have HSt : Hid (unitsR (setB (fun i => askedB zs[i]! qs[k]!) n) n = (List.range n).map fun i => bitR (asksF zs qs k i)) := by
        show unitsR _ _ = _
        unfold unitsR
        refine List.map_congr_left fun i hi' => ?_
        rw [setB_bit, decide_eq_true (List.mem_range.1 hi')]
        rfl
      have HBt0 := hid (fun W h1 h2 h3 => bits_any bk (some ⟨b, off, none⟩) qn qc A n c ma ml zs qs[k]! W h1 h2 h3 HX0.out hn)
      have HLt := hid (setB_lt (fun i => askedB zs[i]! qs[k]!) n)
      clear hmem HX0
      generalize setB (fun i => askedB zs[i]! qs[k]!) n = st at *
      generalize qs[k]! = q at c0 c1 c2 c3 IQ0 HBt0
      obtain ⟨qa, qqn, qqc, whs, q1, q2, q3⟩ := q
      unfold Qst.val at HBt0
      dsimp only at c0 c1 c2 c3 IQ0 HBt0
      have gA : Gr wr (wr.alloc (.cells #[.slice qa qqn qqc, .int .i64 q1, .int .i64 q2, .int .i64 q3] 25)) := (Gr.refl wr).alloc _
      have R1 := hid (row_gr (H1.out wr hkb) gA)
      have R2 := hid (row_gr (H2.out wr hkb) gA)
      have RB := hid (row_gr (HB.out wr hkb) gA)
      have RQ := hid (heap_alloc_new wr (.cells #[.slice qa qqn qqc, .int .i64 q1, .int .i64 q2, .int .i64 q3] 25))
      have IS := hid ((HI.out wr hkb).gr gA)
      have IQ := hid (IQ0.out.gr gA)
      have hk1 := hid (hkb.trans (KC.of_gr gA))
      have HJ1 := hid (HJ.out pre wr _ hJs gA)
      have HBt := hid (fun W (g : Gr (wr.alloc (.cells #[.slice qa qqn qqc, .int .i64 q1, .int .i64 q2, .int .i64 q3] 25)) W) => HBt0.out W ⟨row_gr RB.out g⟩ (IS.out.gr g) (IQ.out.gr g))
      clear hkb hJs gA IQ0 HBt0
      gi_wp2
      clear c0 c1 c2 c3
      generalize hW1 : wr.alloc (.cells #[.slice qa qqn qqc, .int .i64 q1, .int .i64 q2, .int .i64 q3] 25) = W1 at *
      have hsz1 : w.heap.size ≤ W1.heap.size := hk1.out.size
      clear hW1
      have p1 : ∀ p : KCW W1, p.W.cell? ⟨g1, 0, none⟩ = some (.pointer (some ⟨bk, 0, none⟩)) := KCW.cell (row_cell_at R1.out 0 rfl)
      have p2 : ∀ p : KCW W1, p.W.cell? ⟨g2, 0, none⟩ = some (.func (.func 99) #[] #[]) := KCW.cell (row_cell_at R2.out 0 rfl)
      have b0 : ∀ p : KCW W1, p.W.cell? ⟨bk, 0, none⟩ = some (.slice (some ⟨b, off, none⟩) qn qc) := KCW.cell (row_cell_at RB.out 0 rfl)
      have b1 : ∀ p : KCW W1, p.W.cell? ⟨bk, 1, none⟩ = some (.slice A n c) := KCW.cell (row_cell_at RB.out 1 rfl)
      have r0 : ∀ p : KCW W1, p.W.cell? ⟨wr.heap.size, 0, none⟩ = some (.slice qa qqn qqc) := KCW.cell (row_cell_at RQ.out 0 rfl)
      have r1 : ∀ p : KCW W1, p.W.cell? ⟨wr.heap.size, 1, none⟩ = some (.int .i64 q1) := KCW.cell (row_cell_at RQ.out 1 rfl)
      have r2 : ∀ p : KCW W1, p.W.cell? ⟨wr.heap.size, 2, none⟩ = some (.int .i64 q2) := KCW.cell (row_cell_at RQ.out 2 rfl)
      have r3 : ∀ p : KCW W1, p.W.cell? ⟨wr.heap.size, 3, none⟩ = some (.int .i64 q3) := KCW.cell (row_cell_at RQ.out 3 rfl)
      refine wpIn_region_plan (C := fun w' => ∃ p : KCW W1, w' = p.W) (fun _ => trivial) (.take 0 (.take 1 (.take 2 (.take 3 (.take 4 (.take 6 (.take 7 (.take 8 (.take 9 (.take 10 (.take 12 (.take 13 (.take 14 (.take 15 (.take 16 (.take 17 (.take 18 (.take 19 (.one 5 (.one 11 (.one 20 (.take 21 (.one 22 (.take 23 .done)))))))))))))))))))))))) (by rfl) (by rfl) (by kernel_rfl) (by kernel_rfl) ⟨⟨_, KC.of_gr (Gr.refl W1).drew⟩, rfl⟩ ?_
      (iterate 6 (refine planI_read2 rfl rfl (fun K hK => ?_); go_big_quiet_op; (with_reducible refine hK _ ?_); clear hK K))
      (refine planI_nil rfl rfl rfl ?_; simp only [Act.put, List.setIfInBounds_toArray, List.set_cons_zero, List.set_cons_succ])
      (iterate 7 (refine planI_read2 rfl rfl (fun K hK => ?_); go_big_quiet_op; (with_reducible refine hK _ ?_); clear hK K))
      (refine planI_nil rfl rfl rfl ?_; simp only [Act.put, List.setIfInBounds_toArray, List.set_cons_zero, List.set_cons_succ])
      (iterate 3 (refine planI_read2 rfl rfl (fun K hK => ?_); go_big_quiet_op; (with_reducible refine hK _ ?_); clear hK K))
      clear p1 p2 b0 b1 r0 r1 r2 r3
      have hp2 : (2 : Nat) ^ k ≤ 2 ^ 24 := Nat.pow_le_pow_right (by omega) (by omega)
      have hp3 : (2 : Nat) ^ n ≤ 2 ^ 24 := Nat.pow_le_pow_right (by omega) (by omega)
      have HW : Hid (wrap64 ((2 : Int) ^ k) = ((2 ^ k : Nat) : Int)) := by
        have e : (2 : Int) ^ k = ((2 ^ k : Nat) : Int) := by rw [Int.natCast_pow]; rfl
        show wrap64 ((2 : Int) ^ k) = ((2 ^ k : Nat) : Int)
        rw [e]
        generalize (2 : Nat) ^ k = t2 at hp2
        unfold wrap64
        omega
      have HU1 := hid (fun W => units_any st n W (by have := HLt.out; omega) hn)
      have HU2 := hid (fun W => units_any (2 ^ k) qn W (by omega) hqn)
      rw [← HW.out] at HU2
      unfold FrRet at HU1 HU2
      rw [unitsR_len] at HU1 HU2
      clear hp2 hp3
      (refine planI_one rfl (fun K hK => ?_))
      refine op_wide rfl ?_
      go_simp
      refine (HBt.out _ (Gr.refl W1).drew).mono ?_
      rintro e w2 ⟨rfl, hb2⟩
      have G2 := hid ((Gr.refl W1).drew.trans hb2)
      refine hK.out _ _ ⟨⟨w2, KC.of_gr G2.out⟩, rfl⟩ ?_
      clear hK K hb2
      (refine planI_one rfl (fun K hK => ?_))
      refine op_wide rfl ?_
      go_simp
      refine (HU1.out w2).mono ?_
      rintro e w3 ⟨A1, c1, rfl, hA1, hb3⟩
      have G3 := hid (G2.out.trans hb3)
      have K1 := hid hA1
      refine hK.out _ _ ⟨⟨w3, KC.of_gr G3.out⟩, rfl⟩ ?_
      clear hK K hb3 hA1
      (refine planI_one rfl (fun K hK => ?_))
      refine op_wide rfl ?_
      go_simp
      refine (HU2.out w3).mono ?_
      rintro e w4 ⟨A2, c2, rfl, hA2, hb4⟩
      have G4 := hid (G3.out.trans hb4)
      have K1' := hid ((Rd.of_own K1.out).gr hb4)
      have K2 := hid hA2
      refine hK.out _ _ ⟨⟨w4, KC.of_gr G4.out⟩, rfl⟩ ?_
      clear hK K hb4 hA2
      (iterate 1 (refine planI_read2 rfl rfl (fun K hK => ?_); go_big_quiet_op; (with_reducible refine hK _ ?_); clear hK K))
      have HLn : Hid (LnIn w4 n qn (.agg #[.slice A1 n c1, .slice A2 qn c2]) (newR n qn (asksF zs qs k) k)) := by
        have e1 : (newR n qn (asksF zs qs k) k).take n = unitsR st n := by
          rw [HSt.out]; unfold newR; rw [List.take_left' (by simp)]
        have e2 : (newR n qn (asksF zs qs k) k).drop n = unitsR (2 ^ k) qn := by
          unfold newR unitsR
          rw [List.drop_left' (by simp)]
          refine List.map_congr_left fun i _ => ?_
          rw [Nat.testBit_two_pow]
          congr 1
          by_cases e : i = k
          · subst e; simp
          · have : ¬ k = i := fun h => e h.symm
            simp [e, this]
        exact ⟨A1, c1, A2, c2, rfl, by rw [e1]; exact K1'.out, by rw [e2]; exact Rd.of_own K2.out, own_cap10 K1.out, own_cap10 K2.out, by rw [newR_len]⟩
      have HYY := hid (HY.out pre (k, .agg #[.slice A1 n c1, .slice A2 qn c2]) w4 (HJ.out _ _ _ HJ1.out G4.out) ⟨hpre.symm, by omega, by rw [hpre]; exact HLn.out⟩)
      clear HU1 HU2 HBt HSt HLt HLn K1 K1' K2
      obtain ⟨fn, tmps, assign, body, hy, hR⟩ := HYY.out
      have HR := hid hR
      clear hR HYY
      (refine planI_one rfl (fun K hK => ?_))
      refine ⟨fun _ _ => trivial, ?_⟩
      rw [Oper.semAt_plain Fence.wide _ _ (by intro c e; cases e)]
      simp [execOp, resolve, invoke, go_sem, hy]
      refine ⟨fun h => (by cases h), HR.out.mono ?_⟩
      rintro e w5 ⟨rfl, hJ5, hk5⟩
      dsimp only
      have HJ5 := hid hJ5
      have K5 := hid ((KC.of_gr G4.out).trans hk5)
      refine hK.out _ _ ⟨⟨w5, K5.out⟩, rfl⟩ ?_
      clear hK K hk5 hJ5
      (iterate 1 (refine planI_read2 rfl rfl (fun K hK => ?_); go_big_quiet_op; (with_reducible refine hK _ ?_); clear hK K))
      (with_reducible refine planI_done ?_)
      gi_wp2
      go_roundw
      case rel => exact ⟨k + 1, by omega, by simp, ⟨_, by simp [hpre], HJ5.out⟩, hk1.out.trans K5.out⟩
      case measure => simp [intOf]; omega
    · obtain rfl : k = qn := by omega
      gi_wp2
      go_end0
      exact ⟨⟨_, rfl⟩, pre, hpre, hJs⟩
end Go.Proofs.Ytimhkkijoelmhaa
