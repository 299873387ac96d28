/- What an audit's questions must be, in the package sum. -/
import Derived.Laws.StructEq
import Derived.Test.YtimhkkijoelmhaaQRight10
import Derived.Test.YtimhkkijoelmhaaQOrd10
import Derived.Test.YtimhkkijoelmhaaQFresh10
namespace Go.Proofs.Ytimhkkijoelmhaa
open Go.RowKit

theorem eq_int (d : Nat) (a b : Int) (w : World) : (Op.equalIn (d + 1) 3 (.int .i64 a) (.int .i64 b)).run Try.prog w = .ok (a == b) w := by
  simp only [Op.equalIn, Sem.run_bind, run_underlying Try.underlying3, Result.andThen_ok]
  rfl
theorem part_0 (a b : Value) (w : World) : (part 3 #[a, b] 0).run Try.prog w = .ok a w := by kernel_rfl
theorem part_1 (a b : Value) (w : World) : (part 3 #[a, b] 1).run Try.prog w = .ok b w := by kernel_rfl
theorem size_int (w : World) : (sizeOf 3).run Try.prog w = .ok 1 w := by kernel_rfl
/-- == of two pairs. -/
theorem eq_pair (d : Nat) (a b c e : Int) (w : World) : (Op.equalIn (d + 2) 127 (.agg #[.int .i64 a, .int .i64 b]) (.agg #[.int .i64 c, .int .i64 e])).run Try.prog w = .ok (a == c && b == e) w := by
  rw [Op.equalIn]
  simp only [Sem.run_bind, run_underlying Try.underlying127, Result.andThen_ok, size_int]
  have e2 : (List.range' 0 2 1) = [0, 1] := rfl
  simp [Std.Legacy.Range.forIn_eq_forIn_range', Std.Legacy.Range.size, Sem.run_bind, part_0, eq_int, Result.andThen, e2]
  by_cases h1 : a = c <;> by_cases h2 : b = e <;> simp [h1, h2, Sem.run_bind, part_1, eq_int, Result.andThen]
theorem guard_pair (x y : Operand) (a b c e : Int) (w : World) : (eqGuard .neq 127 x y (.agg #[.int .i64 a, .int .i64 b]) (.agg #[.int .i64 c, .int .i64 e])).run Try.prog w = .ok () w := by kernel_rfl
theorem neq_pair (a b c e : Int) (w : World) : (binOp .neq 127 (.agg #[.int .i64 a, .int .i64 b]) (.agg #[.int .i64 c, .int .i64 e])).run Try.prog w = .ok (.bool (!(a == c && b == e))) w := by
  unfold binOp
  simp only [Sem.run_bind, Op.equal, Op.maxDepth]
  rw [show (10000 : Nat) = 9998 + 2 from rfl, eq_pair]
  rfl
def kindB (q a : Qst) : Bool := q.col == a.col && q.clip == a.clip
/-- Whether questions are an audit. -/
def auditB (columns : Int) (qs : List Qst) : Bool := decide (qs.length ≤ 8) && qs.all fun q => qstB columns q && kindB q qs[0]!
def auditN (columns : Int) (l : List Sbj) (qs : List Qst) : Int := if tableB columns l = true then (if auditB columns qs = true then 0 else 102) else 100

set_option maxRecDepth 100000 in
set_option maxHeartbeats 2000000 in
theorem kind_any (q : Qst) (w : World) : Calls Try.prog 77 #[q.val] w fun e w' => e = .returned (.agg #[.int .i64 q.col, .int .i64 q.clip]) ∧ Gr w w' := by
  obtain ⟨qa, qn, qc, whs, col, clip, step⟩ := q
  unfold Qst.val
  dsimp only
  go_enter Try.func77, Try.ntmps77
  go_wp2
  have hr := (rows2 w (.cells #[.slice qa qn qc, .int .i64 col, .int .i64 clip, .int .i64 step] 25) (.cells #[.int .i64 col, .int .i64 clip] 127)).2
  refine bodyPost_ret (v := .agg #[.int .i64 col, .int .i64 clip]) ?_ rfl ⟨rfl, ?_⟩
  · exact results_cell_row (p := 2) (ty := 127) Try.results77 _ _ (w.heap.size + 1) 127 _ (0, 0) _ rfl hr Try.underlying127 rfl (by kernel_rfl)
  · exact ((Gr.refl w).alloc _).alloc _

set_option maxRecDepth 100000 in
set_option maxHeartbeats 4000000 in
theorem other_any (columns : Int) (q a : Qst) (c1 c2 c3 : Nat) (A : Option Addr) (n c : Nat) (qs : List Qst) (w : World) (hq : QstIn w q) (hc : 1 ≤ columns ∧ columns ≤ 5) (hn : 0 < n) (ha : Rd w 4 A n (qs.flatMap Qst.cells)) (he : qs[0]! = a)
    (h1 : w.cell? ⟨c1, 0, none⟩ = some (.int .i64 columns)) (h2 : w.cell? ⟨c2, 0, none⟩ = some (.func (.func 77) #[] #[])) (h3 : w.cell? ⟨c3, 0, none⟩ = some (.slice A n c)) :
    Calls Try.prog 78 #[q.val, .pointer (some ⟨c1, 0, none⟩), .pointer (some ⟨c2, 0, none⟩), .pointer (some ⟨c3, 0, none⟩)] w fun e w' => e = .returned (.bool (!(qstB columns q && kindB q a))) ∧ Gr w w' := by
  have HR := hid (fun W (k : Gr w W) => right10_any columns q W (hq.gr k) hc)
  obtain ⟨hk', b, off, rfl, hbl, a0, a1, a2, a3⟩ := ha.qst hn
  rw [he] at a0 a1 a2 a3
  simp only [Nat.zero_mul, Nat.add_zero] at a0 a1 a2 a3
  have HK := hid (fun q W => kind_any q W)
  have HKQ := hid (kind_any q)
  have HKA := hid (kind_any a)
  have hz1 : c1 < w.heap.size := block_lt_of_cell h1
  have hz2 : c2 < w.heap.size := block_lt_of_cell h2
  have hz3 : c3 < w.heap.size := block_lt_of_cell h3
  unfold kindB
  clear ha he hq HK hk'
  obtain ⟨R, hR⟩ : ∃ R, qstB columns q = R := ⟨_, rfl⟩
  rw [hR] at HR ⊢
  clear hR
  obtain ⟨qa, qn, qc, whs, col, clip, step⟩ := q
  obtain ⟨qa', qn', qc', whs', col', clip', step'⟩ := a
  unfold Qst.val at *
  dsimp only at *
  have hnz : (0 : Int) < (n : Int) := by omega
  obtain ⟨r, hr⟩ : ∃ r, (!(R && (col == col' && clip == clip'))) = r := ⟨_, rfl⟩
  rw [hr]
  have gA : Gr w (w.alloc (.cells #[.slice qa qn qc, .int .i64 col, .int .i64 clip, .int .i64 step] 25)) := (Gr.refl w).alloc _
  have z := heap_alloc_new w (.cells #[.slice qa qn qc, .int .i64 col, .int .i64 clip, .int .i64 step] 25)
  go_enter Try.func78, Try.ntmps78
  go_upto_region 1 with fail
  replace h1 := row_cell h1 gA
  replace h2 := row_cell h2 gA
  replace h3 := row_cell h3 gA
  replace a0 := row_cell a0 gA
  replace a1 := row_cell a1 gA
  replace a2 := row_cell a2 gA
  replace a3 := row_cell a3 gA
  have HR1 := hid (fun W (k : Gr (w.alloc (.cells #[.slice qa qn qc, .int .i64 col, .int .i64 clip, .int .i64 step] 25)) W) => HR.out W (gA.trans k))
  have HG := hid gA
  clear HR gA
  generalize w.alloc (.cells #[.slice qa qn qc, .int .i64 col, .int .i64 clip, .int .i64 step] 25) = w1 at *
  have p1 := GrW.cell h1
  have p2 := GrW.cell h2
  have p3 := GrW.cell h3
  have z0 := GrW.cell (row_cell_at (v := .slice qa qn qc) z 0 rfl)
  have z1 := GrW.cell (row_cell_at (v := .int .i64 col) z 1 rfl)
  have z2 := GrW.cell (row_cell_at (v := .int .i64 clip) z 2 rfl)
  have z3 := GrW.cell (row_cell_at (v := .int .i64 step) z 3 rfl)
  have b0 := GrW.cell a0
  have b1 := GrW.cell a1
  have b2 := GrW.cell a2
  have b3 := GrW.cell a3
  clear h1 h2 h3 z a0 a1 a2 a3
  have hgp := guard_pair
  have hnp := neq_pair
  cases R with
  | false =>
    simp only [Bool.false_and, Bool.not_false] at hr
    subst hr
    (refine wp_region_gr (by kernel_rfl) (by kernel_rfl) ?_; (repeat (first | go_big_quiet_step ((first | (go_at_call 68; exact calls_gr (HR1.out _ (GrW.gr _))))) | quiet_step ((first | (go_at_call 68; exact calls_gr (HR1.out _ (GrW.gr _))))))); refine wpQuiet_nil ?_; intro w2 hw; obtain ⟨⟨_, hbw2⟩, hw⟩ := hw; subst hw; obtain ⟨hcw2, hfw2, hzw2⟩ := hbw2.rules; (try simp at hzw2))
    go_wp2
    go_ret
    exact ⟨rfl, HG.out.trans hbw2⟩
  | true =>
    simp only [Bool.true_and] at hr
    by_cases e1 : col = col'
    · subst e1
      by_cases e2 : clip = clip'
      · subst e2
        simp only [BEq.rfl, Bool.and_true, Bool.not_true] at hr
        subst hr
        (refine wp_region_gr (by kernel_rfl) (by kernel_rfl) ?_; (repeat (first | go_big_quiet_step ((first | (go_at_call 68; exact calls_gr (HR1.out _ (GrW.gr _))) | (go_at_call 77; first | (with_reducible exact calls_gr (HKQ.out _)) | (with_reducible exact calls_gr (HKA.out _))))) | quiet_step ((first | (go_at_call 68; exact calls_gr (HR1.out _ (GrW.gr _))) | (go_at_call 77; first | (with_reducible exact calls_gr (HKQ.out _)) | (with_reducible exact calls_gr (HKA.out _))))))); refine wpQuiet_nil ?_; intro w2 hw; obtain ⟨⟨_, hbw2⟩, hw⟩ := hw; subst hw; obtain ⟨hcw2, hfw2, hzw2⟩ := hbw2.rules; (try simp at hzw2))
        go_wp2
        go_ret
        exact ⟨rfl, HG.out.trans hbw2⟩
      · have e2' : (clip == clip') = false := by simpa using e2
        rw [e2'] at hr
        simp only [Bool.and_false, Bool.not_false] at hr
        subst hr
        (refine wp_region_gr (by kernel_rfl) (by kernel_rfl) ?_; (repeat (first | go_big_quiet_step ((first | (go_at_call 68; exact calls_gr (HR1.out _ (GrW.gr _))) | (go_at_call 77; first | (with_reducible exact calls_gr (HKQ.out _)) | (with_reducible exact calls_gr (HKA.out _))))) | quiet_step ((first | (go_at_call 68; exact calls_gr (HR1.out _ (GrW.gr _))) | (go_at_call 77; first | (with_reducible exact calls_gr (HKQ.out _)) | (with_reducible exact calls_gr (HKA.out _))))))); refine wpQuiet_nil ?_; intro w2 hw; obtain ⟨⟨_, hbw2⟩, hw⟩ := hw; subst hw; obtain ⟨hcw2, hfw2, hzw2⟩ := hbw2.rules; (try simp at hzw2))
        go_wp2
        go_ret
        exact ⟨rfl, HG.out.trans hbw2⟩
    · have e1' : (col == col') = false := by simpa using e1
      rw [e1'] at hr
      simp only [Bool.false_and, Bool.not_false] at hr
      subst hr
      (refine wp_region_gr (by kernel_rfl) (by kernel_rfl) ?_; (repeat (first | go_big_quiet_step ((first | (go_at_call 68; exact calls_gr (HR1.out _ (GrW.gr _))) | (go_at_call 77; first | (with_reducible exact calls_gr (HKQ.out _)) | (with_reducible exact calls_gr (HKA.out _))))) | quiet_step ((first | (go_at_call 68; exact calls_gr (HR1.out _ (GrW.gr _))) | (go_at_call 77; first | (with_reducible exact calls_gr (HKQ.out _)) | (with_reducible exact calls_gr (HKA.out _))))))); refine wpQuiet_nil ?_; intro w2 hw; obtain ⟨⟨_, hbw2⟩, hw⟩ := hw; subst hw; obtain ⟨hcw2, hfw2, hzw2⟩ := hbw2.rules; (try simp at hzw2))
      go_wp2
      go_ret
      exact ⟨rfl, HG.out.trans hbw2⟩

/-- Whether one of the questions is no question of the audit. -/
theorem others_any (columns : Int) (c1 c2 c3 : Nat) (A : Option Addr) (n c : Nat) (qs : List Qst) (w : World) (hi : QstsIn w A n qs) (hc : 1 ≤ columns ∧ columns ≤ 5)
    (h1 : w.cell? ⟨c1, 0, none⟩ = some (.int .i64 columns)) (h2 : w.cell? ⟨c2, 0, none⟩ = some (.func (.func 77) #[] #[])) (h3 : w.cell? ⟨c3, 0, none⟩ = some (.slice A n c)) :
    Calls Try.prog 79 #[.slice A n c, .func (.func 78) #[] #[.pointer (some ⟨c1, 0, none⟩), .pointer (some ⟨c2, 0, none⟩), .pointer (some ⟨c3, 0, none⟩)]] w fun e w' =>
      e = .returned (.bool (!(qs.all fun q => qstB columns q && kindB q qs[0]!))) ∧ Gr w w' := by
  have he : (!(qs.all fun q => qstB columns q && kindB q qs[0]!)) = qs.any fun q => !(qstB columns q && kindB q qs[0]!) := by simp [List.all_eq_not_any_not]
  rw [he]
  refine containsFunc_qst 78 _ (enters_of Try.func78 (by kernel_rfl) rfl) _ A n c qs w (fun W x hx k => ?_) hi.rd hi.big
  have hn : 0 < n := by
    have := hi.len
    rcases Nat.eq_zero_or_pos n with h | h
    · have : qs = [] := List.eq_nil_of_length_eq_zero (by omega)
      rw [this] at hx; cases hx
    · exact h
  exact other_any columns x qs[0]! c1 c2 c3 A n c qs W ((hi.whs x hx).gr k) hc hn (hi.rd.gr k) rfl (row_cell h1 k) (row_cell h2 k) (row_cell h3 k)
end Go.Proofs.Ytimhkkijoelmhaa
