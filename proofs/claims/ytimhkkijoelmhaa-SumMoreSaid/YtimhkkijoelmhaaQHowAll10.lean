/- How a value follows: the sums, times the parts, are whole times what one counts. No program in sight. -/
import Derived.Test.YtimhkkijoelmhaaQHowPure10
namespace Go.Proofs.Ytimhkkijoelmhaa
open Go.RowKit

theorem cnt_kind {s : Sbj} {q a : Qst} (h : kindB q a = true) : cntN s q = cntN s a := by
  unfold kindB at h
  simp only [Bool.and_eq_true, beq_iff_eq] at h
  unfold cntN
  rw [h.1, h.2]
def stepOne (q : Qst) : Qst := ⟨q.a, q.n, q.c, q.whs, q.col, q.clip, 1⟩
theorem raw_step (l : List Sbj) (q : Qst) : rawN l (stepOne q) = rawN l q := rfl
theorem print_one (n : Int) : printN n 1 = n := by
  unfold printN
  omega
theorem qst_step {columns : Int} {q : Qst} (h : qstB columns q = true) : qstB columns (stepOne q) = true := by
  unfold qstB at h ⊢
  simp only [Bool.and_eq_true] at h ⊢
  exact ⟨⟨⟨h.1.1.1, by show inB 1 1000000 1 = true; decide⟩, h.1.2⟩, h.2⟩
theorem audit_qst {columns : Int} {qs : List Qst} (h : auditB columns qs = true) {k : Nat} (hk : k < qs.length) : qstB columns qs[k]! = true ∧ kindB qs[k]! qs[0]! = true := by
  unfold auditB at h
  simp only [Bool.and_eq_true] at h
  have := List.all_eq_true.1 h.2 qs[k]! (by rw [getElem!_pos qs k hk]; exact List.getElem_mem hk)
  simpa using this
def sumW (one whole : Int) (q : Qst) : List Sbj → Int
  | [] => 0
  | s :: l => cntN s q * (if s.id = one then whole else 0) + sumW one whole q l
theorem sumW_none {one whole : Int} {q : Qst} {l : List Sbj} (h : ∀ s ∈ l, s.id ≠ one) : sumW one whole q l = 0 := by
  induction l with
  | nil => rfl
  | cons s l ih =>
    rw [sumW, ih (fun x hx => h x (List.mem_cons_of_mem _ hx)), if_neg (h s (by simp)), Int.mul_zero]
    rfl
theorem sumW_one {whole : Int} {q : Qst} {l : List Sbj} {o : Sbj} (ho : o ∈ l) (hap : l.Pairwise (fun x y => x.id ≠ y.id)) : sumW o.id whole q l = whole * cntN o q := by
  induction l with
  | nil => cases ho
  | cons s l ih =>
    rw [sumW]
    rw [List.pairwise_cons] at hap
    rcases List.mem_cons.1 ho with rfl | h
    · rw [if_pos rfl, sumW_none (fun x hx e => hap.1 x hx e.symm), Int.mul_comm, Int.add_zero]
    · rw [if_neg (hap.1 o h), Int.mul_zero, ih h hap.2, Int.zero_add]
theorem tot_sum {columns : Int} {zs : List Sbj} {qs : List Qst} (hb : auditB columns qs = true) {parts : List Int} {one whole : Int} (hp : ∀ s ∈ zs, sgI qs.length (partB parts qs s) = if s.id = one then whole else 0) : sgI qs.length (fun k => parts[k]! * rawN zs qs[k]!) = sumW one whole qs[0]! zs := by
  induction zs with
  | nil =>
    rw [sgI_congr (g := fun _ => 0 * 0) (fun k _ => by show parts[k]! * 0 = _; omega), sgI_mul, Int.mul_zero]
    rfl
  | cons s l ih =>
    rw [sumW, ← ih (fun x hx => hp x (List.mem_cons_of_mem _ hx)), ← hp s (by simp), Int.mul_comm, ← sgI_mul, ← sgI_add]
    refine sgI_congr (fun k hk => ?_)
    rw [raw_cons, Int.mul_add]
    congr 1
    unfold cntA partB
    rw [cnt_kind (s := s) (audit_qst hb hk).2]
    split
    · rfl
    · rw [Int.mul_zero, Int.zero_mul]
theorem how_all {columns : Int} {zs : List Sbj} {qs : List Qst} (ht : tableB columns zs = true) (hb : auditB columns qs = true) {parts : List Int} {o : Sbj} {whole : Int} (ho : o ∈ zs) (hp : ∀ s ∈ zs, sgI qs.length (partB parts qs s) = if s.id = o.id then whole else 0) :
    sgI qs.length (fun k => parts[k]! * rawN zs qs[k]!) = whole * cntN o qs[0]! := by
  rw [tot_sum hb hp, sumW_one ho (table_apart ht)]
end Go.Proofs.Ytimhkkijoelmhaa
