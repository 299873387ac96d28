/- The tables and questions of the statements on sums. (Printed by gen_alive10.py.) -/
import Derived.Test.YtimhkkijoelmhaaQHidePure10
import Derived.Test.YtimhkkijoelmhaaQHide10
import Derived.Test.YtimhkkijoelmhaaQSameInts10
import Derived.Test.YtimhkkijoelmhaaQPlan
namespace Go.Proofs.Ytimhkkijoelmhaa
open Go.RowKit

def tblX : List Sbj := [⟨1, none, 2, 0, [30, 500]⟩, ⟨2, none, 2, 0, [41, 700]⟩, ⟨3, none, 2, 0, [52, 900]⟩]
def agedX (lo hi : Int) : Qst := ⟨none, 1, 0, [⟨0, lo, hi⟩], 1, 800, 100⟩
def qstsX : List Qst := [agedX 30 45, agedX 40 60, agedX 30 60]
def tblQ (b1 b2 b3 : Nat) : List Sbj := [⟨1, some ⟨b1, 0, none⟩, 2, 2, [30, 500]⟩, ⟨2, some ⟨b2, 0, none⟩, 2, 2, [41, 700]⟩, ⟨3, some ⟨b3, 0, none⟩, 2, 2, [52, 900]⟩]
def agedQ (b : Nat) (lo hi : Int) : Qst := ⟨some ⟨b, 0, none⟩, 1, 1, [⟨0, lo, hi⟩], 1, 800, 100⟩
def qstsQ (b1 b2 b3 : Nat) : List Qst := [agedQ b1 30 45, agedQ b2 40 60, agedQ b3 30 60]
theorem ret_qst {fn : Func} {p : Tmp} (h : fn.results = #[.cell p 25]) (tmps : Array Value) (w : World) (g : Nat) (a b c d : Value) (hp : tmps.getD p undef = .pointer (some ⟨g, 0, none⟩)) (hg : w.heap[g]? = some (.cells #[a, b, c, d] 25 (0, 0))) :
    (results fn tmps).run Try.prog w = .ok (.agg #[a, b, c, d]) w :=
  results_cell_row h tmps w g _ _ (0, 0) _ hp hg Try.underlying25 rfl (by kernel_rfl)
theorem QstsIn.first {w : World} {A : Option Addr} {n k : Nat} {qs : List Qst} (h : QstsIn w A n qs) (hk : k ≤ n) : QstsIn w A k (qs.take k) := by
  refine ⟨?_, by have := h.big; omega, fun q hq => h.whs q (List.mem_of_mem_take hq)⟩
  have h1 := Rd.first h.rd hk
  have e : (qs.flatMap Qst.cells).take (k * 4) = (qs.take k).flatMap Qst.cells := by
    clear h h1 hk
    induction qs generalizing k with
    | nil => simp
    | cons q qs ih =>
      cases k with
      | zero => simp
      | succ k =>
        rw [show (k + 1) * 4 = k * 4 + 1 + 1 + 1 + 1 by omega]
        simp only [List.flatMap_cons, Qst.cells, List.cons_append, List.nil_append, List.take_succ_cons]
        rw [ih]
  rwa [e] at h1
theorem agedQ_in {w : World} {b : Nat} {lo hi : Int} {t : TypeId} (h : w.heap[b]? = some (.cells #[.int .i64 0, .int .i64 lo, .int .i64 hi] t (0, 0))) : QstIn w (agedQ b lo hi) :=
  ⟨rd_row10 h 3 1 rfl, by show 1 ≤ _; omega⟩

set_option maxRecDepth 100000 in
set_option maxHeartbeats 400000 in
theorem aged_any (lo hi : Int) (w : World) :
    Calls Try.prog 32 #[.int .i64 lo, .int .i64 hi] w fun e w' => ∃ b, e = .returned (.agg #[.slice (some ⟨b, 0, none⟩) 1 1, .int .i64 1, .int .i64 800, .int .i64 100]) ∧ (Gr w w' ∧ QstIn w' (agedQ b lo hi)) := by
  go_enter Try.func32, Try.ntmps32
  go_wp2_with fail
  obtain ⟨r1, r2⟩ := rows2 w (.cells #[.slice (some ⟨w.heap.size + 1, 0, none⟩) 1 1, .int .i64 1, .int .i64 800, .int .i64 100] 25) (.cells #[.int .i64 0, .int .i64 lo, .int .i64 hi] 72)
  have g2 : Gr w ((w.alloc (.cells #[.slice (some ⟨w.heap.size + 1, 0, none⟩) 1 1, .int .i64 1, .int .i64 800, .int .i64 100] 25)).alloc (.cells #[.int .i64 0, .int .i64 lo, .int .i64 hi] 72)) := ((Gr.refl w).alloc _).alloc _
  exact bodyPost_ret (ret_qst (p := 4) Try.results32 _ _ w.heap.size (.slice (some ⟨w.heap.size + 1, 0, none⟩) 1 1) (.int .i64 1) (.int .i64 800) (.int .i64 100) rfl r1) rfl ⟨w.heap.size + 1, rfl, g2, agedQ_in r2⟩
set_option maxRecDepth 100000 in
set_option maxHeartbeats 400000 in
theorem table_any (w : World) :
    Calls Try.prog 33 #[] w fun e w' => ∃ B b1 b2 b3, e = .returned (.slice (some ⟨B, 0, none⟩) 3 3) ∧ (Gr w w' ∧ SbjsIn w' (some ⟨B, 0, none⟩) 3 (tblQ b1 b2 b3)) := by
  go_enter Try.func33, Try.ntmps33
  go_wp2
  obtain ⟨r1, r2, r3, r4, _⟩ := rows4 w (.cells #[.int .i64 30, .int .i64 500] 3) (.cells #[.int .i64 41, .int .i64 700] 3) (.cells #[.int .i64 52, .int .i64 900] 3) (.cells #[.int .i64 1, .slice (some ⟨w.heap.size, 0, none⟩) 2 2, .int .i64 2, .slice (some ⟨w.heap.size + 1, 0, none⟩) 2 2, .int .i64 3, .slice (some ⟨w.heap.size + 1 + 1, 0, none⟩) 2 2] 60)
  go_ret
  refine ⟨w.heap.size + 1 + 1 + 1, w.heap.size, w.heap.size + 1, w.heap.size + 1 + 1, rfl, ((((Gr.refl w).alloc _).alloc _).alloc _).alloc _, rd_row10 r4 2 3 rfl, by omega, ?_, ?_⟩
  · intro s hs
    simp only [tblQ, List.mem_cons, List.not_mem_nil, or_false] at hs
    rcases hs with rfl | rfl | rfl
    · exact ⟨rd_row10 r1 1 2 rfl, by show 2 ≤ _; omega⟩
    · exact ⟨rd_row10 r2 1 2 rfl, by show 2 ≤ _; omega⟩
    · exact ⟨rd_row10 r3 1 2 rfl, by show 2 ≤ _; omega⟩
  · intro s hs
    simp only [tblQ, List.mem_cons, List.not_mem_nil, or_false] at hs
    rcases hs with rfl | rfl | rfl <;> (dsimp only; omega)
set_option maxRecDepth 100000 in
set_option maxHeartbeats 400000 in
theorem questions_any (w : World) :
    Calls Try.prog 34 #[] w fun e w' => ∃ B b1 b2 b3, e = .returned (.slice (some ⟨B, 0, none⟩) 3 3) ∧ (Gr w w' ∧ QstsIn w' (some ⟨B, 0, none⟩) 3 (qstsQ b1 b2 b3)) := by
  have HA := hid (fun lo hi W => aged_any lo hi W)
  go_enter Try.func34, Try.ntmps34
  go_wp2_with (first
    | (go_at_call 32; (with_reducible refine (HA.out 30 45 _).mono ?_); rintro e w1 ⟨b1, rfl, g1, h1⟩)
    | (go_at_call 32; (with_reducible refine (HA.out 40 60 _).mono ?_); rintro e w2 ⟨b2, rfl, g2, h2⟩)
    | (go_at_call 32; (with_reducible refine (HA.out 30 60 _).mono ?_); rintro e w3 ⟨b3, rfl, g3, h3⟩))
  go_ret
  refine ⟨w3.heap.size, b1, b2, b3, rfl, ((g1.trans g2).trans g3).alloc _, rd_row10 (heap_alloc_new w3 _) 4 3 rfl, by omega, ?_⟩
  intro s hs
  simp only [qstsQ, List.mem_cons, List.not_mem_nil, or_false] at hs
  rcases hs with rfl | rfl | rfl
  · exact h1.gr ((g2.trans g3).alloc _)
  · exact h2.gr (g3.alloc _)
  · exact h3.gr ((Gr.refl w3).alloc _)

end Go.Proofs.Ytimhkkijoelmhaa
