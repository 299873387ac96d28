/- asked of the package sum: whether a subject is asked for. For every subject and question whose columns it has. -/
import Derived.Test.YtimhkkijoelmhaaSlWhr
import Derived.Test.YtimhkkijoelmhaaMix
import Derived.Test.YtimhkkijoelmhaaBoxRows
import Derived.Deep.DeepCutAuto
import Derived.Deep.CutRange
namespace Go.Proofs.Ytimhkkijoelmhaa
open Go.RowKit

set_option maxRecDepth 100000 in
set_option maxHeartbeats 2000000 in
theorem asked1_any (x : Whr) (s : Sbj) (c : Nat) (w : World) (h0 : w.cell? ⟨c, 0, none⟩ = some (.int .i64 s.id)) (h1 : w.cell? ⟨c, 1, none⟩ = some (.slice s.a s.n s.c)) (hv : Rd w 1 s.a s.n (s.vals.map (Value.int .i64))) (hx : 0 ≤ x.col ∧ x.col < s.n) (hb : s.n ≤ 9223372036854775807) :
    Calls Try.prog 73 #[x.val, .pointer (some ⟨c, 0, none⟩)] w fun e w' => e = .returned (.bool (!inB x.lo x.hi s.vals[x.col.toNat]!)) ∧ Gr w w' := by
  obtain ⟨k, hk⟩ : ∃ k : Nat, x.col = k := ⟨x.col.toNat, by omega⟩
  have hkn : k < s.n := by omega
  obtain ⟨hk', b, off, hA, hbl, hc⟩ := hv.int_at hkn
  rw [hk, Int.toNat_natCast]
  generalize s.vals[k]! = y at hc ⊢
  obtain ⟨col, lo, hi⟩ := x
  obtain ⟨id, a, n, cc, vals⟩ := s
  unfold Whr.val
  dsimp only at *
  subst hA hk
  have HIn := hid (fun bb cp W hb' h' => in_1x lo hi y bb cp W hb' h')
  obtain ⟨r, hr⟩ : ∃ r, inB lo hi y = r := ⟨_, rfl⟩
  rw [hr] at HIn
  rw [hr]
  clear hr hv hx hk'
  have hkn' : (k : Int) < (n : Int) := by omega
  have hk0 : (0 : Int) ≤ (k : Int) := by omega
  have hcw : c < w.heap.size := block_lt_of_cell h0
  go_enter Try.func73, Try.ntmps73
  go_upto_region 1 with fail
  have g1 : Gr w (w.alloc (.cells #[.int .i64 k, .int .i64 lo, .int .i64 hi] 72)) := (Gr.refl w).alloc _
  have HG1 := hid g1
  have hr1 := heap_alloc_new w (.cells #[.int .i64 k, .int .i64 lo, .int .i64 hi] 72)
  have e0 := row_cell h0 g1
  have e1 := row_cell h1 g1
  have ec := row_cell hc g1
  have z0 := row_cell_at (v := .int .i64 k) hr1 0 rfl
  have z1 := row_cell_at (v := .int .i64 lo) hr1 1 rfl
  have z2 := row_cell_at (v := .int .i64 hi) hr1 2 rfl
  clear h0 h1 hc hr1 g1
  generalize w.alloc (.cells #[.int .i64 k, .int .i64 lo, .int .i64 hi] 72) = w1 at HG1 e0 e1 ec z0 z1 z2 ⊢
  have p0 := GrW.cell e0
  have p1 := GrW.cell e1
  have pc := GrW.cell ec
  have q0 := GrW.cell z0
  have q1 := GrW.cell z1
  have q2 := GrW.cell z2
  clear e0 e1 ec z0 z1 z2
  refine wp_region_mixN (C := fun w' => ∃ p : GrW w1, w' = p.W) [10, 11] (by rfl) (by kernel_rfl) ⟨⟨_, (Gr.refl w1).drew⟩, rfl⟩ ?_
  (repeat (first | ((with_reducible refine mixL_read0 ?_ ?_ (fun K hK => ?_)); rfl; rfl; go_big_quiet_op; (with_reducible refine hK _ ?_); clear hK K) | ((with_reducible refine' mixL_skipG ?_ ?_ ?_ ?_ ?_); rotate_left 4; rfl; rfl; rfl; rfl; simp only [Act.put, List.setIfInBounds_toArray, List.set_cons_zero, List.set_cons_succ]) | ((with_reducible refine' mixL_skipU ?_ ?_ ?_ ?_); rotate_left 3; rfl; rfl; rfl; simp only [Act.put, List.setIfInBounds_toArray, List.set_cons_zero, List.set_cons_succ]) | ((with_reducible refine' mixL_readG ?_ ?_ ?_ ?_ ?_ (fun K hK => ?_)); rotate_left 4; rfl; rfl; rfl; rfl; rfl; go_big_quiet_op; (with_reducible refine hK _ ?_); clear hK K)))
  (first | ((with_reducible refine mixL_mut0 ?_ ?_ (fun K hK => ?_)); rfl; rfl) | ((with_reducible refine' mixL_mutG ?_ ?_ ?_ ?_ ?_ (fun K hK => ?_)); rotate_left 4; rfl; rfl; rfl; rfl; rfl))
  go_simp
  refine hK.out _ _ ⟨⟨_, (Gr.refl w1).drew.alloc _⟩, rfl⟩ ?_
  clear hK K
  (first | ((with_reducible refine mixL_mut0 ?_ ?_ (fun K hK => ?_)); rfl; rfl) | ((with_reducible refine' mixL_mutG ?_ ?_ ?_ ?_ ?_ (fun K hK => ?_)); rotate_left 4; rfl; rfl; rfl; rfl; rfl))
  go_simp
  refine (HIn.out _ _ _ ?_ ?_).mono ?_
  · simp
  · exact row_cell_at (heap_alloc_new w1.drew _) 0 rfl
  rintro e w6 ⟨rfl, hk6⟩
  have GK := hid (Gr.trans ((Gr.refl w1).drew.alloc _) hk6)
  refine hK.out _ _ ⟨⟨w6, GK.out⟩, rfl⟩ ?_
  clear hK K hk6
  (repeat (first | ((with_reducible refine mixL_read0 ?_ ?_ (fun K hK => ?_)); rfl; rfl; go_big_quiet_op; (with_reducible refine hK _ ?_); clear hK K) | ((with_reducible refine' mixL_skipG ?_ ?_ ?_ ?_ ?_); rotate_left 4; rfl; rfl; rfl; rfl; simp only [Act.put, List.setIfInBounds_toArray, List.set_cons_zero, List.set_cons_succ]) | ((with_reducible refine' mixL_skipU ?_ ?_ ?_ ?_); rotate_left 3; rfl; rfl; rfl; simp only [Act.put, List.setIfInBounds_toArray, List.set_cons_zero, List.set_cons_succ]) | ((with_reducible refine' mixL_readG ?_ ?_ ?_ ?_ ?_ (fun K hK => ?_)); rotate_left 4; rfl; rfl; rfl; rfl; rfl; go_big_quiet_op; (with_reducible refine hK _ ?_); clear hK K)))
  (with_reducible refine mixN_nil ?_)
  go_wp2
  go_ret
  exact ⟨rfl, HG1.out.trans GK.out⟩

set_option maxRecDepth 100000 in
set_option maxHeartbeats 2000000 in
theorem asked_any (s : Sbj) (q : Qst) (w : World) (hv : Rd w 1 s.a s.n (s.vals.map (Value.int .i64))) (hq : QstIn w q) (hx : ∀ x ∈ q.whs, 0 ≤ x.col ∧ x.col < s.n) (hb : s.n ≤ 9223372036854775807) :
    Calls Try.prog 44 #[s.val, q.val] w fun e w' => e = .returned (.bool (askedB s q)) ∧ Gr w w' := by
  have HE : Hid (askedB s q = !(q.whs.any fun x => !inB x.lo x.hi s.vals[x.col.toNat]!)) := by
    show _ = _
    unfold askedB
    rw [List.all_eq_not_any_not]
  have HC := hid (fun W (g : Gr w W) (h0 : W.cell? ⟨w.heap.size, 0, none⟩ = some (.int .i64 s.id)) (h1 : W.cell? ⟨w.heap.size, 1, none⟩ = some (.slice s.a s.n s.c)) =>
    containsFunc_whr 73 #[.pointer (some ⟨w.heap.size, 0, none⟩)] (enters_of Try.func73 (by kernel_rfl) rfl) (fun x => !inB x.lo x.hi s.vals[x.col.toNat]!) q.a q.n q.c q.whs W
      (fun W' x hx' k => asked1_any x s w.heap.size W' (row_cell h0 k) (row_cell h1 k) ((hv.gr g).gr k) (hx x hx') hb) ((hq.rd).gr g) hq.big)
  generalize (q.whs.any fun x => !inB x.lo x.hi s.vals[x.col.toNat]!) = r at HC HE
  clear hv hq hx hb
  obtain ⟨id, a, n, cc, vals⟩ := s
  obtain ⟨qa, qn, qc, whs, col, clip, step⟩ := q
  unfold Sbj.val Qst.val
  dsimp only at *
  go_enter Try.func44, Try.ntmps44
  go_wp2_with (go_at_call 72; (with_reducible refine (HC.out _ ?_ ?_ ?_).mono ?_); rotate_right; rintro e w' ⟨rfl, hb'⟩)
  · go_ret
    exact ⟨by rw [HE.out]; rfl, (((Gr.refl w).alloc _).alloc _).trans hb'⟩
  · exact ((Gr.refl w).alloc _).alloc _
  · simp
  · simp
end Go.Proofs.Ytimhkkijoelmhaa
