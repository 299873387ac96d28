/- What is kept beside a row of the call's own that grows. For any program. Which traces are not shown to others, and which lie past a span. For all traces. -/
import Derived.Laws.AppendOwn
import Derived.Test.YtliehlefpodhaaaDoorOBase
import Derived.Test.YtliehlefpodhaaaDoorOGs
import Derived.Test.YtliehlefpodhaaaDoorORegGr
import Derived.Test.YtliehlefpodhaaaDoorOAmong9
import Derived.Test.YtliehlefpodhaaaDoorOTrRow
namespace Go.Proofs.YtliehlefpodhaaaDoor
open Go.RowKit Go.Shelf
theorem ownT_gr {W W' : World} {base : Nat} {e : TypeId} {size n : Nat} {v : Value} {xs : List Value} (h : W.ownsRow base e size v n xs) (g : Gr W W') : W'.ownsRow base e size v n xs :=
  h.kept (grown_of_gr g) (by
    cases v.ownBlock with
    | none => exact .inl rfl
    | some _ => exact .inr (by simp))
/-- A world in which two blocks are as they were. -/
structure KeepW (W0 : World) (a b : Nat) where
  W : World
  ha : W.heap[a]? = W0.heap[a]?
  hb : W.heap[b]? = W0.heap[b]?
instance (W0 : World) (a b : Nat) : Inhabited (KeepW W0 a b) := ⟨⟨W0, rfl, rfl⟩⟩
theorem KeepW.fst {W0 : World} {a b : Nat} (p : KeepW W0 a b) {cs : Array Value} {t : TypeId} (h : W0.heap[a]? = some (.cells cs t (0, 0))) (j : Nat) {v : Value} (hv : cs[j]? = some v) : p.W.cell? ⟨a, j, none⟩ = some v :=
  (cell_of_row p.W a j cs t (0, 0) (p.ha.trans h)).trans hv
theorem KeepW.snd {W0 : World} {a b : Nat} (p : KeepW W0 a b) {cs : Array Value} {t : TypeId} (h : W0.heap[b]? = some (.cells cs t (0, 0))) (j : Nat) {v : Value} (hv : cs[j]? = some v) : p.W.cell? ⟨b, j, none⟩ = some v :=
  (cell_of_row p.W b j cs t (0, 0) (p.hb.trans h)).trans hv
def KeepW.gr {W0 : World} {a b : Nat} (p : KeepW W0 a b) {W : World} (k : Gr p.W W) (ha : a < p.W.heap.size) (hb : b < p.W.heap.size) : KeepW W0 a b := ⟨W, (k.heap ha).trans p.ha, (k.heap hb).trans p.hb⟩
theorem TrOwn.mono {w0 w1 W : World} {A : Option Addr} {n cap : Nat} {l : List Trc} (h : TrOwn w1 W A n cap l) (hs : w0.heap.size ≤ w1.heap.size) : TrOwn w0 W A n cap l :=
  ⟨h.len, h.le, h.big, h.row.imp id fun ⟨b, e, h1, h2, h3⟩ => ⟨b, e, Nat.le_trans hs h1, h2, h3⟩⟩
theorem cellsT_new (W : World) (C : Array Value) (t : TypeId) (xs : List Value) (h : C.toList = xs) : ∀ j u, xs[j]? = some u → (W.alloc (.cells C t)).cell? ((⟨W.heap.size, 0, none⟩ : Addr).add j) = some u := by
  intro j u hu
  subst h
  have := cell_of_row (W.alloc (.cells C t)) W.heap.size j C t _ (heap_alloc_new W _)
  have e : ((⟨W.heap.size, 0, none⟩ : Addr).add j) = ⟨W.heap.size, j, none⟩ := by
    simp only [Addr.add, Nat.zero_add]
    split
    · rename_i h0; rw [h0]
    · rfl
  rw [e, this]
  simpa using hu
/-- The traces of the inquiries so far. -/
def keptL (ls : List Lic) (ss : List Sig) (file now : Int) (zs : List Inq) : List Trc := (zs.filter (keptB file now)).map (trcOf ls ss)
theorem keptL_skip {ls : List Lic} {ss : List Sig} {file now : Int} {zs : List Inq} {k : Nat} (hk : k < zs.length) (h : keptB file now zs[k]! = false) : keptL ls ss file now (zs.take (k + 1)) = keptL ls ss file now (zs.take k) := by
  unfold keptL
  rw [List.take_succ_eq_append_getElem hk, List.filter_append, ← getElem!_pos zs k hk, List.filter_cons, h]
  simp
theorem keptL_put {ls : List Lic} {ss : List Sig} {file now : Int} {zs : List Inq} {k : Nat} (hk : k < zs.length) (h : keptB file now zs[k]! = true) : keptL ls ss file now (zs.take (k + 1)) = keptL ls ss file now (zs.take k) ++ [trcOf ls ss zs[k]!] := by
  unfold keptL
  rw [List.take_succ_eq_append_getElem hk, List.filter_append, ← getElem!_pos zs k hk, List.filter_cons, h]
  simp
theorem keptL_len (ls : List Lic) (ss : List Sig) (file now : Int) (zs : List Inq) : (keptL ls ss file now zs).length ≤ zs.length := by
  unfold keptL
  rw [List.length_map]
  exact List.length_filter_le _ _
theorem keptL_mem {ls : List Lic} {ss : List Sig} {file now : Int} {zs : List Inq} {t : Trc} (h : t ∈ keptL ls ss file now zs) : ∃ q ∈ zs, t = trcOf ls ss q := by
  unfold keptL at h
  obtain ⟨q, hq, rfl⟩ := List.mem_map.1 h
  exact ⟨q, (List.mem_filter.1 hq).1, rfl⟩
theorem keptL_pairwise {ls : List Lic} {ss : List Sig} {file now : Int} {zs : List Inq} (h : inqsB zs = true) (p : Trc → Bool) : ((keptL ls ss file now zs).filter p).Pairwise (fun x y => x.inq < y.inq) := by
  refine List.Pairwise.filter _ ?_
  unfold keptL
  rw [List.pairwise_map]
  exact List.Pairwise.filter _ (inqs_pairwise h)
theorem inqsB_mem {zs : List Inq} (h : inqsB zs = true) {q : Inq} (hq : q ∈ zs) : inqB q = true := by
  unfold inqsB at h
  simp only [Bool.and_eq_true, decide_eq_true_eq, Bool.not_eq_true', List.any_eq_false, List.mem_range, Bool.not_eq_true] at h
  obtain ⟨j, hj, rfl⟩ := List.getElem_of_mem hq
  have := h.2 j hj
  unfold inqBad at this
  simp only [Bool.or_eq_false_iff, Bool.not_eq_false'] at this
  rw [getElem!_pos zs j hj] at this
  exact this.1
theorem inqB_day {q : Inq} (h : inqB q = true) : 0 ≤ q.day ∧ q.day ≤ 100000 := by
  unfold inqB inB at h
  simp only [Bool.and_eq_true, decide_eq_true_eq] at h
  exact h.1.2
end Go.Proofs.YtliehlefpodhaaaDoor
namespace Go.Proofs.YtliehlefpodhaaaDoor
open Go.RowKit Go.Shelf

set_option maxRecDepth 100000 in
set_option maxHeartbeats 2000000 in
theorem hidden_any (t : Trc) (now : Int) (b : Nat) (w : World) (hc : w.cell? ⟨b, 0, none⟩ = some (.int .i64 now)) (h1 : 0 ≤ now ∧ now ≤ 100000) (h2 : 0 ≤ t.day ∧ t.day ≤ 100000) :
    Calls Tryd.prog 44 #[t.val, .pointer (some ⟨b, 0, none⟩)] w fun e w' => e = .returned (.bool (hidB now t)) ∧ Gr w w' := by
  obtain ⟨t0, t1, t2, t3, t4⟩ := t
  unfold Trc.val hidB
  dsimp only at *
  obtain ⟨h3, h4⟩ := h1
  obtain ⟨h5, h6⟩ := h2
  have hb := block_lt_of_cell hc
  have hw : IntKind.i64.wrap (now - t2) = now - t2 := by rw [IntKind.wrap_i64]; omega
  obtain ⟨e1, k1⟩ : ∃ e, (t4 == 0) = e := ⟨_, rfl⟩
  obtain ⟨e2, k2⟩ : ∃ e, (t3 == 1) = e := ⟨_, rfl⟩
  have k1' : (t4 != 0) = !e1 := by rw [← k1]; rfl
  have k2' : (t3 != 1) = !e2 := by rw [← k2]; rfl
  rw [k1', k2']
  cases e1
  case' true => cases e2
  all_goals
    go_enter Tryd.func44, Tryd.ntmps44
    go_wp2
    go_ret
    exact ⟨by first | rfl | simp, by (repeat (first | with_reducible exact Gr.refl _ | with_reducible refine Gr.alloc ?_ _ | with_reducible refine Gr.setCell ?_ (by simp) _ | with_reducible refine Gr.setCell ?_ (by simp; omega) _ | with_reducible refine Gr.drew ?_ | with_reducible refine Gr.drewN ?_ _))⟩

set_option maxRecDepth 100000 in
set_option maxHeartbeats 2000000 in
theorem past_any (t x : Trc) (p : Nat) (A : Option Addr) (n c : Nat) (zs : List Trc) (w : World) (hc : w.cell? ⟨p, 0, none⟩ = some (.slice A n c)) (hr : Rd w 5 A n (zs.flatMap Trc.cells)) (hn : 0 < n) (hx : zs[0]! = x) (hbig : n ≤ 9223372036854775807) (h2 : 0 ≤ x.day ∧ x.day ≤ 100000) :
    Calls Tryd.prog 52 #[t.val, .pointer (some ⟨p, 0, none⟩)] w fun e w' => e = .returned (.bool (decide (t.day > x.day + 14))) ∧ Gr w w' := by
  obtain ⟨hk, b, off, rfl, hb, c0, c1, c2, c3, c4⟩ := hr.trc hn
  rw [hx] at c2
  clear c0 c1 c3 c4 hr hx
  obtain ⟨t0, t1, t2, t3, t4⟩ := t
  obtain ⟨x0, x1, x2, x3, x4⟩ := x
  unfold Trc.val
  dsimp only at *
  obtain ⟨h5, h6⟩ := h2
  have hp := block_lt_of_cell hc
  have hw : IntKind.i64.wrap (x2 + 14) = x2 + 14 := by rw [IntKind.wrap_i64]; omega
  have hn' : (0 : Int) < (n : Int) := by omega
  have hbig' : (n : Int) ≤ 9223372036854775807 := by omega
  simp only [Nat.zero_mul, Nat.add_zero] at c2
  go_enter Tryd.func52, Tryd.ntmps52
  go_wp2
  go_quiet (fail)
  go_wp2
  go_ret
  exact ⟨rfl, by (repeat (first | with_reducible exact Gr.refl _ | with_reducible refine Gr.alloc ?_ _ | with_reducible refine Gr.setCell ?_ (by simp) _ | with_reducible refine Gr.setCell ?_ (by simp; omega) _ | with_reducible refine Gr.drew ?_ | with_reducible refine Gr.drewN ?_ _))⟩
end Go.Proofs.YtliehlefpodhaaaDoor
