/- What is kept beside a row of the call's own that grows. For any program. A trace put in from the right, and a row of the call's own behind exchanges. For all lists of traces. A row of the call's own that has just grown by one trace: where it lies. For every row. -/
import Derived.Laws.AppendOwn
import Derived.Test.YtliehlefpodhaaaDoorQAmong9
import Derived.Test.YtliehlefpodhaaaDoorQDelete
namespace Go.Proofs.YtliehlefpodhaaaDoor
open Go.RowKit Go.Shelf
theorem ownT_gr {W W' : World} {base : Nat} {e : TypeId} {size n : Nat} {v : Value} {xs : List Value} (h : W.ownsRow base e size v n xs) (g : Gr W W') : W'.ownsRow base e size v n xs :=
  h.kept (grown_of_gr g) (by
    cases v.ownBlock with
    | none => exact .inl rfl
    | some _ => exact .inr (by simp))
/-- A world in which two blocks are as they were. -/
structure KeepW (W0 : World) (a b : Nat) where
  W : World
  ha : W.heap[a]? = W0.heap[a]?
  hb : W.heap[b]? = W0.heap[b]?
instance (W0 : World) (a b : Nat) : Inhabited (KeepW W0 a b) := ⟨⟨W0, rfl, rfl⟩⟩
theorem KeepW.fst {W0 : World} {a b : Nat} (p : KeepW W0 a b) {cs : Array Value} {t : TypeId} (h : W0.heap[a]? = some (.cells cs t (0, 0))) (j : Nat) {v : Value} (hv : cs[j]? = some v) : p.W.cell? ⟨a, j, none⟩ = some v :=
  (cell_of_row p.W a j cs t (0, 0) (p.ha.trans h)).trans hv
theorem KeepW.snd {W0 : World} {a b : Nat} (p : KeepW W0 a b) {cs : Array Value} {t : TypeId} (h : W0.heap[b]? = some (.cells cs t (0, 0))) (j : Nat) {v : Value} (hv : cs[j]? = some v) : p.W.cell? ⟨b, j, none⟩ = some v :=
  (cell_of_row p.W b j cs t (0, 0) (p.hb.trans h)).trans hv
def KeepW.gr {W0 : World} {a b : Nat} (p : KeepW W0 a b) {W : World} (k : Gr p.W W) (ha : a < p.W.heap.size) (hb : b < p.W.heap.size) : KeepW W0 a b := ⟨W, (k.heap ha).trans p.ha, (k.heap hb).trans p.hb⟩
theorem TrOwn.mono {w0 w1 W : World} {A : Option Addr} {n cap : Nat} {l : List Trc} (h : TrOwn w1 W A n cap l) (hs : w0.heap.size ≤ w1.heap.size) : TrOwn w0 W A n cap l :=
  ⟨h.len, h.le, h.big, h.row.imp id fun ⟨b, e, h1, h2, h3⟩ => ⟨b, e, Nat.le_trans hs h1, h2, h3⟩⟩
theorem cellsT_new (W : World) (C : Array Value) (t : TypeId) (xs : List Value) (h : C.toList = xs) : ∀ j u, xs[j]? = some u → (W.alloc (.cells C t)).cell? ((⟨W.heap.size, 0, none⟩ : Addr).add j) = some u := by
  intro j u hu
  subst h
  have := cell_of_row (W.alloc (.cells C t)) W.heap.size j C t _ (heap_alloc_new W _)
  have e : ((⟨W.heap.size, 0, none⟩ : Addr).add j) = ⟨W.heap.size, j, none⟩ := by
    simp only [Addr.add, Nat.zero_add]
    split
    · rename_i h0; rw [h0]
    · rfl
  rw [e, this]
  simpa using hu
/-- The traces of the inquiries so far. -/
def keptL (ls : List Lic) (ss : List Sig) (file now : Int) (zs : List Inq) : List Trc := (zs.filter (keptB file now)).map (trcOf ls ss)
theorem keptL_skip {ls : List Lic} {ss : List Sig} {file now : Int} {zs : List Inq} {k : Nat} (hk : k < zs.length) (h : keptB file now zs[k]! = false) : keptL ls ss file now (zs.take (k + 1)) = keptL ls ss file now (zs.take k) := by
  unfold keptL
  rw [List.take_succ_eq_append_getElem hk, List.filter_append, ← getElem!_pos zs k hk, List.filter_cons, h]
  simp
theorem keptL_put {ls : List Lic} {ss : List Sig} {file now : Int} {zs : List Inq} {k : Nat} (hk : k < zs.length) (h : keptB file now zs[k]! = true) : keptL ls ss file now (zs.take (k + 1)) = keptL ls ss file now (zs.take k) ++ [trcOf ls ss zs[k]!] := by
  unfold keptL
  rw [List.take_succ_eq_append_getElem hk, List.filter_append, ← getElem!_pos zs k hk, List.filter_cons, h]
  simp
theorem keptL_len (ls : List Lic) (ss : List Sig) (file now : Int) (zs : List Inq) : (keptL ls ss file now zs).length ≤ zs.length := by
  unfold keptL
  rw [List.length_map]
  exact List.length_filter_le _ _
theorem keptL_mem {ls : List Lic} {ss : List Sig} {file now : Int} {zs : List Inq} {t : Trc} (h : t ∈ keptL ls ss file now zs) : ∃ q ∈ zs, t = trcOf ls ss q := by
  unfold keptL at h
  obtain ⟨q, hq, rfl⟩ := List.mem_map.1 h
  exact ⟨q, (List.mem_filter.1 hq).1, rfl⟩
theorem keptL_pairwise {ls : List Lic} {ss : List Sig} {file now : Int} {zs : List Inq} (h : inqsB zs = true) (p : Trc → Bool) : ((keptL ls ss file now zs).filter p).Pairwise (fun x y => x.inq < y.inq) := by
  refine List.Pairwise.filter _ ?_
  unfold keptL
  rw [List.pairwise_map]
  exact List.Pairwise.filter _ (inqs_pairwise h)
theorem inqsB_mem {zs : List Inq} (h : inqsB zs = true) {q : Inq} (hq : q ∈ zs) : inqB q = true := by
  unfold inqsB at h
  simp only [Bool.and_eq_true, decide_eq_true_eq, Bool.not_eq_true', List.any_eq_false, List.mem_range, Bool.not_eq_true] at h
  obtain ⟨j, hj, rfl⟩ := List.getElem_of_mem hq
  have := h.2 j hj
  unfold inqBad at this
  simp only [Bool.or_eq_false_iff, Bool.not_eq_false'] at this
  rw [getElem!_pos zs j hj] at this
  exact this.1
theorem inqB_day {q : Inq} (h : inqB q = true) : 0 ≤ q.day ∧ q.day ≤ 100000 := by
  unfold inqB inB at h
  simp only [Bool.and_eq_true, decide_eq_true_eq] at h
  exact h.1.2
end Go.Proofs.YtliehlefpodhaaaDoor
namespace Go.Proofs.YtliehlefpodhaaaDoor
open Go.RowKit Go.Shelf Go.Sort

theorem putT_split {t : Trc} {pre post : List Trc} (h1 : ∀ x ∈ pre, x.day ≤ t.day) (h2 : ∀ y r, post = y :: r → t.day < y.day) : putT t (pre ++ post) = pre ++ t :: post := by
  induction pre with
  | nil =>
    cases post with
    | nil => rfl
    | cons y r => simp [putT, h2 y r rfl]
  | cons x pre ih =>
    have hx : ¬ t.day < x.day := by have := h1 x (by simp); omega
    simp only [List.cons_append, putT, if_neg hx]
    rw [ih (fun y hy => h1 y (by simp [hy]))]
def DayOrd (l : List Trc) : Prop := l.Pairwise (fun x y => x.day ≤ y.day)
theorem putT_days {t : Trc} {l : List Trc} (h : DayOrd l) : DayOrd (putT t l) := by
  unfold DayOrd at *
  induction l with
  | nil => simp [putT]
  | cons x r ih =>
    obtain ⟨h1, h2⟩ := List.pairwise_cons.1 h
    unfold putT
    split
    · rename_i hlt
      refine List.pairwise_cons.2 ⟨fun y hy => ?_, h⟩
      rcases List.mem_cons.1 hy with rfl | hy
      · omega
      · have := h1 y hy; omega
    · rename_i hlt
      refine List.pairwise_cons.2 ⟨fun y hy => ?_, ih h2⟩
      rcases List.mem_cons.1 ((putT_perm t r).mem_iff.1 hy) with rfl | hy
      · omega
      · exact h1 y hy
theorem trStep_days {ls : List Lic} {ss : List Sig} {file day pu : Int} {o : List Trc} (q : Inq) (h : DayOrd o) : DayOrd (trStep ls ss file day pu o q) := by
  unfold trStep
  split
  · exact putT_days h
  · exact h
theorem fold_days {ls : List Lic} {ss : List Sig} {file day pu : Int} (l : List Inq) : DayOrd (l.foldl (trStep ls ss file day pu) []) := by
  have : ∀ (l : List Inq) (o : List Trc), DayOrd o → DayOrd (l.foldl (trStep ls ss file day pu) o) := by
    intro l
    induction l with
    | nil => exact fun o h => h
    | cons q l ih => exact fun o h => ih _ (trStep_days q h)
  exact this l [] (by simp [DayOrd])
theorem fold_len {ls : List Lic} {ss : List Sig} {file day pu : Int} (l : List Inq) : (l.foldl (trStep ls ss file day pu) []).length ≤ l.length := by
  have : ∀ (l : List Inq) (o : List Trc), (l.foldl (trStep ls ss file day pu) o).length ≤ o.length + l.length := by
    intro l
    induction l with
    | nil => exact fun o => by simp
    | cons q l ih =>
      intro o
      refine Nat.le_trans (ih _) ?_
      have : (trStep ls ss file day pu o q).length ≤ o.length + 1 := by
        unfold trStep
        split
        · rw [(putT_perm _ _).length_eq]; simp
        · omega
      simp
      omega
  have := this l []
  simpa using this

/-- Where a trace has come from the right. -/
structure PutQ (t : Trc) (l : List Trc) (k : Nat) (d : Array Trc) : Prop where
  ex : ∃ pre post, l = pre ++ post ∧ d.toList = pre ++ t :: post ∧ pre.length = k ∧ ∀ y r, post = y :: r → t.day < y.day
theorem PutQ.start (t : Trc) (l : List Trc) : PutQ t l l.length (l ++ [t]).toArray := ⟨l, [], by simp, by simp, rfl, fun y r h => by cases h⟩
theorem PutQ.size {t : Trc} {l : List Trc} {k : Nat} {d : Array Trc} (h : PutQ t l k d) : d.size = l.length + 1 ∧ k < d.size := by
  obtain ⟨pre, post, e1, e2, e3, _⟩ := h.ex
  have := congrArg List.length e2
  have h2 := congrArg List.length e1
  simp at this h2
  omega
theorem PutQ.at_ {t : Trc} {l : List Trc} {k : Nat} {d : Array Trc} (h : PutQ t l k d) : d[k]! = t := by
  obtain ⟨pre, post, e1, e2, e3, _⟩ := h.ex
  have hk := h.size.2
  rw [getElem!_pos d k hk]
  have : d.toList[k]? = some t := by
    rw [e2, List.getElem?_append_right (by omega), e3]
    simp
  rw [Array.getElem?_toList, Array.getElem?_eq_getElem hk] at this
  exact Option.some.inj this
theorem PutQ.step {t : Trc} {l : List Trc} {k : Nat} {d : Array Trc} (h : PutQ t l (k + 1) d) (hl : t.day < d[k]!.day) : PutQ t l k (swp d (k + 1) k) := by
  have ha := h.at_
  have hs := h.size
  obtain ⟨pre, post, e1, e2, e3, e4⟩ := h.ex
  obtain ⟨p, z, rfl⟩ : ∃ p z, pre = p ++ [z] := ⟨pre.dropLast, pre.getLast (by intro e; subst e; simp at e3), (List.dropLast_concat_getLast _).symm⟩
  have hp : p.length = k := by simpa using e3
  have hz : d[k]! = z := by
    rw [getElem!_pos d k (by omega)]
    have : d.toList[k]? = some z := by
      rw [e2, List.append_assoc, List.getElem?_append_right (by omega), hp]
      simp
    rw [Array.getElem?_toList, Array.getElem?_eq_getElem (by omega)] at this
    exact Option.some.inj this
  refine ⟨p, z :: post, by rw [e1]; simp, ?_, hp, fun y r hy => by cases hy; rw [← hz]; exact hl⟩
  have hsz : (swp d (k + 1) k).size = d.size := by simp [swp]
  apply List.ext_getElem?
  intro i
  by_cases hi : i < d.size
  · have e5 : (swp d (k + 1) k).toList[i]? = some ((swp d (k + 1) k)[i]!) := by
      rw [Array.getElem?_toList, Array.getElem?_eq_getElem (by omega), getElem!_pos _ i (by omega)]
    have e6 : d.toList[i]? = some d[i]! := by
      rw [Array.getElem?_toList, Array.getElem?_eq_getElem hi, getElem!_pos d i hi]
    rw [e5, swp_get d (show k + 1 < d.size by omega) (show k < d.size by omega)]
    rw [e2, List.append_assoc] at e6
    by_cases h1 : i = k
    · subst h1
      rw [if_pos rfl, ha, List.getElem?_append_right (by omega), hp]
      simp
    · by_cases h2 : i = k + 1
      · subst h2
        rw [if_neg h1, if_pos rfl, hz, List.getElem?_append_right (by omega), hp]
        simp
      · rw [if_neg h1, if_neg h2, ← e6]
        by_cases h3 : i < k
        · rw [List.getElem?_append_left (by omega), List.getElem?_append_left (by omega)]
        · obtain ⟨j, rfl⟩ : ∃ j, i = k + 2 + j := ⟨i - k - 2, by omega⟩
          have e7 : (p ++ ([z] ++ t :: post))[k + 2 + j]? = post[j]? := by
            rw [List.getElem?_append_right (by omega), hp, show k + 2 + j - k = j + 1 + 1 by omega]; simp
          have e8 : (p ++ t :: z :: post)[k + 2 + j]? = post[j]? := by
            rw [List.getElem?_append_right (by omega), hp, show k + 2 + j - k = j + 1 + 1 by omega]; simp
          rw [e7, e8]
  · have hl1 : (swp d (k + 1) k).toList.length ≤ i := by simp; omega
    have h2 := congrArg List.length e2
    have hl2 : (p ++ t :: z :: post).length ≤ i := by simp at h2 ⊢; omega
    rw [List.getElem?_eq_none hl1, List.getElem?_eq_none hl2]
theorem PutQ.done {t : Trc} {l : List Trc} {k : Nat} {d : Array Trc} (h : PutQ t l k d) (ho : DayOrd l) (hk : k = 0 ∨ ¬ t.day < d[k - 1]!.day) : d = (putT t l).toArray := by
  have hs := h.size
  obtain ⟨pre, post, e1, e2, e3, e4⟩ := h.ex
  have h1 : ∀ x ∈ pre, x.day ≤ t.day := by
    intro x hx
    rcases hk with rfl | hk
    · have : pre = [] := List.length_eq_zero_iff.1 e3
      subst this; simp at hx
    · by_cases hk0 : k = 0
      · subst hk0
        have : pre = [] := List.length_eq_zero_iff.1 e3
        subst this; simp at hx
      · obtain ⟨p, z, rfl⟩ : ∃ p z, pre = p ++ [z] := ⟨pre.dropLast, pre.getLast (by intro e; subst e; simp at hx), (List.dropLast_concat_getLast _).symm⟩
        have hp : p.length = k - 1 := by simp at e3; omega
        have hz : d[k - 1]! = z := by
          rw [getElem!_pos d (k - 1) (by omega)]
          have : d.toList[k - 1]? = some z := by
            rw [e2, List.append_assoc, List.getElem?_append_right (by omega), hp]
            simp
          rw [Array.getElem?_toList, Array.getElem?_eq_getElem (by omega)] at this
          exact Option.some.inj this
        rw [hz] at hk
        rcases List.mem_append.1 hx with hx | hx
        · unfold DayOrd at ho
          rw [e1, List.append_assoc] at ho
          have := (List.pairwise_append.1 ho).2.2 x hx z (by simp)
          omega
        · simp at hx; subst hx; omega
  rw [e1, putT_split h1 e4, ← e2]

/-- A row of the call's own, behind exchanges. -/
theorem own_back {W W' : World} {base g cap : Nat} {e : TypeId} {n : Nat} {xs : List Value} (h : W.ownsRow base e 5 (.slice (some ⟨g, 0, none⟩) n cap) n xs) {d : Array Trc} (S : SWK Trc.cells 5 W g 0 d W') (hH : HoldsK Trc.cells 5 W' g 0 d) (hd : d.size = n) :
    W'.ownsRow base e 5 (.slice (some ⟨g, 0, none⟩) n cap) n (d.toList.flatMap Trc.cells) := by
  refine ⟨by rw [flatMap_len Trc.len]; simp [hd], ?_⟩
  rcases h.2 with ⟨h1, _⟩ | ⟨g', cap', cur, h1, h2, h3, h4, h5, h6, _⟩
  · cases h1
  · cases h1
    have hg : g < W.heap.size := (Array.getElem?_eq_some_iff.1 h3).1
    obtain ⟨cur', h7, h8⟩ : ∃ cur', W'.heap[g]? = some (.cells cur' e (0, 0)) ∧ cur'.size = cap * 5 := by
      obtain ⟨m, os, rfl⟩ := S
      refine ⟨putCells id 0 (flatK Trc.cells 5 d) cur, ?_, ?_⟩
      · simp only [sortWorldK, grow, putRowK, putRow, mapBlock, Sort.ahead]
        rw [Array.getElem?_append_left (by simpa using hg), Array.getElem?_modify, if_pos rfl]
        have h3' : W.heap[g]? = some (.cells cur e (0, 0)) := h3
        rw [h3']
        rfl
      · rw [← h6]
        simp [putCells]
    refine .inr ⟨g, cap, cur', rfl, h2, h7, h4, h5, h8, ?_⟩
    apply List.ext_getElem?
    intro j
    by_cases hj : j < n * 5
    · rw [List.getElem?_take, if_pos hj, Array.getElem?_toList, flatT_get d.toList j (by simpa [hd] using hj)]
      have hc := (hH j (by rw [size_flatK, hd]; exact hj)).1
      rw [Nat.zero_add, cell_of_row W' g j cur' e _ h7, get_flatK _ _ _ _ (by rw [hd]; exact hj)] at hc
      rw [hc]
      simp
    · rw [List.getElem?_eq_none (by simp; omega), List.getElem?_eq_none (by rw [flatMap_len Trc.len]; simp [hd]; omega)]
end Go.Proofs.YtliehlefpodhaaaDoor
namespace Go.Proofs.YtliehlefpodhaaaDoor
open Go.RowKit Go.Shelf Go.Sort

theorem put_own {W : World} {base : Nat} {v : Value} {o : List Trc} {t : Trc} (h : W.ownsRow base 72 5 v (o.length + 1) (o.flatMap Trc.cells ++ t.cells)) :
    ∃ g cap, v = .slice (some ⟨g, 0, none⟩) (o.length + 1) cap ∧ o.length + 1 ≤ cap ∧ cap ≤ 9223372036854775807 ∧ base ≤ g ∧ g < W.heap.size ∧ HoldsK Trc.cells 5 W g 0 (o ++ [t]).toArray := by
  have hf : o.flatMap Trc.cells ++ t.cells = (o ++ [t]).flatMap Trc.cells := by simp
  have hl : o.length + 1 = (o ++ [t]).length := by simp
  rcases h.2 with ⟨_, h0⟩ | ⟨g, cap, cur, e, hb, hg, h1, h2, _, h4⟩
  · omega
  · refine ⟨g, cap, e, h1, h2, hb, (Array.getElem?_eq_some_iff.1 hg).1, holdsT_own hg ?_⟩
    rw [← hl, ← hf]
    exact h4
theorem row_trc (w0 : World) (g : Nat) (d : Array Trc) (hH : HoldsK Trc.cells 5 w0 g 0 d) (hg : g < w0.heap.size) : RowK Trc.cells 5 w0 g 0 d := ⟨Trc.len, Trc.one, hH, hg⟩
theorem swk_cell {w0 W : World} {g : Nat} {d : Array Trc} {d0 : Array Trc} (S : SWK Trc.cells 5 w0 g 0 d W) (hg : g < w0.heap.size) (h0 : HoldsK Trc.cells 5 w0 g 0 d0) (hs : d.size = d0.size) {i : Nat} (hi : i < d.size) : W.cell? ⟨g, i * 5 + 2, none⟩ = some (.int .i64 d[i]!.day) :=
  (holdsT_cells (S.holds hg h0 hs) hi).1.2.2.1
end Go.Proofs.YtliehlefpodhaaaDoor
