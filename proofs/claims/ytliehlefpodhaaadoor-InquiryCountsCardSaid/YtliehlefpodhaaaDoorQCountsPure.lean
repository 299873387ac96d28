/- Spans of days: counted from the first on, and from the last on, they are as many as days that are far from each other; with a day more they are no fewer, and at most one more. In plain functions. -/
import Derived.Test.YtliehlefpodhaaaDoorQMarksPure
namespace Go.Proofs.YtliehlefpodhaaaDoor
open Go.RowKit

/-- Spans, from a day on. -/
def spanG (last : Int) : List Int → Nat
  | [] => 0
  | d :: r => if d > last + 14 then spanG d r + 1 else spanG last r
/-- Days that are far from each other. -/
def FarL (S : List Int) : Prop := S.Pairwise (fun a b => a + 14 < b)
theorem spanG_some (D : List Int) (last : Int) : ∃ S : List Int, S.Sublist D ∧ FarL S ∧ (∀ s ∈ S, last + 14 < s) ∧ S.length = spanG last D := by
  induction D generalizing last with
  | nil => exact ⟨[], List.Sublist.refl _, List.Pairwise.nil, by simp, rfl⟩
  | cons d r ih =>
    unfold spanG
    by_cases h : d > last + 14
    · obtain ⟨S, h1, h2, h3, h4⟩ := ih d
      rw [if_pos h]
      refine ⟨d :: S, h1.cons_cons d, List.pairwise_cons.2 ⟨h3, h2⟩, fun s hs => ?_, by simp [h4]⟩
      rcases List.mem_cons.1 hs with rfl | hs
      · omega
      · have := h3 s hs; omega
    · obtain ⟨S, h1, h2, h3, h4⟩ := ih last
      rw [if_neg h]
      exact ⟨S, h1.cons d, h2, h3, h4⟩
theorem spanG_most (D : List Int) (last : Int) (hD : D.Pairwise (· ≤ ·)) (S : List Int) (hS : S.Sublist D) (hf : FarL S) (hl : ∀ s ∈ S, last + 14 < s) : S.length ≤ spanG last D := by
  induction D generalizing last S with
  | nil => cases hS; exact Nat.le_refl _
  | cons d r ih =>
    obtain ⟨hd1, hd2⟩ := List.pairwise_cons.1 hD
    unfold spanG
    by_cases h : d > last + 14
    · rw [if_pos h]
      cases S with
      | nil => exact Nat.zero_le _
      | cons s T =>
        obtain ⟨hf1, hf2⟩ := List.pairwise_cons.1 hf
        have hT : T.Sublist r ∧ d ≤ s := by
          cases hS with
          | cons _ h1 => exact ⟨(List.sublist_cons_self s T).trans h1, hd1 s (h1.subset (by simp))⟩
          | cons_cons _ h1 => exact ⟨h1, Int.le_refl _⟩
        have := ih d hd2 T hT.1 hf2 (fun x hx => by have := hf1 x hx; omega)
        simp
        omega
    · rw [if_neg h]
      cases hS with
      | cons _ h1 => exact ih last hd2 S h1 hf hl
      | cons_cons _ h1 => exact absurd (hl d (by simp)) (by omega)
theorem spanG_len (D : List Int) (last : Int) : spanG last D ≤ D.length := by
  obtain ⟨S, h1, _, _, h4⟩ := spanG_some D last
  rw [← h4]
  exact h1.length_le
/-- From the last day on. -/
theorem span_back {D : List Int} (hD : D.Pairwise (· ≤ ·)) {lo hi : Int} (hb : ∀ d ∈ D, lo + 14 < d ∧ d + 14 < hi) : spanG (-hi) (D.reverse.map (fun d => -d)) = spanG lo D := by
  have hs : (D.reverse.map (fun d => -d)).Pairwise (· ≤ ·) := by
    rw [List.pairwise_map, List.pairwise_reverse]
    exact hD.imp (fun h => by omega)
  apply Nat.le_antisymm
  · obtain ⟨S, h1, h2, h3, h4⟩ := spanG_some (D.reverse.map (fun d => -d)) (-hi)
    rw [← h4]
    have h5 : (S.reverse.map (fun d => -d)).Sublist D := by
      have := (h1.reverse).map (fun d => -d)
      simpa [List.map_reverse, Function.comp_def] using this
    have := spanG_most D lo hD _ h5 (by
      unfold FarL at *
      rw [List.pairwise_map, List.pairwise_reverse]
      exact h2.imp (fun h => by omega)) (fun s hs => (hb s (h5.subset hs)).1)
    simpa using this
  · obtain ⟨S, h1, h2, h3, h4⟩ := spanG_some D lo
    rw [← h4]
    have h5 : (S.reverse.map (fun d => -d)).Sublist (D.reverse.map (fun d => -d)) := (h1.reverse).map _
    have := spanG_most _ (-hi) hs _ h5 (by
      unfold FarL at *
      rw [List.pairwise_map, List.pairwise_reverse]
      exact h2.imp (fun h => by omega)) (fun s hs => by
        obtain ⟨d, hd, rfl⟩ := List.mem_map.1 hs
        have := (hb d (h1.subset (List.mem_reverse.1 hd))).2
        omega)
    simpa using this
/-- A day more. -/
theorem span_more {D D' : List Int} {d lo : Int} (hD : D.Pairwise (· ≤ ·)) (hD' : D'.Pairwise (· ≤ ·)) (hp : D'.Perm D ∨ D'.Perm (d :: D)) : spanG lo D ≤ spanG lo D' ∧ spanG lo D' ≤ spanG lo D + 1 := by
  rcases hp with hp | hp
  · have : D' = D := hp.eq_of_pairwise (le := (· ≤ ·)) (fun a b _ _ h k => Int.le_antisymm h k) hD' hD
    subst this
    omega
  · have he : D = D'.erase d := by
      have h1 : D.Perm (D'.erase d) := (List.cons_perm_iff_perm_erase.1 hp.symm).2
      exact h1.eq_of_pairwise (le := (· ≤ ·)) (fun a b _ _ h k => Int.le_antisymm h k) hD (hD'.sublist List.erase_sublist)
    have hsub : D.Sublist D' := by rw [he]; exact List.erase_sublist
    constructor
    · obtain ⟨S, h1, h2, h3, h4⟩ := spanG_some D lo
      rw [← h4]
      exact spanG_most D' lo hD' S (h1.trans hsub) h2 h3
    · obtain ⟨S, h1, h2, h3, h4⟩ := spanG_some D' lo
      rw [← h4]
      have h5 : (S.erase d).Sublist D := by rw [he]; exact h1.erase d
      have h6 := spanG_most D lo hD (S.erase d) h5 (h2.sublist List.erase_sublist) (fun s hs => h3 s (List.mem_of_mem_erase hs))
      have h7 := List.length_erase_le (a := d) (l := S)
      have h8 : S.length ≤ (S.erase d).length + 1 := by
        rw [List.length_erase]
        split <;> omega
      omega

/-- The law's count from the first on. -/
def farStep (s : Int × Int) (t : Trc) : Int × Int := if t.day - s.2 > 14 then (s.1 + 1, t.day) else s
/-- The law's count from the last on. -/
def backStep (s : Int × Int) (t : Trc) : Int × Int := if s.2 - t.day > 14 then (s.1 + 1, t.day) else s
theorem far_span (l : List Trc) (c lo : Int) : (l.foldl farStep (c, lo)).1 = c + spanG lo (l.map Trc.day) := by
  induction l generalizing c lo with
  | nil => simp [spanG]
  | cons t r ih =>
    rw [List.foldl_cons, List.map_cons]
    unfold spanG
    rw [show farStep (c, lo) t = if t.day - lo > 14 then (c + 1, t.day) else (c, lo) from rfl]
    by_cases h : t.day - lo > 14
    · rw [if_pos h, if_pos (by omega), ih]
      omega
    · rw [if_neg h, if_neg (by omega), ih]
theorem back_span (l : List Trc) (c hi : Int) : (l.foldl backStep (c, hi)).1 = c + spanG (-hi) (l.map (fun t => -t.day)) := by
  induction l generalizing c hi with
  | nil => simp [spanG]
  | cons t r ih =>
    rw [List.foldl_cons, List.map_cons]
    unfold spanG
    rw [show backStep (c, hi) t = if hi - t.day > 14 then (c + 1, t.day) else (c, hi) from rfl]
    by_cases h : hi - t.day > 14
    · rw [if_pos h, if_pos (by omega), ih]
      omega
    · rw [if_neg h, if_neg (by omega), ih]
theorem count_span (l : List Trc) (hl : ∀ t ∈ l, 0 ≤ t.day) : countN l = spanG (-1000) (l.map Trc.day) := by
  have key : ∀ (l : List Trc) (c lo : Int), c > 0 → (l.foldl countStep (c, lo)).1 = c + spanG lo (l.map Trc.day) := by
    intro l
    induction l with
    | nil => intro c lo _; simp [spanG]
    | cons t r ih =>
      intro c lo hc
      rw [List.foldl_cons, List.map_cons]
      unfold spanG
      rw [show countStep (c, lo) t = if c = 0 ∨ t.day > lo + 14 then (c + 1, t.day) else (c, lo) from rfl]
      by_cases h : t.day > lo + 14
      · rw [if_pos (.inr h), if_pos h, ih _ _ (by omega)]
        omega
      · rw [if_neg (by omega), if_neg h, ih _ _ hc]
  unfold countN
  cases l with
  | nil => simp [spanG]
  | cons t r =>
    have := hl t (by simp)
    rw [List.foldl_cons, List.map_cons]
    unfold spanG
    rw [show countStep (0, 0) t = if (0 : Int) = 0 ∨ t.day > 0 + 14 then (0 + 1, t.day) else (0, 0) from rfl]
    rw [if_pos (.inl rfl), if_pos (by omega), key _ _ _ (by omega)]
    omega
theorem spanG_none (D : List Int) (lo : Int) (hD : ∀ d ∈ D, lo + 14 < d) : spanG lo D = 0 ↔ D.length = 0 := by
  cases D with
  | nil => simp [spanG]
  | cons d r =>
    unfold spanG
    rw [if_pos (by have := hD d (by simp); omega)]
    simp
/-- What the law compares. -/
theorem counts_same {l : List Trc} (hs : l.Pairwise (fun a b => a.day ≤ b.day)) (hl : ∀ t ∈ l, 0 ≤ t.day ∧ t.day ≤ 100000) :
    (l.foldl farStep (0, -1000)).1 = countN l ∧ (l.reverse.foldl backStep (0, 101000)).1 = countN l ∧ 0 ≤ countN l ∧ countN l ≤ l.length ∧ (countN l = 0 ↔ l.length = 0) := by
  have h1 := count_span l (fun t h => (hl t h).1)
  have hD : (l.map Trc.day).Pairwise (· ≤ ·) := by rw [List.pairwise_map]; exact hs
  have hb : ∀ d ∈ l.map Trc.day, (-1000 : Int) + 14 < d ∧ d + 14 < 101000 := by
    intro d hd
    obtain ⟨t, ht, rfl⟩ := List.mem_map.1 hd
    have := hl t ht
    omega
  have h2 := span_back hD hb
  have h3 := spanG_len (l.map Trc.day) (-1000)
  have h4 := spanG_none (l.map Trc.day) (-1000) (fun d hd => (hb d hd).1)
  rw [List.length_map] at h3 h4
  refine ⟨by rw [far_span, h1]; omega, ?_, by omega, by omega, by rw [h1, ← h4]; omega⟩
  rw [back_span, h1]
  have : (l.reverse.map fun t => -t.day) = ((l.map Trc.day).reverse.map fun d => -d) := by
    rw [← List.map_reverse, List.map_map]
    rfl
  rw [this, h2]
  omega
theorem putT_days {t : Trc} {l : List Trc} (h : l.Pairwise (fun a b => a.day ≤ b.day)) : (putT t l).Pairwise (fun a b => a.day ≤ b.day) := by
  have hp : ∀ l : List Trc, (putT t l).Perm (t :: l) := by
    intro l
    induction l with
    | nil => exact List.Perm.refl _
    | cons y r ih =>
      unfold putT
      split
      · exact List.Perm.refl _
      · exact (List.Perm.cons y ih).trans (List.Perm.swap t y r)
  induction l with
  | nil => simp [putT]
  | cons y r ih =>
    obtain ⟨h1, h2⟩ := List.pairwise_cons.1 h
    unfold putT
    split
    · rename_i hlt
      refine List.pairwise_cons.2 ⟨fun z hz => ?_, h⟩
      rcases List.mem_cons.1 hz with rfl | hz
      · omega
      · have := h1 z hz; omega
    · rename_i hlt
      refine List.pairwise_cons.2 ⟨fun z hz => ?_, ih h2⟩
      rcases List.mem_cons.1 ((hp r).mem_iff.1 hz) with rfl | hz
      · omega
      · exact h1 z hz
theorem sortT_days (l : List Trc) : (sortT l).Pairwise (fun a b => a.day ≤ b.day) := by
  have key : ∀ (l o : List Trc), o.Pairwise (fun a b => a.day ≤ b.day) → (l.foldl (fun o t => putT t o) o).Pairwise (fun a b => a.day ≤ b.day) := by
    intro l
    induction l with
    | nil => exact fun o h => h
    | cons t r ih => exact fun o h => by rw [List.foldl_cons]; exact ih _ (putT_days h)
  exact key l [] List.Pairwise.nil
theorem traces_days (ls : List Lic) (ss : List Sig) (zs : List Inq) (file day pu : Int) : (tracesL ls ss zs file day pu).Pairwise (fun a b => a.day ≤ b.day) := sortT_days _
theorem traces_bound {ls : List Lic} {ss : List Sig} {zs : List Inq} (h : inqsB zs = true) (file day pu : Int) : ∀ t ∈ tracesL ls ss zs file day pu, 0 ≤ t.day ∧ t.day ≤ 100000 := by
  intro t ht
  unfold tracesL at ht
  rw [(sortT_perm _).mem_iff] at ht
  obtain ⟨h1, _⟩ := List.mem_filter.1 ht
  obtain ⟨q, hq, rfl⟩ := List.mem_map.1 h1
  have hb := inqsB_mem h (List.mem_filter.1 hq).1
  unfold inqB inB at hb
  unfold trcOf
  simp at hb ⊢
  omega
theorem far_in {l : List Trc} (hl : ∀ t ∈ l, 0 ≤ t.day ∧ t.day ≤ 100000) : 0 ≤ (l.foldl farStep (0, -1000)).1 ∧ (l.foldl farStep (0, -1000)).1 ≤ l.length ∧ -1000 ≤ (l.foldl farStep (0, -1000)).2 ∧ (l.foldl farStep (0, -1000)).2 ≤ 100000 := by
  have key : ∀ (l : List Trc) (c lo : Int), (∀ t ∈ l, 0 ≤ t.day ∧ t.day ≤ 100000) → -1000 ≤ lo ∧ lo ≤ 100000 → c ≤ (l.foldl farStep (c, lo)).1 ∧ (l.foldl farStep (c, lo)).1 ≤ c + l.length ∧ -1000 ≤ (l.foldl farStep (c, lo)).2 ∧ (l.foldl farStep (c, lo)).2 ≤ 100000 := by
    intro l
    induction l with
    | nil => intro c lo _ h; simp; exact h
    | cons t r ih =>
      intro c lo hl h
      have ht := hl t (by simp)
      rw [List.foldl_cons, show farStep (c, lo) t = if t.day - lo > 14 then (c + 1, t.day) else (c, lo) from rfl]
      by_cases h1 : t.day - lo > 14
      · rw [if_pos h1]
        have := ih (c + 1) t.day (fun x hx => hl x (by simp [hx])) (by omega)
        simp only [List.length_cons]
        omega
      · rw [if_neg h1]
        have := ih c lo (fun x hx => hl x (by simp [hx])) h
        simp only [List.length_cons]
        omega
  have := key l 0 (-1000) hl (by omega)
  omega
theorem back_in {l : List Trc} (hl : ∀ t ∈ l, 0 ≤ t.day ∧ t.day ≤ 100000) : 0 ≤ (l.foldl backStep (0, 101000)).1 ∧ (l.foldl backStep (0, 101000)).1 ≤ l.length ∧ 0 ≤ (l.foldl backStep (0, 101000)).2 ∧ (l.foldl backStep (0, 101000)).2 ≤ 101000 := by
  have key : ∀ (l : List Trc) (c hi : Int), (∀ t ∈ l, 0 ≤ t.day ∧ t.day ≤ 100000) → 0 ≤ hi ∧ hi ≤ 101000 → c ≤ (l.foldl backStep (c, hi)).1 ∧ (l.foldl backStep (c, hi)).1 ≤ c + l.length ∧ 0 ≤ (l.foldl backStep (c, hi)).2 ∧ (l.foldl backStep (c, hi)).2 ≤ 101000 := by
    intro l
    induction l with
    | nil => intro c lo _ h; simp; exact h
    | cons t r ih =>
      intro c hi hl h
      have ht := hl t (by simp)
      rw [List.foldl_cons, show backStep (c, hi) t = if hi - t.day > 14 then (c + 1, t.day) else (c, hi) from rfl]
      by_cases h1 : hi - t.day > 14
      · rw [if_pos h1]
        have := ih (c + 1) t.day (fun x hx => hl x (by simp [hx])) (by omega)
        simp only [List.length_cons]
        omega
      · rw [if_neg h1]
        have := ih c hi (fun x hx => hl x (by simp [hx])) h
        simp only [List.length_cons]
        omega
  have := key l 0 101000 hl (by omega)
  omega
theorem fold_at {α : Type} {f : α → Trc → α} {s : α} {l : List Trc} {k : Nat} (hk : k < l.length) : (l.take (k + 1)).foldl f s = f ((l.take k).foldl f s) l[k]! := by
  rw [List.take_succ_eq_append_getElem hk, List.foldl_append, ← getElem!_pos l k hk]
  rfl
theorem rev_at {l : List Trc} {k : Nat} (hk : k < l.length) : l.reverse[k]! = l[l.length - 1 - k]! := by
  rw [getElem!_pos l.reverse k (by simpa using hk), getElem!_pos l (l.length - 1 - k) (by omega), List.getElem_reverse]
/-- The list with an inquiry more. -/
def plusL (zs : List Inq) (q : Inq) (j : Nat) : List Inq := zs.take j ++ q :: zs.drop j
theorem plus_perm (zs : List Inq) (q : Inq) (j : Nat) : (plusL zs q j).Perm (q :: zs) := by
  unfold plusL
  refine List.perm_middle.trans ?_
  rw [List.take_append_drop]
theorem counts_more {ls : List Lic} {ss : List Sig} {zs : List Inq} {q : Inq} {j : Nat} (h : inqsB zs = true) (h' : inqsB (plusL zs q j) = true) (file day : Int) :
    countN (tracesL ls ss zs file day 1) ≤ countN (tracesL ls ss (plusL zs q j) file day 1) ∧ countN (tracesL ls ss (plusL zs q j) file day 1) ≤ countN (tracesL ls ss zs file day 1) + 1 := by
  have hb := traces_bound (ls := ls) (ss := ss) h file day 1
  have hb' := traces_bound (ls := ls) (ss := ss) h' file day 1
  rw [count_span _ (fun t ht => (hb t ht).1), count_span _ (fun t ht => (hb' t ht).1)]
  have hD : ((tracesL ls ss zs file day 1).map Trc.day).Pairwise (· ≤ ·) := by rw [List.pairwise_map]; exact traces_days _ _ _ _ _ _
  have hD' : ((tracesL ls ss (plusL zs q j) file day 1).map Trc.day).Pairwise (· ≤ ·) := by rw [List.pairwise_map]; exact traces_days _ _ _ _ _ _
  have hp : ((tracesL ls ss (plusL zs q j) file day 1).map Trc.day).Perm ((tracesL ls ss zs file day 1).map Trc.day) ∨ ((tracesL ls ss (plusL zs q j) file day 1).map Trc.day).Perm (q.day :: (tracesL ls ss zs file day 1).map Trc.day) := by
    unfold tracesL
    have h0 := ((((plus_perm zs q j).filter (keptB file day)).map (trcOf ls ss)).filter (fun t => (1 : Int) == 5 || !hidB day t))
    rw [List.filter_cons] at h0
    have e : ∀ l : List Trc, ((sortT l).map Trc.day).Perm (l.map Trc.day) := fun l => (sortT_perm l).map _
    cases hk : keptB file day q with
    | false =>
      rw [hk] at h0
      exact .inl ((e _).trans ((h0.map Trc.day).trans (e _).symm))
    | true =>
      rw [hk, if_pos rfl, List.map_cons, List.filter_cons] at h0
      cases hh : ((1 : Int) == 5 || !hidB day (trcOf ls ss q)) with
      | false =>
        rw [hh] at h0
        exact .inl ((e _).trans ((h0.map Trc.day).trans (e _).symm))
      | true =>
        rw [hh, if_pos rfl] at h0
        refine .inr ((e _).trans ((h0.map Trc.day).trans ?_))
        rw [List.map_cons]
        exact List.Perm.cons _ (e _).symm
  have := span_more (d := q.day) (lo := -1000) hD hD' hp
  omega
end Go.Proofs.YtliehlefpodhaaaDoor
