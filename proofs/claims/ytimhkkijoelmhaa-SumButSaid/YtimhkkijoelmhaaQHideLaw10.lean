/- How everybody could count otherwise: all sums stay. No program in sight. What Hide hands back, against all sums; who is deduced, in order. No program in sight. Whose values follow, by what the questions can say together; a question more, in any order, twice. No program in sight. -/
import Derived.Test.YtimhkkijoelmhaaQHowPure10
import Derived.Test.YtimhkkijoelmhaaQHide10
namespace Go.Proofs.Ytimhkkijoelmhaa
open Go.RowKit

theorem sg_add (m : Nat) (f g : Nat → Rat) : sg m (fun k => f k + g k) = sg m f + sg m g := by
  induction m with
  | zero => show (0 : Rat) = 0 + 0; grind
  | succ m ih => rw [sg, sg, sg, ih]; grind
theorem sg_ite {m f : Nat} (hf : f < m) (a : Rat) : sg m (fun j => if j = f then a else 0) = a := by
  induction m with
  | zero => omega
  | succ m ih =>
    rw [sg]
    by_cases h : f = m
    · subst h
      rw [sg_congr (g := fun _ => 0) (fun i hi => if_neg (by omega)), sg_zero, if_pos rfl]
      grind
    · rw [ih (by omega), if_neg (fun e => h e.symm)]
      grind
theorem sg_two {m f l : Nat} (hf : f < m) (hl : l < m) (h : f ≠ l) (a b : Rat) : sg m (fun j => if j = f then a else if j = l then b else 0) = a + b := by
  rw [sg_congr (g := fun j => (if j = f then a else 0) + (if j = l then b else 0)) (fun i _ => ?_), sg_add, sg_ite hf, sg_ite hl]
  by_cases e : i = f
  · rw [if_pos e, if_pos e, if_neg (by omega)]; grind
  · rw [if_neg e, if_neg e]; grind
/-- A row against changes. -/
def dot (n : Nat) (v : Nat → Rat) (x : List Rat) : Rat := sg n (fun j => cv x j * v j)
theorem dot_sub {n : Nat} {v : Nat → Rat} {x y : List Rat} (hl : y.length = x.length) (c : Rat) : dot n v (subR x y c) = dot n v x - dot n v y * c := by
  unfold dot
  rw [← sg_sub]
  exact sg_congr (fun j _ => by rw [cv_sub x y c hl]; grind)
theorem dot_div {n : Nat} {v : Nat → Rat} (x : List Rat) (f : Rat) : dot n v (divR x f) = dot n v x * f⁻¹ := by
  unfold dot
  rw [← sg_mul]
  exact sg_congr (fun j _ => by rw [cv_div]; grind)
theorem dot_away {n N : Nat} {v : Nat → Rat} : ∀ (L : List Rw) (x : List Rat), x.length = N → (∀ r ∈ L, r.2.length = N ∧ dot n v r.2 = 0) → dot n v (awayR L x) = dot n v x ∧ (awayR L x).length = N := by
  intro L
  induction L with
  | nil => intro x hx _; exact ⟨rfl, hx⟩
  | cons r L ih =>
    intro x hx hL
    obtain ⟨h1, h2⟩ := hL r (by simp)
    have h3 := ih (subR x r.2 (cv x r.1)) (by rw [subR_len _ _ _ (by omega)]; exact hx) (fun s hs => hL s (List.mem_cons_of_mem _ hs))
    refine ⟨h3.1.trans ?_, h3.2⟩
    rw [dot_sub (by omega), h2]
    grind
theorem firstR_none {n : Nat} {x : List Rat} (h : firstR n x = none) : ∀ j, j < n → cv x j = 0 := by
  intro j hj
  unfold firstR at h
  rw [List.find?_eq_none] at h
  have := h j (List.mem_range.2 hj)
  by_cases hz : cv x j = 0
  · exact hz
  · exact absurd (decide_eq_true hz) this
section
variable {n m : Nat} {asks : Nat → Nat → Bool} {v : Nat → Rat}
/-- Whatever annuls the rows annuls the questions. -/
theorem ann_solve (k : Nat) (h : ∀ r ∈ solveR n m asks k, dot n v r.2 = 0) : ∀ j, j < k → dot n v (newR n m (asks j) j) = 0 := by
  induction k with
  | zero => intro j hj; omega
  | succ k ih =>
    obtain ⟨q, hb, _⟩ := solveR_bk n m asks k
    have hx := newR_len n m (asks k) k
    have key : (∀ r ∈ solveR n m asks k, dot n v r.2 = 0) ∧ dot n v (newR n m (asks k) k) = 0 := by
      change ∀ r ∈ stepR n (solveR n m asks k) (newR n m (asks k) k), dot n v r.2 = 0 at h
      unfold stepR at h
      have haw := fun (hr : ∀ r ∈ solveR n m asks k, dot n v r.2 = 0) => dot_away (N := n + m) (solveR n m asks k) (newR n m (asks k) k) hx (fun r h => ⟨hb.len r h, hr r h⟩)
      have hal := (hb.away hx (fun j => newR_bit n m _ k j) (solveR n m asks k) (fun r hr => hr) hb.nd).1
      cases hf : firstR n (awayR (solveR n m asks k) (newR n m (asks k) k)) with
      | none =>
        rw [hf] at h
        dsimp only at h
        refine ⟨h, ?_⟩
        rw [← (haw h).1]
        unfold dot
        rw [sg_congr (g := fun _ => 0) (fun j hj => by rw [firstR_none hf j hj]; grind), sg_zero]
      | some f =>
        rw [hf] at h
        dsimp only at h
        have hne := (firstR_some hf).2
        have hyl : (divR (awayR (solveR n m asks k) (newR n m (asks k) k)) (cv (awayR (solveR n m asks k) (newR n m (asks k) k)) f)).length = n + m := by unfold divR; rw [List.length_map]; exact hal
        have hyd := dot_div (n := n) (v := v) (awayR (solveR n m asks k) (newR n m (asks k) k)) (cv (awayR (solveR n m asks k) (newR n m (asks k) k)) f)
        unfold putR at h
        have hy0 := h (f, divR (awayR (solveR n m asks k) (newR n m (asks k) k)) (cv (awayR (solveR n m asks k) (newR n m (asks k) k)) f)) (by simp)
        dsimp only at hy0
        have hrows : ∀ r ∈ solveR n m asks k, dot n v r.2 = 0 := by
          intro r hr
          have h2 := h (r.1, subR r.2 (divR (awayR (solveR n m asks k) (newR n m (asks k) k)) (cv (awayR (solveR n m asks k) (newR n m (asks k) k)) f)) (cv r.2 f)) (List.mem_append_left _ (List.mem_map.2 ⟨r, hr, rfl⟩))
          dsimp only at h2
          rw [dot_sub (by rw [hyl, hb.len r hr]), hy0] at h2
          grind
        refine ⟨hrows, ?_⟩
        rw [← (haw hrows).1]
        rw [hyd] at hy0
        generalize dot n v (awayR (solveR n m asks k) (newR n m (asks k) k)) = d at *
        generalize cv (awayR (solveR n m asks k) (newR n m (asks k) k)) f = c at *
        grind
    intro j hj
    rcases Nat.lt_or_eq_of_le (Nat.le_of_lt_succ hj) with h1 | rfl
    · exact ih key.1 j h1
    · exact key.2
theorem dot_new {k : Nat} : dot n v (newR n m (asks k) k) = sg n (fun j => bitR (asks k j) * v j) := by
  unfold dot
  refine sg_congr (fun j hj => ?_)
  have hlen := newR_len n m (asks k) k
  rw [show cv (newR n m (asks k) k) j = bitR (asks k j) by rw [cv_lt (by omega), ← getElem!_pos _ j (by omega), newR_left hj]]
end
section
variable {zs : List Sbj} {qs : List Qst}
/-- The one that counts one more leads no row. -/
theorem free_unled {i f : Nat} (hi : i < zs.length) (h : freeR zs.length (rowsR zs qs) i = some f) : f < zs.length ∧ lookR (rowsR zs qs) f = none ∧ changeX (rowsR zs qs) f i ≠ 0 := by
  obtain ⟨q, hb⟩ := rows_bk zs qs
  unfold freeR at h
  cases hl : lookR (rowsR zs qs) i with
  | none =>
    rw [hl] at h
    cases h
    exact ⟨hi, hl, by unfold changeX; rw [if_pos rfl]; decide⟩
  | some x =>
    rw [hl] at h
    dsimp only at h
    unfold otherR at h
    have h1 := List.find?_some h
    have h2 := List.mem_range.1 (List.mem_of_find?_eq_some h)
    simp only [Bool.and_eq_true, decide_eq_true_eq] at h1
    have hm := lookR_some hl
    refine ⟨h2, ?_, ?_⟩
    · cases hl2 : lookR (rowsR zs qs) f with
      | none => rfl
      | some y =>
        have h3 := hb.delta _ hm _ (lookR_some hl2)
        rw [if_neg (fun e => h1.1 e.symm)] at h3
        exact absurd h3 h1.2
    · unfold changeX
      rw [if_neg (fun e => h1.1 e.symm), hl]
      dsimp only
      have h4 := h1.2
      intro e
      exact h4 (by grind)
theorem rows_ann {f : Nat} (hf : f < zs.length) (hfl : lookR (rowsR zs qs) f = none) : ∀ r ∈ rowsR zs qs, dot zs.length (changeX (rowsR zs qs) f) r.2 = 0 := by
  obtain ⟨q, hb⟩ := rows_bk zs qs
  intro r hr
  have hne : f ≠ r.1 := fun e => lookR_none hfl r hr e.symm
  unfold dot
  rw [sg_congr (g := fun j => if j = f then cv r.2 f else if j = r.1 then - cv r.2 f else 0) (fun j hj => ?_), sg_two hf (hb.lead r hr) hne]
  · grind
  · unfold changeX
    by_cases e : j = f
    · rw [if_pos e, if_pos e, e]; grind
    · rw [if_neg e, if_neg e]
      cases hl : lookR (rowsR zs qs) j with
      | none =>
        have : j ≠ r.1 := fun e2 => lookR_none hl r hr e2.symm
        rw [if_neg this]
        dsimp only
        grind
      | some y =>
        dsimp only
        have h3 := hb.delta r hr _ (lookR_some hl)
        dsimp only at h3
        by_cases e2 : j = r.1
        · have hy := lookR_of hb.nd hr
          rw [← e2, hl] at hy
          cases hy
          rw [if_pos e2, h3, if_pos e2.symm]
          grind
        · rw [if_neg e2, h3, if_neg (fun e3 => e2 e3.symm)]
          grind
/-- All sums stay. -/
theorem change_ann {f : Nat} (hf : f < zs.length) (hfl : lookR (rowsR zs qs) f = none) {k : Nat} (hk : k < qs.length) : sg zs.length (fun j => bitR (asksF (ordI zs) qs k j) * changeX (rowsR zs qs) f j) = 0 := by
  rw [← dot_new (m := qs.length)]
  exact ann_solve qs.length (rows_ann hf hfl) k hk
end
end Go.Proofs.Ytimhkkijoelmhaa
namespace Go.Proofs.Ytimhkkijoelmhaa
open Go.RowKit

theorem gcdL_neg (l : List Int) : gcdL (l.map (fun z => -z)) = gcdL l := by
  induction l with
  | nil => rfl
  | cons x r ih => rw [List.map_cons, gcdL_cons, gcdL_cons, ih, Int.natAbs_neg]
theorem neg_get (l : List Int) (k : Nat) : (l.map (fun z => -z))[k]! = -(l[k]!) := map_get (f := fun z : Int => -z) (by rfl) l k
theorem sgI_neg (m : Nat) (f : Nat → Int) : sgI m (fun k => -f k) = -sgI m f := by
  induction m with
  | zero => rfl
  | succ m ih => rw [sgI, sgI, ih]; omega
theorem changeR_get {n : Nat} {rows : List Rw} {f j : Nat} (hj : j < n) : (changeR n rows f)[j]! = changeX rows f j := by
  rw [getElem!_pos _ j (by rw [changeR_len]; exact hj)]
  simp [changeR]
def askI (es : List Sbj) (q : Qst) (ch : List Int) (j : Nat) : Int := if askedB es[j]! q = true then ch[j]! else 0
section
variable {columns : Int} {zs : List Sbj} {qs : List Qst}
theorem hide_law (hE : auditN columns zs qs = 0) {i f : Nat} (hi : i < zs.length) (hf : freeR zs.length (rowsR zs qs) i = some f) (ch : List Int) (hc : ch = signI i (wholeR (changeR zs.length (rowsR zs qs) f))) :
    ch.length = zs.length ∧ gcdL ch = 1 ∧ (∀ z ∈ ch, -1700000000 ≤ z ∧ z ≤ 1700000000) ∧ (∀ k, k < qs.length → sgI zs.length (askI (ordI zs) qs[k]! ch) = 0) ∧ 0 < ch[i]! := by
  obtain ⟨hfn, hfl, hne⟩ := free_unled hi hf
  have hcl := changeR_len zs.length (rowsR zs qs) f
  obtain ⟨t, ht1, _, hgw, hrel⟩ := whole_rel (l := changeR zs.length (rowsR zs qs) f) (f := f) (by omega) (by rw [changeR_get hfn]; unfold changeX; rw [if_pos rfl])
  have hwl := wholeR_len (changeR zs.length (rowsR zs qs) f)
  obtain ⟨_, h8⟩ := audit_16 hE
  obtain ⟨D, hD0, hD1, hD2⟩ := solve_com zs.length qs.length (asksF (ordI zs) qs) h8
  have hcs := change_sm (rows := rowsR zs qs) hD2 f (n := zs.length)
  have hbd : ∀ z ∈ wholeR (changeR zs.length (rowsR zs qs) f), -1700000000 ≤ z ∧ z ≤ 1700000000 := by
    intro z hz2
    have h1 := wholeR_le (fun x hx => (hcs x hx).1) hD0 (fun x hx => (hcs x hx).2) z hz2
    have h2 : D * 40320 ≤ 40320 * 40320 := Nat.mul_le_mul_right _ hD1
    omega
  have hget : ∀ j, j < zs.length → (((wholeR (changeR zs.length (rowsR zs qs) f))[j]! : Int) : Rat) = (t : Rat) * changeX (rowsR zs qs) f j := fun j hj => by
    rw [hrel j (by omega), changeR_get hj]
  have hsum : ∀ k, k < qs.length → sgI zs.length (askI (ordI zs) qs[k]! (wholeR (changeR zs.length (rowsR zs qs) f))) = 0 := by
    intro k hk
    have key : ((sgI zs.length (askI (ordI zs) qs[k]! (wholeR (changeR zs.length (rowsR zs qs) f))) : Int) : Rat) = 0 := by
      have h0 := change_ann hfn hfl hk
      have e : sg zs.length (fun j => bitR (asksF (ordI zs) qs k j) * changeX (rowsR zs qs) f j * (t : Rat)) = 0 := by rw [sg_mul, h0]; grind
      rw [sgI_rat, ← e]
      refine sg_congr (fun j hj => ?_)
      unfold askI asksF
      cases askedB (ordI zs)[j]! qs[k]! with
      | true =>
        rw [if_pos rfl, hget j hj]
        show _ = 1 * _ * _
        grind
      | false =>
        rw [if_neg (by simp)]
        show (0 : Rat) = 0 * _ * _
        grind
    exact_mod_cast key
  have hwi : (wholeR (changeR zs.length (rowsR zs qs) f))[i]! ≠ 0 := by
    intro e
    have h := hget i hi
    rw [e] at h
    have ht0 : (t : Rat) ≠ 0 := by
      intro h2
      have : t = 0 := by exact_mod_cast h2
      omega
    have h3 : (t : Rat) * changeX (rowsR zs qs) f i = 0 := by rw [← h]; rfl
    generalize changeX (rowsR zs qs) f i = c at *
    generalize (t : Rat) = t' at *
    exact hne (by grind)
  generalize wholeR (changeR zs.length (rowsR zs qs) f) = ws at *
  unfold signI at hc
  by_cases hs : ws[i]! < 0
  · rw [if_pos hs] at hc
    subst hc
    refine ⟨by rw [List.length_map]; omega, by rw [gcdL_neg]; exact hgw, ?_, ?_, ?_⟩
    · intro z hz
      obtain ⟨y, hy, rfl⟩ := List.mem_map.1 hz
      have := hbd y hy
      omega
    · intro k hk
      rw [sgI_congr (g := fun j => -askI (ordI zs) qs[k]! ws j) (fun j _ => by unfold askI; rw [neg_get]; split <;> omega), sgI_neg, hsum k hk]
      rfl
    · rw [neg_get]; omega
  · rw [if_neg hs] at hc
    subst hc
    exact ⟨by omega, hgw, hbd, hsum, by omega⟩
/-- Whether a value follows. -/
def folB (zs : List Sbj) (qs : List Qst) (i : Nat) : Bool := match lookR (rowsR zs qs) i with
  | none => false
  | some x => decide (someN zs.length x = 1)
theorem fol_free {i : Nat} (hi : i < zs.length) : (folB zs qs i = true ∧ freeR zs.length (rowsR zs qs) i = none) ∨ (folB zs qs i = false ∧ ∃ f, freeR zs.length (rowsR zs qs) i = some f) := by
  unfold folB
  rcases free_or (qs := qs) rfl hi with ⟨h1, h2⟩ | ⟨x, h1, h2, h3⟩ | ⟨x, f, k, h1, h2, h3, _⟩
  · exact .inr ⟨by rw [h1], _, h2⟩
  · exact .inl ⟨by rw [h1]; simpa using h2, h3⟩
  · exact .inr ⟨by rw [h1]; simpa using h2, _, h3⟩
theorem idx_of (hap : zs.Pairwise (fun x y => x.id ≠ y.id)) {s : Sbj} (hs : s ∈ zs) : ∃ i, i < zs.length ∧ (ordI zs)[i]! = s ∧ (ordI zs).findIdx? (fun x => x.id == s.id) = some i := by
  obtain ⟨j, hj, hjs, hji⟩ := ids_index hap hs
  have hl : (ordI zs).length = zs.length := (ordI_perm zs).length_eq
  refine ⟨j, hj, hjs, ?_⟩
  rw [List.findIdx?_eq_some_iff_getElem]
  refine ⟨by omega, ?_, ?_⟩
  · rw [← getElem!_pos _ j (by omega), hjs]; simp
  · intro i hij
    rw [← getElem!_pos _ i (by omega)]
    have := hji i (by omega)
    simp only [Bool.not_eq_true, beq_eq_false_iff_ne]
    intro e
    have := this.1 e
    omega
theorem by_fol {i : Nat} {idn : Int} (h : (ordI zs).findIdx? (fun x => x.id == idn) = some i) : (folB zs qs i = true → ∃ x, byR zs.length (ordI zs) (rowsR zs qs) idn = some x) ∧ (folB zs qs i = false → byR zs.length (ordI zs) (rowsR zs qs) idn = none) := by
  unfold byR folB
  rw [h]
  simp only [Option.bind_some]
  cases lookR (rowsR zs qs) i with
  | none => simp
  | some x =>
    simp only [Option.bind_some]
    by_cases h1 : someN zs.length x = 1
    · simp [h1]
    · simp [h1]
theorem ded_fol (n : Nat) (hn : n = zs.length) (k : Nat) : dedR n (ordI zs) (rowsR zs qs) k = ((List.range k).filter (folB zs qs)).map (fun i => (ordI zs)[i]!.id) := by
  subst hn
  induction k with
  | zero => rfl
  | succ k ih =>
    rw [dedR_succ, ih, List.range_succ, List.filter_append, List.map_append]
    congr 1
    unfold oneD folB
    rw [List.filter_cons]
    cases lookR (rowsR zs qs) k with
    | none => simp
    | some x =>
      dsimp only
      by_cases h : someN zs.length x = 1
      · simp [h]
      · simp [h]
/-- Who is deduced: in order, and just those whose value follows. -/
theorem ded_law (hap : zs.Pairwise (fun x y => x.id ≠ y.id)) : (dedR zs.length (ordI zs) (rowsR zs qs) zs.length).Pairwise (· < ·) ∧ ∀ i, i < zs.length → ((ordI zs)[i]!.id ∈ dedR zs.length (ordI zs) (rowsR zs qs) zs.length ↔ folB zs qs i = true) := by
  have hs := ordI_sorted hap
  have hl : (ordI zs).length = zs.length := (ordI_perm zs).length_eq
  rw [ded_fol zs.length rfl]
  constructor
  · rw [List.pairwise_map]
    refine List.Pairwise.imp_of_mem ?_ (List.Pairwise.filter _ (List.pairwise_lt_range (n := zs.length)))
    intro a b ha hb hab
    have ha2 := List.mem_range.1 (List.mem_filter.1 ha).1
    have hb2 := List.mem_range.1 (List.mem_filter.1 hb).1
    rw [getElem!_pos _ a (by omega), getElem!_pos _ b (by omega)]
    exact List.pairwise_iff_getElem.1 hs a b (by omega) (by omega) hab
  · intro i hi
    rw [List.mem_map]
    constructor
    · rintro ⟨j, hj, e⟩
      have hj2 := List.mem_range.1 (List.mem_filter.1 hj).1
      have : j = i := by
        rw [getElem!_pos _ j (by omega), getElem!_pos _ i (by omega)] at e
        rcases Nat.lt_trichotomy j i with h | h | h
        · have := List.pairwise_iff_getElem.1 hs j i (by omega) (by omega) h
          omega
        · exact h
        · have := List.pairwise_iff_getElem.1 hs i j (by omega) (by omega) h
          omega
      rw [← this]
      exact (List.mem_filter.1 hj).2
    · intro h
      exact ⟨i, List.mem_filter.2 ⟨List.mem_range.2 hi, h⟩, rfl⟩
/-- How many subjects have a smaller Id. -/
def befN (l : List Sbj) (idn : Int) : Nat := l.countP fun s => decide (s.id < idn)
theorem bef_idx (hap : zs.Pairwise (fun x y => x.id ≠ y.id)) {j : Nat} (hj : j < zs.length) : befN zs (ordI zs)[j]!.id = j := by
  have hs := ordI_sorted hap
  have hl : (ordI zs).length = zs.length := (ordI_perm zs).length_eq
  unfold befN
  rw [← (ordI_perm zs).countP_eq]
  rw [getElem!_pos _ j (by omega)]
  have e : (ordI zs) = (ordI zs).take j ++ (ordI zs).drop j := (List.take_append_drop j _).symm
  have h1 : ((ordI zs).take j).countP (fun s => decide (s.id < (ordI zs)[j].id)) = j := by
    rw [List.countP_eq_length.2, List.length_take, Nat.min_eq_left (by omega)]
    intro s hs'
    obtain ⟨i, hi, rfl⟩ := List.getElem_of_mem hs'
    rw [List.length_take] at hi
    rw [List.getElem_take]
    exact decide_eq_true (List.pairwise_iff_getElem.1 hs i j (by omega) (by omega) (by omega))
  have h2 : ((ordI zs).drop j).countP (fun s => decide (s.id < (ordI zs)[j].id)) = 0 := by
    rw [List.countP_eq_zero]
    intro s hs'
    obtain ⟨i, hi, rfl⟩ := List.getElem_of_mem hs'
    rw [List.length_drop] at hi
    rw [List.getElem_drop]
    simp only [decide_eq_true_eq]
    rcases Nat.eq_zero_or_pos i with h | h
    · subst h; simp
    · have := List.pairwise_iff_getElem.1 hs j (j + i) (by omega) (by omega) (by omega)
      omega
  have h3 : (ordI zs).countP (fun s => decide (s.id < (ordI zs)[j].id)) = ((ordI zs).take j).countP (fun s => decide (s.id < (ordI zs)[j].id)) + ((ordI zs).drop j).countP (fun s => decide (s.id < (ordI zs)[j].id)) := by
    rw [← List.countP_append, List.take_append_drop]
  rw [h3, h1, h2]
  rfl
/-- The sum of the changes of those who are asked for. -/
def hsum (zs : List Sbj) (ch : List Int) (q : Qst) : List Sbj → Int
  | [] => 0
  | s :: l => hsum zs ch q l + if askedB s q = true then ch[befN zs s.id]! else 0
theorem hsum_append (ch : List Int) (q : Qst) (a b : List Sbj) : hsum zs ch q (a ++ b) = hsum zs ch q a + hsum zs ch q b := by
  induction a with
  | nil => show _ = 0 + _; rw [Int.zero_add]; rfl
  | cons s a ih =>
    rw [List.cons_append, hsum, hsum, ih]
    omega
theorem hsum_take (ch : List Int) (q : Qst) {l : List Sbj} {t : Nat} (ht : t < l.length) : hsum zs ch q (l.take (t + 1)) = hsum zs ch q (l.take t) + if askedB l[t]! q = true then ch[befN zs l[t]!.id]! else 0 := by
  rw [List.take_succ_eq_append_getElem ht, hsum_append, ← getElem!_pos l t ht]
  congr 1
  show 0 + _ = _
  rw [Int.zero_add]
theorem hsum_le {ch : List Int} {n : Nat} (hb : ∀ z ∈ ch, -1700000000 ≤ z ∧ z ≤ 1700000000) (hn : n ≤ ch.length) (q : Qst) (l : List Sbj) (hl : ∀ s ∈ l, befN zs s.id < n) : -(1700000000 * (l.length : Int)) ≤ hsum zs ch q l ∧ hsum zs ch q l ≤ 1700000000 * l.length := by
  induction l with
  | nil => simp [hsum]
  | cons s l ih =>
    have h1 := ih (fun x hx => hl x (List.mem_cons_of_mem _ hx))
    have h2 := hl s (by simp)
    have h3 := hb ch[befN zs s.id]! (by rw [getElem!_pos ch _ (by omega)]; exact List.getElem_mem _)
    rw [hsum, List.length_cons]
    split <;> omega
theorem hsum_perm (ch : List Int) (q : Qst) {l l' : List Sbj} (h : l.Perm l') : hsum zs ch q l = hsum zs ch q l' := by
  induction h with
  | nil => rfl
  | cons x _ ih => rw [hsum, hsum, ih]
  | swap x y l => rw [hsum, hsum, hsum, hsum]; omega
  | trans _ _ ih1 ih2 => exact ih1.trans ih2
theorem hsum_all (hap : zs.Pairwise (fun x y => x.id ≠ y.id)) (ch : List Int) (q : Qst) : hsum zs ch q zs = sgI zs.length (askI (ordI zs) q ch) := by
  have hl : (ordI zs).length = zs.length := (ordI_perm zs).length_eq
  rw [hsum_perm ch q (ordI_perm zs).symm]
  have key : ∀ t, t ≤ zs.length → hsum zs ch q ((ordI zs).take t) = sgI t (askI (ordI zs) q ch) := by
    intro t
    induction t with
    | zero => intro _; rfl
    | succ t ih =>
      intro ht
      rw [hsum_take ch q (by omega), ih (by omega), sgI, bef_idx hap (by omega)]
      rfl
  have := key zs.length (Nat.le_refl _)
  rwa [← hl, List.take_length, hl] at this
end
end Go.Proofs.Ytimhkkijoelmhaa
namespace Go.Proofs.Ytimhkkijoelmhaa
open Go.RowKit

theorem sg_swap (n m : Nat) (u : Nat → Rat) (b : Nat → Nat → Rat) (v : Nat → Rat) : sg n (fun j => sg m (fun k => u k * b k j) * v j) = sg m (fun k => u k * sg n (fun j => b k j * v j)) := by
  induction m with
  | zero => show sg n (fun j => 0 * v j) = 0; rw [sg_congr (g := fun _ => 0) (fun j _ => by grind), sg_zero]
  | succ m ih =>
    rw [sg, ← ih]
    have e : u m * sg n (fun j => b m j * v j) = sg n (fun j => u m * b m j * v j) := by
      rw [sg_congr (f := fun j => u m * b m j * v j) (g := fun j => b m j * v j * u m) (fun j _ => by grind), sg_mul]
      grind
    rw [e, ← sg_add]
    exact sg_congr (fun j _ => by rw [sg]; grind)
/-- Questions together say just what one counts. -/
def SpanE (n m : Nat) (asks : Nat → Nat → Bool) (i : Nat) : Prop := ∃ u : Nat → Rat, ∀ j, j < n → sg m (fun k => u k * bitR (asks k j)) = if j = i then 1 else 0
theorem SpanE.mono {n m m' : Nat} {asks asks' : Nat → Nat → Bool} {i : Nat} (h : SpanE n m asks i) (φ : Nat → Nat) (hφ : ∀ k, k < m → φ k < m' ∧ ∀ j, asks' (φ k) j = asks k j) : SpanE n m' asks' i := by
  obtain ⟨u, hu⟩ := h
  refine ⟨fun k' => sg m (fun k => u k * (if k' = φ k then 1 else 0)), fun j hj => ?_⟩
  rw [← hu j hj]
  rw [sg_swap m' m u (fun k k' => if k' = φ k then 1 else 0) (fun k' => bitR (asks' k' j))]
  refine sg_congr (fun k hk => ?_)
  obtain ⟨h1, h2⟩ := hφ k hk
  rw [sg_congr (g := fun k' => if k' = φ k then bitR (asks' (φ k) j) else 0) (fun k' _ => by
    by_cases e : k' = φ k
    · rw [if_pos e, if_pos e, e]; grind
    · rw [if_neg e, if_neg e]; grind), sg_ite h1, h2]
section
variable {zs : List Sbj} {qs qs' : List Qst}
theorem fol_span {i : Nat} (hi : i < zs.length) : folB zs qs i = true ↔ SpanE zs.length qs.length (asksF (ordI zs) qs) i := by
  constructor
  · intro h
    unfold folB at h
    cases hl : lookR (rowsR zs qs) i with
    | none => rw [hl] at h; cases h
    | some x =>
      rw [hl] at h
      have h1 : someN zs.length x = 1 := by simpa using h
      obtain ⟨_, hu⟩ := row_unit hl h1
      have ha := rows_aug (zs := zs) (qs := qs) _ (lookR_some hl)
      exact ⟨fun k => cv x (zs.length + k), fun j hj => by rw [← ha j hj, hu j hj]⟩
  · rintro ⟨u, hu⟩
    rcases fol_free (qs := qs) hi with ⟨h, _⟩ | ⟨_, f, hf⟩
    · exact h
    · exfalso
      obtain ⟨hfn, hfl, hne⟩ := free_unled hi hf
      have h1 := sg_swap zs.length qs.length u (fun k j => bitR (asksF (ordI zs) qs k j)) (changeX (rowsR zs qs) f)
      have hR : sg qs.length (fun k => u k * sg zs.length (fun j => bitR (asksF (ordI zs) qs k j) * changeX (rowsR zs qs) f j)) = 0 := by
        rw [sg_congr (g := fun _ => 0) (fun k hk => by rw [change_ann hfn hfl hk]; grind)]
        exact sg_zero _
      have hL : sg zs.length (fun j => sg qs.length (fun k => u k * bitR (asksF (ordI zs) qs k j)) * changeX (rowsR zs qs) f j) = changeX (rowsR zs qs) f i := by
        rw [sg_congr (g := fun j => if j = i then changeX (rowsR zs qs) f i else 0) (fun j hj => by
          rw [hu j hj]
          by_cases e : j = i
          · rw [if_pos e, if_pos e, e]; grind
          · rw [if_neg e, if_neg e]; grind)]
        exact sg_ite hi _
      rw [hL, hR] at h1
      exact hne h1
theorem fol_mono (h : ∀ q ∈ qs, q ∈ qs') {i : Nat} (hi : i < zs.length) (hf : folB zs qs i = true) : folB zs qs' i = true := by
  rw [fol_span hi] at hf ⊢
  have hex : ∀ k, ∃ k', k < qs.length → (k' < qs'.length ∧ qs'[k']! = qs[k]!) := by
    intro k
    by_cases hk : k < qs.length
    · obtain ⟨k', hk', e⟩ := List.getElem_of_mem (h qs[k]! (by rw [getElem!_pos qs k hk]; exact List.getElem_mem hk))
      exact ⟨k', fun _ => ⟨hk', by rw [getElem!_pos qs' k' hk']; exact e⟩⟩
    · exact ⟨0, fun h => absurd h hk⟩
  refine hf.mono (fun k => Classical.choose (hex k)) (fun k hk => ?_)
  have := Classical.choose_spec (hex k) hk
  refine ⟨this.1, fun j => ?_⟩
  unfold asksF
  rw [this.2]
theorem ded_same (h : ∀ q ∈ qs, q ∈ qs') (h' : ∀ q ∈ qs', q ∈ qs) : dedR zs.length (ordI zs) (rowsR zs qs) zs.length = dedR zs.length (ordI zs) (rowsR zs qs') zs.length := by
  rw [ded_fol zs.length rfl, ded_fol zs.length rfl]
  congr 1
  refine List.filter_congr (fun i hi => ?_)
  have hi2 := List.mem_range.1 hi
  rw [Bool.eq_iff_iff]
  exact ⟨fol_mono h hi2, fol_mono h' hi2⟩
/-- With more questions: those that were deduced are still, in order. -/
theorem ded_more (hap : zs.Pairwise (fun x y => x.id ≠ y.id)) (h : ∀ q ∈ qs, q ∈ qs') :
    dedR zs.length (ordI zs) (rowsR zs qs) zs.length = (dedR zs.length (ordI zs) (rowsR zs qs') zs.length).filter (fun z => decide (z ∈ dedR zs.length (ordI zs) (rowsR zs qs) zs.length)) := by
  have hm := (ded_law (qs := qs) hap).2
  have key : ((List.range zs.length).filter (folB zs qs')).filter ((fun z => decide (z ∈ dedR zs.length (ordI zs) (rowsR zs qs) zs.length)) ∘ fun i => (ordI zs)[i]!.id) = (List.range zs.length).filter (folB zs qs) := by
    rw [List.filter_filter]
    refine List.filter_congr (fun i hi => ?_)
    have hi2 := List.mem_range.1 hi
    rw [Bool.eq_iff_iff]
    simp only [Function.comp_apply, Bool.and_eq_true, decide_eq_true_eq]
    rw [hm i hi2]
    constructor
    · exact fun h => h.1
    · exact fun h2 => ⟨h2, fol_mono h hi2 h2⟩
  conv => rhs; rw [ded_fol zs.length rfl (qs := qs'), List.filter_map, key]
  rw [ded_fol zs.length rfl]
end
/-- Those of one list that are among another, step by step. -/
theorem greedy {a b : List Int} (h : a = b.filter (fun z => decide (z ∈ a))) {t : Nat} (ht : t < b.length) :
    (((b.take t).filter fun z => decide (z ∈ a)).length ≤ a.length) ∧
    ((b[t]! ∈ a → ((b.take t).filter fun z => decide (z ∈ a)).length < a.length ∧ a[((b.take t).filter fun z => decide (z ∈ a)).length]! = b[t]! ∧ ((b.take (t + 1)).filter fun z => decide (z ∈ a)).length = ((b.take t).filter fun z => decide (z ∈ a)).length + 1) ∧
     (b[t]! ∉ a → ((b.take (t + 1)).filter fun z => decide (z ∈ a)).length = ((b.take t).filter fun z => decide (z ∈ a)).length ∧ (((b.take t).filter fun z => decide (z ∈ a)).length < a.length → a[((b.take t).filter fun z => decide (z ∈ a)).length]! ≠ b[t]!))) := by
  have e : b = b.take t ++ b[t]! :: b.drop (t + 1) := by
    rw [getElem!_pos b t ht]
    simp
  have h2 : a = (b.take t).filter (fun z => decide (z ∈ a)) ++ (b[t]! :: b.drop (t + 1)).filter (fun z => decide (z ∈ a)) := by
    rw [← List.filter_append, ← e]; exact h
  have hle : ((b.take t).filter fun z => decide (z ∈ a)).length ≤ a.length := by
    conv => rhs; rw [h2]
    rw [List.length_append]; omega
  refine ⟨hle, ?_, ?_⟩
  · intro hm
    rw [List.filter_cons, if_pos (decide_eq_true hm)] at h2
    have hlt : ((b.take t).filter fun z => decide (z ∈ a)).length < a.length := by
      conv => rhs; rw [h2]
      rw [List.length_append, List.length_cons]; omega
    refine ⟨hlt, ?_, ?_⟩
    · rw [getElem!_pos a _ hlt]
      have : a[((b.take t).filter fun z => decide (z ∈ a)).length]? = some b[t]! := by
        conv => lhs; rw [h2]
        rw [List.getElem?_append_right (by rw [← h2]; exact Nat.le_refl _), ← h2]
        simp
      rw [List.getElem?_eq_getElem hlt] at this
      exact Option.some.inj this
    · rw [List.take_succ_eq_append_getElem ht, List.filter_append, ← getElem!_pos b t ht, List.length_append]
      generalize b[t]! = z at hm ⊢
      simp [hm]
  · intro hm
    refine ⟨?_, fun hlt e2 => ?_⟩
    · rw [List.take_succ_eq_append_getElem ht, List.filter_append, ← getElem!_pos b t ht, List.length_append]
      generalize b[t]! = z at hm ⊢
      simp [hm]
    · apply hm
      rw [← e2, getElem!_pos a _ hlt]
      exact List.getElem_mem hlt
end Go.Proofs.Ytimhkkijoelmhaa
