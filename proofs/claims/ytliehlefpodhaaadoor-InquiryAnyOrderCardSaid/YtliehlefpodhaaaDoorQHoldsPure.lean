/- What is signalled after a day, of another file, and a freeze of the day: in plain functions. For all lists of signals. -/
import Derived.Test.YtliehlefpodhaaaDoorOBase
namespace Go.Proofs.YtliehlefpodhaaaDoor
open Go.RowKit

theorem sigsB_of {l : List Sig} (hl : l.length ≤ 40) (hm : ∀ x ∈ l, sigB x = true) (hp : l.Pairwise BefS) : sigsB l = true := by
  unfold sigsB
  simp only [Bool.and_eq_true, decide_eq_true_eq, Bool.not_eq_true', List.any_eq_false, List.mem_range, Bool.not_eq_true]
  refine ⟨hl, fun j hj => ?_⟩
  unfold sigBad
  simp only [Bool.or_eq_false_iff, Bool.not_eq_false', Bool.and_eq_false_imp, decide_eq_true_eq]
  refine ⟨?_, fun h0 => ?_⟩
  · rw [getElem!_pos l j hj]
    exact hm _ (List.getElem_mem hj)
  · rw [getElem!_pos l j hj, getElem!_pos l (j - 1) (by omega)]
    exact List.pairwise_iff_getElem.1 hp (j - 1) j (by omega) hj (by omega)
theorem sigsB_filter {l : List Sig} (h : sigsB l = true) (p : Sig → Bool) : sigsB (l.filter p) = true :=
  sigsB_of (Nat.le_trans (List.length_filter_le _ _) (sigsB_len h)) (fun _ hx => sigsB_mem h (List.mem_filter.1 hx).1) ((sigs_pairwise h).filter p)

theorem latestOf_filter {l : List Sig} {file day a b : Int} {p : Sig → Bool} (hp : ∀ x ∈ l, x.file = file → x.day ≤ day → p x = true) : latestOf (l.filter p) file day a b = latestOf l file day a b := by
  unfold latestOf
  rw [List.filter_filter]
  congr 1
  refine List.filter_congr (fun x hx => ?_)
  cases e : ofB file day a b x with
  | false => rfl
  | true =>
    unfold ofB at e
    simp at e
    simp [hp x hx e.1.1 e.1.2]
theorem frozen_filter {l : List Sig} {file day : Int} {p : Sig → Bool} (hp : ∀ x ∈ l, x.file = file → x.day ≤ day → p x = true) : frozenB (l.filter p) file day = frozenB l file day := by
  unfold frozenB
  rw [latestOf_filter hp]
  cases latestOf l file day 1 2 with
  | none => rfl
  | some f =>
    have h : (l.filter p).any (liftB file day f) = l.any (liftB file day f) := by
      rw [List.any_filter, Bool.eq_iff_iff, List.any_eq_true, List.any_eq_true]
      constructor
      · rintro ⟨x, hx, h⟩
        exact ⟨x, hx, (Bool.and_eq_true_iff.1 h).2⟩
      · rintro ⟨x, hx, h⟩
        refine ⟨x, hx, ?_⟩
        have h' := h
        unfold liftB at h'
        simp at h'
        rw [hp x hx h'.1.1.1.2 h'.1.2, h]
        rfl
    simp only [h]
theorem alert_filter {l : List Sig} {file day : Int} {p : Sig → Bool} (hp : ∀ x ∈ l, x.file = file → x.day ≤ day → p x = true) : alertB (l.filter p) file day = alertB l file day := by
  unfold alertB
  rw [latestOf_filter hp]

/-- The Id behind all. -/
def idN (l : List Sig) : Int := l.foldl (fun i x => max i (x.id + 1)) 0
theorem idN_snoc (l : List Sig) (x : Sig) : idN (l ++ [x]) = max (idN l) (x.id + 1) := by
  unfold idN
  rw [List.foldl_append]
  rfl
theorem idN_rev (l : List Sig) : 0 ≤ idN l ∧ (∀ x ∈ l, x.id < idN l) ∧ ((∀ x ∈ l, x.id ≤ 999999) → idN l ≤ 1000000) := by
  have key : ∀ (l : List Sig) (i : Int), i ≤ l.foldl (fun i x => max i (x.id + 1)) i ∧ (∀ x ∈ l, x.id < l.foldl (fun i x => max i (x.id + 1)) i) ∧ ((∀ x ∈ l, x.id ≤ 999999) → i ≤ 1000000 → l.foldl (fun i x => max i (x.id + 1)) i ≤ 1000000) := by
    intro l
    induction l with
    | nil => intro i; simp
    | cons y l ih =>
      intro i
      obtain ⟨h1, h2, h3⟩ := ih (max i (y.id + 1))
      rw [List.foldl_cons]
      refine ⟨by omega, fun x hx => ?_, fun hx hi => h3 (fun x hm => hx x (by simp [hm])) ?_⟩
      · rcases List.mem_cons.1 hx with rfl | hx
        · omega
        · exact h2 x hx
      · have := hx y (by simp)
        omega
  obtain ⟨h1, h2, h3⟩ := key l 0
  exact ⟨h1, h2, fun h => h3 h (by omega)⟩
theorem idN_take {l : List Sig} (h : ∀ x ∈ l, 0 ≤ x.id ∧ x.id ≤ 999999) (k : Nat) : 0 ≤ idN (l.take k) ∧ idN (l.take k) ≤ 1000000 :=
  ⟨(idN_rev _).1, (idN_rev _).2.2 (fun x hx => (h x (List.mem_of_mem_take hx)).2)⟩

/-- A freeze. -/
def frzS (bu id file day : Int) : Sig := ⟨bu, id, file, day, 1, 0⟩
theorem frz_sigB {bu id file day : Int} (hb : 0 ≤ bu ∧ bu ≤ 9) (hi : 0 ≤ id) (hf : 0 ≤ file ∧ file ≤ 999999) (hd : 0 ≤ day ∧ day ≤ 100000) : sigB (frzS bu id file day) = decide (id ≤ 999999) := by
  unfold sigB inB frzS
  rw [Bool.eq_iff_iff]
  simp
  omega
theorem sigsB_one (x : Sig) : sigsB [x] = sigB x := by
  unfold sigsB sigBad
  cases e : sigB x <;> simp [List.range, List.range.loop, e]
theorem merge_frz {l : List Sig} {bu id file day : Int} (hs : sigsB l = true) (hl : l.length < 40) (hid : ∀ x ∈ l, x.id < id) (hb : 0 ≤ bu ∧ bu ≤ 9) (hi : 0 ≤ id) (hf : 0 ≤ file ∧ file ≤ 999999) (hd : 0 ≤ day ∧ day ≤ 100000) :
    mergeN l [frzS bu id file day] = (if id ≤ 999999 then 0 else 91) ∧ (id ≤ 999999 → mergeL l [frzS bu id file day] = putS (frzS bu id file day) l) := by
  have hpl : ∀ y ∈ l, samePl (frzS bu id file day) y = false := by
    intro y hy
    have := hid y hy
    cases e : samePl (frzS bu id file day) y with
    | false => rfl
    | true => rw [samePl_iff] at e; have : id = y.id := e.2; omega
  have hc : clashB l [frzS bu id file day] = false := by
    unfold clashB
    simp only [List.any_cons, List.any_nil, Bool.or_false, List.any_eq_false]
    intro y hy
    rw [hpl y hy]
    simp
  have hn : newsS l [frzS bu id file day] = [frzS bu id file day] := by
    unfold newsS hasPl
    rw [List.filter_cons]
    rw [show (l.any (samePl (frzS bu id file day))) = false by rw [List.any_eq_false]; intro y hy; rw [hpl y hy]; simp]
    rfl
  have hm : mergeAll l [frzS bu id file day] = putS (frzS bu id file day) l := by
    unfold mergeAll
    rw [hn]
    rfl
  have hlen : (mergeAll l [frzS bu id file day]).length ≤ 40 := by
    rw [hm, (putS_perm _ _).length_eq]
    simp
    omega
  have hN : mergeN l [frzS bu id file day] = (if id ≤ 999999 then 0 else 91) := by
    unfold mergeN
    rw [sigsB_one, frz_sigB hb hi hf hd, hs, hc]
    by_cases h : id ≤ 999999
    · rw [if_pos h]
      simp [h]
      omega
    · rw [if_neg h]
      simp [h]
  refine ⟨hN, fun h => ?_⟩
  unfold mergeL
  rw [hN, if_pos h, if_pos rfl, hm]
theorem putS_valid {l : List Sig} {x : Sig} (hs : sigsB l = true) (hl : l.length < 40) (hx : sigB x = true) (hp : ∀ y ∈ l, samePl x y = false) : sigsB (putS x l) = true :=
  sigsB_of (by rw [(putS_perm _ _).length_eq]; simp; omega) (fun y hy => by
    rcases List.mem_cons.1 ((putS_perm x l).mem_iff.1 hy) with rfl | hy
    · exact hx
    · exact sigsB_mem hs hy) (putS_sorted (sigs_pairwise hs) hp)
theorem filter_putS {l : List Sig} {x : Sig} {p : Sig → Bool} (h : p x = false) : (putS x l).filter p = l.filter p := by
  induction l with
  | nil => simp [putS, h]
  | cons y r ih =>
    unfold putS
    split
    · simp [List.filter_cons, h]
    · rw [List.filter_cons, ih, List.filter_cons]
theorem latestS_top {l : List Sig} {x : Sig} (hx : x ∈ l) (h : ∀ y ∈ l, y = x ∨ (laterB x y = true ∧ laterB y x = false)) : latestS l = some x := by
  have key : ∀ (l : List Sig) (b : Option Sig), (∀ y ∈ l, y = x ∨ (laterB x y = true ∧ laterB y x = false)) → (b = some x ∨ (x ∈ l ∧ ∀ y, b = some y → laterB x y = true)) → l.foldl laterS b = some x := by
    intro l
    induction l with
    | nil => intro b _ h; rcases h with h | h; exact h; cases h.1
    | cons y r ih =>
      intro b hy h
      rw [List.foldl_cons]
      refine ih _ (fun z hz => hy z (by simp [hz])) ?_
      rcases hy y (by simp) with rfl | hyx
      · left
        rcases h with rfl | h
        · unfold laterS
          split <;> rename_i h1 <;> cases h1
          split <;> rfl
        · unfold laterS
          cases b with
          | none => rfl
          | some z =>
            show (if laterB y z = true then some y else some z) = some y
            rw [if_pos (h.2 z rfl)]
      · rcases h with rfl | h
        · left
          unfold laterS
          simp only [hyx.2]
          rfl
        · right
          have hm : x ∈ r := by
            rcases List.mem_cons.1 h.1 with e | e
            · rw [← e] at hyx
              rw [hyx.1] at hyx
              cases hyx.2
            · exact e
          refine ⟨hm, fun z hz => ?_⟩
          unfold laterS at hz
          cases b with
          | none => simp at hz; subst hz; exact hyx.1
          | some u =>
            dsimp only at hz
            split at hz
            · cases hz; exact hyx.1
            · rename_i u' _
              cases hz; exact h.2 _ rfl
  exact key l none h (.inr ⟨hx, fun y e => by cases e⟩)
theorem holds_frz {l : List Sig} {bu id file day later : Int} (hdl : day ≤ later) (h : ∀ x ∈ l, x.file = file → day ≤ x.day → 3 < x.kind) :
    frozenB (putS (frzS bu id file day) l) file later = true ∧ alertB (putS (frzS bu id file day) l) file later = alertB l file later := by
  have hmem : ∀ x, x ∈ putS (frzS bu id file day) l ↔ x = frzS bu id file day ∨ x ∈ l := fun x => by rw [(putS_perm _ _).mem_iff, List.mem_cons]
  have hold : ∀ x ∈ l, x.file = file → x.kind ≤ 3 → x.day < day := by
    intro x hx hf hk
    have := h x hx hf
    omega
  have hlt : ∀ x : Sig, x.day < day → laterB (frzS bu id file day) x = true ∧ laterB x (frzS bu id file day) = false := by
    intro x hx
    have : (frzS bu id file day).day = day := rfl
    unfold laterB
    simp only [decide_eq_true_eq, decide_eq_false_iff_not]
    omega
  constructor
  · have hla : latestOf (putS (frzS bu id file day) l) file later 1 2 = some (frzS bu id file day) := by
      unfold latestOf
      refine latestS_top ?_ ?_
      · rw [List.mem_filter]
        refine ⟨(hmem _).2 (.inl rfl), ?_⟩
        unfold ofB frzS
        simp [hdl]
      · intro y hy
        obtain ⟨h1, h2⟩ := List.mem_filter.1 hy
        rcases (hmem y).1 h1 with rfl | h1
        · exact .inl rfl
        · unfold ofB at h2
          simp at h2
          exact .inr (hlt y (hold y h1 h2.1.1 (by omega)))
    unfold frozenB
    rw [hla]
    dsimp only
    have : (putS (frzS bu id file day) l).any (liftB file later (frzS bu id file day)) = false := by
      rw [List.any_eq_false]
      intro y hy h2
      unfold liftB at h2
      simp at h2
      rcases (hmem y).1 hy with rfl | h1
      · have : (1 : Int) = 3 := h2.1.1.1.1
        omega
      · have := hlt y (hold y h1 h2.1.1.1.2 (by omega))
        rw [h2.1.1.2] at this
        cases this.2
    rw [this]
    rfl
  · unfold alertB latestOf
    rw [filter_putS (p := ofB file later 4 5) (by unfold ofB frzS; simp)]
end Go.Proofs.YtliehlefpodhaaaDoor
