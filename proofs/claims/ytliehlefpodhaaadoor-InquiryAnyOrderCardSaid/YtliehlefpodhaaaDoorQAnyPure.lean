/- Parts of a valid list of signals, dealt out by choices, and merged again in any order: in plain functions. For all lists and choices. -/
import Derived.Test.YtliehlefpodhaaaDoorQHoldsPure
namespace Go.Proofs.YtliehlefpodhaaaDoor
open Go.RowKit

/-- Whether the signal at a place goes to a bureau. -/
def setB (f : Nat → Nat) (k i : Nat) : Bool := decide (f i / 2 ^ k % 2 = 1)
/-- What a bureau has of the first n signals. -/
def partL (l : List Sig) (f : Nat → Nat) (n k : Nat) : List Sig := ((List.range n).filter (setB f k)).map fun i => l[i]!
theorem partL_succ (l : List Sig) (f : Nat → Nat) (n k : Nat) : partL l f (n + 1) k = partL l f n k ++ if setB f k n = true then [l[n]!] else [] := by
  unfold partL
  rw [List.range_succ, List.filter_append, List.map_append]
  cases e : setB f k n <;> simp [e]
theorem partL_len (l : List Sig) (f : Nat → Nat) (n k : Nat) : (partL l f n k).length ≤ n := by
  unfold partL
  rw [List.length_map]
  exact Nat.le_trans (List.length_filter_le _ _) (by simp)
theorem partL_mem {l : List Sig} {f : Nat → Nat} {k : Nat} {x : Sig} (h : x ∈ partL l f l.length k) : x ∈ l := by
  unfold partL at h
  obtain ⟨i, hi, rfl⟩ := List.mem_map.1 h
  have := List.mem_range.1 (List.mem_filter.1 hi).1
  rw [getElem!_pos l i this]
  exact List.getElem_mem this
theorem partL_sorted {l : List Sig} (h : l.Pairwise BefS) (f : Nat → Nat) (k : Nat) : (partL l f l.length k).Pairwise BefS := by
  unfold partL
  rw [List.pairwise_map]
  have h1 : ((List.range l.length).filter (setB f k)).Pairwise (· < ·) := List.Pairwise.filter _ List.pairwise_lt_range
  refine List.Pairwise.imp_of_mem ?_ h1
  intro i j hi hj hij
  have hi' := List.mem_range.1 (List.mem_filter.1 hi).1
  have hj' := List.mem_range.1 (List.mem_filter.1 hj).1
  rw [getElem!_pos l i hi', getElem!_pos l j hj']
  exact List.pairwise_iff_getElem.1 h i j hi' hj' hij
theorem partL_sigs {l : List Sig} (h : sigsB l = true) (f : Nat → Nat) (k : Nat) : sigsB (partL l f l.length k) = true :=
  sigsB_of (Nat.le_trans (partL_len _ _ _ _) (sigsB_len h)) (fun _ hx => sigsB_mem h (partL_mem hx)) (partL_sorted (sigs_pairwise h) f k)
theorem BefS.ne {a : Sig} (h : BefS a a) : False := h.anti h
theorem sorted_ext {a b : List Sig} (ha : a.Pairwise BefS) (hb : b.Pairwise BefS) (h : ∀ x, x ∈ a ↔ x ∈ b) : a = b := by
  have na : a.Nodup := ha.imp (fun {x y} k e => by subst e; exact BefS.ne k)
  have nb : b.Nodup := hb.imp (fun {x y} k e => by subst e; exact BefS.ne k)
  exact perm_sorted_eq (R := BefS) (fun _ _ h k => h.anti k) ((List.perm_ext_iff_of_nodup na nb).2 h) ha hb
/-- Two signals of one list at one place are one. -/
theorem place_eq {l : List Sig} (h : l.Pairwise BefS) {x y : Sig} (hx : x ∈ l) (hy : y ∈ l) (e : samePl x y = true) : x = y := by
  rw [List.pairwise_iff_getElem] at h
  obtain ⟨i, hi, rfl⟩ := List.getElem_of_mem hx
  obtain ⟨j, hj, rfl⟩ := List.getElem_of_mem hy
  rcases Nat.lt_trichotomy i j with hij | rfl | hij
  · have := (h i j hi hj hij).apart
    rw [e] at this; cases this
  · rfl
  · have := (h j i hj hi hij).apart
    rw [samePl_comm, e] at this; cases this
/-- Merging two parts of a valid list gives a part of it. -/
theorem merge_parts {l a b : List Sig} (h : sigsB l = true) (ha : sigsB a = true) (hb : sigsB b = true) (hal : ∀ x ∈ a, x ∈ l) (hbl : ∀ x ∈ b, x ∈ l) :
    mergeN a b = 0 ∧ mergeL a b = l.filter (fun x => decide (x ∈ a) || decide (x ∈ b)) := by
  have hp := sigs_pairwise h
  have hc : clashB a b = false := by
    unfold clashB
    rw [List.any_eq_false]
    intro x hx h1
    rw [List.any_eq_true] at h1
    obtain ⟨y, hy, h2⟩ := h1
    simp at h2
    exact h2.2 (place_eq hp (hal y hy) (hbl x hx) (by rw [samePl_comm]; exact h2.1))
  have hall : mergeAll a b = l.filter (fun x => decide (x ∈ a) || decide (x ∈ b)) := by
    refine sorted_ext (mergeAll_sorted (sigs_pairwise ha) (sigs_pairwise hb)) (hp.filter _) (fun x => ?_)
    rw [(mergeAll_perm a b).mem_iff, List.mem_append, List.mem_filter]
    simp only [Bool.or_eq_true, decide_eq_true_eq]
    unfold newsS
    rw [List.mem_filter]
    constructor
    · rintro (h1 | h1)
      · exact ⟨hal x h1, .inl h1⟩
      · exact ⟨hbl x h1.1, .inr h1.1⟩
    · rintro ⟨_, h1 | h1⟩
      · exact .inl h1
      · cases e : hasPl a x with
        | false => exact .inr ⟨h1, by simp⟩
        | true =>
          unfold hasPl at e
          rw [List.any_eq_true] at e
          obtain ⟨y, hy, h2⟩ := e
          rw [place_eq hp (hbl x h1) (hal y hy) h2]
          exact .inl hy
  have hlen : (mergeAll a b).length ≤ 40 := by
    rw [hall]
    exact Nat.le_trans (List.length_filter_le _ _) (sigsB_len h)
  have hN : mergeN a b = 0 := by
    unfold mergeN
    rw [ha, hb, hc]
    simp
    omega
  refine ⟨hN, ?_⟩
  unfold mergeL
  rw [if_pos hN, hall]
/-- What is known once some bureaus' lists are merged. -/
def unionL (l : List Sig) (f : Nat → Nat) (ks : List Nat) : List Sig := l.filter fun x => ks.any fun k => decide (x ∈ partL l f l.length k)
theorem unionL_sigs {l : List Sig} (h : sigsB l = true) (f : Nat → Nat) (ks : List Nat) : sigsB (unionL l f ks) = true := sigsB_filter h _
theorem unionL_mem {l : List Sig} {f : Nat → Nat} {ks : List Nat} {x : Sig} (h : x ∈ unionL l f ks) : x ∈ l := (List.mem_filter.1 h).1
theorem unionL_nil (l : List Sig) (f : Nat → Nat) : unionL l f [] = [] := by
  unfold unionL
  simp
theorem partL_union {l : List Sig} (h : sigsB l = true) (f : Nat → Nat) (k : Nat) : partL l f l.length k = unionL l f [k] := by
  refine sorted_ext (partL_sorted (sigs_pairwise h) f k) (sigs_pairwise (unionL_sigs h f _)) (fun x => ?_)
  unfold unionL
  rw [List.mem_filter]
  simp
  exact fun hx => partL_mem hx
theorem union_merge {l : List Sig} (h : sigsB l = true) (f : Nat → Nat) (ks js : List Nat) :
    mergeN (unionL l f ks) (unionL l f js) = 0 ∧ mergeL (unionL l f ks) (unionL l f js) = unionL l f (ks ++ js) := by
  obtain ⟨h1, h2⟩ := merge_parts h (unionL_sigs h f ks) (unionL_sigs h f js) (fun _ => unionL_mem) (fun _ => unionL_mem)
  refine ⟨h1, h2.trans ?_⟩
  refine List.filter_congr (fun x hx => ?_)
  rw [List.any_append]
  unfold unionL
  simp only [List.mem_filter, hx, true_and, Bool.decide_eq_true]
theorem setB_some {f : Nat → Nat} {i : Nat} (h : 1 ≤ f i ∧ f i ≤ 7) : setB f 0 i = true ∨ setB f 1 i = true ∨ setB f 2 i = true := by
  unfold setB
  simp only [decide_eq_true_eq]
  generalize f i = c at *
  have : c = 1 ∨ c = 2 ∨ c = 3 ∨ c = 4 ∨ c = 5 ∨ c = 6 ∨ c = 7 := by omega
  rcases this with rfl | rfl | rfl | rfl | rfl | rfl | rfl <;> decide
theorem unionL_ext {l : List Sig} {f : Nat → Nat} {ks js : List Nat} (h : ∀ k, k ∈ ks ↔ k ∈ js) : unionL l f ks = unionL l f js := by
  unfold unionL
  refine List.filter_congr (fun x _ => ?_)
  rw [Bool.eq_iff_iff, List.any_eq_true, List.any_eq_true]
  exact ⟨fun ⟨k, hk, e⟩ => ⟨k, (h k).1 hk, e⟩, fun ⟨k, hk, e⟩ => ⟨k, (h k).2 hk, e⟩⟩
theorem unionL_all {l : List Sig} {f : Nat → Nat} {ks : List Nat} (hf : ∀ i, 1 ≤ f i ∧ f i ≤ 7) (h0 : 0 ∈ ks) (h1 : 1 ∈ ks) (h2 : 2 ∈ ks) : unionL l f ks = l := by
  unfold unionL
  rw [List.filter_eq_self]
  intro x hx
  obtain ⟨i, hi, rfl⟩ := List.getElem_of_mem hx
  have hm : ∀ k, setB f k i = true → l[i] ∈ partL l f l.length k := by
    intro k hk
    unfold partL
    exact List.mem_map.2 ⟨i, List.mem_filter.2 ⟨List.mem_range.2 hi, hk⟩, getElem!_pos l i hi⟩
  rw [List.any_eq_true]
  rcases setB_some (hf i) with e | e | e
  · exact ⟨0, h0, by simpa using hm 0 e⟩
  · exact ⟨1, h1, by simpa using hm 1 e⟩
  · exact ⟨2, h2, by simpa using hm 2 e⟩
/-- The orders of the law. -/
def ordersL : List (List Nat) := [[0, 1, 2], [2, 1, 0], [1, 0, 2, 1, 0], [2, 0, 0, 1]]
theorem orders_all {o : List Nat} (h : o ∈ ordersL) (l : List Sig) {f : Nat → Nat} (hf : ∀ i, 1 ≤ f i ∧ f i ≤ 7) : unionL l f o = l ∧ ∀ k ∈ o, k < 3 := by
  have : o = [0, 1, 2] ∨ o = [2, 1, 0] ∨ o = [1, 0, 2, 1, 0] ∨ o = [2, 0, 0, 1] := by simpa [ordersL] using h
  rcases this with rfl | rfl | rfl | rfl <;> exact ⟨unionL_all hf (by decide) (by decide) (by decide), by decide⟩
end Go.Proofs.YtliehlefpodhaaaDoor
