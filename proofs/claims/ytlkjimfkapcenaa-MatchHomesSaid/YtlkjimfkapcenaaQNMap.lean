/- A map of maps, each inner one in a block of its own; and who was at which place, as a law keeps it. For all lists. -/
import Derived.Test.YtlkjimfkapcenaaQPairMap
import Derived.Test.YtlkjimfkapcenaaQPlaces
import Derived.Test.YtlkjimfkapcenaaQPairSpec
namespace Go.Proofs.Ytlkjimfkapcenaa
open Go.RowKit Go.Maps

/-- Outer map ab: where H p, the inner map of p lies in block B p; its keys are those i with F p i. -/
structure NMap (W : World) (ab base : Nat) (H : Int → Bool) (F : Int → Int → Bool) (B : Int → Nat) : Prop where
  out : MapIs Try.prog 3 (Value.int .i64) W ab (fun p => if H p = true then some (.map (some (B p))) else none)
  inn : ∀ p, H p = true → MapIs Try.prog 3 (Value.int .i64) W (B p) (fun i => if F p i = true then some (.bool true) else none) ∧ base ≤ B p ∧ B p ≠ ab
  inj : ∀ p q, H p = true → H q = true → B p = B q → p = q
  non : ∀ p, H p = false → ∀ i, F p i = false
section
variable {W W' : World} {ab base : Nat} {H : Int → Bool} {F : Int → Int → Bool} {B : Int → Nat}
theorem NMap.gr (h : NMap W ab base H F B) (g : Gr W W') : NMap W' ab base H F B := ⟨h.out.gr g, fun p hp => ⟨(h.inn p hp).1.gr g, (h.inn p hp).2⟩, h.inj, h.non⟩
theorem NMap.congr {F' : Int → Int → Bool} (h : NMap W ab base H F B) (e : ∀ p i, F' p i = F p i) : NMap W ab base H F' B := by
  have : F' = F := by funext p i; exact e p i
  rw [this]; exact h
/-- A place more, with nobody at it. -/
theorem NMap.open_ {p : Int} {b : Nat} (h : NMap W ab base H F B) (hp : H p = false) (hb : b = W.heap.size) (hbase : base ≤ W.heap.size) {W2 : World}
    (hm : MapIs Try.prog 3 (Value.int .i64) W2 ab (fun q => if q = p then some (.map (some b)) else (if H q = true then some (.map (some (B q))) else none))) (g : (W.alloc (.map #[] 0)).grownBy W2 (some ab)) :
    NMap W2 ab base (fun q => decide (q = p) || H q) F (fun q => if q = p then b else B q) := by
  have hlt := h.out.lt
  have hne : b ≠ ab := by omega
  have keepB : ∀ {k : Nat}, k < (W.alloc (.map #[] 0)).heap.size → k ≠ ab → W2.heap[k]? = (W.alloc (.map #[] 0)).heap[k]? := fun hk hn => g.block _ hk (fun e => hn (by injection e))
  refine ⟨hm.congr (fun q => ?_), fun q hq => ?_, fun q q' hq hq' e => ?_, fun q hq i => ?_⟩
  · by_cases e : q = p
    · simp [e]
    · simp [e]
  · by_cases e : q = p
    · subst e
      rw [if_pos rfl]
      refine ⟨?_, by omega, hne⟩
      have h1 : MapIs Try.prog 3 (Value.int .i64) (W.alloc (.map #[] 0)) b (fun i => if F q i = true then some (.bool true) else none) := by
        rw [hb]
        exact (MapIs.new W).congr (fun i => by simp [h.non q hp i])
      exact h1.keep (keepB h1.lt hne)
    · rw [if_neg e]
      have hq' : H q = true := by simpa [e] using hq
      obtain ⟨k1, k2, k3⟩ := h.inn q hq'
      refine ⟨(k1.alloc _).keep (keepB (k1.alloc _).lt k3), k2, k3⟩
  · have hB : ∀ q, H q = true → B q ≠ b := fun q hq => by have := (h.inn q hq).1.lt; omega
    by_cases e1 : q = p
    · by_cases e2 : q' = p
      · rw [e1, e2]
      · rw [if_pos e1, if_neg e2] at e
        exact absurd e.symm (hB q' (by simpa [e2] using hq'))
    · by_cases e2 : q' = p
      · rw [if_neg e1, if_pos e2] at e
        exact absurd e (hB q (by simpa [e1] using hq))
      · rw [if_neg e1, if_neg e2] at e
        exact h.inj q q' (by simpa [e1] using hq) (by simpa [e2] using hq') e
  · simp only [Bool.or_eq_false_iff] at hq
    exact h.non q hq.2 i
/-- Somebody more at a place. -/
theorem NMap.add {p i0 : Int} (h : NMap W ab base H F B) (hp : H p = true) {W2 : World}
    (hm : MapIs Try.prog 3 (Value.int .i64) W2 (B p) (fun i => if i = i0 then some (.bool true) else (if F p i = true then some (.bool true) else none))) (g : W.grownBy W2 (some (B p))) :
    NMap W2 ab base H (fun q i => F q i || (decide (q = p) && decide (i = i0))) B := by
  have keepB : ∀ {k : Nat}, k < W.heap.size → k ≠ B p → W2.heap[k]? = W.heap[k]? := fun hk hn => g.block _ hk (fun e => hn (by injection e))
  refine ⟨h.out.keep (keepB h.out.lt (fun e => (h.inn p hp).2.2 e.symm)), fun q hq => ?_, h.inj, fun q hq i => ?_⟩
  · obtain ⟨k1, k2, k3⟩ := h.inn q hq
    refine ⟨?_, k2, k3⟩
    by_cases e : q = p
    · subst e
      refine hm.congr (fun i => ?_)
      by_cases e1 : i = i0
      · simp [e1]
      · simp [e1]
    · have h1 := k1.keep (keepB k1.lt (fun e1 => e (h.inj q p hq hp e1)))
      exact h1.congr (fun i => by simp [e])
  · have e : q ≠ p := fun e => by rw [e, hp] at hq; cases hq
    rw [h.non q hq i]
    simp [e]
end
/-- Who was at which place, some records on, and some stays of the next one. -/
def atF (day : Int) (rs : List Rcd) (i k : Nat) (p id : Int) : Bool := ((rs.take i).any (fun r => decide (id = r.id) && r.stays.any (atB day p))) || (decide (i < rs.length) && (decide (id = rs[i]!.id) && (rs[i]!.stays.take k).any (atB day p)))
theorem atF_zero (day : Int) (rs : List Rcd) (p id : Int) : atF day rs 0 0 p id = false := by simp [atF]
theorem atF_on {day : Int} {rs : List Rcd} {i k : Nat} (hi : i < rs.length) (hk : k < rs[i]!.stays.length) (h : onB day rs[i]!.stays[k]! = true) (p id : Int) :
    atF day rs i (k + 1) p id = (atF day rs i k p id || (decide (p = rs[i]!.stays[k]!.place) && decide (id = rs[i]!.id))) := by
  unfold atF
  rw [any_take_succ _ _ _ hk]
  have e : atB day p rs[i]!.stays[k]! = decide (p = rs[i]!.stays[k]!.place) := by
    unfold atB
    rw [h, Bool.true_and, decide_eq_decide]
    exact ⟨fun h => h.symm, fun h => h.symm⟩
  rw [e]
  simp only [hi, decide_true, Bool.true_and]
  cases (rs.take i).any (fun r => decide (id = r.id) && r.stays.any (atB day p)) <;> cases decide (id = rs[i]!.id) <;> cases (rs[i]!.stays.take k).any (atB day p) <;> cases decide (p = rs[i]!.stays[k]!.place) <;> rfl
theorem atF_off {day : Int} {rs : List Rcd} {i k : Nat} (hk : k < rs[i]!.stays.length) (h : onB day rs[i]!.stays[k]! = false) (p id : Int) : atF day rs i (k + 1) p id = atF day rs i k p id := by
  unfold atF
  rw [any_take_succ _ _ _ hk]
  have e : atB day p rs[i]!.stays[k]! = false := by
    unfold atB
    rw [h, Bool.false_and]
  rw [e, Bool.or_false]
theorem atF_next {day : Int} {rs : List Rcd} {i : Nat} (hi : i < rs.length) (p id : Int) : atF day rs i rs[i]!.stays.length p id = atF day rs (i + 1) 0 p id := by
  unfold atF
  rw [List.take_succ_eq_append_getElem hi, List.any_append, List.take_length]
  have e : rs[i]! = rs[i] := getElem!_pos rs i hi
  rw [e]
  simp [hi]
theorem atF_all {day : Int} {rs : List Rcd} (p id : Int) : atF day rs rs.length 0 p id = true ↔ ∃ r ∈ rs, r.id = id ∧ r.stays.any (atB day p) = true := by
  unfold atF
  rw [List.take_length]
  simp only [Nat.lt_irrefl, decide_false, Bool.false_and, Bool.or_false, List.any_eq_true, Bool.and_eq_true, decide_eq_true_eq]
  constructor
  · rintro ⟨r, h1, h2, h3⟩; exact ⟨r, h1, h2.symm, h3⟩
  · rintro ⟨r, h1, h2, h3⟩; exact ⟨r, h1, h2.symm, h3⟩
/-- Who is told at a place is who was there. -/
theorem homeL_iff {day p : Int} {rs S : List Rcd} (hS : S.Perm rs) (id : Int) : id ∈ homeL day p S ↔ atF day rs rs.length 0 p id = true := by
  rw [atF_all]
  unfold homeL
  rw [List.mem_map]
  constructor
  · rintro ⟨r, hr, e⟩
    obtain ⟨h1, h2⟩ := List.mem_filter.1 hr
    exact ⟨r, hS.mem_iff.1 h1, e, h2⟩
  · rintro ⟨r, hr, e, h2⟩
    exact ⟨r, List.mem_filter.2 ⟨hS.mem_iff.2 hr, h2⟩, e⟩
theorem homeL_asc {day p : Int} {S : List Rcd} (h : S.Pairwise (fun x y => x.id < y.id)) : (homeL day p S).Pairwise (· < ·) := by
  unfold homeL
  rw [List.pairwise_map]
  exact h.filter _
end Go.Proofs.Ytlkjimfkapcenaa
