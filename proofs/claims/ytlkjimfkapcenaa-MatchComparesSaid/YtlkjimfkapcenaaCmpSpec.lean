/- How much two records agree, as functions of plain data, and that it is the same with both exchanged. For all records. -/
import Derived.Test.YtlkjimfkapcenaaPlacesOne
import Derived.Test.YtlkjimfkapcenaaRefNumbers
namespace Go.Proofs.Ytlkjimfkapcenaa
open Go.RowKit

theorem ite_iff {p q : Prop} [Decidable p] [Decidable q] {α : Type} {x y u v : α} (h : p ↔ q) (hx : x = u) (hy : y = v) : (if p then x else y) = if q then u else v := by
  by_cases hp : p
  · rw [if_pos hp, if_pos (h.1 hp), hx]
  · rw [if_neg hp, if_neg (fun hq => hp (h.2 hq)), hy]
/-- What is left of given names behind the first one that is like a name. -/
def amStep (k : Int) (l : List ByteArray) (x : ByteArray) : Option (List ByteArray) :=
  match l.findIdx? (fun y => alikeB x y k) with
  | some i => some (l.drop (i + 1))
  | none => none
/-- Whether given names are some of others, in their order. -/
def amongB (k : Int) (xs ys : List ByteArray) : Bool := (xs.foldlM (amStep k) ys).isSome
theorem amStep_fidx (k : Int) (l : List ByteArray) (x : ByteArray) : (fidx (fun y => alikeB x y k) l = -1 ∧ amStep k l x = none) ∨ ∃ i, i < l.length ∧ fidx (fun y => alikeB x y k) l = (i : Int) ∧ amStep k l x = some (l.drop (i + 1)) := by
  unfold fidx amStep
  cases h : l.findIdx? (fun y => alikeB x y k) with
  | none => exact .inl ⟨rfl, rfl⟩
  | some i => exact .inr ⟨i, (by rw [List.findIdx?_eq_some_iff_getElem] at h; exact h.1), rfl, rfl⟩
theorem amStep_none {k : Int} {l : List ByteArray} {x : ByteArray} (h : ∀ j, j < l.length → alikeB x l[j]! k = false) : amStep k l x = none := by
  unfold amStep
  have e : l.findIdx? (fun y => alikeB x y k) = none := by
    rw [List.findIdx?_eq_none_iff]
    intro y hy
    obtain ⟨j, hj, rfl⟩ := List.getElem_of_mem hy
    have := h j hj
    rwa [getElem!_pos l j hj] at this
  rw [e]
theorem amStep_some {k : Int} {l : List ByteArray} {x : ByteArray} {i : Nat} (hi : i < l.length) (h : alikeB x l[i]! k = true) (hb : ∀ j, j < i → alikeB x l[j]! k = false) : amStep k l x = some (l.drop (i + 1)) := by
  unfold amStep
  have e : l.findIdx? (fun y => alikeB x y k) = some i := by
    rw [List.findIdx?_eq_some_iff_getElem]
    refine ⟨hi, by rwa [getElem!_pos l i hi] at h, fun j hj => ?_⟩
    have := hb j hj
    rw [getElem!_pos l j (by omega)] at this
    simp [this]
  rw [e]
theorem among_cons (k : Int) (x : ByteArray) (xs ys : List ByteArray) : amongB k (x :: xs) ys = (match amStep k ys x with | some l => amongB k xs l | none => false) := by
  unfold amongB
  rw [List.foldlM_cons]
  cases amStep k ys x <;> rfl
theorem among_snoc (k : Int) (pre : List ByteArray) (x : ByteArray) (ys : List ByteArray) : (pre ++ [x]).foldlM (amStep k) ys = (pre.foldlM (amStep k) ys).bind fun l => amStep k l x := by
  rw [List.foldlM_append]
  cases pre.foldlM (amStep k) ys with
  | none => rfl
  | some l => simp
theorem amStep_len {k : Int} {l l' : List ByteArray} {x : ByteArray} (h : amStep k l x = some l') : l'.length < l.length := by
  rcases amStep_fidx k l x with ⟨_, e⟩ | ⟨i, hi, _, e⟩
  · rw [e] at h; cases h
  · rw [e] at h
    cases h
    simp; omega
theorem among_len (k : Int) : ∀ xs ys : List ByteArray, amongB k xs ys = true → xs.length ≤ ys.length := by
  intro xs
  induction xs with
  | nil => intro ys _; simp
  | cons x xs ih =>
    intro ys h
    rw [among_cons] at h
    cases e : amStep k ys x with
    | none => rw [e] at h; cases h
    | some l =>
      rw [e] at h
      have h1 := ih l h
      have h2 := amStep_len e
      simp; omega
theorem among_eq (k : Int) : ∀ xs ys : List ByteArray, xs.length = ys.length → amongB k xs ys = (xs.zip ys).all (fun p => alikeB p.1 p.2 k) := by
  intro xs
  induction xs with
  | nil => intro ys _; simp [amongB]
  | cons x xs ih =>
    intro ys h
    cases ys with
    | nil => simp at h
    | cons y ys =>
      have hl : xs.length = ys.length := by simpa using h
      rw [among_cons]
      simp only [List.zip_cons_cons, List.all_cons]
      cases e : alikeB x y k with
      | true =>
        have e1 : amStep k (y :: ys) x = some ys := by
          have := amStep_some (k := k) (l := y :: ys) (x := x) (i := 0) (by simp) (by simpa using e) (fun j hj => absurd hj (by omega))
          simpa using this
        rw [e1]
        simpa using ih ys hl
      | false =>
        simp only [Bool.false_and]
        cases e1 : amStep k (y :: ys) x with
        | none => rfl
        | some l =>
          dsimp only
          cases e2 : amongB k xs l with
          | false => rfl
          | true =>
            exfalso
            have h1 := among_len k xs l e2
            rcases amStep_fidx k (y :: ys) x with ⟨_, e3⟩ | ⟨i, hi, hf, e3⟩
            · rw [e3] at e1; cases e1
            · rw [e3] at e1
              cases e1
              have : i ≠ 0 := by
                rintro rfl
                unfold fidx at hf
                cases hq : (y :: ys).findIdx? (fun y => alikeB x y k) with
                | none => rw [hq] at hf; simp at hf
                | some j =>
                  rw [hq] at hf
                  dsimp only at hf
                  rw [List.findIdx?_eq_some_iff_getElem] at hq
                  obtain ⟨hj, hq, _⟩ := hq
                  have hj0 : j = 0 := by omega
                  subst hj0
                  simp [e] at hq
              simp at h1 hi
              omega
theorem lev_symm (a b : ByteArray) : ∀ i k, lev a b i k = lev b a k i := by
  intro i
  induction i with
  | zero => intro k; rw [lev_zero]; rw [lev]
  | succ i ih =>
    intro k
    induction k with
    | zero => rw [lev_zero, lev]
    | succ k ihk =>
      rw [lev_step, lev_step, ih k, ih (k + 1), ihk]
      have : (if byt a i = byt b k then (0 : Nat) else 1) = if byt b k = byt a i then 0 else 1 := by
        by_cases h : byt a i = byt b k
        · rw [if_pos h, if_pos h.symm]
        · rw [if_neg h, if_neg (fun e => h e.symm)]
      rw [this]
      omega
theorem oneB_symm (p q : ByteArray) : oneB p q = oneB q p := by
  unfold oneB
  have e1 : decide (p = q) = decide (q = p) := by rw [Bool.eq_iff_iff]; simp [eq_comm]
  have e2 : decide (byt p 0 = byt q 0) = decide (byt q 0 = byt p 0) := by rw [Bool.eq_iff_iff]; simp [eq_comm]
  rw [e1, e2]
  cases decide (q = p) <;> cases decide (p.size = 1) <;> cases decide (q.size = 1) <;> cases decide (byt q 0 = byt p 0) <;> rfl
theorem alikeB_symm (p q : ByteArray) (k : Int) : alikeB p q k = alikeB q p k := by
  unfold alikeB
  rw [oneB_symm, lev_symm]
theorem zip_all_symm {α : Type} {f g : α → α → Bool} (h : ∀ x y, f x y = g y x) : ∀ xs ys : List α, (xs.zip ys).all (fun p => f p.1 p.2) = (ys.zip xs).all (fun p => g p.1 p.2) := by
  intro xs
  induction xs with
  | nil => intro ys; simp
  | cons x xs ih =>
    intro ys
    cases ys with
    | nil => simp
    | cons y ys => simp [ih ys, h x y]
theorem among_symm (k : Int) {xs ys : List ByteArray} (h : xs.length = ys.length) : amongB k xs ys = amongB k ys xs := by
  rw [among_eq k xs ys h, among_eq k ys xs h.symm]
  exact zip_all_symm (f := fun x y => alikeB x y k) (g := fun x y => alikeB x y k) (fun x y => alikeB_symm x y k) xs ys

/-- How names agree, the shorter list being the first. -/
def namesO (k : Int) (xs ys : List ByteArray) : Int :=
  if xs[0]! = ys[0]! ∧ amongB (-1) xs.tail ys.tail = true then 3 else if (lev xs[0]! ys[0]! xs[0]!.size ys[0]!.size : Int) ≤ k ∧ amongB k xs.tail ys.tail = true then 2 else 0
/-- How names agree. -/
def namesN (k : Int) (xs ys : List ByteArray) : Int := if ys.length < xs.length then namesO k ys xs else namesO k xs ys
theorem namesO_symm (k : Int) {xs ys : List ByteArray} (h : xs.length = ys.length) : namesO k xs ys = namesO k ys xs := by
  unfold namesO
  have h' : xs.tail.length = ys.tail.length := by simp [h]
  rw [among_symm (-1) h', among_symm k h', lev_symm]
  by_cases e : xs[0]! = ys[0]!
  · rw [e]
  · have q1 : ¬ (xs[0]! = ys[0]! ∧ amongB (-1) ys.tail xs.tail = true) := fun h => e h.1
    have q2 : ¬ (ys[0]! = xs[0]! ∧ amongB (-1) ys.tail xs.tail = true) := fun h => e h.1.symm
    rw [if_neg q1, if_neg q2]
theorem namesN_symm (k : Int) (xs ys : List ByteArray) : namesN k xs ys = namesN k ys xs := by
  unfold namesN
  by_cases h1 : ys.length < xs.length
  · rw [if_pos h1, if_neg (by omega)]
  · by_cases h2 : xs.length < ys.length
    · rw [if_neg h1, if_pos h2]
    · rw [if_neg h1, if_neg h2, namesO_symm k (by omega)]
theorem namesN_range (k : Int) (xs ys : List ByteArray) : namesN k xs ys = 0 ∨ namesN k xs ys = 2 ∨ namesN k xs ys = 3 := by
  have h : ∀ xs ys, namesO k xs ys = 0 ∨ namesO k xs ys = 2 ∨ namesO k xs ys = 3 := by
    intro xs ys
    unfold namesO
    split
    · exact .inr (.inr rfl)
    · split
      · exact .inr (.inl rfl)
      · exact .inl rfl
  unfold namesN
  split <;> exact h _ _
theorem offN_symm (p q : ByteArray) : ∀ k, offN p q k = offN q p k := by
  intro k
  induction k with
  | zero => rfl
  | succ k ih =>
    unfold offN
    rw [ih]
    by_cases h : byt p k = byt q k
    · rw [if_pos h, if_pos h.symm]
    · rw [if_neg h, if_neg (fun e => h e.symm)]
theorem numN_symm (d : Int) (p q : ByteArray) : numN d p q = numN d q p := by
  unfold numN
  rw [offN_symm]
  by_cases h : p.size = 0 ∨ q.size = 0
  · rw [if_pos h, if_pos (show q.size = 0 ∨ p.size = 0 from h.symm)]
  · rw [if_neg h, if_neg (show ¬ (q.size = 0 ∨ p.size = 0) from fun e => h (Or.symm e))]
theorem numN_range (d : Int) (p q : ByteArray) : numN d p q = 0 ∨ numN d p q = 1 ∨ numN d p q = 2 ∨ numN d p q = 3 := by
  unfold numN
  split
  · simp
  · split
    · simp
    · split <;> simp
theorem birN_symm (d l1 h1 l2 h2 : Int) : birN d l1 h1 l2 h2 = birN d l2 h2 l1 h1 := by
  unfold birN
  exact ite_iff (by omega) rfl (ite_iff (by omega) rfl rfl)
theorem birN_range (d l1 h1 l2 h2 : Int) : birN d l1 h1 l2 h2 = 0 ∨ birN d l1 h1 l2 h2 = 1 ∨ birN d l1 h1 l2 h2 = 3 := by
  unfold birN
  split
  · simp
  · split <;> simp
theorem overB_symm (t : Int) (s x : Sty) : overB t s x = overB t x s := by
  unfold overB
  rw [Bool.eq_iff_iff]
  simp only [decide_eq_true_eq]
  split <;> split <;> split <;> split <;> omega
/-- Whether a stay of one list and one of the other overlap enough at one place. -/
def placesB (t : Int) (xs ys : List Sty) : Bool := ys.any fun s => (xs.filter fun o => decide (o.place = s.place)).any (overB t s)
def placesN (t : Int) (xs ys : List Sty) : Int := if placesB t xs ys then 3 else 1
theorem placesB_iff (t : Int) (xs ys : List Sty) : placesB t xs ys = true ↔ ∃ s ∈ ys, ∃ o ∈ xs, o.place = s.place ∧ overB t s o = true := by
  unfold placesB
  simp only [List.any_eq_true, List.mem_filter, decide_eq_true_eq]
  constructor
  · rintro ⟨s, hs, o, ⟨ho, e⟩, h⟩; exact ⟨s, hs, o, ho, e, h⟩
  · rintro ⟨s, hs, o, ho, e, h⟩; exact ⟨s, hs, o, ⟨ho, e⟩, h⟩
theorem placesB_symm (t : Int) (xs ys : List Sty) : placesB t xs ys = placesB t ys xs := by
  rw [Bool.eq_iff_iff, placesB_iff, placesB_iff]
  constructor
  · rintro ⟨s, hs, o, ho, e, h⟩; exact ⟨o, ho, s, hs, e.symm, by rw [overB_symm]; exact h⟩
  · rintro ⟨s, hs, o, ho, e, h⟩; exact ⟨o, ho, s, hs, e.symm, by rw [overB_symm]; exact h⟩
theorem placesN_range (t : Int) (xs ys : List Sty) : placesN t xs ys = 1 ∨ placesN t xs ys = 3 := by
  unfold placesN; split <;> simp
/-- The verdict on two records that agree so. -/
def verdN (a b : Rcd) (nm nu bi pl : Int) : Int :=
  if bi = 0 then 0 else if a.suffix ≠ 0 ∧ b.suffix ≠ 0 ∧ a.suffix ≠ b.suffix then 0 else if nm = 0 ∧ nu ≠ 3 then 0 else if nu = 0 ∧ pl ≠ 3 then 0 else if (a.twin || b.twin) = true ∧ nu ≠ 3 ∧ nm ≠ 3 then 0
  else if nu = 3 ∧ 2 ≤ nm then 2 else if (a.twin || b.twin) = false ∧ nm = 3 ∧ bi = 3 ∧ pl = 3 then 2 else 1
theorem verdN_symm (a b : Rcd) (nm nu bi pl : Int) : verdN a b nm nu bi pl = verdN b a nm nu bi pl := by
  unfold verdN
  rw [Bool.or_comm a.twin b.twin]
  exact ite_iff Iff.rfl rfl (ite_iff (by omega) rfl rfl)
/-- How much two records agree. -/
def cmpN (r : Rul) (a b : Rcd) : Cmp :=
  ⟨namesN r.letters a.names b.names, numN r.digits a.number b.number, birN r.days a.lo a.hi b.lo b.hi, placesN r.together a.stays b.stays,
    verdN a b (namesN r.letters a.names b.names) (numN r.digits a.number b.number) (birN r.days a.lo a.hi b.lo b.hi) (placesN r.together a.stays b.stays)⟩
theorem cmpN_symm (r : Rul) (a b : Rcd) : cmpN r a b = cmpN r b a := by
  unfold cmpN
  rw [namesN_symm r.letters a.names b.names, numN_symm r.digits a.number b.number, birN_symm r.days a.lo a.hi b.lo b.hi]
  rw [show placesN r.together a.stays b.stays = placesN r.together b.stays a.stays by unfold placesN; rw [placesB_symm], verdN_symm]
end Go.Proofs.Ytlkjimfkapcenaa
