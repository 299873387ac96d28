/- Rules that allow more, a record and itself, and what says that two are one: plain laws of the agreement. For valid rules and records. -/
import Derived.Test.YtlkjimfkapcenaaQEditsTop
namespace Go.Proofs.Ytlkjimfkapcenaa
open Go.RowKit

theorem alikeB_mono {p q : ByteArray} {k k' : Int} (hk : k ≤ k') (h : alikeB p q k = true) : alikeB p q k' = true := by
  unfold alikeB at h ⊢
  simp only [Bool.or_eq_true, Bool.and_eq_true, decide_eq_true_eq] at h ⊢
  rcases h with h | h
  · exact .inl h
  · exact .inr (by omega)
/-- Names that match others one by one, in order, those between left out. -/
inductive Emb (k : Int) : List ByteArray → List ByteArray → Prop
  | nil (ys : List ByteArray) : Emb k [] ys
  | skip {xs ys : List ByteArray} (y : ByteArray) (h : Emb k xs ys) : Emb k xs (y :: ys)
  | take {xs ys : List ByteArray} {x y : ByteArray} (h : alikeB x y k = true) (h' : Emb k xs ys) : Emb k (x :: xs) (y :: ys)
theorem Emb.mono {k k' : Int} (hk : k ≤ k') {xs ys : List ByteArray} (h : Emb k xs ys) : Emb k' xs ys := by
  induction h with
  | nil ys => exact .nil ys
  | skip y _ ih => exact .skip y ih
  | take h _ ih => exact .take (alikeB_mono hk h) ih
theorem Emb.tail {k : Int} {x : ByteArray} {xs ys : List ByteArray} (h : Emb k (x :: xs) ys) : Emb k xs ys := by
  generalize hz : x :: xs = zs at h
  induction h with
  | nil ys => cases hz
  | skip y _ ih => exact .skip y (ih hz)
  | take h h' _ => cases hz; exact .skip _ h'
theorem among_cons_cons (k : Int) (x : ByteArray) (xs : List ByteArray) (y : ByteArray) (ys : List ByteArray) : amongB k (x :: xs) (y :: ys) = if alikeB x y k then amongB k xs ys else amongB k (x :: xs) ys := by
  rw [among_cons, among_cons]
  unfold amStep
  rw [List.findIdx?_cons]
  cases h : alikeB x y k with
  | true => simp
  | false =>
    simp only [Bool.false_eq_true, if_false]
    cases h2 : ys.findIdx? (fun y => alikeB x y k) with
    | none => simp
    | some i => simp
theorem among_nil_right (k : Int) (x : ByteArray) (xs : List ByteArray) : amongB k (x :: xs) [] = false := by
  rw [among_cons]; rfl
theorem among_nil_left (k : Int) (ys : List ByteArray) : amongB k [] ys = true := by simp [amongB]
theorem among_emb (k : Int) : ∀ ys xs, amongB k xs ys = true ↔ Emb k xs ys := by
  intro ys
  induction ys with
  | nil =>
    intro xs
    cases xs with
    | nil => simp only [among_nil_left, true_iff]; exact .nil _
    | cons x xs =>
      rw [among_nil_right]
      simp only [Bool.false_eq_true, false_iff]
      intro h
      cases h
  | cons y ys ih =>
    intro xs
    cases xs with
    | nil => simp only [among_nil_left, true_iff]; exact .nil _
    | cons x xs =>
      rw [among_cons_cons]
      cases h : alikeB x y k with
      | true =>
        rw [if_pos rfl, ih]
        constructor
        · exact fun h' => .take h h'
        · intro h'
          cases h' with
          | skip _ h' => exact h'.tail
          | take _ h' => exact h'
      | false =>
        rw [if_neg (by simp), ih]
        constructor
        · exact fun h' => .skip _ h'
        · intro h'
          cases h' with
          | skip _ h' => exact h'
          | take h2 _ => rw [h] at h2; cases h2
theorem among_mono {k k' : Int} (hk : k ≤ k') {xs ys : List ByteArray} (h : amongB k xs ys = true) : amongB k' xs ys = true := (among_emb _ _ _).2 (((among_emb _ _ _).1 h).mono hk)
theorem namesO_mono {k k' : Int} (hk : k ≤ k') (xs ys : List ByteArray) : namesO k xs ys ≤ namesO k' xs ys := by
  unfold namesO
  by_cases h1 : xs[0]! = ys[0]! ∧ amongB (-1) xs.tail ys.tail = true
  · rw [if_pos h1, if_pos h1]; omega
  · rw [if_neg h1, if_neg h1]
    by_cases h2 : (lev xs[0]! ys[0]! xs[0]!.size ys[0]!.size : Int) ≤ k ∧ amongB k xs.tail ys.tail = true
    · rw [if_pos h2, if_pos ⟨by omega, among_mono hk h2.2⟩]; omega
    · rw [if_neg h2]; split <;> omega
theorem namesN_mono {k k' : Int} (hk : k ≤ k') (xs ys : List ByteArray) : namesN k xs ys ≤ namesN k' xs ys := by
  unfold namesN
  split <;> exact namesO_mono hk _ _
theorem numN_mono {d d' : Int} (hd : d ≤ d') (p q : ByteArray) : numN d p q ≤ numN d' p q := by
  unfold numN
  split
  · omega
  · split
    · omega
    · split <;> split <;> omega
theorem birN_mono {d d' : Int} (hd : d ≤ d') (l1 h1 l2 h2 : Int) : birN d l1 h1 l2 h2 ≤ birN d' l1 h1 l2 h2 := by
  unfold birN
  split
  · omega
  · split <;> split <;> omega
theorem verdN_range (a b : Rcd) (nm nu bi pl : Int) : verdN a b nm nu bi pl = 0 ∨ verdN a b nm nu bi pl = 1 ∨ verdN a b nm nu bi pl = 2 := by
  unfold verdN
  repeat' split
  all_goals simp
theorem verdN_z (a b : Rcd) (nm nu bi pl : Int) : verdN a b nm nu bi pl = 0 ↔ (bi = 0 ∨ (a.suffix ≠ 0 ∧ b.suffix ≠ 0 ∧ a.suffix ≠ b.suffix) ∨ (nm = 0 ∧ nu ≠ 3) ∨ (nu = 0 ∧ pl ≠ 3) ∨ ((a.twin || b.twin) = true ∧ nu ≠ 3 ∧ nm ≠ 3)) := by
  unfold verdN
  by_cases h1 : bi = 0
  · rw [if_pos h1]; exact ⟨fun _ => .inl h1, fun _ => rfl⟩
  rw [if_neg h1]
  by_cases h2 : a.suffix ≠ 0 ∧ b.suffix ≠ 0 ∧ a.suffix ≠ b.suffix
  · rw [if_pos h2]; exact ⟨fun _ => .inr (.inl h2), fun _ => rfl⟩
  rw [if_neg h2]
  by_cases h3 : nm = 0 ∧ nu ≠ 3
  · rw [if_pos h3]; exact ⟨fun _ => .inr (.inr (.inl h3)), fun _ => rfl⟩
  rw [if_neg h3]
  by_cases h4 : nu = 0 ∧ pl ≠ 3
  · rw [if_pos h4]; exact ⟨fun _ => .inr (.inr (.inr (.inl h4))), fun _ => rfl⟩
  rw [if_neg h4]
  by_cases h5 : (a.twin || b.twin) = true ∧ nu ≠ 3 ∧ nm ≠ 3
  · rw [if_pos h5]; exact ⟨fun _ => .inr (.inr (.inr (.inr h5))), fun _ => rfl⟩
  rw [if_neg h5]
  constructor
  · intro h
    split at h
    · cases h
    · split at h <;> cases h
  · rintro (h | h | h | h | h) <;> contradiction
theorem verdN_two (a b : Rcd) (nm nu bi pl : Int) : verdN a b nm nu bi pl = 2 ↔ verdN a b nm nu bi pl ≠ 0 ∧ ((nu = 3 ∧ 2 ≤ nm) ∨ ((a.twin || b.twin) = false ∧ nm = 3 ∧ bi = 3 ∧ pl = 3)) := by
  by_cases hz : verdN a b nm nu bi pl = 0
  · rw [hz]; simp
  · have hz' := hz
    rw [verdN_z] at hz'
    have h1 : ¬ bi = 0 := fun h => hz' (.inl h)
    have h2 : ¬ (a.suffix ≠ 0 ∧ b.suffix ≠ 0 ∧ a.suffix ≠ b.suffix) := fun h => hz' (.inr (.inl h))
    have h3 : ¬ (nm = 0 ∧ nu ≠ 3) := fun h => hz' (.inr (.inr (.inl h)))
    have h4 : ¬ (nu = 0 ∧ pl ≠ 3) := fun h => hz' (.inr (.inr (.inr (.inl h))))
    have h5 : ¬ ((a.twin || b.twin) = true ∧ nu ≠ 3 ∧ nm ≠ 3) := fun h => hz' (.inr (.inr (.inr (.inr h))))
    have e : verdN a b nm nu bi pl = if nu = 3 ∧ 2 ≤ nm then 2 else if (a.twin || b.twin) = false ∧ nm = 3 ∧ bi = 3 ∧ pl = 3 then 2 else 1 := by
      unfold verdN
      rw [if_neg h1, if_neg h2, if_neg h3, if_neg h4, if_neg h5]
    constructor
    · intro h
      refine ⟨hz, ?_⟩
      rw [e] at h
      split at h
      · rename_i h6; exact .inl h6
      · split at h
        · rename_i h7; exact .inr h7
        · cases h
    · rintro ⟨_, h | h⟩
      · rw [e, if_pos h]
      · rw [e, if_pos h]
        by_cases h' : nu = 3 ∧ 2 ≤ nm
        · rw [if_pos h']
        · rw [if_neg h']
theorem verdN_mono (a b : Rcd) {nm nu bi pl nm' nu' bi' : Int} (h1 : nm ≤ nm') (h2 : nu ≤ nu') (h3 : bi ≤ bi')
    (r1 : nm = 0 ∨ nm = 2 ∨ nm = 3) (r1' : nm' = 0 ∨ nm' = 2 ∨ nm' = 3) (r2 : nu = 0 ∨ nu = 1 ∨ nu = 2 ∨ nu = 3) (r2' : nu' = 0 ∨ nu' = 1 ∨ nu' = 2 ∨ nu' = 3) (r3 : bi = 0 ∨ bi = 1 ∨ bi = 3) (r3' : bi' = 0 ∨ bi' = 1 ∨ bi' = 3) :
    verdN a b nm nu bi pl ≤ verdN a b nm' nu' bi' pl := by
  have hz : verdN a b nm' nu' bi' pl = 0 → verdN a b nm nu bi pl = 0 := by
    rw [verdN_z, verdN_z]
    rintro (h | h | h | h | ⟨h, h'⟩)
    · exact .inl (by omega)
    · exact .inr (.inl h)
    · exact .inr (.inr (.inl (by omega)))
    · exact .inr (.inr (.inr (.inl (by omega))))
    · exact .inr (.inr (.inr (.inr ⟨h, by omega⟩)))
  have ht : verdN a b nm nu bi pl = 2 → verdN a b nm' nu' bi' pl = 2 := by
    intro h
    obtain ⟨k1, k2⟩ := (verdN_two _ _ _ _ _ _).1 h
    refine (verdN_two _ _ _ _ _ _).2 ⟨fun e => k1 (hz e), ?_⟩
    rcases k2 with k2 | ⟨k2, k3⟩
    · exact .inl (by omega)
    · exact .inr ⟨k2, by omega⟩
  have q := verdN_range a b nm nu bi pl
  have q' := verdN_range a b nm' nu' bi' pl
  omega
/-- Rules that allow more. -/
theorem cmpN_mono {r r' : Rul} (h1 : r.letters ≤ r'.letters) (h2 : r.digits ≤ r'.digits) (h3 : r.days ≤ r'.days) (h4 : r.together = r'.together) (a b : Rcd) :
    (cmpN r a b).nm ≤ (cmpN r' a b).nm ∧ (cmpN r a b).nu ≤ (cmpN r' a b).nu ∧ (cmpN r a b).bi ≤ (cmpN r' a b).bi ∧ (cmpN r a b).pl = (cmpN r' a b).pl ∧ (cmpN r a b).vd ≤ (cmpN r' a b).vd := by
  unfold cmpN
  dsimp only
  rw [← h4]
  exact ⟨namesN_mono h1 _ _, numN_mono h2 _ _, birN_mono h3 _ _ _ _, rfl, verdN_mono a b (namesN_mono h1 _ _) (numN_mono h2 _ _) (birN_mono h3 _ _ _ _) (namesN_range _ _ _) (namesN_range _ _ _) (numN_range _ _ _) (numN_range _ _ _) (birN_range _ _ _ _ _) (birN_range _ _ _ _ _)⟩
theorem cmpN_range (r : Rul) (a b : Rcd) : (0 ≤ (cmpN r a b).nm ∧ (cmpN r a b).nm ≤ 3) ∧ (0 ≤ (cmpN r a b).nu ∧ (cmpN r a b).nu ≤ 3) ∧ (0 ≤ (cmpN r a b).bi ∧ (cmpN r a b).bi ≤ 3) ∧ (0 ≤ (cmpN r a b).pl ∧ (cmpN r a b).pl ≤ 3) ∧ (0 ≤ (cmpN r a b).vd ∧ (cmpN r a b).vd ≤ 2) := by
  have h1 := namesN_range r.letters a.names b.names
  have h2 := numN_range r.digits a.number b.number
  have h3 := birN_range r.days a.lo a.hi b.lo b.hi
  have h4 := placesN_range r.together a.stays b.stays
  have h5 := verdN_range a b (namesN r.letters a.names b.names) (numN r.digits a.number b.number) (birN r.days a.lo a.hi b.lo b.hi) (placesN r.together a.stays b.stays)
  unfold cmpN
  dsimp only
  refine ⟨?_, ?_, ?_, ?_, ?_⟩ <;> omega
theorem oneB_self (x : ByteArray) : oneB x x = true := by unfold oneB; simp
theorem alikeB_self (x : ByteArray) (k : Int) : alikeB x x k = true := alike_one (oneB_self x)
theorem among_self (k : Int) (xs : List ByteArray) : amongB k xs xs = true := by
  rw [among_eq k xs xs rfl, List.all_eq_true]
  intro p hp
  obtain ⟨i, hi, rfl⟩ := List.getElem_of_mem hp
  rw [List.getElem_zip]
  exact alikeB_self _ _
theorem namesN_self (k : Int) (xs : List ByteArray) : namesN k xs xs = 3 := by
  unfold namesN
  rw [if_neg (by omega)]
  unfold namesO
  rw [if_pos ⟨rfl, among_self _ _⟩]
theorem offN_zero {p q : ByteArray} : ∀ k, offN p q k = 0 ↔ ∀ j, j < k → byt p j = byt q j := by
  intro k
  induction k with
  | zero => simp [offN]
  | succ k ih =>
    unfold offN
    constructor
    · intro h j hj
      by_cases e : byt p k = byt q k
      · by_cases hj' : j = k
        · subst hj'; exact e
        · exact ih.1 (by omega) j (by omega)
      · rw [if_neg e] at h; omega
    · intro h
      rw [if_pos (h k (by omega)), ih.2 (fun j hj => h j (by omega))]
theorem numN_self (d : Int) (p : ByteArray) (h : p.size ≠ 0) : numN d p p = 3 := by
  unfold numN
  rw [if_neg (by omega), if_pos ((offN_zero 9).2 (fun _ _ => rfl))]
theorem numN_same {d : Int} {p q : ByteArray} (hp : p.size = 0 ∨ p.size = 9) (hq : q.size = 0 ∨ q.size = 9) : numN d p q = 3 ↔ p.size ≠ 0 ∧ p = q := by
  constructor
  · intro h
    unfold numN at h
    split at h
    · cases h
    · rename_i hz
      split at h
      · rename_i ho
        have h1 : p.size = 9 := by omega
        have h2 : q.size = 9 := by omega
        exact ⟨by omega, bytes_ext (by omega) (fun j hj => (offN_zero 9).1 ho j (by omega))⟩
      · split at h <;> cases h
  · rintro ⟨h1, rfl⟩
    exact numN_self d p h1
theorem birN_self {d l h : Int} (hd : 0 ≤ d) (hl : l ≤ h) : birN d l h l h ≠ 0 := by
  unfold birN
  split
  · omega
  · rw [if_pos ⟨by omega, by omega⟩]; omega
/-- What a valid record is. -/
theorem ok_parts {a : Rcd} (h : a.ok = true) : (0 ≤ a.lo ∧ a.lo ≤ a.hi ∧ a.hi ≤ 100000) ∧ (a.number.size = 0 ∨ a.number.size = 9) ∧ a.suffix ≤ 2 := by
  unfold Rcd.ok inB at h
  simp only [Bool.and_eq_true, decide_eq_true_eq, Bool.or_eq_true] at h
  omega
theorem rul_parts {r : Rul} (h : r.ok = true) : (0 ≤ r.letters ∧ r.letters ≤ 5) ∧ (0 ≤ r.digits ∧ r.digits ≤ 5) ∧ (0 ≤ r.days ∧ r.days ≤ 1000) ∧ (1 ≤ r.together ∧ r.together ≤ 1000) := by
  unfold Rul.ok inB at h
  simp only [Bool.and_eq_true, decide_eq_true_eq] at h
  omega
/-- A record and itself. -/
theorem cmpN_self {r : Rul} {a : Rcd} (hr : r.ok = true) (ha : a.ok = true) : (cmpN r a a).nm = 3 ∧ ((cmpN r a a).nu = 3 ↔ a.number.size ≠ 0) ∧ (cmpN r a a).vd ≠ 0 := by
  obtain ⟨⟨h1, h2, h3⟩, h4, _⟩ := ok_parts ha
  obtain ⟨_, _, h5, _⟩ := rul_parts hr
  have hb := birN_self (d := r.days) h5.1 h2
  have hn : (cmpN r a a).nu = 3 ↔ a.number.size ≠ 0 := by
    show numN _ _ _ = 3 ↔ _
    rw [numN_same h4 h4]; simp
  refine ⟨namesN_self _ _, hn, ?_⟩
  show verdN a a (namesN _ _ _) (numN _ _ _) (birN _ _ _ _ _) (placesN _ _ _) ≠ 0
  rw [namesN_self]
  unfold verdN
  rw [if_neg hb, if_neg (by omega), if_neg (by omega)]
  have hn2 : numN r.digits a.number a.number ≠ 0 := by
    unfold numN
    split
    · omega
    · rw [if_pos ((offN_zero 9).2 (fun _ _ => rfl))]; omega
  rw [if_neg (by omega), if_neg (by omega)]
  repeat' split
  all_goals omega
/-- What keeps two records apart. -/
theorem cmpN_apart {r : Rul} {a b : Rcd} (hr : r.ok = true) (ha : a.ok = true) (hb : b.ok = true)
    (h : (a.hi < b.lo - r.days ∨ b.hi < a.lo - r.days) ∨ (a.suffix ≠ 0 ∧ b.suffix ≠ 0 ∧ a.suffix ≠ b.suffix) ∨ ((a.twin || b.twin) = true ∧ (a.number.size = 0 ∨ a.number ≠ b.number) ∧ (cmpN r a b).nm ≠ 3)) : (cmpN r a b).vd = 0 := by
  obtain ⟨⟨h1, h2, h3⟩, h4, _⟩ := ok_parts ha
  obtain ⟨⟨k1, k2, k3⟩, k4, _⟩ := ok_parts hb
  obtain ⟨_, _, h5, _⟩ := rul_parts hr
  show verdN a b (namesN _ _ _) (numN _ _ _) (birN _ _ _ _ _) (placesN _ _ _) = 0
  rcases h with h | h | ⟨g1, g2, g3⟩
  · have : birN r.days a.lo a.hi b.lo b.hi = 0 := by
      unfold birN
      rw [if_neg (by omega), if_neg (by omega)]
    unfold verdN
    rw [if_pos this]
  · rw [verdN_z]; exact .inr (.inl h)
  · have hn : numN r.digits a.number b.number ≠ 3 := by
      rw [Ne, numN_same h4 k4]
      rintro ⟨e1, e2⟩
      rcases g2 with g2 | g2
      · exact e1 g2
      · exact g2 e2
    have g3' : namesN r.letters a.names b.names ≠ 3 := g3
    rw [verdN_z]
    exact .inr (.inr (.inr (.inr ⟨g1, hn, g3'⟩)))
/-- What says that two records are one person's. -/
theorem cmpN_sure {r : Rul} {a b : Rcd} (ha : a.ok = true) (hb : b.ok = true) (h : (cmpN r a b).vd = 2) :
    (a.number.size ≠ 0 ∧ a.number = b.number) ∨ ((cmpN r a b).nm = 3 ∧ a.lo = b.lo ∧ a.hi = b.hi ∧ a.lo = a.hi ∧ a.twin = false ∧ b.twin = false) := by
  obtain ⟨_, h4, _⟩ := ok_parts ha
  obtain ⟨_, k4, _⟩ := ok_parts hb
  have h' : verdN a b (namesN r.letters a.names b.names) (numN r.digits a.number b.number) (birN r.days a.lo a.hi b.lo b.hi) (placesN r.together a.stays b.stays) = 2 := h
  by_cases hn : numN r.digits a.number b.number = 3
  · exact .inl ((numN_same h4 k4).1 hn)
  · right
    show namesN r.letters a.names b.names = 3 ∧ _
    unfold verdN at h'
    split at h'
    · cases h'
    · split at h'
      · cases h'
      · split at h'
        · cases h'
        · split at h'
          · cases h'
          · split at h'
            · cases h'
            · split at h'
              · rename_i q; exact absurd q.1 hn
              · split at h'
                · rename_i q
                  obtain ⟨q1, q2, q3, _⟩ := q
                  have hb3 : a.lo = b.lo ∧ a.hi = b.hi ∧ a.lo = a.hi := by
                    unfold birN at q3
                    split at q3
                    · assumption
                    · split at q3 <;> cases q3
                  have ht : a.twin = false ∧ b.twin = false := by simpa using q1
                  exact ⟨q2, hb3.1, hb3.2.1, hb3.2.2, ht.1, ht.2⟩
                · cases h'
/-- The same record, with no place told. -/
def Rcd.lone (a : Rcd) : Rcd := { a with stays := [] }
theorem Rcd.lone_ok {a : Rcd} (h : a.ok = true) : a.lone.ok = true := by
  unfold Rcd.ok Rcd.lone at *
  simp only [Bool.and_eq_true, decide_eq_true_eq] at *
  obtain ⟨⟨⟨⟨⟨⟨⟨⟨h1, h2⟩, h3⟩, h4⟩, h5⟩, h6⟩, h7⟩, h8⟩, h9⟩ := h
  exact ⟨⟨⟨⟨⟨⟨⟨⟨h1, h2⟩, h3⟩, h4⟩, h5⟩, by simp⟩, by simp⟩, h8⟩, h9⟩
theorem cmpN_lone (r : Rul) (a b : Rcd) : (cmpN r a.lone b).pl = 1 ∧ (cmpN r a.lone b).vd ≤ (cmpN r a b).vd ∧ (cmpN r a.lone b).nm = (cmpN r a b).nm ∧ (cmpN r a.lone b).nu = (cmpN r a b).nu ∧ (cmpN r a.lone b).bi = (cmpN r a b).bi := by
  have hp : placesN r.together [] b.stays = 1 := by
    unfold placesN
    have : placesB r.together [] b.stays = false := by
      cases h : placesB r.together [] b.stays with
      | false => rfl
      | true =>
        obtain ⟨s, _, o, ho, _⟩ := (placesB_iff _ _ _).1 h
        cases ho
    rw [this]; rfl
  refine ⟨hp, ?_, rfl, rfl, rfl⟩
  show verdN a.lone b (namesN r.letters a.names b.names) (numN r.digits a.number b.number) (birN r.days a.lo a.hi b.lo b.hi) (placesN r.together [] b.stays) ≤ verdN a b (namesN r.letters a.names b.names) (numN r.digits a.number b.number) (birN r.days a.lo a.hi b.lo b.hi) (placesN r.together a.stays b.stays)
  rw [hp]
  have hpl := placesN_range r.together a.stays b.stays
  have e1 : a.lone.suffix = a.suffix := rfl
  have e2 : a.lone.twin = a.twin := rfl
  generalize placesN r.together a.stays b.stays = pl at hpl ⊢
  generalize namesN r.letters a.names b.names = nm
  generalize numN r.digits a.number b.number = nu
  generalize birN r.days a.lo a.hi b.lo b.hi = bi
  have e : ∀ p, verdN a.lone b nm nu bi p = verdN a b nm nu bi p := fun p => rfl
  rw [e]
  have hz : verdN a b nm nu bi pl = 0 → verdN a b nm nu bi 1 = 0 := by
    rw [verdN_z, verdN_z]
    rintro (h | h | h | h | h)
    · exact .inl h
    · exact .inr (.inl h)
    · exact .inr (.inr (.inl h))
    · exact .inr (.inr (.inr (.inl ⟨h.1, by omega⟩)))
    · exact .inr (.inr (.inr (.inr h)))
  have ht : verdN a b nm nu bi 1 = 2 → verdN a b nm nu bi pl = 2 := by
    intro h
    obtain ⟨k1, k2⟩ := (verdN_two _ _ _ _ _ _).1 h
    refine (verdN_two _ _ _ _ _ _).2 ⟨fun e => k1 (hz e), ?_⟩
    rcases k2 with k2 | ⟨k2, k3⟩
    · exact .inl k2
    · exact absurd k3.2.2 (by omega)
  have q := verdN_range a b nm nu bi 1
  have q' := verdN_range a b nm nu bi pl
  omega
end Go.Proofs.Ytlkjimfkapcenaa
