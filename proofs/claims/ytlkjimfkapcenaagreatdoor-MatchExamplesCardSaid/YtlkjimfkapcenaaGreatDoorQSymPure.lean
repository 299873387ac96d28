/- The plain theory of the merge in Go's stable sort: swaps of ranges, rotations, the cut of a merge. For any order. -/
import Derived.Sort.LotA
namespace Go.Proofs.YtlkjimfkapcenaaGreatDoor
open Go.Sort
variable {α : Type} [Inhabited α]

/-- Where the places of x u v y lie in x v u y: u = [a, m), v = [m, b). -/
def rotI (a m b i : Nat) : Nat := if a ≤ i ∧ i < a + (b - m) then i - a + m else if a + (b - m) ≤ i ∧ i < b then i - (b - m) else i
/-- Where the places lie when n places from a on and n places from b on are exchanged. -/
def swI (a b n i : Nat) : Nat := if a ≤ i ∧ i < a + n then i - a + b else if b ≤ i ∧ i < b + n then i - b + a else i
/-- d' is d with its places moved by f. -/
def Moved (f : Nat → Nat) (d d' : Array α) : Prop := ∀ i, i < d.size → d'[i]! = d[f i]!
/-- Go's swapRange. -/
def swR (d : Array α) (a b : Nat) : Nat → Array α
  | 0 => d
  | k + 1 => swp (swR d a b k) (a + k) (b + k)
theorem swR_size (d : Array α) (a b n : Nat) : (swR d a b n).size = d.size := by
  induction n with
  | zero => rfl
  | succ n ih => rw [swR, swp_size, ih]
theorem swR_permIn (d : Array α) (lo hi a b n : Nat) (h1 : lo ≤ a) (h2 : lo ≤ b) (h3 : a + n ≤ hi) (h4 : b + n ≤ hi) (hs : hi ≤ d.size) : PermIn lo hi d (swR d a b n) := by
  induction n with
  | zero => exact permIn_refl _ _ _
  | succ n ih => exact permIn_trans _ _ _ _ _ (ih (by omega) (by omega)) (swp_permIn _ _ _ _ _ (by omega) (by omega) (by omega) (by omega) (by rw [swR_size]; exact hs))
theorem swR_moved (d : Array α) (a b n : Nat) (h : a + n ≤ b) (hs : b + n ≤ d.size) : Moved (swI a b n) d (swR d a b n) := by
  induction n with
  | zero =>
    intro i _
    have : swI a b 0 i = i := by unfold swI; split <;> (try omega); split <;> omega
    rw [this]; rfl
  | succ n ih =>
    intro i hi
    have ih := ih (by omega) (by omega)
    rw [swR, swp_get _ (by rw [swR_size]; omega) (by rw [swR_size]; omega)]
    have e1 : swI a b n (a + n) = a + n := by unfold swI; split <;> (try omega); split <;> omega
    have e2 : swI a b n (b + n) = b + n := by unfold swI; split <;> (try omega); split <;> omega
    by_cases q1 : i = b + n
    · subst q1
      rw [if_pos rfl, ih _ (by omega), e1]
      congr 1
      unfold swI; split <;> (try omega); split <;> omega
    · rw [if_neg q1]
      by_cases q2 : i = a + n
      · subst q2
        rw [if_pos rfl, ih _ (by omega), e2]
        congr 1
        unfold swI; split <;> (try omega)
      · rw [if_neg q2, ih _ hi]
        congr 1
        unfold swI; split <;> split <;> (try omega) <;> split <;> (try omega) <;> split <;> omega

/-- What the loop of rotate keeps: what is left to rotate lies around m, i places left of it and j places right of it. -/
def RotInv (a m b : Nat) (d : Array α) (i j : Nat) (dk : Array α) : Prop :=
  dk.size = d.size ∧ PermIn a b d dk ∧ ∀ x, x < d.size → d[rotI a m b x]! = dk[rotI (m - i) m (m + j) x]!
theorem RotInv.start {a m b : Nat} (d : Array α) (h1 : a ≤ m) (h2 : m ≤ b) : RotInv a m b d (m - a) (b - m) d := by
  refine ⟨rfl, permIn_refl _ _ _, fun x _ => ?_⟩
  rw [show m - (m - a) = a by omega, show m + (b - m) = b by omega]
theorem RotInv.gt {a m b : Nat} {d : Array α} {i j : Nat} {dk : Array α} (h : RotInv a m b d i j dk) (hij : j < i) (h1 : a + i ≤ m) (h2 : m + j ≤ b) (hb : b ≤ d.size) : RotInv a m b d (i - j) j (swR dk (m - i) m j) := by
  obtain ⟨hs, hp, hx⟩ := h
  refine ⟨by rw [swR_size]; exact hs, permIn_trans _ _ _ _ _ hp (swR_permIn _ _ _ _ _ _ (by omega) (by omega) (by omega) (by omega) (by omega)), fun x hxd => ?_⟩
  rw [hx x hxd, swR_moved dk (m - i) m j (by omega) (by omega) _ ?_]
  · congr 1
    unfold swI rotI
    repeat' split
    all_goals omega
  · unfold rotI
    repeat' split
    all_goals omega
theorem RotInv.lt {a m b : Nat} {d : Array α} {i j : Nat} {dk : Array α} (h : RotInv a m b d i j dk) (hij : i < j) (h1 : a + i ≤ m) (h2 : m + j ≤ b) (hb : b ≤ d.size) : RotInv a m b d i (j - i) (swR dk (m - i) (m + j - i) i) := by
  obtain ⟨hs, hp, hx⟩ := h
  refine ⟨by rw [swR_size]; exact hs, permIn_trans _ _ _ _ _ hp (swR_permIn _ _ _ _ _ _ (by omega) (by omega) (by omega) (by omega) (by omega)), fun x hxd => ?_⟩
  rw [hx x hxd, swR_moved dk (m - i) (m + j - i) i (by omega) (by omega) _ ?_]
  · congr 1
    unfold swI rotI
    repeat' split
    all_goals omega
  · unfold rotI
    repeat' split
    all_goals omega
theorem RotInv.done {a m b : Nat} {d : Array α} {i : Nat} {dk : Array α} (h : RotInv a m b d i i dk) (h1 : a + i ≤ m) (h2 : m + i ≤ b) (hb : b ≤ d.size) : PermIn a b d (swR dk (m - i) m i) ∧ Moved (rotI a m b) d (swR dk (m - i) m i) := by
  obtain ⟨hs, hp, hx⟩ := h
  refine ⟨permIn_trans _ _ _ _ _ hp (swR_permIn _ _ _ _ _ _ (by omega) (by omega) (by omega) (by omega) (by omega)), fun x hxd => ?_⟩
  rw [hx x hxd, swR_moved dk (m - i) m i (by omega) (by omega) _ (by omega)]
  congr 1
  unfold swI rotI
  repeat' split
  all_goals omega

section
variable (R : α → α → Prop) (lt : α → α → Bool)
/-- Ascending by R. -/
def RIn (a b : Nat) (d : Array α) : Prop := ∀ i j, a ≤ i → i < j → j < b → R d[i]! d[j]!
/-- Two ascending parts, and what a comparison of one of the right with one of the left says. -/
structure Two (a m b : Nat) (d : Array α) : Prop where
  left : RIn R a m d
  right : RIn R m b d
  yes : ∀ i j, a ≤ i → i < m → m ≤ j → j < b → lt d[j]! d[i]! = true → R d[j]! d[i]!
  no : ∀ i j, a ≤ i → i < m → m ≤ j → j < b → lt d[j]! d[i]! = false → R d[i]! d[j]!
variable {R} {lt}

/-- One of the left goes into the right. -/
theorem Two.one_left (ht : ∀ x y z, R x y → R y z → R x z) {a b i : Nat} {d d' : Array α} (h : Two R lt a (a + 1) b d) (h1 : a + 1 ≤ i) (h2 : i ≤ b) (hb : b ≤ d.size) (hy' : i = a + 1 ∨ lt d[i - 1]! d[a]! = true) (hn' : i = b ∨ lt d[i]! d[a]! = false)
    (hm : Moved (rotI a (a + 1) i) d d') : RIn R a b d' := by
  have hy : ∀ x, a + 1 ≤ x → x < i → R d[x]! d[a]! := fun x k1 k2 => by
    have q := h.yes a (i - 1) (by omega) (by omega) (by omega) (by omega) (hy'.resolve_left (by omega))
    by_cases e : x = i - 1
    · subst e; exact q
    · exact ht _ _ _ (h.right x (i - 1) (by omega) (by omega) (by omega)) q
  have hn : ∀ x, i ≤ x → x < b → R d[a]! d[x]! := fun x k1 k2 => by
    have q := h.no a i (by omega) (by omega) (by omega) (by omega) (hn'.resolve_left (by omega))
    by_cases e : x = i
    · subst e; exact q
    · exact ht _ _ _ q (h.right i x (by omega) (by omega) (by omega))
  intro p q hp hpq hq
  rw [hm p (by omega), hm q (by omega)]
  unfold rotI
  repeat' split
  all_goals first
    | (exfalso; omega)
    | (refine h.right _ _ ?_ ?_ ?_ <;> omega)
    | (have e : p - (i - (a + 1)) = a := by omega
       rw [e]
       exact hn _ (by omega) (by omega))
    | (have e : q - (i - (a + 1)) = a := by omega
       rw [e]
       exact hy _ (by omega) (by omega))
/-- One of the right goes into the left. -/
theorem Two.one_right (ht : ∀ x y z, R x y → R y z → R x z) {a m i : Nat} {d d' : Array α} (h : Two R lt a m (m + 1) d) (h1 : a ≤ i) (h2 : i ≤ m) (hb : m + 1 ≤ d.size) (hn' : i = a ∨ lt d[m]! d[i - 1]! = false) (hy' : i = m ∨ lt d[m]! d[i]! = true)
    (hm : Moved (rotI i m (m + 1)) d d') : RIn R a (m + 1) d' := by
  have hn : ∀ x, a ≤ x → x < i → R d[x]! d[m]! := fun x k1 k2 => by
    have q := h.no (i - 1) m (by omega) (by omega) (by omega) (by omega) (hn'.resolve_left (by omega))
    by_cases e : x = i - 1
    · subst e; exact q
    · exact ht _ _ _ (h.left x (i - 1) (by omega) (by omega) (by omega)) q
  have hy : ∀ x, i ≤ x → x < m → R d[m]! d[x]! := fun x k1 k2 => by
    have q := h.yes i m (by omega) (by omega) (by omega) (by omega) (hy'.resolve_left (by omega))
    by_cases e : x = i
    · subst e; exact q
    · exact ht _ _ _ q (h.left i x (by omega) (by omega) (by omega))
  intro p q hp hpq hq
  rw [hm p (by omega), hm q (by omega)]
  unfold rotI
  repeat' split
  all_goals first
    | (exfalso; omega)
    | (refine h.left _ _ ?_ ?_ ?_ <;> omega)
    | (have e : p - i + m = m := by omega
       rw [e]
       exact hy _ (by omega) (by omega))
    | (have e : q - i + m = m := by omega
       rw [e]
       exact hn _ (by omega) (by omega))
/-- A step of what goes up, of what goes down. -/
theorem swp_moved (d : Array α) (i : Nat) (h : i + 1 < d.size) : Moved (swI i (i + 1) 1) d (swp d i (i + 1)) := swR_moved d i (i + 1) 1 (Nat.le_refl _) h
theorem swp_comm (d : Array α) (i j : Nat) (hi : i < d.size) (hj : j < d.size) : swp d i j = swp d j i := by
  apply Array.ext
  · simp [swp_size]
  · intro x h1 h2
    have e1 := swp_get d hi hj x
    have e2 := swp_get d hj hi x
    rw [getElem!_pos _ x h1] at e1
    rw [getElem!_pos _ x h2] at e2
    rw [e1, e2]
    by_cases c1 : x = i
    · subst c1
      by_cases c2 : x = j
      · subst c2; rfl
      · simp [c2]
    · simp [c1]
def UpInv (a b k : Nat) (d dk : Array α) : Prop := dk.size = d.size ∧ PermIn a b d dk ∧ Moved (rotI a (a + 1) (k + 1)) d dk
theorem UpInv.start (a b : Nat) (d : Array α) : UpInv a b a d d := ⟨rfl, permIn_refl _ _ _, fun x _ => by
  congr 1
  unfold rotI
  (repeat' split) <;> omega⟩
theorem UpInv.step {a b k : Nat} {d dk : Array α} (h : UpInv a b k d dk) (ha : a ≤ k) (hk : k + 1 < b) (hb : b ≤ d.size) : UpInv a b (k + 1) d (swp dk k (k + 1)) := by
  obtain ⟨h1, h2, h3⟩ := h
  refine ⟨by rw [swp_size]; exact h1, permIn_trans _ _ _ _ _ h2 (swp_permIn _ _ _ _ _ ha (by omega) (by omega) hk (by omega)), fun x hx => ?_⟩
  rw [swp_moved dk k (by omega) x (by omega), h3 _ ?_]
  · congr 1
    unfold rotI swI
    repeat' split
    all_goals omega
  · unfold swI
    repeat' split
    all_goals omega
def DownInv (a m k : Nat) (d dk : Array α) : Prop := dk.size = d.size ∧ PermIn a (m + 1) d dk ∧ Moved (rotI k m (m + 1)) d dk
theorem DownInv.start (a m : Nat) (d : Array α) : DownInv a m m d d := ⟨rfl, permIn_refl _ _ _, fun x _ => by
  congr 1
  unfold rotI
  (repeat' split) <;> omega⟩
theorem DownInv.step {a m k : Nat} {d dk : Array α} (h : DownInv a m (k + 1) d dk) (ha : a ≤ k) (hk : k < m) (hb : m + 1 ≤ d.size) : DownInv a m k d (swp dk (k + 1) k) := by
  obtain ⟨h1, h2, h3⟩ := h
  refine ⟨by rw [swp_size]; exact h1, permIn_trans _ _ _ _ _ h2 (swp_permIn _ _ _ _ _ (by omega) (by omega) ha (by omega) (by omega)), fun x hx => ?_⟩
  rw [swp_comm _ _ _ (by omega) (by omega), swp_moved dk k (by omega) x (by omega), h3 _ ?_]
  · congr 1
    unfold rotI swI
    repeat' split
    all_goals omega
  · unfold swI
    repeat' split
    all_goals omega

/-- What the cut of a merge gives. -/
structure Cut (R : α → α → Prop) (a m b mid s e : Nat) (d : Array α) : Prop where
  sum : s + e = mid + m
  as : a ≤ s
  sm : s ≤ m
  me : m ≤ e
  eb : e ≤ b
  smid : s ≤ mid
  mide : mid ≤ e
  low : ∀ i j, a ≤ i → i < s → e ≤ j → j < b → R d[i]! d[j]!
  high : ∀ i j, s ≤ i → i < m → m ≤ j → j < e → R d[j]! d[i]!
theorem Two.cut (ht : ∀ x y z, R x y → R y z → R x z) {a m b s0 r0 s : Nat} {d : Array α} (h : Two R lt a m b d) (h1 : a < m) (h2 : m < b)
    (h0 : (m > (a + b) / 2 ∧ s0 = (a + b) / 2 + m - b ∧ r0 = (a + b) / 2) ∨ (m ≤ (a + b) / 2 ∧ s0 = a ∧ r0 = m)) (hs : s0 ≤ s) (hr : s ≤ r0)
    (hn : s = s0 ∨ lt d[(a + b) / 2 + m - 1 - (s - 1)]! d[s - 1]! = false) (hy : s = r0 ∨ lt d[(a + b) / 2 + m - 1 - s]! d[s]! = true) :
    Cut R a m b ((a + b) / 2) s ((a + b) / 2 + m - s) d := by
  have le : ∀ i j, a ≤ i → i ≤ j → j < m → ∀ z, R d[j]! z → R d[i]! z := fun i j h1 h2 h3 z hz => by
    rcases Nat.eq_or_lt_of_le h2 with rfl | h4
    · exact hz
    · exact ht _ _ _ (h.left _ _ h1 h4 h3) hz
  have le2 : ∀ i j, m ≤ i → i ≤ j → j < b → ∀ z, R z d[i]! → R z d[j]! := fun i j h1 h2 h3 z hz => by
    rcases Nat.eq_or_lt_of_le h2 with rfl | h4
    · exact hz
    · exact ht _ _ _ hz (h.right _ _ h1 h4 h3)
  have le3 : ∀ i j, a ≤ i → i ≤ j → j < m → ∀ z, R z d[i]! → R z d[j]! := fun i j h1 h2 h3 z hz => by
    rcases Nat.eq_or_lt_of_le h2 with rfl | h4
    · exact hz
    · exact ht _ _ _ hz (h.left _ _ h1 h4 h3)
  have le4 : ∀ i j, m ≤ i → i ≤ j → j < b → ∀ z, R d[j]! z → R d[i]! z := fun i j h1 h2 h3 z hz => by
    rcases Nat.eq_or_lt_of_le h2 with rfl | h4
    · exact hz
    · exact ht _ _ _ (h.right _ _ h1 h4 h3) hz
  refine ⟨by omega, by omega, by omega, by omega, by omega, by omega, by omega, fun i j hi his hj hjb => ?_, fun i j hi him hj hje => ?_⟩
  · by_cases c : s = s0
    · exfalso; omega
    · have hn := hn.resolve_left c
      have q := h.no (s - 1) _ (by omega) (by omega) (by omega) (by omega) hn
      exact le i (s - 1) hi (by omega) (by omega) _ (le2 _ j (by omega) (by omega) hjb _ q)
  · by_cases c : s = r0
    · exfalso; omega
    · have hy := hy.resolve_left c
      have q := h.yes s _ (by omega) (by omega) (by omega) (by omega) hy
      exact le3 s i (by omega) hi him _ (le4 j _ hj (by omega) (by omega) _ q)

/-- Behind the rotation: two merges, and all of the first below all of the second. -/
theorem Cut.turned {a m b mid s e : Nat} {d d' : Array α} (h : Two R lt a m b d) (c : Cut R a m b mid s e d) (hb : b ≤ d.size) (hm : Moved (rotI s m e) d d') :
    Two R lt a s mid d' ∧ Two R lt mid e b d' ∧ ∀ i j, a ≤ i → i < mid → mid ≤ j → j < b → R d'[i]! d'[j]! := by
  obtain ⟨c1, c2, c3, c4, c5, c6, c7, cl, ch⟩ := c
  have e1 : ∀ x, x < s → rotI s m e x = x := fun x hx => by (unfold rotI; (repeat' split) <;> omega)
  have e2 : ∀ x, s ≤ x → x < mid → rotI s m e x = x - s + m := fun x hx hx' => by (unfold rotI; (repeat' split) <;> omega)
  have e3 : ∀ x, mid ≤ x → x < e → rotI s m e x = x - (e - m) := fun x hx hx' => by (unfold rotI; (repeat' split) <;> omega)
  have e4 : ∀ x, e ≤ x → rotI s m e x = x := fun x hx => by (unfold rotI; (repeat' split) <;> omega)
  refine ⟨⟨fun p q hp hpq hq => ?_, fun p q hp hpq hq => ?_, fun p q hp hpq hq hq' => ?_, fun p q hp hpq hq hq' => ?_⟩, ⟨fun p q hp hpq hq => ?_, fun p q hp hpq hq => ?_, fun p q hp hpq hq hq' => ?_, fun p q hp hpq hq hq' => ?_⟩, fun p q hp hp' hq hq' => ?_⟩
  · rw [hm p (by omega), hm q (by omega), e1 p (by omega), e1 q hq]
    exact h.left _ _ hp hpq (by omega)
  · rw [hm p (by omega), hm q (by omega), e2 p hp (by omega), e2 q (by omega) hq]
    exact h.right _ _ (by omega) (by omega) (by omega)
  · rw [hm p (by omega), hm q (by omega), e1 p hpq, e2 q hq hq']
    exact h.yes _ _ hp (by omega) (by omega) (by omega)
  · rw [hm p (by omega), hm q (by omega), e1 p hpq, e2 q hq hq']
    exact h.no _ _ hp (by omega) (by omega) (by omega)
  · rw [hm p (by omega), hm q (by omega), e3 p hp (by omega), e3 q (by omega) hq]
    exact h.left _ _ (by omega) (by omega) (by omega)
  · rw [hm p (by omega), hm q (by omega), e4 p hp, e4 q (by omega)]
    exact h.right _ _ (by omega) (by omega) (by omega)
  · rw [hm p (by omega), hm q (by omega), e3 p hp hpq, e4 q hq]
    exact h.yes _ _ (by omega) (by omega) (by omega) (by omega)
  · rw [hm p (by omega), hm q (by omega), e3 p hp hpq, e4 q hq]
    exact h.no _ _ (by omega) (by omega) (by omega) (by omega)
  · rw [hm p (by omega), hm q (by omega)]
    by_cases k1 : p < s
    · rw [e1 p k1]
      by_cases k2 : q < e
      · rw [e3 q hq k2]
        exact h.left _ _ hp (by omega) (by omega)
      · rw [e4 q (by omega)]
        exact cl _ _ hp k1 (by omega) hq'
    · rw [e2 p (by omega) hp']
      by_cases k2 : q < e
      · rw [e3 q hq k2]
        exact ch _ _ (by omega) (by omega) (by omega) (by omega)
      · rw [e4 q (by omega)]
        exact h.right _ _ (by omega) (by omega) hq'
/-- Both merged: the whole is in order. -/
theorem merged {a mid b : Nat} {d d1 d2 : Array α} (h : a ≤ mid) (h' : mid ≤ b) (hb : b ≤ d.size) (p1 : PermIn a mid d d1) (s1 : RIn R a mid d1) (p2 : PermIn mid b d1 d2) (s2 : RIn R mid b d2)
    (hc : ∀ i j, a ≤ i → i < mid → mid ≤ j → j < b → R d[i]! d[j]!) : PermIn a b d d2 ∧ RIn R a b d2 := by
  have hz : d1.size = d.size := p1.1
  refine ⟨permIn_trans _ _ _ _ _ (permIn_mono _ _ _ _ _ _ (Nat.le_refl _) h' hb p1) (permIn_mono _ _ _ _ _ _ h (Nat.le_refl _) (by omega) p2), fun i j hi hij hj => ?_⟩
  have k1 : ∀ i, a ≤ i → i < mid → ∀ j, mid ≤ j → j < b → R d1[i]! d1[j]! := fun i hi hi' j hj hj' => by
    rw [p1.2.1 j (Or.inr hj)]
    exact permIn_all d d1 a mid (fun x => ∀ j, mid ≤ j → j < b → R x d[j]!) (by omega) p1 (fun i hi hi' j hj hj' => hc i j hi hi' hj hj') i hi hi' j hj hj'
  have k2 : ∀ j, mid ≤ j → j < b → ∀ i, a ≤ i → i < mid → R d1[i]! d2[j]! :=
    permIn_all d1 d2 mid b (fun x => ∀ i, a ≤ i → i < mid → R d1[i]! x) (by omega) p2 (fun j hj hj' i hi hi' => k1 i hi hi' j hj hj')
  by_cases c1 : j < mid
  · rw [p2.2.1 i (Or.inl (by omega)), p2.2.1 j (Or.inl c1)]
    exact s1 i j hi hij c1
  · by_cases c2 : mid ≤ i
    · exact s2 i j c2 hij hj
    · rw [p2.2.1 i (Or.inl (by omega))]
      exact k2 j (by omega) hj i hi (by omega)
end
end Go.Proofs.YtlkjimfkapcenaaGreatDoor
