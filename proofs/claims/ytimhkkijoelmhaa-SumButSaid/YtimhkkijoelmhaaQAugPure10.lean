/- What the rows of an audit are made of: of each question so much as the right part says; fractions made whole. No program in sight. -/
import Derived.Test.YtimhkkijoelmhaaQHidePure10
import Derived.Test.YtimhkkijoelmhaaQSolveKit10
namespace Go.Proofs.Ytimhkkijoelmhaa
open Go.RowKit

/-- A sum of so many. -/
def sg : Nat → (Nat → Rat) → Rat
  | 0, _ => 0
  | m + 1, f => sg m f + f m
theorem sg_congr {m : Nat} {f g : Nat → Rat} (h : ∀ k, k < m → f k = g k) : sg m f = sg m g := by
  induction m with
  | zero => rfl
  | succ m ih => rw [sg, sg, ih (fun k hk => h k (by omega)), h m (by omega)]
theorem sg_sub (m : Nat) (f g : Nat → Rat) (c : Rat) : sg m (fun k => f k - g k * c) = sg m f - sg m g * c := by
  induction m with
  | zero => show (0 : Rat) = 0 - 0 * c; grind
  | succ m ih => rw [sg, sg, sg, ih]; grind
theorem sg_mul (m : Nat) (f : Nat → Rat) (c : Rat) : sg m (fun k => f k * c) = sg m f * c := by
  induction m with
  | zero => show (0 : Rat) = 0 * c; grind
  | succ m ih => rw [sg, sg, ih]; grind
theorem sg_zero (m : Nat) : sg m (fun _ => 0) = 0 := by
  induction m with
  | zero => rfl
  | succ m ih => rw [sg, ih]; grind
theorem sg_one {m k : Nat} (hk : k < m) (g : Nat → Rat) : sg m (fun i => bitR (i == k) * g i) = g k := by
  induction m with
  | zero => omega
  | succ m ih =>
    rw [sg]
    by_cases h : k = m
    · subst h
      rw [sg_congr (g := fun _ => 0) (fun i hi => by rw [show (i == k) = false by simp; omega]; show (0 : Rat) * g i = 0; grind), sg_zero, show (k == k) = true by simp]
      show (0 : Rat) + 1 * g k = g k
      grind
    · rw [ih (by omega), show (m == k) = false by simp; omega]
      show g k + 0 * g m = g k
      grind
/-- A row is made of the questions, by its right part. -/
def Aug (n m : Nat) (asks : Nat → Nat → Bool) (x : List Rat) : Prop := ∀ j, j < n → cv x j = sg m (fun k => cv x (n + k) * bitR (asks k j))
section
variable {n m : Nat} {asks : Nat → Nat → Bool}
theorem Aug.sub {x y : List Rat} (hx : Aug n m asks x) (hy : Aug n m asks y) (hl : y.length = x.length) (c : Rat) : Aug n m asks (subR x y c) := by
  intro j hj
  rw [cv_sub x y c hl, hx j hj, hy j hj, ← sg_sub]
  exact sg_congr (fun k _ => by rw [cv_sub x y c hl]; grind)
theorem Aug.div {x : List Rat} (hx : Aug n m asks x) (f : Rat) : Aug n m asks (divR x f) := by
  intro j hj
  rw [cv_div, hx j hj, ← sg_mul]
  exact sg_congr (fun k _ => by rw [cv_div]; grind)
theorem Aug.new {k : Nat} (hk : k < m) : Aug n m asks (newR n m (asks k) k) := by
  intro j hj
  have hlen := newR_len n m (asks k) k
  have e : ∀ i, i < n + m → cv (newR n m (asks k) k) i = (newR n m (asks k) k)[i]! := fun i hi => by rw [cv_lt (by omega), getElem!_pos _ i (by omega)]
  rw [e j (by omega), newR_left hj, sg_congr (g := fun i => bitR (i == k) * bitR (asks i j)) (fun i hi => by rw [e (n + i) (by omega), newR_right hi]), sg_one hk]
theorem Aug.away {N : Nat} : ∀ (L : List Rw) (x : List Rat), x.length = N → (∀ r ∈ L, r.2.length = N ∧ Aug n m asks r.2) → Aug n m asks x → Aug n m asks (awayR L x) ∧ (awayR L x).length = N := by
  intro L
  induction L with
  | nil => intro x hx _ ha; exact ⟨ha, hx⟩
  | cons r L ih =>
    intro x hx hL ha
    obtain ⟨h1, h2⟩ := hL r (by simp)
    exact ih (subR x r.2 (cv x r.1)) (by rw [subR_len _ _ _ (by omega)]; exact hx) (fun s hs => hL s (List.mem_cons_of_mem _ hs)) (ha.sub h2 (by omega) _)
theorem solveR_aug (k : Nat) (hk : k ≤ m) : ∀ r ∈ solveR n m asks k, Aug n m asks r.2 := by
  induction k with
  | zero => intro r hr; cases hr
  | succ k ih =>
    obtain ⟨q, hb, _⟩ := solveR_bk n m asks k
    have hi := ih (by omega)
    obtain ⟨h1, h2⟩ := Aug.away (N := n + m) (solveR n m asks k) (newR n m (asks k) k) (newR_len n m _ k) (fun r hr => ⟨hb.len r hr, hi r hr⟩) (Aug.new (by omega))
    intro r hr
    change r ∈ stepR n (solveR n m asks k) (newR n m (asks k) k) at hr
    unfold stepR at hr
    cases hf : firstR n (awayR (solveR n m asks k) (newR n m (asks k) k)) with
    | none => rw [hf] at hr; exact hi r hr
    | some f =>
      rw [hf] at hr
      dsimp only at hr
      have h3 := h1.div (cv (awayR (solveR n m asks k) (newR n m (asks k) k)) f)
      have h4 : (divR (awayR (solveR n m asks k) (newR n m (asks k) k)) (cv (awayR (solveR n m asks k) (newR n m (asks k) k)) f)).length = n + m := by unfold divR; rw [List.length_map]; exact h2
      generalize divR (awayR (solveR n m asks k) (newR n m (asks k) k)) (cv (awayR (solveR n m asks k) (newR n m (asks k) k)) f) = y at *
      unfold putR at hr
      rcases List.mem_append.1 hr with hr | hr
      · obtain ⟨s, hs, rfl⟩ := List.mem_map.1 hr
        exact (hi s hs).sub h3 (by rw [h4, hb.len s hs]) _
      · rw [List.mem_singleton.1 hr]
        exact h3
end

/-! ### Fractions made whole -/
theorem gcdL_from (l : List Int) (g : Nat) : l.foldl (fun g x => Nat.gcd g x.natAbs) g = Nat.gcd g (gcdL l) := by
  unfold gcdL
  induction l generalizing g with
  | nil => simp
  | cons x r ih =>
    rw [List.foldl_cons, List.foldl_cons, ih, ih (Nat.gcd 0 x.natAbs), Nat.gcd_zero_left, Nat.gcd_assoc]
theorem gcdL_cons (x : Int) (l : List Int) : gcdL (x :: l) = Nat.gcd x.natAbs (gcdL l) := by
  show (x :: l).foldl (fun g x => Nat.gcd g x.natAbs) 0 = _
  rw [List.foldl_cons, gcdL_from, Nat.gcd_zero_left]
theorem gcdL_dvd {l : List Int} {x : Int} (h : x ∈ l) : gcdL l ∣ x.natAbs := by
  induction l with
  | nil => cases h
  | cons y r ih =>
    rw [gcdL_cons]
    rcases List.mem_cons.1 h with rfl | h
    · exact Nat.gcd_dvd_left _ _
    · exact Nat.dvd_trans (Nat.gcd_dvd_right _ _) (ih h)
theorem gcdL_times (l : List Int) (g : Nat) : gcdL (l.map (· * (g : Int))) = gcdL l * g := by
  induction l with
  | nil => simp [gcdL]
  | cons x r ih => rw [List.map_cons, gcdL_cons, gcdL_cons, ih, Int.natAbs_mul, Int.natAbs_natCast, Nat.gcd_mul_right]
theorem gcdL_turn (l : List Int) (t : Int) : gcdL (t :: l) = gcdL (l ++ [t]) := by rw [gcdL_cons, gcdL_snoc, Nat.gcd_comm]
theorem nums_rat {l : List Rat} {k : Nat} (hk : k < l.length) : (((numsR l)[k]! : Int) : Rat) = (lcmL l : Rat) * l[k]! := by
  rw [numsR_get hk]
  have hd : l[k]!.den ∣ lcmL l := den_dvd_lcmL (by rw [getElem!_pos l k hk]; exact List.getElem_mem hk)
  generalize l[k]! = x at *
  obtain ⟨c, hc⟩ := hd
  rw [hc, Nat.mul_div_cancel_left c (den_pos x)]
  have hx : x = (x.num : Rat) / (x.den : Rat) := by
    have h := Rat.num_divInt_den x
    rw [Rat.divInt_eq_div] at h
    exact_mod_cast h.symm
  have hd0 : (x.den : Rat) ≠ 0 := by
    intro h
    exact x.den_nz (by exact_mod_cast h)
  rw [Rat.intCast_mul]
  push_cast
  conv => rhs; rw [hx]
  grind
end Go.Proofs.Ytimhkkijoelmhaa
