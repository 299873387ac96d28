/- A map of slices that the call itself made: m[k] = append(m[k], x). For any program, elements of any size. -/
import Derived.Test.YtlkjimfkapcenaaGreatDoorQAppend
import Derived.Test.YtlkjimfkapcenaaGreatDoorQMapIs
namespace Go.Proofs.YtlkjimfkapcenaaGreatDoor
open Go.RowKit Go.Maps

/-- Block bm is a map in which the slice at each key owns the cells of F. -/
def Grps {κ : Type} (P : Program) (k : TypeId) (enc : κ → Value) (w : World) (base bm : Nat) (e : TypeId) (size : Nat) (F : κ → List Value) (S : κ → Value) : Prop :=
  MapIs P k enc w bm (fun q => if F q = [] then none else some (S q)) ∧ bm < base ∧ (∀ q, ∃ n, w.ownsRow base e size (S q) n (F q)) ∧ (∀ q, F q = [] → S q = .slice none 0 0) ∧
    (∀ q q', q ≠ q' → (S q).ownBlock = none ∨ (S q).ownBlock ≠ (S q').ownBlock)
section
variable {κ : Type} {P : Program} {k : TypeId} {enc : κ → Value} {w w' : World} {base bm : Nat} {e : TypeId} {size : Nat} {F : κ → List Value} {S : κ → Value}
theorem Grps.made (w : World) (enc : κ → Value) (e : TypeId) (size : Nat) : Grps P k enc (w.alloc (.map #[] 0)) (w.heap.size + 1) w.heap.size e size (fun _ => []) (fun _ => .slice none 0 0) :=
  ⟨(MapIs.new w).congr (fun q => by simp), by omega, fun q => ⟨0, World.ownsRow_nil _ _ _ _⟩, fun _ _ => rfl, fun _ _ _ => .inl rfl⟩
theorem Grps.lt (h : Grps P k enc w base bm e size F S) : bm < w.heap.size := h.1.lt
theorem Grps.row (h : Grps P k enc w base bm e size F S) (q : κ) : ∃ n, w.ownsRow base e size (S q) n (F q) := h.2.2.1 q
theorem Grps.val (h : Grps P k enc w base bm e size F S) (q : κ) : (if F q = [] then none else some (S q)).getD (.slice none 0 0) = S q := by
  by_cases hq : F q = []
  · rw [if_pos hq, h.2.2.2.1 q hq]; rfl
  · rw [if_neg hq]; rfl
theorem Grps.gr (h : Grps P k enc w base bm e size F S) (g : Gr w w') : Grps P k enc w' base bm e size F S := by
  refine ⟨h.1.gr g, h.2.1, fun q => ?_, h.2.2.2⟩
  obtain ⟨n, hn⟩ := h.2.2.1 q
  have hg : w.grownBy w' none := ⟨g.os, g.tape, g.output, Gr.size g, fun i hi _ => Gr.heap g hi⟩
  refine ⟨n, hn.kept hg ?_⟩
  cases (S q).ownBlock with
  | none => exact .inl rfl
  | some _ => exact .inr (by simp)
theorem Grps.look {t E : TypeId} (h : Grps P k enc w base bm e size F S) (K : Keyed P k) (hinj : ∀ p q, enc p = enc q → p = q) (ht : P.underlying t = some (.map k E)) {q : κ} {l : Lit} (hk : keyOf P k (enc q) = some l)
    (hz : (zeroValue E).run P w = .ok (.slice none 0 0) w) : (Instr.lookup t (.map (some bm)) (enc q) false).run P w = .ok (S q) w := by
  rw [h.1.look K hinj ht hk hz, h.val q]
/-- What the walk knows of the row at a key. -/
theorem Grps.slice (h : Grps P k enc w base bm e size F S) (q : κ) : ∃ A n c, S q = .slice A n c ∧ w.ownsRow base e size (.slice A n c) n (F q) := by
  obtain ⟨n, hn⟩ := h.2.2.1 q
  obtain ⟨A, c, hs⟩ := own_slice hn
  exact ⟨A, n, c, hs, hs ▸ hn⟩
/-- Behind the append and the store the map owns one row more. -/
theorem Grps.back [DecidableEq κ] {w0 w1 w2 : World} {q : κ} {v' : Value} {n' : Nat} {xs : List Value} (h : Grps P k enc w0 base bm e size F S)
    (g1 : w0.grownBy w1 (S q).ownBlock) (own1 : w1.ownsRow base e size v' n' (F q ++ xs)) (hx : xs ≠ []) (hb : v'.ownBlock = (S q).ownBlock ∨ ∃ H, v'.ownBlock = some H ∧ w0.heap.size ≤ H)
    (hM : MapIs P k enc w2 bm (fun p => if p = q then some v' else if F p = [] then none else some (S p))) (g2 : w1.grownBy w2 (some bm)) :
    Grps P k enc w2 base bm e size (fun p => if p = q then F q ++ xs else F p) (fun p => if p = q then v' else S p) := by
  obtain ⟨_, hbase, hrow, hnil, hne⟩ := h
  have hlt : ∀ p j, (S p).ownBlock = some j → base ≤ j ∧ j < w0.heap.size := fun p j hj => by
    obtain ⟨n, hn⟩ := hrow p
    exact hn.lt j hj
  have hlt' := own1.lt
  refine ⟨hM.congr (fun p => ?_), hbase, fun p => ?_, fun p hp => ?_, fun p p' hpp => ?_⟩
  · by_cases hp : p = q
    · subst hp; simp [hx]
    · simp [hp]
  · by_cases hp : p = q
    · subst hp
      simp only [if_true]
      refine ⟨n', own1.kept g2 ?_⟩
      cases hv : v'.ownBlock with
      | none => exact .inl rfl
      | some j => exact .inr (fun e => by cases e; have := hlt' _ hv; omega)
    · simp only [hp, if_false]
      obtain ⟨n, hn⟩ := hrow p
      refine ⟨n, (hn.kept g1 (hne p q hp)).kept g2 ?_⟩
      cases hv : (S p).ownBlock with
      | none => exact .inl rfl
      | some j => exact .inr (fun e => by cases e; have := hlt p _ hv; omega)
  · by_cases hp' : p = q
    · subst hp'
      simp [hx] at hp
    · simp only [hp', if_false] at hp ⊢
      exact hnil p hp
  · by_cases h1 : p = q
    · by_cases h2 : p' = q
      · exact absurd (h1.trans h2.symm) hpp
      · subst h1
        simp only [h2, if_true, if_false]
        rcases hb with hb | ⟨H, hb, hH⟩
        · rw [hb]; exact hne p p' hpp
        · refine .inr (fun e => ?_)
          rw [hb] at e
          have := hlt p' H e.symm
          omega
    · by_cases h2 : p' = q
      · subst h2
        simp only [h1, if_true, if_false]
        rcases hb with hb | ⟨H, hb, hH⟩
        · rw [hb]; exact hne p p' hpp
        · refine .inr (fun e => ?_)
          rw [hb] at e
          have := hlt p H e
          omega
      · simp only [h1, h2, if_false]
        exact hne p p' hpp
end
end Go.Proofs.YtlkjimfkapcenaaGreatDoor
