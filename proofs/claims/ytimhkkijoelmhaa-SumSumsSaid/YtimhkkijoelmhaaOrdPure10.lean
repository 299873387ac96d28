/- Subjects in the order of their Ids, in plain functions; what is asked of Meets. For every table and question. -/
import Derived.Test.YtimhkkijoelmhaaOrd10
import Derived.Test.YtimhkkijoelmhaaSum10

namespace Go.Proofs.Ytimhkkijoelmhaa
open Go.RowKit Go.Shelf Go.Sort

theorem perm_sorted_eq {α : Type} {R : α → α → Prop} (hR : ∀ a b, R a b → R b a → False) {l l' : List α} (p : l'.Perm l) (h' : l'.Pairwise R) (h : l.Pairwise R) : l' = l :=
  p.eq_of_pairwise (fun a b _ _ h1 h2 => (hR a b h1 h2).elim) h' h
theorem putI_sorted {s : Sbj} {l : List Sbj} (h : l.Pairwise (fun x y => x.id < y.id)) (hs : ∀ x ∈ l, s.id ≠ x.id) : (putI s l).Pairwise (fun x y => x.id < y.id) := by
  induction l with
  | nil => simp [putI]
  | cons x r ih =>
    obtain ⟨h1, h2⟩ := List.pairwise_cons.1 h
    unfold putI
    split
    · rename_i hlt
      refine List.pairwise_cons.2 ⟨fun z hz => ?_, h⟩
      rcases List.mem_cons.1 hz with rfl | hz
      · exact hlt
      · have := h1 z hz; omega
    · rename_i hlt
      refine List.pairwise_cons.2 ⟨fun z hz => ?_, ih h2 (fun z hz => hs z (by simp [hz]))⟩
      rcases List.mem_cons.1 ((putI_perm s r).mem_iff.1 hz) with rfl | hz
      · have := hs x (by simp); omega
      · exact h1 z hz
theorem ordI_sorted {l : List Sbj} (h : l.Pairwise (fun x y => x.id ≠ y.id)) : (ordI l).Pairwise (fun x y => x.id < y.id) := by
  have key : ∀ (l o : List Sbj), o.Pairwise (fun x y => x.id < y.id) → l.Pairwise (fun x y => x.id ≠ y.id) → (∀ x ∈ l, ∀ y ∈ o, x.id ≠ y.id) → (l.foldl (fun o s => putI s o) o).Pairwise (fun x y => x.id < y.id) := by
    intro l
    induction l with
    | nil => exact fun o h _ _ => h
    | cons s r ih =>
      intro o ho hl hx
      obtain ⟨h1, h2⟩ := List.pairwise_cons.1 hl
      rw [List.foldl_cons]
      refine ih _ (putI_sorted ho (hx s (by simp))) h2 (fun x hxr y hy => ?_)
      rcases List.mem_cons.1 ((putI_perm s o).mem_iff.1 hy) with rfl | hy
      · exact fun e => h1 x hxr e.symm
      · exact hx x (by simp [hxr]) y hy
  exact key l [] List.Pairwise.nil h (fun _ _ y hy => by cases hy)
theorem ord_eq {l es : List Sbj} (h : l.Pairwise (fun x y => x.id ≠ y.id)) (p : es.Perm l) (s : es.Pairwise (fun x y => x.id < y.id)) : es = ordI l :=
  perm_sorted_eq (R := fun x y : Sbj => x.id < y.id) (fun a b h k => by omega) (p.trans (ordI_perm l).symm) s (ordI_sorted h)
theorem table_apart {columns : Int} {zs : List Sbj} (h : tableB columns zs = true) : zs.Pairwise (fun x y => x.id ≠ y.id) := by
  unfold tableB at h
  simp only [Bool.and_eq_true, decide_eq_true_eq, Bool.not_eq_true', List.any_eq_false, List.mem_range, Bool.not_eq_true] at h
  refine List.pairwise_iff_getElem.2 (fun i j hi hj hij e => ?_)
  have hb := h.2 j hj
  unfold sbjBad at hb
  simp only [Bool.or_eq_false_iff, List.any_eq_false] at hb
  refine hb.1 zs[i] (List.mem_take_iff_getElem.2 ⟨i, by omega, rfl⟩) ?_
  rw [getElem!_pos zs j hj]
  simpa using e
/-- Who is asked for, or nobody where there is an error. -/
def meetsT (columns : Int) (zs : List Sbj) (q : Qst) : List Int := if askN10 columns zs q = 0 then meetsL zs q else []
theorem SbjsIn.perm {w w' : World} {A A' : Option Addr} {n n' : Nat} {zs es : List Sbj} (h : SbjsIn w A n zs) (g : Gr w w') (p : es.Perm zs) (hr : Rd w' 2 A' n' (es.flatMap Sbj.cells)) (hb : n' ≤ 9223372036854775807) : SbjsIn w' A' n' es :=
  ⟨hr, hb, fun s hs => ⟨(h.vals s (p.mem_iff.1 hs)).1.gr g, (h.vals s (p.mem_iff.1 hs)).2⟩, fun s hs => h.wf s (p.mem_iff.1 hs)⟩
theorem ownT_gr10 {W W' : World} {base : Nat} {e : TypeId} {size n : Nat} {v : Value} {xs : List Value} (h : W.ownsRow base e size v n xs) (g : Gr W W') : W'.ownsRow base e size v n xs :=
  h.kept (grown_of_gr g) (by
    cases v.ownBlock with
    | none => exact .inl rfl
    | some _ => exact .inr (by simp))
end Go.Proofs.Ytimhkkijoelmhaa
