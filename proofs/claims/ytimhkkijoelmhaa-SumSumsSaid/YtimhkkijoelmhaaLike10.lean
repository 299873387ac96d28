/- Tables and questions that are alike but for where they lie: what is told of them is the same. No program in sight. -/
import Derived.Test.YtimhkkijoelmhaaSum10
import Derived.Test.YtimhkkijoelmhaaOrdPure10
namespace Go.Proofs.Ytimhkkijoelmhaa
open Go.RowKit

/-- A subject, a question, without the places where they lie. -/
def Sbj.bare (s : Sbj) : Sbj := ⟨s.id, none, s.n, 0, s.vals⟩
def Qst.bare (q : Qst) : Qst := ⟨none, q.n, 0, q.whs, q.col, q.clip, q.step⟩

theorem bare_get (l : List Sbj) {j : Nat} (h : j < l.length) : (l.map Sbj.bare)[j]! = l[j]!.bare := by
  rw [getElem!_pos _ j (by simpa using h), getElem!_pos l j h, List.getElem_map]
theorem bad_bare (columns : Int) (l : List Sbj) {j : Nat} (h : j < l.length) : sbjBad columns (l.map Sbj.bare) j = sbjBad columns l j := by
  unfold sbjBad
  rw [bare_get l h, ← List.map_take, List.any_map]
  rfl
theorem table_bare (columns : Int) (l : List Sbj) : tableB columns (l.map Sbj.bare) = tableB columns l := by
  unfold tableB
  rw [List.length_map]
  have e : (List.range l.length).any (sbjBad columns (l.map Sbj.bare)) = (List.range l.length).any (sbjBad columns l) := by
    rw [Bool.eq_iff_iff, List.any_eq_true, List.any_eq_true]
    constructor <;> rintro ⟨j, hj, h⟩ <;> refine ⟨j, hj, ?_⟩
    · rwa [bad_bare columns l (List.mem_range.1 hj)] at h
    · rwa [bad_bare columns l (List.mem_range.1 hj)]
  rw [e]
theorem ask_bare (columns : Int) (l : List Sbj) (q : Qst) : askN10 columns (l.map Sbj.bare) q.bare = askN10 columns l q := by
  unfold askN10
  rw [table_bare]
  rfl
theorem putI_bare (s : Sbj) : ∀ l : List Sbj, putI s.bare (l.map Sbj.bare) = (putI s l).map Sbj.bare
  | [] => rfl
  | x :: r => by
    show (if s.bare.id < x.bare.id then _ else _) = (if s.id < x.id then _ else _ : List Sbj).map _
    by_cases h : s.id < x.id
    · rw [if_pos h, if_pos (show s.bare.id < x.bare.id from h)]; rfl
    · rw [if_neg h, if_neg (show ¬ s.bare.id < x.bare.id from h)]
      show x.bare :: putI s.bare (r.map Sbj.bare) = _
      rw [putI_bare s r]
      rfl
theorem ordI_bare (l : List Sbj) : ordI (l.map Sbj.bare) = (ordI l).map Sbj.bare := by
  have key : ∀ l o : List Sbj, (l.map Sbj.bare).foldl (fun o s => putI s o) (o.map Sbj.bare) = (l.foldl (fun o s => putI s o) o).map Sbj.bare := by
    intro l
    induction l with
    | nil => intro o; rfl
    | cons s r ih =>
      intro o
      rw [List.map_cons, List.foldl_cons, List.foldl_cons, putI_bare]
      exact ih _
  exact key l []
theorem meetsL_bare (l : List Sbj) (q : Qst) : meetsL (l.map Sbj.bare) q.bare = meetsL l q := by
  unfold meetsL
  rw [ordI_bare]
  generalize ordI l = o
  induction o with
  | nil => rfl
  | cons s r ih =>
    rw [List.map_cons, List.filter_cons, List.filter_cons]
    have e : askedB s.bare q.bare = askedB s q := rfl
    rw [e]
    split
    · rw [List.map_cons, List.map_cons, ih]; rfl
    · exact ih
theorem rawN_bare (l : List Sbj) (q : Qst) : rawN (l.map Sbj.bare) q.bare = rawN l q := by
  unfold rawN
  rw [List.foldl_map]
  rfl
theorem meetsT_bare (columns : Int) (l : List Sbj) (q : Qst) : meetsT columns (l.map Sbj.bare) q.bare = meetsT columns l q := by
  unfold meetsT
  rw [ask_bare, meetsL_bare]
theorem sumP_bare (columns : Int) (l : List Sbj) (q : Qst) : sumP columns (l.map Sbj.bare) q.bare = sumP columns l q := by
  unfold sumP
  rw [ask_bare, rawN_bare]
  rfl
theorem sumBd_bare (columns : Int) (l : List Sbj) (q : Qst) : sumBd columns (l.map Sbj.bare) q.bare = sumBd columns l q := by
  unfold sumBd
  rw [ask_bare]
  rfl
section
variable {es zs : List Sbj} {q q' : Qst} (h : es.map Sbj.bare = zs.map Sbj.bare) (hq : q'.bare = q.bare)
include h in
theorem like_len : es.length = zs.length := by
  have := congrArg List.length h
  simpa using this
include h in
theorem like_table (columns : Int) : tableN columns es = tableN columns zs := by
  unfold tableN
  rw [← table_bare columns es, h, table_bare]
include h hq in
theorem like_ask (columns : Int) : askN10 columns es q' = askN10 columns zs q := by rw [← ask_bare columns es, h, hq, ask_bare]
include h hq in
theorem like_meets (columns : Int) : meetsT columns es q' = meetsT columns zs q := by rw [← meetsT_bare columns es, h, hq, meetsT_bare]
include h hq in
theorem like_sumP (columns : Int) : sumP columns es q' = sumP columns zs q := by rw [← sumP_bare columns es, h, hq, sumP_bare]
include h hq in
theorem like_sumBd (columns : Int) : sumBd columns es q' = sumBd columns zs q := by rw [← sumBd_bare columns es, h, hq, sumBd_bare]
include h in
theorem like_get {j : Nat} (hj : j < zs.length) : es[j]!.id = zs[j]!.id ∧ es[j]!.n = zs[j]!.n ∧ es[j]!.vals = zs[j]!.vals := by
  have h1 := bare_get es (j := j) (by rw [like_len h]; exact hj)
  have h2 := bare_get zs hj
  rw [h, h2] at h1
  have e1 := congrArg Sbj.id h1
  have e2 := congrArg Sbj.n h1
  have e3 := congrArg Sbj.vals h1
  exact ⟨e1.symm, e2.symm, e3.symm⟩
end

/-- A list of questions as it lies. -/
structure QstsIn (w : World) (A : Option Addr) (n : Nat) (qs : List Qst) : Prop where
  rd : Rd w 4 A n (qs.flatMap Qst.cells)
  big : n ≤ 9223372036854775807
  whs : ∀ q ∈ qs, QstIn w q
theorem QstsIn.gr {w w' : World} {A : Option Addr} {n : Nat} {qs : List Qst} (h : QstsIn w A n qs) (g : Gr w w') : QstsIn w' A n qs := ⟨h.rd.gr g, h.big, fun s hs => (h.whs s hs).gr g⟩
theorem QstsIn.len {w : World} {A : Option Addr} {n : Nat} {qs : List Qst} (h : QstsIn w A n qs) : qs.length = n := by
  have := h.rd.len
  rw [flatMap_len Qst.len] at this
  omega
/-- A question of the row, cell by cell. -/
theorem Rd.qst {w : World} {A : Option Addr} {n : Nat} {qs : List Qst} (h : Rd w 4 A n (qs.flatMap Qst.cells)) {k : Nat} (hk : k < n) :
    k < qs.length ∧ ∃ b off, A = some ⟨b, off, none⟩ ∧ b < w.heap.size ∧ w.cell? ⟨b, off + k * 4, none⟩ = some (.slice qs[k]!.a qs[k]!.n qs[k]!.c) ∧ w.cell? ⟨b, off + k * 4 + 1, none⟩ = some (.int .i64 qs[k]!.col) ∧ w.cell? ⟨b, off + k * 4 + 2, none⟩ = some (.int .i64 qs[k]!.clip) ∧ w.cell? ⟨b, off + k * 4 + 3, none⟩ = some (.int .i64 qs[k]!.step) := by
  have hl := h.len
  rw [flatMap_len Qst.len] at hl
  have hk' : k < qs.length := by omega
  obtain ⟨b, off, e, hb, hc⟩ := h.at_ (by omega)
  have g : ∀ j, j < 4 → (qs.flatMap Qst.cells)[k * 4 + j]? = (qs[k]!.cells)[j]? := fun j hj => flatMap_get Qst.len hk' hj
  refine ⟨hk', b, off, e, hb, hc (k * 4) _ (by rw [← Nat.add_zero (k * 4), g 0 (by omega)]; rfl), ?_, ?_, ?_⟩
  · rw [Nat.add_assoc]
    exact hc (k * 4 + 1) _ (by rw [g 1 (by omega)]; rfl)
  · rw [Nat.add_assoc]
    exact hc (k * 4 + 2) _ (by rw [g 2 (by omega)]; rfl)
  · rw [Nat.add_assoc]
    exact hc (k * 4 + 3) _ (by rw [g 3 (by omega)]; rfl)
theorem qbare_get (l : List Qst) {j : Nat} (h : j < l.length) : (l.map Qst.bare)[j]! = l[j]!.bare := by
  rw [getElem!_pos _ j (by simpa using h), getElem!_pos l j h, List.getElem_map]
theorem qlike_len {es zs : List Qst} (h : es.map Qst.bare = zs.map Qst.bare) : es.length = zs.length := by
  have := congrArg List.length h
  simpa using this
theorem qlike_get {es zs : List Qst} (h : es.map Qst.bare = zs.map Qst.bare) {j : Nat} (hj : j < zs.length) : es[j]!.bare = zs[j]!.bare := by
  rw [← qbare_get es (by rw [qlike_len h]; exact hj), h, qbare_get zs hj]
end Go.Proofs.Ytimhkkijoelmhaa
