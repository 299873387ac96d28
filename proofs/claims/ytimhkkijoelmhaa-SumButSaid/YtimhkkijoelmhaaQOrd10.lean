/- ordered of the package sum: subjects by their Ids, in new memory. For lists of subjects with Ids in bounds. Subjects in the order of their Ids, in plain functions; what is asked of Meets. For every table and question. Tables and questions that are alike but for where they lie: what is told of them is the same. No program in sight. Great of the reference of layer 10: whether a table and questions are more than the statements consider. For every table and list of questions. A row whose elements are given rows of their own, one by one: what stays. For any program. The package slices at questions. For every slice of questions. (Printed by gen_sl10.py.) A subject put in from the right, by exchanges, in plain functions. For all lists of subjects. Ordered of the reference of layer 10: subjects by their Ids, in new memory. For up to a thousand subjects, no two of one Id. -/
import Derived.Shelf.SlSortCmp.QuietGrown
import Derived.Shelf.SlSortCmp.WholeK
import Derived.Test.YtimhkkijoelmhaaQRegGr
import Derived.Test.YtimhkkijoelmhaaQWithin10
import Derived.Test.YtimhkkijoelmhaaQCheck10
import Derived.Test.YtimhkkijoelmhaaQAppend
import Derived.Test.YtimhkkijoelmhaaQCollectS
import Derived.Test.YtimhkkijoelmhaaQLaySortS
import Derived.Test.YtimhkkijoelmhaaQRowK
namespace Go.Proofs.Ytimhkkijoelmhaa
open Go.RowKit Go.Shelf Go.Sort Go.Lib

/-- Some draws, and some blocks behind. -/
def Gs (w w' : World) : Prop := ∃ q os, w' = grow (w.drewN q) os
theorem Gs.refl (w : World) : Gs w w := ⟨0, #[], by rw [grow_empty]; rfl⟩
theorem Gs.alloc {a w : World} (h : Gs a w) (o : Obj) : Gs a (w.alloc o) := by
  obtain ⟨q, os, rfl⟩ := h
  exact ⟨q, os ++ #[o], by rw [alloc_eq_grow, grow_grow]⟩

/-- A subject whose Id lies in bounds. -/
structure SbjV where
  s : Sbj
  h : 0 ≤ s.id ∧ s.id ≤ 999999
instance : Inhabited SbjV := ⟨⟨⟨0, none, 0, 0, []⟩, by decide⟩⟩
def SbjV.cells (x : SbjV) : List Value := x.s.cells
theorem SbjV.len (x : SbjV) : x.cells.length = 2 := rfl
theorem SbjV.one (x : SbjV) : ∀ v ∈ x.cells, v.oneCell' = true := x.s.one
def cmpV (x y : SbjV) : Int := x.s.id - y.s.id
theorem lt_v (x y : SbjV) : ltOf cmpV x y = decide (x.s.id < y.s.id) := by
  unfold ltOf cmpV
  rw [Bool.eq_iff_iff, decide_eq_true_iff, decide_eq_true_iff]
  omega
theorem swo_v : SWO (ltOf cmpV) := {
  irrefl := fun x => by rw [lt_v]; simp
  trans := fun x y z h1 h2 => by
    rw [lt_v, decide_eq_true_iff] at *
    omega
  ntrans := fun x y z h1 h2 => by
    rw [lt_v, decide_eq_false_iff_not] at *
    omega }

set_option maxRecDepth 100000 in
set_option maxHeartbeats 1000000 in
theorem ord1_any (x y : SbjV) (w : World) : Calls Try.prog 71 #[x.s.val, y.s.val] w fun e w' => e = .returned (.int .i64 (cmpV x y)) ∧ Gs w w' := by
  obtain ⟨⟨id, a, n, c, vals⟩, hx⟩ := x
  obtain ⟨⟨id', a', n', c', vals'⟩, hy⟩ := y
  unfold cmpV Sbj.val
  dsimp only at *
  have hx' : 0 ≤ id ∧ id ≤ 999999 := hx
  have hy' : 0 ≤ id' ∧ id' ≤ 999999 := hy
  have hw : IntKind.i64.wrap (id - id') = id - id' := by rw [IntKind.wrap_i64]; omega
  go_enter Try.func71, Try.ntmps71
  go_wp2
  go_ret
  exact ⟨rfl, ((Gs.refl w).alloc _).alloc _⟩
theorem cmpLays_v (b size : Nat) (w : World) : CmpLays Try.prog 71 #[] SbjV.cells 2 cmpV b 0 size w :=
  fun _ _ _ _ x y => ord1_any x y _

/-- What ordered hands back. -/
def Ord10 (es : List Sbj) (w w' : World) (v : Value) : Prop :=
  ∃ (A : Option Addr) (cap : Nat) (es' : List Sbj), v = .slice A es.length cap ∧ es'.Perm es ∧ es'.Pairwise (fun x y => x.id < y.id) ∧ Rd w' 2 A es.length (es'.flatMap Sbj.cells) ∧ Gr w w'

set_option maxRecDepth 100000 in
set_option maxHeartbeats 2000000 in
theorem sortS_any (es : List Sbj) (v : Value) (w0 w : World) (hw : Gr w0 w) (base : Nat) (hb : w0.heap.size ≤ base) (hv : w.ownsRow base 60 2 v es.length (flatE es)) (hn : es.length ≤ 1000)
    (hid : ∀ s ∈ es, 0 ≤ s.id ∧ s.id ≤ 999999) (hd : es.Pairwise (fun x y => x.id ≠ y.id)) (h0 : 0 < es.length) :
    Calls Try.prog 94 #[v, .func (.func 71) #[] #[]] w fun e w' => e = .returned (.tuple #[]) ∧ Ord10 es w0 w' v := by
  obtain ⟨l, hl⟩ : ∃ l : List SbjV, l.map SbjV.s = es := ⟨es.attach.map (fun x => ⟨x.1, hid x.1 x.2⟩), by rw [List.map_map]; simp [Function.comp_def]⟩
  have hle : l.length = es.length := by rw [← hl]; simp
  have hfl : l.flatMap SbjV.cells = flatE es := by
    rw [← hl]
    unfold flatE
    rw [List.flatMap_map]
    rfl
  rw [← hle, ← hfl] at hv
  obtain ⟨A, cap, rfl, hO⟩ := ownK_of SbjV.len hv hb
  obtain ⟨_, hlc, hbig, hrow⟩ := hO
  rcases hrow with ⟨rfl, h00, rfl⟩ | ⟨b, rfl, h1, h2, h3⟩
  · omega
  · have eg : ∀ args w, (callFunc 71 args).run Try.prog w = .ok (.enter 71 args) w := enters_of Try.func71 (by kernel_rfl) rfl
    have H := AnyQ.slices_SortFunc sortSbj 2 Try.isAgg60 Try.sizeOf60 SbjV.cells SbjV.len SbjV.one cmpV swo_v 71 #[] b 0 cap l.toArray w eg (cmpLays_v b _ w) h3 h2 (by simp; omega)
    simp only [List.size_toArray] at H
    refine H.mono ?_
    rintro e w' ⟨rfl, d', m, os, T1, T2, rfl⟩
    have S : SWK SbjV.cells 2 w b 0 d' (sortWorldK SbjV.cells 2 w b 0 m d' os) := ⟨m, os, rfl⟩
    have hs : d'.size = l.length := by simpa using T1.1
    have hp : d'.toList.Perm l := by
      have p := T1.2.2
      have e1 : d'.extract 0 l.toArray.size = d' := by simp [← hs]
      have e2 : l.toArray.extract 0 l.toArray.size = l.toArray := by simp
      simp only [List.size_toArray] at e1 e2
      rw [e1, e2] at p
      simpa using p
    have hpm : (d'.toList.map SbjV.s).Perm es := by rw [← hl]; exact hp.map _
    have hap : (d'.toList.map SbjV.s).Pairwise (fun x y => x.id ≠ y.id) := (hpm.pairwise_iff (fun {x y} h => Ne.symm h)).2 hd
    rw [List.pairwise_map] at hap
    refine ⟨rfl, some ⟨b, 0, none⟩, cap, d'.toList.map SbjV.s, by rw [hle], hpm, ?_, ?_, gr_sortK hw S h1⟩
    · rw [List.pairwise_map]
      refine List.pairwise_iff_getElem.2 (fun i j hi hj hij => ?_)
      have q := T2 i j (Nat.zero_le _) hij (by simp at hj; omega)
      have q2 := List.pairwise_iff_getElem.1 hap i j hi hj hij
      have hi2 : i < d'.size := by simpa using hi
      have hj2 : j < d'.size := by simpa using hj
      rw [lt_v, decide_eq_false_iff_not] at q
      rw [getElem!_pos d' i hi2, getElem!_pos d' j hj2] at q
      simp only [Array.getElem_toList] at q2 ⊢
      omega
    · have h := rdK_holds SbjV.len (S.holds h2 h3 (by simpa using hs)) (S.lt h2)
      rw [hs, hle] at h
      have e3 : (d'.toList.map SbjV.s).flatMap Sbj.cells = d'.toList.flatMap SbjV.cells := by rw [List.flatMap_map]; rfl
      rw [e3]
      exact h
end Go.Proofs.Ytimhkkijoelmhaa

namespace Go.Proofs.Ytimhkkijoelmhaa
open Go.RowKit Go.Shelf Go.Sort

theorem perm_sorted_eq {α : Type} {R : α → α → Prop} (hR : ∀ a b, R a b → R b a → False) {l l' : List α} (p : l'.Perm l) (h' : l'.Pairwise R) (h : l.Pairwise R) : l' = l :=
  p.eq_of_pairwise (fun a b _ _ h1 h2 => (hR a b h1 h2).elim) h' h
theorem putI_sorted {s : Sbj} {l : List Sbj} (h : l.Pairwise (fun x y => x.id < y.id)) (hs : ∀ x ∈ l, s.id ≠ x.id) : (putI s l).Pairwise (fun x y => x.id < y.id) := by
  induction l with
  | nil => simp [putI]
  | cons x r ih =>
    obtain ⟨h1, h2⟩ := List.pairwise_cons.1 h
    unfold putI
    split
    · rename_i hlt
      refine List.pairwise_cons.2 ⟨fun z hz => ?_, h⟩
      rcases List.mem_cons.1 hz with rfl | hz
      · exact hlt
      · have := h1 z hz; omega
    · rename_i hlt
      refine List.pairwise_cons.2 ⟨fun z hz => ?_, ih h2 (fun z hz => hs z (by simp [hz]))⟩
      rcases List.mem_cons.1 ((putI_perm s r).mem_iff.1 hz) with rfl | hz
      · have := hs x (by simp); omega
      · exact h1 z hz
theorem ordI_sorted {l : List Sbj} (h : l.Pairwise (fun x y => x.id ≠ y.id)) : (ordI l).Pairwise (fun x y => x.id < y.id) := by
  have key : ∀ (l o : List Sbj), o.Pairwise (fun x y => x.id < y.id) → l.Pairwise (fun x y => x.id ≠ y.id) → (∀ x ∈ l, ∀ y ∈ o, x.id ≠ y.id) → (l.foldl (fun o s => putI s o) o).Pairwise (fun x y => x.id < y.id) := by
    intro l
    induction l with
    | nil => exact fun o h _ _ => h
    | cons s r ih =>
      intro o ho hl hx
      obtain ⟨h1, h2⟩ := List.pairwise_cons.1 hl
      rw [List.foldl_cons]
      refine ih _ (putI_sorted ho (hx s (by simp))) h2 (fun x hxr y hy => ?_)
      rcases List.mem_cons.1 ((putI_perm s o).mem_iff.1 hy) with rfl | hy
      · exact fun e => h1 x hxr e.symm
      · exact hx x (by simp [hxr]) y hy
  exact key l [] List.Pairwise.nil h (fun _ _ y hy => by cases hy)
theorem ord_eq {l es : List Sbj} (h : l.Pairwise (fun x y => x.id ≠ y.id)) (p : es.Perm l) (s : es.Pairwise (fun x y => x.id < y.id)) : es = ordI l :=
  perm_sorted_eq (R := fun x y : Sbj => x.id < y.id) (fun a b h k => by omega) (p.trans (ordI_perm l).symm) s (ordI_sorted h)
theorem table_apart {columns : Int} {zs : List Sbj} (h : tableB columns zs = true) : zs.Pairwise (fun x y => x.id ≠ y.id) := by
  unfold tableB at h
  simp only [Bool.and_eq_true, decide_eq_true_eq, Bool.not_eq_true', List.any_eq_false, List.mem_range, Bool.not_eq_true] at h
  refine List.pairwise_iff_getElem.2 (fun i j hi hj hij e => ?_)
  have hb := h.2 j hj
  unfold sbjBad at hb
  simp only [Bool.or_eq_false_iff, List.any_eq_false] at hb
  refine hb.1 zs[i] (List.mem_take_iff_getElem.2 ⟨i, by omega, rfl⟩) ?_
  rw [getElem!_pos zs j hj]
  simpa using e
/-- Who is asked for, or nobody where there is an error. -/
def meetsT (columns : Int) (zs : List Sbj) (q : Qst) : List Int := if askN10 columns zs q = 0 then meetsL zs q else []
theorem SbjsIn.perm {w w' : World} {A A' : Option Addr} {n n' : Nat} {zs es : List Sbj} (h : SbjsIn w A n zs) (g : Gr w w') (p : es.Perm zs) (hr : Rd w' 2 A' n' (es.flatMap Sbj.cells)) (hb : n' ≤ 9223372036854775807) : SbjsIn w' A' n' es :=
  ⟨hr, hb, fun s hs => ⟨(h.vals s (p.mem_iff.1 hs)).1.gr g, (h.vals s (p.mem_iff.1 hs)).2⟩, fun s hs => h.wf s (p.mem_iff.1 hs)⟩
theorem ownT_gr10 {W W' : World} {base : Nat} {e : TypeId} {size n : Nat} {v : Value} {xs : List Value} (h : W.ownsRow base e size v n xs) (g : Gr W W') : W'.ownsRow base e size v n xs :=
  h.kept (grown_of_gr g) (by
    cases v.ownBlock with
    | none => exact .inl rfl
    | some _ => exact .inr (by simp))
end Go.Proofs.Ytimhkkijoelmhaa
namespace Go.Proofs.Ytimhkkijoelmhaa
open Go.RowKit

/-- A subject, a question, without the places where they lie. -/
def Sbj.bare (s : Sbj) : Sbj := ⟨s.id, none, s.n, 0, s.vals⟩
def Qst.bare (q : Qst) : Qst := ⟨none, q.n, 0, q.whs, q.col, q.clip, q.step⟩

theorem bare_get (l : List Sbj) {j : Nat} (h : j < l.length) : (l.map Sbj.bare)[j]! = l[j]!.bare := by
  rw [getElem!_pos _ j (by simpa using h), getElem!_pos l j h, List.getElem_map]
theorem bad_bare (columns : Int) (l : List Sbj) {j : Nat} (h : j < l.length) : sbjBad columns (l.map Sbj.bare) j = sbjBad columns l j := by
  unfold sbjBad
  rw [bare_get l h, ← List.map_take, List.any_map]
  rfl
theorem table_bare (columns : Int) (l : List Sbj) : tableB columns (l.map Sbj.bare) = tableB columns l := by
  unfold tableB
  rw [List.length_map]
  have e : (List.range l.length).any (sbjBad columns (l.map Sbj.bare)) = (List.range l.length).any (sbjBad columns l) := by
    rw [Bool.eq_iff_iff, List.any_eq_true, List.any_eq_true]
    constructor <;> rintro ⟨j, hj, h⟩ <;> refine ⟨j, hj, ?_⟩
    · rwa [bad_bare columns l (List.mem_range.1 hj)] at h
    · rwa [bad_bare columns l (List.mem_range.1 hj)]
  rw [e]
theorem ask_bare (columns : Int) (l : List Sbj) (q : Qst) : askN10 columns (l.map Sbj.bare) q.bare = askN10 columns l q := by
  unfold askN10
  rw [table_bare]
  rfl
theorem putI_bare (s : Sbj) : ∀ l : List Sbj, putI s.bare (l.map Sbj.bare) = (putI s l).map Sbj.bare
  | [] => rfl
  | x :: r => by
    show (if s.bare.id < x.bare.id then _ else _) = (if s.id < x.id then _ else _ : List Sbj).map _
    by_cases h : s.id < x.id
    · rw [if_pos h, if_pos (show s.bare.id < x.bare.id from h)]; rfl
    · rw [if_neg h, if_neg (show ¬ s.bare.id < x.bare.id from h)]
      show x.bare :: putI s.bare (r.map Sbj.bare) = _
      rw [putI_bare s r]
      rfl
theorem ordI_bare (l : List Sbj) : ordI (l.map Sbj.bare) = (ordI l).map Sbj.bare := by
  have key : ∀ l o : List Sbj, (l.map Sbj.bare).foldl (fun o s => putI s o) (o.map Sbj.bare) = (l.foldl (fun o s => putI s o) o).map Sbj.bare := by
    intro l
    induction l with
    | nil => intro o; rfl
    | cons s r ih =>
      intro o
      rw [List.map_cons, List.foldl_cons, List.foldl_cons, putI_bare]
      exact ih _
  exact key l []
theorem meetsL_bare (l : List Sbj) (q : Qst) : meetsL (l.map Sbj.bare) q.bare = meetsL l q := by
  unfold meetsL
  rw [ordI_bare]
  generalize ordI l = o
  induction o with
  | nil => rfl
  | cons s r ih =>
    rw [List.map_cons, List.filter_cons, List.filter_cons]
    have e : askedB s.bare q.bare = askedB s q := rfl
    rw [e]
    split
    · rw [List.map_cons, List.map_cons, ih]; rfl
    · exact ih
theorem rawN_bare (l : List Sbj) (q : Qst) : rawN (l.map Sbj.bare) q.bare = rawN l q := by
  unfold rawN
  rw [List.foldl_map]
  rfl
theorem meetsT_bare (columns : Int) (l : List Sbj) (q : Qst) : meetsT columns (l.map Sbj.bare) q.bare = meetsT columns l q := by
  unfold meetsT
  rw [ask_bare, meetsL_bare]
theorem sumP_bare (columns : Int) (l : List Sbj) (q : Qst) : sumP columns (l.map Sbj.bare) q.bare = sumP columns l q := by
  unfold sumP
  rw [ask_bare, rawN_bare]
  rfl
theorem sumBd_bare (columns : Int) (l : List Sbj) (q : Qst) : sumBd columns (l.map Sbj.bare) q.bare = sumBd columns l q := by
  unfold sumBd
  rw [ask_bare]
  rfl
section
variable {es zs : List Sbj} {q q' : Qst} (h : es.map Sbj.bare = zs.map Sbj.bare) (hq : q'.bare = q.bare)
include h in
theorem like_len : es.length = zs.length := by
  have := congrArg List.length h
  simpa using this
include h in
theorem like_table (columns : Int) : tableN columns es = tableN columns zs := by
  unfold tableN
  rw [← table_bare columns es, h, table_bare]
include h hq in
theorem like_ask (columns : Int) : askN10 columns es q' = askN10 columns zs q := by rw [← ask_bare columns es, h, hq, ask_bare]
include h hq in
theorem like_meets (columns : Int) : meetsT columns es q' = meetsT columns zs q := by rw [← meetsT_bare columns es, h, hq, meetsT_bare]
include h hq in
theorem like_sumP (columns : Int) : sumP columns es q' = sumP columns zs q := by rw [← sumP_bare columns es, h, hq, sumP_bare]
include h hq in
theorem like_sumBd (columns : Int) : sumBd columns es q' = sumBd columns zs q := by rw [← sumBd_bare columns es, h, hq, sumBd_bare]
include h in
theorem like_get {j : Nat} (hj : j < zs.length) : es[j]!.id = zs[j]!.id ∧ es[j]!.n = zs[j]!.n ∧ es[j]!.vals = zs[j]!.vals := by
  have h1 := bare_get es (j := j) (by rw [like_len h]; exact hj)
  have h2 := bare_get zs hj
  rw [h, h2] at h1
  have e1 := congrArg Sbj.id h1
  have e2 := congrArg Sbj.n h1
  have e3 := congrArg Sbj.vals h1
  exact ⟨e1.symm, e2.symm, e3.symm⟩
end

/-- A list of questions as it lies. -/
structure QstsIn (w : World) (A : Option Addr) (n : Nat) (qs : List Qst) : Prop where
  rd : Rd w 4 A n (qs.flatMap Qst.cells)
  big : n ≤ 9223372036854775807
  whs : ∀ q ∈ qs, QstIn w q
theorem QstsIn.gr {w w' : World} {A : Option Addr} {n : Nat} {qs : List Qst} (h : QstsIn w A n qs) (g : Gr w w') : QstsIn w' A n qs := ⟨h.rd.gr g, h.big, fun s hs => (h.whs s hs).gr g⟩
theorem QstsIn.len {w : World} {A : Option Addr} {n : Nat} {qs : List Qst} (h : QstsIn w A n qs) : qs.length = n := by
  have := h.rd.len
  rw [flatMap_len Qst.len] at this
  omega
/-- A question of the row, cell by cell. -/
theorem Rd.qst {w : World} {A : Option Addr} {n : Nat} {qs : List Qst} (h : Rd w 4 A n (qs.flatMap Qst.cells)) {k : Nat} (hk : k < n) :
    k < qs.length ∧ ∃ b off, A = some ⟨b, off, none⟩ ∧ b < w.heap.size ∧ w.cell? ⟨b, off + k * 4, none⟩ = some (.slice qs[k]!.a qs[k]!.n qs[k]!.c) ∧ w.cell? ⟨b, off + k * 4 + 1, none⟩ = some (.int .i64 qs[k]!.col) ∧ w.cell? ⟨b, off + k * 4 + 2, none⟩ = some (.int .i64 qs[k]!.clip) ∧ w.cell? ⟨b, off + k * 4 + 3, none⟩ = some (.int .i64 qs[k]!.step) := by
  have hl := h.len
  rw [flatMap_len Qst.len] at hl
  have hk' : k < qs.length := by omega
  obtain ⟨b, off, e, hb, hc⟩ := h.at_ (by omega)
  have g : ∀ j, j < 4 → (qs.flatMap Qst.cells)[k * 4 + j]? = (qs[k]!.cells)[j]? := fun j hj => flatMap_get Qst.len hk' hj
  refine ⟨hk', b, off, e, hb, hc (k * 4) _ (by rw [← Nat.add_zero (k * 4), g 0 (by omega)]; rfl), ?_, ?_, ?_⟩
  · rw [Nat.add_assoc]
    exact hc (k * 4 + 1) _ (by rw [g 1 (by omega)]; rfl)
  · rw [Nat.add_assoc]
    exact hc (k * 4 + 2) _ (by rw [g 2 (by omega)]; rfl)
  · rw [Nat.add_assoc]
    exact hc (k * 4 + 3) _ (by rw [g 3 (by omega)]; rfl)
theorem qbare_get (l : List Qst) {j : Nat} (h : j < l.length) : (l.map Qst.bare)[j]! = l[j]!.bare := by
  rw [getElem!_pos _ j (by simpa using h), getElem!_pos l j h, List.getElem_map]
theorem qlike_len {es zs : List Qst} (h : es.map Qst.bare = zs.map Qst.bare) : es.length = zs.length := by
  have := congrArg List.length h
  simpa using this
theorem qlike_get {es zs : List Qst} (h : es.map Qst.bare = zs.map Qst.bare) {j : Nat} (hj : j < zs.length) : es[j]!.bare = zs[j]!.bare := by
  rw [← qbare_get es (by rw [qlike_len h]; exact hj), h, qbare_get zs hj]
end Go.Proofs.Ytimhkkijoelmhaa
namespace Go.Proofs.Ytimhkkijoelmhaa
open Go.RowKit

def greatT (n m : Nat) (zs : List Sbj) (qs : List Qst) : Bool := decide (24 < n) || decide (12 < m) || zs.any (fun s => decide (10 < s.n)) || qs.any (fun q => decide (10 < q.n))
theorem greatT_false {n m : Nat} {zs : List Sbj} {qs : List Qst} (h : greatT n m zs qs = false) : n ≤ 24 ∧ m ≤ 12 ∧ (∀ s ∈ zs, s.n ≤ 10) ∧ ∀ q ∈ qs, q.n ≤ 10 := by
  unfold greatT at h
  simp only [Bool.or_eq_false_iff, decide_eq_false_iff_not, List.any_eq_false, decide_eq_true_eq] at h
  exact ⟨by omega, by omega, fun s hs => by have := h.1.2 s hs; omega, fun s hs => by have := h.2 s hs; omega⟩
theorem any_take_snoc {α : Type} [Inhabited α] (f : α → Bool) {l : List α} {k : Nat} (hk : k < l.length) : (l.take (k + 1)).any f = ((l.take k).any f || f l[k]!) := by
  rw [List.take_succ_eq_append_getElem hk, List.any_append, ← getElem!_pos l k hk]
  simp

set_option maxRecDepth 100000 in
set_option maxHeartbeats 4000000 in
theorem great10_any (A : Option Addr) (n c : Nat) (zs : List Sbj) (B : Option Addr) (m d : Nat) (qs : List Qst) (w : World) (hi : SbjsIn w A n zs) (hq : QstsIn w B m qs) :
    Calls Try.prog 13 #[.slice A n c, .slice B m d] w fun e w' => e = .returned (.bool (greatT n m zs qs)) ∧ Gr w w' := by
  obtain ⟨G, hG⟩ : ∃ G, greatT n m zs qs = G := ⟨_, rfl⟩
  rw [hG]
  have HG := hid hG
  have HI := hid hi
  have HQ := hid hq
  have hbig := hi.big
  have hbig' : (n : Int) ≤ 9223372036854775807 := by omega
  have hbm := hq.big
  have hbm' : (m : Int) ≤ 9223372036854775807 := by omega
  have HL := hid (And.intro hi.len hq.len)
  clear hi hq hG
  by_cases h1 : 24 < n
  · have hr : G = true := by rw [← HG.out]; unfold greatT; simp [h1]
    have h1' : (24 : Int) < (n : Int) := by omega
    subst hr
    go_enter Try.func13, Try.ntmps13
    go_wp2
    go_ret
    exact ⟨by first | rfl | simp, by (repeat (first | with_reducible exact Gr.refl _ | with_reducible refine Gr.alloc ?_ _ | with_reducible refine Gr.setCell ?_ (by simp) _ | with_reducible refine Gr.setCell ?_ (by simp; omega) _ | with_reducible refine Gr.drew ?_ | with_reducible refine Gr.drewN ?_ _))⟩
  by_cases h2 : 12 < m
  · have hr : G = true := by rw [← HG.out]; unfold greatT; simp [h2]
    have h1' : ¬ (24 : Int) < (n : Int) := by omega
    have h2' : (12 : Int) < (m : Int) := by omega
    subst hr
    go_enter Try.func13, Try.ntmps13
    go_wp2
    go_ret
    exact ⟨by first | rfl | simp, by (repeat (first | with_reducible exact Gr.refl _ | with_reducible refine Gr.alloc ?_ _ | with_reducible refine Gr.setCell ?_ (by simp) _ | with_reducible refine Gr.setCell ?_ (by simp; omega) _ | with_reducible refine Gr.drew ?_ | with_reducible refine Gr.drewN ?_ _))⟩
  have h1' : ¬ (24 : Int) < (n : Int) := by omega
  have h2' : ¬ (12 : Int) < (m : Int) := by omega
  have HB : Hid (G = (zs.any (fun s => decide (10 < s.n)) || qs.any (fun q => decide (10 < q.n)))) := by
    show _ = _
    rw [← HG.out]
    unfold greatT
    simp [h1, h2]
  clear HG h1 h2
  go_enter Try.func13, Try.ntmps13
  go_wp2_with fail
  go_loopg [5] n (fun gg s5 wr => ∃ k : Nat, k ≤ n ∧ n - k ≤ gg ∧ s5 = .int .i64 k ∧ Gr w wr ∧ Hid ((zs.take k).any (fun s => decide (10 < s.n)) = false))
  case atStart => exact ⟨0, Nat.zero_le _, by omega, rfl, Gr.refl w, rfl⟩
  case round =>
    obtain ⟨k, hk, hgk, rfl, BW, HA⟩ := hrel
    by_cases hkl : k < n
    · obtain ⟨hk', b, off, rfl, hbl, c0, c1⟩ := (HI.out.gr BW).rd.sbj hkl
      have HS := hid (any_take_snoc (fun s : Sbj => decide (10 < s.n)) hk')
      have HMem := hid (mem_get hk')
      generalize zs[k]! = s at c0 c1 HS HMem
      have hkn : (k : Int) < (n : Int) := by omega
      have hk0 : (0 : Int) ≤ (k : Int) := by omega
      clear hk'
      by_cases hs : 10 < s.n
      · have hs' : (10 : Int) < (s.n : Int) := by omega
        have hr : G = true := by
          rw [HB.out]
          have : zs.any (fun s => decide (10 < s.n)) = true := List.any_eq_true.2 ⟨s, HMem.out, by simpa using hs⟩
          rw [this]; rfl
        subst hr
        go_wp2
        go_ret
        exact ⟨by first | rfl | simp, BW⟩
      · have hs' : ¬ (10 : Int) < (s.n : Int) := by omega
        go_wp2
        go_roundg (n - (k + 1))
        case measure => omega
        case rel => exact ⟨k + 1, by omega, by omega, by go_num, BW, by unfold Hid; rw [HS.out, HA.out]; simpa using hs⟩
    · have hkn : ¬ (k : Int) < (n : Int) := by omega
      have htk : zs.take k = zs := by rw [show k = zs.length by have := HL.out.1; omega, List.take_length]
      rw [htk] at HA
      have HB2 : Hid (G = qs.any (fun q => decide (10 < q.n))) := by
        show _ = _
        rw [HB.out, HA.out]; rfl
      clear htk HA HB
      obtain ⟨wp, rfl⟩ : ∃ wp : World, wp = wr := ⟨_, rfl⟩
      go_wp2_with fail
      go_loopg [6] m (fun gg s6 wr => ∃ j : Nat, j ≤ m ∧ m - j ≤ gg ∧ s6 = .int .i64 j ∧ Gr w wr ∧ Hid ((qs.take j).any (fun q => decide (10 < q.n)) = false))
      case atStart => exact ⟨0, Nat.zero_le _, by omega, rfl, BW, rfl⟩
      case round =>
        obtain ⟨j, hj, hgj, rfl, BW2, HA⟩ := hrel
        by_cases hjl : j < m
        · obtain ⟨hj', b, off, rfl, hbl, c0, c1, c2, c3⟩ := (HQ.out.gr BW2).rd.qst hjl
          have HS := hid (any_take_snoc (fun q : Qst => decide (10 < q.n)) hj')
          have HMem := hid (mem_get hj')
          generalize qs[j]! = s at c0 c1 c2 c3 HS HMem
          have hjn : (j : Int) < (m : Int) := by omega
          have hj0 : (0 : Int) ≤ (j : Int) := by omega
          clear hj'
          by_cases hs : 10 < s.n
          · have hs' : (10 : Int) < (s.n : Int) := by omega
            have hr : G = true := by
              rw [HB2.out]
              exact List.any_eq_true.2 ⟨s, HMem.out, by simpa using hs⟩
            subst hr
            go_wp2
            go_ret
            exact ⟨by first | rfl | simp, BW2⟩
          · have hs' : ¬ (10 : Int) < (s.n : Int) := by omega
            go_wp2
            go_roundg (m - (j + 1))
            case measure => omega
            case rel => exact ⟨j + 1, by omega, by omega, by go_num, BW2, by unfold Hid; rw [HS.out, HA.out]; simpa using hs⟩
        · have hjn : ¬ (j : Int) < (m : Int) := by omega
          have hr : G = false := by
            have htk : qs.take j = qs := by rw [show j = qs.length by have := HL.out.2; omega, List.take_length]
            rw [HB2.out]
            have h := HA.out
            rwa [htk] at h
          subst hr
          go_wp2
          go_ret
          exact ⟨by first | rfl | simp, BW2⟩
end Go.Proofs.Ytimhkkijoelmhaa
namespace Go.Proofs.Ytimhkkijoelmhaa
open Go.RowKit

/-- Block g holds these values, from its first cell on; none of it is frozen. -/
def Lies (w : World) (g : Nat) (t : TypeId) (xs : List Value) : Prop := ∃ cs : Array Value, w.heap[g]? = some (.cells cs t (0, 0)) ∧ ∀ (j : Nat) (u : Value), xs[j]? = some u → cs[j]? = some u
section
variable {w w' : World} {g : Nat} {t : TypeId} {xs : List Value}
theorem Lies.lt (h : Lies w g t xs) : g < w.heap.size := by
  obtain ⟨cs, h, _⟩ := h
  exact (Array.getElem?_eq_some_iff.1 h).1
theorem Lies.cell (h : Lies w g t xs) {j : Nat} {u : Value} (hu : xs[j]? = some u) : w.cell? ⟨g, j, none⟩ = some u := by
  obtain ⟨cs, h, hc⟩ := h
  rw [cell_of_row w g j cs t (0, 0) h]
  exact hc j u hu
theorem Lies.frozen (h : Lies w g t xs) (j : Nat) : w.frozen? ⟨g, j, none⟩ = false := by
  obtain ⟨cs, h, _⟩ := h
  exact frozen_of_row w g j cs t h
theorem Lies.keep (h : Lies w g t xs) (e : w'.heap[g]? = w.heap[g]?) : Lies w' g t xs := by
  obtain ⟨cs, h, k⟩ := h
  exact ⟨cs, e.trans h, k⟩
theorem Lies.set (h : Lies w g t xs) (i : Nat) (v : Value) : Lies (w.setCell ⟨g, i, none⟩ v) g t (xs.set i v) := by
  obtain ⟨cs, h, hc⟩ := h
  refine ⟨cs.setIfInBounds i v, heap_setCell_same w g i cs t _ h, fun j u hu => ?_⟩
  rw [List.getElem?_set] at hu
  rw [Array.getElem?_setIfInBounds]
  split at hu
  · rename_i e
    subst e
    split at hu
    · rename_i hl
      have := (Array.getElem?_eq_some_iff.1 (hc i _ (List.getElem?_eq_getElem hl))).1
      rw [if_pos rfl, if_pos this]
      exact hu
    · cases hu
  · rename_i e
    rw [if_neg e]
    exact hc j u hu
theorem lies_rd {n size : Nat} (h : Lies w g t xs) (hl : xs.length = n * size) : Rd w size (some ⟨g, 0, none⟩) n xs :=
  ⟨hl, fun _ => ⟨g, 0, rfl, h.lt, fun j u hu => by rw [Nat.zero_add]; exact h.cell hu⟩⟩
theorem lies_of_own {base size n c : Nat} {A : Option Addr} (h : w.ownsRow base t size (.slice A n c) n xs) (hn : 0 < n) : ∃ g, A = some ⟨g, 0, none⟩ ∧ base ≤ g ∧ Hid (Lies w g t xs) := by
  rcases h.2 with ⟨_, h0⟩ | ⟨g, cap, cur, hv, hbg, hg, _, _, _, hx⟩
  · omega
  · have hA : A = some ⟨g, 0, none⟩ := by injection hv
    refine ⟨g, hA, hbg, cur, hg, fun j u hu => ?_⟩
    subst hx
    rw [List.getElem?_take] at hu
    split at hu
    · simpa using hu
    · cases hu
/-- A row that reads as it does in every world that keeps the blocks behind g. -/
def KeptRd (w : World) (g size : Nat) (a : Option Addr) (n : Nat) (xs : List Value) : Prop := ∀ w' : World, (∀ k, g < k → k < w.heap.size → w'.heap[k]? = w.heap[k]?) → w.heap.size ≤ w'.heap.size → Rd w' size a n xs
variable {size n : Nat} {a : Option Addr}
theorem KeptRd.rd (h : KeptRd w g size a n xs) : Rd w size a n xs := h w (fun _ _ _ => rfl) (Nat.le_refl _)
theorem KeptRd.keep (h : KeptRd w g size a n xs) (hk : ∀ k, g < k → k < w.heap.size → w'.heap[k]? = w.heap[k]?) (hz : w.heap.size ≤ w'.heap.size) : KeptRd w' g size a n xs :=
  fun w'' h2 z2 => h w'' (fun k k1 k2 => (h2 k k1 (Nat.lt_of_lt_of_le k2 hz)).trans (hk k k1 k2)) (Nat.le_trans hz z2)
theorem KeptRd.of_own {base c : Nat} (h : w.ownsRow base t size (.slice a n c) n xs) (hg : g < base) : KeptRd w g size a n xs :=
  fun w' h2 z2 => Rd.of_own_keep h (fun k k1 k2 => h2 k (by omega) k2) z2
end
section
variable {α : Type} {f : α → List Value} {k : Nat} (hf : ∀ x, (f x).length = k)
include hf in
theorem flat_set {es rest : List α} {s s' : α} {i o : Nat} {v : Value} (he : es.length = i) (ho : o < k) (hs : f s' = (f s).set o v) : ((es ++ s :: rest).flatMap f).set (i * k + o) v = ((es ++ [s']) ++ rest).flatMap f := by
  have hl : (es.flatMap f).length = i * k := by rw [flatMap_len hf, he]
  have h1 := hf s
  rw [List.flatMap_append, List.flatMap_cons, List.set_append_right _ _ (by omega), hl, List.set_append_left _ _ (by omega), show i * k + o - i * k = o by omega, ← hs]
  simp
include hf in
theorem lies_at {w : World} {g : Nat} {t : TypeId} {es rest : List α} {s : α} {i : Nat} (he : es.length = i) (h : Lies w g t ((es ++ s :: rest).flatMap f)) (o : Nat) (u : Value) (hu : (f s)[o]? = some u) : w.cell? ⟨g, i * k + o, none⟩ = some u := by
  have hl : (es.flatMap f).length = i * k := by rw [flatMap_len hf, he]
  have h1 := (List.getElem?_eq_some_iff.1 hu).1
  refine h.cell ?_
  rw [List.flatMap_append, List.flatMap_cons, List.getElem?_append_right (by omega), hl, show i * k + o - i * k = o by omega, List.getElem?_append_left h1]
  exact hu
end
theorem like_n {es zs : List Sbj} {N : Nat} (h : es.map Sbj.bare = zs.map Sbj.bare) (hz : ∀ s ∈ zs, s.n ≤ N) : ∀ s ∈ es, s.n ≤ N := by
  intro s hs
  have h1 : s.bare ∈ zs.map Sbj.bare := h ▸ List.mem_map_of_mem hs
  obtain ⟨x, hx, e⟩ := List.mem_map.1 h1
  have := congrArg Sbj.n e
  have h2 := hz x hx
  exact (show s.n = x.n from this.symm) ▸ h2
theorem like_id {es zs : List Sbj} {lo hi : Int} (h : es.map Sbj.bare = zs.map Sbj.bare) (hz : ∀ s ∈ zs, lo ≤ s.id ∧ s.id ≤ hi) : ∀ s ∈ es, lo ≤ s.id ∧ s.id ≤ hi := by
  intro s hs
  have h1 : s.bare ∈ zs.map Sbj.bare := h ▸ List.mem_map_of_mem hs
  obtain ⟨x, hx, e⟩ := List.mem_map.1 h1
  have := congrArg Sbj.id e
  have h2 := hz x hx
  exact (show s.id = x.id from this.symm) ▸ h2
theorem qlike_n {es zs : List Qst} {N : Nat} (h : es.map Qst.bare = zs.map Qst.bare) (hz : ∀ s ∈ zs, s.n ≤ N) : ∀ s ∈ es, s.n ≤ N := by
  intro s hs
  have h1 : s.bare ∈ zs.map Qst.bare := h ▸ List.mem_map_of_mem hs
  obtain ⟨x, hx, e⟩ := List.mem_map.1 h1
  have := congrArg Qst.n e
  have h2 := hz x hx
  exact (show s.n = x.n from this.symm) ▸ h2
theorem info_qst10 : (Try.prog.info? 25).map (fun i => (i.zero, i.size, i.bytes)) = some (some (.agg #[.slice none 0 0, .int .i64 0, .int .i64 0, .int .i64 0]), 4, 48) := by kernel_rfl
theorem info_whr10 : (Try.prog.info? 72).map (fun i => (i.zero, i.size, i.bytes)) = some (some (.agg #[.int .i64 0, .int .i64 0, .int .i64 0]), 3, 24) := by kernel_rfl
theorem flatQ_one (l : List Qst) : ∀ v ∈ l.flatMap Qst.cells, v.oneCell' = true := by
  intro v hv
  obtain ⟨x, _, hv⟩ := List.mem_flatMap.1 hv
  simp [Qst.cells] at hv
  rcases hv with rfl | rfl | rfl | rfl <;> rfl
theorem flatW_one (l : List Whr) : ∀ v ∈ l.flatMap Whr.cells, v.oneCell' = true := by
  intro v hv
  obtain ⟨x, _, hv⟩ := List.mem_flatMap.1 hv
  simp [Whr.cells] at hv
  rcases hv with rfl | rfl | rfl <;> rfl
end Go.Proofs.Ytimhkkijoelmhaa
namespace Go.Proofs.Ytimhkkijoelmhaa
open Go.RowKit

theorem Rd.qst_len {w : World} {A : Option Addr} {n : Nat} {zs : List Qst} (h : Rd w 4 A n (zs.flatMap Qst.cells)) : zs.length = n := by
  have hl := h.len
  rw [flatMap_len Qst.len] at hl
  omega
set_option maxHeartbeats 400000 in
theorem indexFunc_qst (g : Nat) (lb : Array Value) (eg : ∀ args w, (callFunc g args).run Try.prog w = .ok (.enter g args) w) (p : Qst → Bool) (A : Option Addr) (n c : Nat) (zs : List Qst) (w : World)
    (hp : PredG Try.prog g lb Qst.val p zs w) (hr : Rd w 4 A n (zs.flatMap Qst.cells)) (hbig : n ≤ 9223372036854775807) :
    Calls Try.prog 98 #[.slice A n c, .func (.func g) #[] lb] w fun e w' => e = .returned (.int .i64 (fidx p zs)) ∧ Gr w w' := by
  have hl := hr.qst_len
  have HL := hid hl
  clear hl
  go_enter Try.func98, Try.ntmps98
  go_wp2
  go_loopg [5, 8] n (fun gg _ s8 wr => ∃ kk : Nat, kk ≤ n ∧ n - kk ≤ gg ∧ s8 = .int .i64 kk ∧ Gr w wr ∧ Hid (∀ j, j < kk → p zs[j]! = false))
  case atStart => exact ⟨0, Nat.zero_le _, by omega, rfl, Gr.refl w, fun j hj => absurd hj (Nat.not_lt_zero _)⟩
  case round =>
    obtain ⟨kk, hkk, hg, rfl, BW, HA⟩ := hrel
    by_cases hlt : kk < n
    · obtain ⟨hk', b, off, rfl, hb, hcell, hcell1, hcell2, hcell3⟩ := (hr.gr BW).qst hlt
      have hcall := hp wr zs[kk]! (mem_get (by have := HL.out; omega)) BW
      unfold Qst.val at hcall
      generalize hy : zs[kk]! = y at hcell hcell1 hcell2 hcell3 hcall
      have HY := hid hy
      clear hy
      cases hq : p y with
      | true =>
        rw [hq] at hcall
        have HQ := hid hq
        clear hq
        have HC := hid hcall
        clear hcall
        go_wp2_with (go_at_fn g; refine (HC.out).mono ?_; rintro e w' ⟨rfl, hb'⟩)
        go_ret
        refine ⟨?_, BW.trans hb'⟩
        rw [fidx_hit (k := kk) (by have := HL.out; omega) (by rw [HY.out]; exact HQ.out) HA.out]
        rfl
      | false =>
        rw [hq] at hcall
        have HQ := hid hq
        clear hq
        have HC := hid hcall
        clear hcall
        go_wp2_with (go_at_fn g; refine (HC.out).mono ?_; rintro e w' ⟨rfl, hb'⟩)
        go_roundg (n - (kk + 1))
        case measure => omega
        case rel =>
          refine ⟨kk + 1, by omega, by omega, by go_num, BW.trans hb', hid fun j hj => ?_⟩
          by_cases e : j = kk
          · subst e
            rw [HY.out]; exact HQ.out
          · exact HA.out j (by omega)
    · have hltz : ¬ (kk : Int) < (n : Int) := by omega
      go_wp2
      go_ret
      refine ⟨?_, BW⟩
      rw [fidx_miss (fun j hj => HA.out j (by have := HL.out; omega))]
      rfl

theorem containsFunc_qst (g : Nat) (lb : Array Value) (eg : ∀ args w, (callFunc g args).run Try.prog w = .ok (.enter g args) w) (p : Qst → Bool) (A : Option Addr) (n c : Nat) (zs : List Qst) (w : World)
    (hp : PredG Try.prog g lb Qst.val p zs w) (hr : Rd w 4 A n (zs.flatMap Qst.cells)) (hbig : n ≤ 9223372036854775807) :
    Calls Try.prog 79 #[.slice A n c, .func (.func g) #[] lb] w fun e w' => e = .returned (.bool (zs.any p)) ∧ Gr w w' := by
  rw [← fidx_any]
  have H := hid (indexFunc_qst g lb eg p A n c zs w hp hr hbig)
  clear hp hr eg
  go_enter Try.func79, Try.ntmps79
  go_wp2_with (go_at_call 98; refine H.out.mono ?_; rintro e w' ⟨rfl, hb'⟩)
  go_ret
  exact ⟨rfl, hb'⟩
end Go.Proofs.Ytimhkkijoelmhaa
namespace Go.Proofs.Ytimhkkijoelmhaa
open Go.RowKit Go.Shelf Go.Sort

theorem putI_split {t : Sbj} {pre post : List Sbj} (h1 : ∀ x ∈ pre, ¬ t.id < x.id) (h2 : ∀ y r, post = y :: r → t.id < y.id) : putI t (pre ++ post) = pre ++ t :: post := by
  induction pre with
  | nil =>
    cases post with
    | nil => rfl
    | cons y r => simp [putI, h2 y r rfl]
  | cons x pre ih =>
    have hx := h1 x (by simp)
    simp only [List.cons_append, putI, hx]
    rw [ih (fun y hy => h1 y (by simp [hy]))]
    rfl

/-- Where a signal has come from the right. -/
structure PutI (t : Sbj) (l rest : List Sbj) (k : Nat) (d : Array Sbj) : Prop where
  ex : ∃ pre post, l = pre ++ post ∧ d.toList = pre ++ t :: (post ++ rest) ∧ pre.length = k ∧ ∀ y r, post = y :: r → t.id < y.id
theorem PutI.start (t : Sbj) (l rest : List Sbj) : PutI t l rest l.length (l ++ t :: rest).toArray := ⟨l, [], by simp, by simp, rfl, fun y r h => by cases h⟩
theorem PutI.size {t : Sbj} {l rest : List Sbj} {k : Nat} {d : Array Sbj} (h : PutI t l rest k d) : d.size = l.length + 1 + rest.length ∧ k < d.size := by
  obtain ⟨pre, post, e1, e2, e3, _⟩ := h.ex
  have := congrArg List.length e2
  have h2 := congrArg List.length e1
  simp at this h2
  omega
theorem PutI.at_ {t : Sbj} {l rest : List Sbj} {k : Nat} {d : Array Sbj} (h : PutI t l rest k d) : d[k]! = t := by
  obtain ⟨pre, post, e1, e2, e3, _⟩ := h.ex
  have hk := h.size.2
  rw [getElem!_pos d k hk]
  have : d.toList[k]? = some t := by
    rw [e2, List.getElem?_append_right (by omega), e3]
    simp
  rw [Array.getElem?_toList, Array.getElem?_eq_getElem hk] at this
  exact Option.some.inj this
theorem PutI.step {t : Sbj} {l rest : List Sbj} {k : Nat} {d : Array Sbj} (h : PutI t l rest (k + 1) d) (hl : t.id < d[k]!.id) : PutI t l rest k (swp d (k + 1) k) := by
  have ha := h.at_
  have hs := h.size
  obtain ⟨pre, post, e1, e2, e3, e4⟩ := h.ex
  obtain ⟨p, z, rfl⟩ : ∃ p z, pre = p ++ [z] := ⟨pre.dropLast, pre.getLast (by intro e; subst e; simp at e3), (List.dropLast_concat_getLast _).symm⟩
  have hp : p.length = k := by simpa using e3
  have hz : d[k]! = z := by
    rw [getElem!_pos d k (by omega)]
    have : d.toList[k]? = some z := by
      rw [e2, List.append_assoc, List.getElem?_append_right (by omega), hp]
      simp
    rw [Array.getElem?_toList, Array.getElem?_eq_getElem (by omega)] at this
    exact Option.some.inj this
  refine ⟨p, z :: post, by rw [e1]; simp, ?_, hp, fun y r hy => by cases hy; rw [← hz]; exact hl⟩
  have hsz : (swp d (k + 1) k).size = d.size := by simp [swp]
  apply List.ext_getElem?
  intro i
  by_cases hi : i < d.size
  · have e5 : (swp d (k + 1) k).toList[i]? = some ((swp d (k + 1) k)[i]!) := by
      rw [Array.getElem?_toList, Array.getElem?_eq_getElem (by omega), getElem!_pos _ i (by omega)]
    have e6 : d.toList[i]? = some d[i]! := by
      rw [Array.getElem?_toList, Array.getElem?_eq_getElem hi, getElem!_pos d i hi]
    rw [e5, swp_get d (show k + 1 < d.size by omega) (show k < d.size by omega)]
    rw [e2, List.append_assoc] at e6
    by_cases h1 : i = k
    · subst h1
      rw [if_pos rfl, ha, List.getElem?_append_right (by omega), hp]
      simp
    · by_cases h2 : i = k + 1
      · subst h2
        rw [if_neg h1, if_pos rfl, hz, List.getElem?_append_right (by omega), hp]
        simp
      · rw [if_neg h1, if_neg h2, ← e6]
        by_cases h3 : i < k
        · rw [List.getElem?_append_left (by omega), List.getElem?_append_left (by omega)]
        · obtain ⟨j, rfl⟩ : ∃ j, i = k + 2 + j := ⟨i - k - 2, by omega⟩
          have e7 : (p ++ ([z] ++ t :: (post ++ rest)))[k + 2 + j]? = (post ++ rest)[j]? := by
            rw [List.getElem?_append_right (by omega), hp, show k + 2 + j - k = j + 1 + 1 by omega]; simp
          have e8 : (p ++ t :: (z :: post ++ rest))[k + 2 + j]? = (post ++ rest)[j]? := by
            rw [List.getElem?_append_right (by omega), hp, show k + 2 + j - k = j + 1 + 1 by omega]; simp
          rw [e7, e8]
  · have hl1 : (swp d (k + 1) k).toList.length ≤ i := by simp; omega
    have h2 := congrArg List.length e2
    have hl2 : (p ++ t :: (z :: post ++ rest)).length ≤ i := by simp at h2 ⊢; omega
    rw [List.getElem?_eq_none hl1, List.getElem?_eq_none hl2]
theorem PutI.done {t : Sbj} {l rest : List Sbj} {k : Nat} {d : Array Sbj} (h : PutI t l rest k d) (ho : l.Pairwise (fun x y => x.id < y.id)) (hk : k = 0 ∨ ¬ t.id < d[k - 1]!.id) : d = (putI t l ++ rest).toArray := by
  have hs := h.size
  obtain ⟨pre, post, e1, e2, e3, e4⟩ := h.ex
  have h1 : ∀ x ∈ pre, ¬ t.id < x.id := by
    intro x hx
    by_cases hk0 : k = 0
    · subst hk0
      have : pre = [] := List.length_eq_zero_iff.1 e3
      subst this; simp at hx
    · have hk := hk.resolve_left hk0
      obtain ⟨p, z, rfl⟩ : ∃ p z, pre = p ++ [z] := ⟨pre.dropLast, pre.getLast (by intro e; subst e; simp at hx), (List.dropLast_concat_getLast _).symm⟩
      have hp : p.length = k - 1 := by simp at e3; omega
      have hz : d[k - 1]! = z := by
        rw [getElem!_pos d (k - 1) (by omega)]
        have : d.toList[k - 1]? = some z := by
          rw [e2, List.append_assoc, List.getElem?_append_right (by omega), hp]
          simp
        rw [Array.getElem?_toList, Array.getElem?_eq_getElem (by omega)] at this
        exact Option.some.inj this
      rw [hz] at hk
      rcases List.mem_append.1 hx with hx | hx
      · rw [e1, List.append_assoc] at ho
        have h5 := (List.pairwise_append.1 ho).2.2 x hx z (by simp)
        omega
      · simp at hx; subst hx; exact hk
  have := putI_split h1 e4
  rw [e1, this]
  have e9 : pre ++ t :: post ++ rest = d.toList := by rw [e2]; simp
  rw [e9]

/-- A row of the call's own, behind exchanges. -/
theorem own_back10 {W W' : World} {base g cap : Nat} {e : TypeId} {n : Nat} {xs : List Value} (h : W.ownsRow base e 2 (.slice (some ⟨g, 0, none⟩) n cap) n xs) {d : Array Sbj} (S : SWK Sbj.cells 2 W g 0 d W') (hH : HoldsK Sbj.cells 2 W' g 0 d) (hd : d.size = n) :
    W'.ownsRow base e 2 (.slice (some ⟨g, 0, none⟩) n cap) n (d.toList.flatMap Sbj.cells) := by
  refine ⟨by rw [flatMap_len Sbj.len]; simp [hd], ?_⟩
  rcases h.2 with ⟨h1, _⟩ | ⟨g', cap', cur, h1, h2, h3, h4, h5, h6, _⟩
  · cases h1
  · cases h1
    have hg : g < W.heap.size := (Array.getElem?_eq_some_iff.1 h3).1
    obtain ⟨cur', h7, h8⟩ : ∃ cur', W'.heap[g]? = some (.cells cur' e (0, 0)) ∧ cur'.size = cap * 2 := by
      obtain ⟨m, os, rfl⟩ := S
      refine ⟨putCells id 0 (flatK Sbj.cells 2 d) cur, ?_, ?_⟩
      · simp only [sortWorldK, grow, putRowK, putRow, mapBlock, Sort.ahead]
        rw [Array.getElem?_append_left (by simpa using hg), Array.getElem?_modify, if_pos rfl]
        have h3' : W.heap[g]? = some (.cells cur e (0, 0)) := h3
        rw [h3']
        rfl
      · rw [← h6]
        simp [putCells]
    refine .inr ⟨g, cap, cur', rfl, h2, h7, h4, h5, h8, ?_⟩
    apply List.ext_getElem?
    intro j
    by_cases hj : j < n * 2
    · rw [List.getElem?_take, if_pos hj, Array.getElem?_toList, flatK_at Sbj.len d.toList j (by simpa [hd] using hj)]
      have hc := (hH j (by rw [size_flatK, hd]; exact hj)).1
      rw [Nat.zero_add, cell_of_row W' g j cur' e _ h7, get_flatK _ _ _ _ (by rw [hd]; exact hj)] at hc
      rw [hc]
      simp
    · rw [List.getElem?_eq_none (by simp; omega), List.getElem?_eq_none (by rw [flatMap_len Sbj.len]; simp [hd]; omega)]
theorem holds10_get {W : World} {g : Nat} {d : Array Sbj} (h : HoldsK Sbj.cells 2 W g 0 d) {i : Nat} (hi : i < d.size) (q : Nat) (hq : q < 2) : W.cell? ⟨g, i * 2 + q, none⟩ = some (d[i]!.cells[q]!) ∧ W.frozen? ⟨g, i * 2 + q, none⟩ = false := by
  have hj : i * 2 + q < d.size * 2 := by omega
  have := h (i * 2 + q) (by rw [size_flatK]; exact hj)
  rw [Nat.zero_add, get_flatK _ _ _ _ hj, show (i * 2 + q) / 2 = i by omega, show (i * 2 + q) % 2 = q by omega] at this
  exact this
/-- An element, cell by cell. -/
theorem holds10_cells {W : World} {g : Nat} {d : Array Sbj} (h : HoldsK Sbj.cells 2 W g 0 d) {i : Nat} (hi : i < d.size) :
    (W.cell? ⟨g, i * 2, none⟩ = some (.int .i64 d[i]!.id) ∧ W.cell? ⟨g, i * 2 + 1, none⟩ = some (.slice d[i]!.a d[i]!.n d[i]!.c)) ∧ (W.frozen? ⟨g, i * 2, none⟩ = false ∧ W.frozen? ⟨g, i * 2 + 1, none⟩ = false) :=
  ⟨⟨(holds10_get h hi 0 (by omega)).1, (holds10_get h hi 1 (by omega)).1⟩, ⟨(holds10_get h hi 0 (by omega)).2, (holds10_get h hi 1 (by omega)).2⟩⟩
end Go.Proofs.Ytimhkkijoelmhaa
namespace Go.Proofs.Ytimhkkijoelmhaa
open Go.RowKit Go.Shelf Go.Sort Go.Lib

theorem drew_setCells10 (b : Nat) : ∀ (vs : List Value) (o : Nat) (W : World), W.drew.setCells b o vs = (W.setCells b o vs).drew
  | [], _, _ => rfl
  | v :: r, o, W => by
    show (W.drew.setCell ⟨b, o, none⟩ v).setCells b (o + 1) r = ((W.setCell ⟨b, o, none⟩ v).setCells b (o + 1) r).drew
    rw [World.setCell_drew]
    exact drew_setCells10 b r (o + 1) _
theorem ordI_take {zs : List Sbj} {i : Nat} (hi : i < zs.length) : ordI (zs.take (i + 1)) = putI zs[i]! (ordI (zs.take i)) := by
  unfold ordI
  rw [List.take_succ_eq_append_getElem hi, List.foldl_append, ← getElem!_pos zs i hi]
  rfl
theorem ordI_len (l : List Sbj) : (ordI l).length = l.length := (ordI_perm l).length_eq

/-- What Ordered hands back. -/
def RefOrdRet (zs : List Sbj) (n : Nat) (w : World) (e : Ending) (w' : World) : Prop := ∃ B cap, e = .returned (.slice B n cap) ∧ (Gr w w' ∧ Rd w' 2 B n ((ordI zs).flatMap Sbj.cells))

set_option maxRecDepth 100000 in
set_option maxHeartbeats 16000000 in
theorem refOrdered_any (A : Option Addr) (n c : Nat) (zs : List Sbj) (w : World) (hi : SbjsIn w A n zs) (hn : n ≤ 1000) (hap : zs.Pairwise (fun x y => x.id ≠ y.id)) :
    Calls Try.prog 46 #[.slice A n c] w (RefOrdRet zs n w) := by
  obtain ⟨i0, hi0, hz0, hs0, hy0⟩ := info_parts info_sbj
  have HI0 := hid hi0
  have HZ0 := hid hz0
  have HS0 := hid hs0
  have HY0 := hid hy0
  have HRd := hid (hi.rd.gr ((Gr.refl w).alloc (.cells #[] 60)))
  have HL := hid hi.len
  have HAp := hid hap
  clear hi hap hi0 hz0 hs0 hy0
  go_enter Try.func46, Try.ntmps46
  go_wp2_with (first
    | ((with_reducible show wpList _ _ _ (⟨some 8, _, _, _, _, _⟩ :: _) _ _); refine wpList_append_rd _ rfl (.tmp 6) (.tmp 7) 22 rfl w.heap.size 60 i0 (.agg #[.int .i64 0, .slice none 0 0]) 2 32 Try.underlying22 HI0.out HZ0.out HS0.out HY0.out rfl (by decide) _ _ _ rfl (own_new w w.heap.size 60 2 rfl) A n c (zs.flatMap Sbj.cells) rfl HRd.out (flatE_one zs) (by have : maxLen = 9223372036854775807 := rfl; omega) (by omega) (by simp) ?_; intro B cap w9 hown hbel; rw [Nat.zero_add, List.nil_append] at hown; have HO := hid hown; have hb9 : Below w.heap.size w w9 := Below.trans ((Gr.refl w).alloc _) hbel; have HB := hid hb9; clear hown hbel hb9; simp only [Nat.zero_add]))
  rcases Nat.eq_zero_or_pos n with h0 | h0
  · subst h0
    have hz : zs = [] := List.length_eq_zero_iff.1 HL.out
    subst hz
    go_wp2_with fail
    go_loopg [4] 0 (fun gg s4 wr => s4 = .int .i64 1 ∧ wr = w9)
    case atStart => exact ⟨rfl, rfl⟩
    case round =>
      obtain ⟨rfl, rfl⟩ := hrel
      go_wp2
      go_ret
      unfold RefOrdRet
      exact ⟨B, cap, rfl, HB.out, Rd.nil_⟩
  · obtain ⟨g, hBg, hbg, hgl, hnc, hcm, HH0⟩ : ∃ g, B = some ⟨g, 0, none⟩ ∧ w.heap.size ≤ g ∧ g < w9.heap.size ∧ n ≤ cap ∧ cap ≤ 9223372036854775807 ∧ Hid (HoldsK Sbj.cells 2 w9 g 0 zs.toArray) := by
      rcases HO.out.2 with ⟨_, h⟩ | ⟨g, cap', cur, hv, h1, h2, h3, h4, h5, h6⟩
      · omega
      · injection hv with e1 e2 e3
        subst e1 e3
        refine ⟨g, rfl, h1, (Array.getElem?_eq_some_iff.1 h2).1, h3, h4, holdsK_own Sbj.len h2 ?_⟩
        rw [show zs.length = n from HL.out]
        exact h6
    subst hBg
    have HGl := hid hgl
    have HGb := hid hbg
    have hl := HL.out
    go_wp2_with fail
    go_loopg [4] n (fun gg s4 wr => ∃ (i : Nat) (d : Array Sbj), 1 ≤ i ∧ i ≤ n ∧ n - i ≤ gg ∧ s4 = .int .i64 i ∧ Hid (SWK Sbj.cells 2 w9 g 0 d wr ∧ d.toList = ordI (zs.take i) ++ zs.drop i))
    case atStart =>
      refine ⟨1, zs.toArray, Nat.le_refl _, h0, by omega, rfl, SWK.start HH0.out, ?_⟩
      rw [show (1 : Nat) = 0 + 1 from rfl, ordI_take (by omega), List.take_zero]
      show zs = putI zs[0]! [] ++ zs.drop (0 + 1)
      have e1 : zs[0]! :: zs.drop 1 = zs := by
        rw [getElem!_pos zs 0 (by omega)]
        cases zs with
        | nil => simp at hl; omega
        | cons a r => rfl
      exact e1.symm
    case round =>
      obtain ⟨i, d, hi1, hin, hgi, rfl, HD⟩ := hrel
      by_cases hil : i < n
      · have hik : i < zs.length := by omega
        have hin' : (i : Int) < (n : Int) := by omega
        have HDr : Hid (zs.drop i = zs[i]! :: zs.drop (i + 1)) := by
          show _ = _
          rw [List.drop_eq_getElem_cons hik, getElem!_pos zs i hik]
        have HT2 := hid (ordI_take hik)
        have HSo : Hid ((ordI (zs.take i)).Pairwise (fun x y => x.id < y.id)) := ordI_sorted (HAp.out.sublist (List.take_sublist _ _))
        have HM : Hid ((ordI (zs.take i)).length = i) := by show _ = _; rw [ordI_len, List.length_take]; omega
        have HR9 : Hid ((zs.drop (i + 1)).length = n - (i + 1)) := by show _ = _; rw [List.length_drop]; omega
        generalize zs[i]! = t at HDr HT2
        generalize ordI (zs.take i) = o at *
        generalize hrest : zs.drop (i + 1) = rest at *
        have HRest := hid hrest
        clear hrest
        obtain ⟨wp, rfl⟩ : ∃ wp : World, wp = wr := ⟨_, rfl⟩
        go_wp2_with fail
        go_loopg [5] i (fun gg s5 wq => ∃ (k : Nat) (e : Array Sbj), s5 = .int .i64 k ∧ k ≤ i ∧ k ≤ gg ∧ Hid (PutI t o rest k e ∧ SWK Sbj.cells 2 w9 g 0 e wq))
        case atStart =>
          refine ⟨i, d, rfl, Nat.le_refl _, Nat.le_refl _, ?_, HD.out.1⟩
          have h := PutI.start t o rest
          rw [HM.out] at h
          have e1 : d = (o ++ t :: rest).toArray := by
            apply Array.ext'
            rw [HD.out.2, HDr.out]
          rw [e1]
          exact h
        case round =>
          obtain ⟨q, e, rfl, hq, hqg, HQ⟩ := hrel
          obtain ⟨hq1, hq2⟩ := HQ.out
          obtain ⟨hs1, hs2⟩ := hq1.size
          have hsn : e.size = n := by have h1 := HM.out; have h2 := HR9.out; omega
          have hs0 : e.size = zs.toArray.size := by simp; omega
          have HEnd : Hid ((q = 0 ∨ ¬ t.id < e[q - 1]!.id) → ∀ W', SWK Sbj.cells 2 w9 g 0 e W' → (SWK Sbj.cells 2 w9 g 0 (putI t o ++ rest).toArray W')) := fun h W' S => by
            have ee := hq1.done HSo.out h
            rw [← ee]
            exact S
          by_cases hq0 : q = 0
          · subst hq0
            have HF2 := hid (fun n' => HEnd.out (.inl rfl) _ (hq2.drewN n'))
            clear hq1 hq2 hs1 hs2 hs0 HEnd
            go_wp2_with fail
            go_quiet (fail)
            go_wp2
            go_roundg (n - (i + 1))
            case measure => omega
            case rel => exact ⟨i + 1, (putI t o ++ rest).toArray, by omega, by omega, by omega, by go_num, HF2.out _, by rw [HT2.out, HRest.out]⟩
          · obtain ⟨j, rfl⟩ : ∃ j, q = j + 1 := ⟨q - 1, by omega⟩
            clear hq0
            rw [Nat.add_sub_cancel] at HEnd
            have hat := hq1.at_
            obtain ⟨y, hy⟩ : ∃ y, e[j]! = y := ⟨_, rfl⟩
            obtain ⟨⟨a0, a1⟩, _⟩ := holds10_cells (hq2.holds HGl.out HH0.out hs0) hs2
            obtain ⟨⟨b0, b1⟩, _⟩ := holds10_cells (hq2.holds HGl.out HH0.out hs0) (i := j) (by omega)
            rw [hat] at a0 a1
            rw [hy] at b0 b1 HEnd
            have HY := hid hy
            have HAt2 := hid hat
            have HQ1 := hid hq1
            have HQ22 := hid hq2
            have HSz := hid (And.intro hs2 hs0)
            have hj0 : (0 : Int) ≤ (j : Int) := by omega
            have hj1 : (0 : Int) ≤ (j : Int) + 1 := by omega
            have hjp : (0 : Int) < (j : Int) + 1 := by omega
            have hjm1 : (j : Int) < (n : Int) := by omega
            have hjm2 : (j : Int) + 1 < (n : Int) := by omega
            have hjt : ((j : Int) + 1).toNat = j + 1 := by omega
            have hjw : IntKind.i64.wrap ((j : Int) + 1 - 1) = (j : Int) := by rw [IntKind.wrap_i64]; omega
            have hjw2 : IntKind.i64.wrap (j : Int) = (j : Int) := by rw [IntKind.wrap_i64]; omega
            by_cases hty : t.id < y.id
            · have HPQ := hid (hq1.step (k := j) (by rw [hy]; exact hty))
              clear hq1 hq2 hs1 hs2 hs0 hat hy HEnd
              go_wp2_with fail
              go_quiet (fail)
              go_wp2_with fail
              have HG2 := hid (HQ22.out.drewN nq)
              clear a0 a1 b0 b1
              generalize wr.drewN nq = wz at HG2 ⊢
              have S2 := hid (HG2.out.swapped (⟨Sbj.len, Sbj.one, HH0.out, HGl.out⟩ : RowK Sbj.cells 2 w9 g 0 zs.toArray) (j + 1) j HSz.out.1 (by have := HSz.out.1; omega))
              obtain ⟨⟨a0, a1⟩, f0, f1⟩ := holds10_cells (HG2.out.holds HGl.out HH0.out HSz.out.2) HSz.out.1
              obtain ⟨⟨b0, b1⟩, g0, g1⟩ := holds10_cells (HG2.out.holds HGl.out HH0.out HSz.out.2) (i := j) (by have := HSz.out.1; omega)
              simp only [Nat.zero_add] at S2
              rw [HAt2.out] at a0 a1 S2
              rw [HY.out] at b0 b1 S2
              go_region
              all_goals go_wp2
              go_roundg j
              case measure => omega
              case rel =>
                refine ⟨j, swp e (j + 1) j, by first | rfl | go_num, by omega, Nat.le_refl _, HPQ.out, ?_⟩
                have h := S2.out
                rw [drew_setCells10, drew_setCells10] at h
                exact h
            · have HF2 := hid (fun n' => HEnd.out (.inr hty) _ (hq2.drewN n'))
              clear hq1 hq2 hs1 hs2 hs0 hat hy HEnd
              go_wp2_with fail
              go_quiet (fail)
              go_wp2
              go_roundg (n - (i + 1))
              case measure => omega
              case rel => exact ⟨i + 1, (putI t o ++ rest).toArray, by omega, by omega, by omega, by go_num, HF2.out _, by rw [HT2.out, HRest.out]⟩
      · have hin' : ¬ (i : Int) < (n : Int) := by omega
        have htk : zs.take i = zs := by rw [show i = zs.length by omega, List.take_length]
        have hdk : zs.drop i = [] := by rw [show i = zs.length by omega, List.drop_length]
        obtain ⟨hS, hd⟩ := HD.out
        rw [htk, hdk, List.append_nil] at hd
        have hdn : d.size = n := by
          have h := congrArg List.length hd
          rw [ordI_len] at h
          simp at h
          omega
        have hr := rdK_holds Sbj.len (hS.holds HGl.out HH0.out (by simp; omega)) (hS.lt HGl.out)
        rw [hdn, hd] at hr
        have HF := hid hr
        have HGr := hid (gr_sortK (show Gr w w9 from HB.out) hS HGb.out)
        clear htk hdk hS hd hr HD
        go_wp2
        go_ret
        unfold RefOrdRet
        exact ⟨_, cap, rfl, HGr.out, HF.out⟩
end Go.Proofs.Ytimhkkijoelmhaa
