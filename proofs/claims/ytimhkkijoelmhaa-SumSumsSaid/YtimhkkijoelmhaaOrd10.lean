/- ordered of the package sum: subjects by their Ids, in new memory. For lists of subjects with Ids in bounds. -/
import Derived.Test.YtimhkkijoelmhaaCollectS
import Derived.Test.YtimhkkijoelmhaaLaySortS
import Derived.Test.YtimhkkijoelmhaaRowK
import Derived.Test.YtimhkkijoelmhaaTbl10
import Derived.Shelf.SlSortCmp.QuietGrown
import Derived.Shelf.SlSortCmp.WholeK
namespace Go.Proofs.Ytimhkkijoelmhaa
open Go.RowKit Go.Shelf Go.Sort Go.Lib

/-- Some draws, and some blocks behind. -/
def Gs (w w' : World) : Prop := ∃ q os, w' = grow (w.drewN q) os
theorem Gs.refl (w : World) : Gs w w := ⟨0, #[], by rw [grow_empty]; rfl⟩
theorem Gs.alloc {a w : World} (h : Gs a w) (o : Obj) : Gs a (w.alloc o) := by
  obtain ⟨q, os, rfl⟩ := h
  exact ⟨q, os ++ #[o], by rw [alloc_eq_grow, grow_grow]⟩

/-- A subject whose Id lies in bounds. -/
structure SbjV where
  s : Sbj
  h : 0 ≤ s.id ∧ s.id ≤ 999999
instance : Inhabited SbjV := ⟨⟨⟨0, none, 0, 0, []⟩, by decide⟩⟩
def SbjV.cells (x : SbjV) : List Value := x.s.cells
theorem SbjV.len (x : SbjV) : x.cells.length = 2 := rfl
theorem SbjV.one (x : SbjV) : ∀ v ∈ x.cells, v.oneCell' = true := x.s.one
def cmpV (x y : SbjV) : Int := x.s.id - y.s.id
theorem lt_v (x y : SbjV) : ltOf cmpV x y = decide (x.s.id < y.s.id) := by
  unfold ltOf cmpV
  rw [Bool.eq_iff_iff, decide_eq_true_iff, decide_eq_true_iff]
  omega
theorem swo_v : SWO (ltOf cmpV) := {
  irrefl := fun x => by rw [lt_v]; simp
  trans := fun x y z h1 h2 => by
    rw [lt_v, decide_eq_true_iff] at *
    omega
  ntrans := fun x y z h1 h2 => by
    rw [lt_v, decide_eq_false_iff_not] at *
    omega }

set_option maxRecDepth 100000 in
set_option maxHeartbeats 1000000 in
theorem ord1_any (x y : SbjV) (w : World) : Calls Try.prog 71 #[x.s.val, y.s.val] w fun e w' => e = .returned (.int .i64 (cmpV x y)) ∧ Gs w w' := by
  obtain ⟨⟨id, a, n, c, vals⟩, hx⟩ := x
  obtain ⟨⟨id', a', n', c', vals'⟩, hy⟩ := y
  unfold cmpV Sbj.val
  dsimp only at *
  have hx' : 0 ≤ id ∧ id ≤ 999999 := hx
  have hy' : 0 ≤ id' ∧ id' ≤ 999999 := hy
  have hw : IntKind.i64.wrap (id - id') = id - id' := by rw [IntKind.wrap_i64]; omega
  go_enter Try.func71, Try.ntmps71
  go_wp2
  go_ret
  exact ⟨rfl, ((Gs.refl w).alloc _).alloc _⟩
theorem cmpLays_v (b size : Nat) (w : World) : CmpLays Try.prog 71 #[] SbjV.cells 2 cmpV b 0 size w :=
  fun _ _ _ _ x y => ord1_any x y _

/-- What ordered hands back. -/
def Ord10 (es : List Sbj) (w w' : World) (v : Value) : Prop :=
  ∃ (A : Option Addr) (cap : Nat) (es' : List Sbj), v = .slice A es.length cap ∧ es'.Perm es ∧ es'.Pairwise (fun x y => x.id < y.id) ∧ Rd w' 2 A es.length (es'.flatMap Sbj.cells) ∧ Gr w w'

set_option maxRecDepth 100000 in
set_option maxHeartbeats 2000000 in
theorem sortS_any (es : List Sbj) (v : Value) (w0 w : World) (hw : Gr w0 w) (base : Nat) (hb : w0.heap.size ≤ base) (hv : w.ownsRow base 60 2 v es.length (flatE es)) (hn : es.length ≤ 1000)
    (hid : ∀ s ∈ es, 0 ≤ s.id ∧ s.id ≤ 999999) (hd : es.Pairwise (fun x y => x.id ≠ y.id)) (h0 : 0 < es.length) :
    Calls Try.prog 94 #[v, .func (.func 71) #[] #[]] w fun e w' => e = .returned (.tuple #[]) ∧ Ord10 es w0 w' v := by
  obtain ⟨l, hl⟩ : ∃ l : List SbjV, l.map SbjV.s = es := ⟨es.attach.map (fun x => ⟨x.1, hid x.1 x.2⟩), by rw [List.map_map]; simp [Function.comp_def]⟩
  have hle : l.length = es.length := by rw [← hl]; simp
  have hfl : l.flatMap SbjV.cells = flatE es := by
    rw [← hl]
    unfold flatE
    rw [List.flatMap_map]
    rfl
  rw [← hle, ← hfl] at hv
  obtain ⟨A, cap, rfl, hO⟩ := ownK_of SbjV.len hv hb
  obtain ⟨_, hlc, hbig, hrow⟩ := hO
  rcases hrow with ⟨rfl, h00, rfl⟩ | ⟨b, rfl, h1, h2, h3⟩
  · omega
  · have eg : ∀ args w, (callFunc 71 args).run Try.prog w = .ok (.enter 71 args) w := enters_of Try.func71 (by kernel_rfl) rfl
    have H := AnyQ.slices_SortFunc sortSbj 2 Try.isAgg60 Try.sizeOf60 SbjV.cells SbjV.len SbjV.one cmpV swo_v 71 #[] b 0 cap l.toArray w eg (cmpLays_v b _ w) h3 h2 (by simp; omega)
    simp only [List.size_toArray] at H
    refine H.mono ?_
    rintro e w' ⟨rfl, d', m, os, T1, T2, rfl⟩
    have S : SWK SbjV.cells 2 w b 0 d' (sortWorldK SbjV.cells 2 w b 0 m d' os) := ⟨m, os, rfl⟩
    have hs : d'.size = l.length := by simpa using T1.1
    have hp : d'.toList.Perm l := by
      have p := T1.2.2
      have e1 : d'.extract 0 l.toArray.size = d' := by simp [← hs]
      have e2 : l.toArray.extract 0 l.toArray.size = l.toArray := by simp
      simp only [List.size_toArray] at e1 e2
      rw [e1, e2] at p
      simpa using p
    have hpm : (d'.toList.map SbjV.s).Perm es := by rw [← hl]; exact hp.map _
    have hap : (d'.toList.map SbjV.s).Pairwise (fun x y => x.id ≠ y.id) := (hpm.pairwise_iff (fun {x y} h => Ne.symm h)).2 hd
    rw [List.pairwise_map] at hap
    refine ⟨rfl, some ⟨b, 0, none⟩, cap, d'.toList.map SbjV.s, by rw [hle], hpm, ?_, ?_, gr_sortK hw S h1⟩
    · rw [List.pairwise_map]
      refine List.pairwise_iff_getElem.2 (fun i j hi hj hij => ?_)
      have q := T2 i j (Nat.zero_le _) hij (by simp at hj; omega)
      have q2 := List.pairwise_iff_getElem.1 hap i j hi hj hij
      have hi2 : i < d'.size := by simpa using hi
      have hj2 : j < d'.size := by simpa using hj
      rw [lt_v, decide_eq_false_iff_not] at q
      rw [getElem!_pos d' i hi2, getElem!_pos d' j hj2] at q
      simp only [Array.getElem_toList] at q2 ⊢
      omega
    · have h := rdK_holds SbjV.len (S.holds h2 h3 (by simpa using hs)) (S.lt h2)
      rw [hs, hle] at h
      have e3 : (d'.toList.map SbjV.s).flatMap Sbj.cells = d'.toList.flatMap SbjV.cells := by rw [List.flatMap_map]; rfl
      rw [e3]
      exact h
end Go.Proofs.Ytimhkkijoelmhaa
