/- Rows of things of k cells each that the call itself owns. For every row. -/
import Derived.Laws.AppendOwn
import Derived.Shelf.SlSortCmp.KitK
import Derived.Test.YtimhkkijoelmhaaQRegGr
import Derived.Test.YtimhkkijoelmhaaQAmong9
namespace Go.Proofs.Ytimhkkijoelmhaa
open Go.RowKit Go.Shelf Go.Sort Go.Lib
variable {α : Type} [Inhabited α] {enc : α → List Value} {k : Nat}

theorem flatK_at (hl : ∀ x, (enc x).length = k) (es : List α) (j : Nat) (hj : j < es.length * k) : (es.flatMap enc)[j]? = some ((enc es.toArray[j / k]!)[j % k]!) := by
  have hk : 0 < k := by
    rcases Nat.eq_zero_or_pos k with rfl | h
    · simp at hj
    · exact h
  have hkk : j / k < es.length := Nat.div_lt_of_lt_mul (by rw [Nat.mul_comm]; exact hj)
  have e : j = j / k * k + j % k := (Nat.div_add_mod' j k).symm
  have h1 := flatMap_get hl hkk (Nat.mod_lt j hk)
  rw [← e] at h1
  rw [h1]
  have h2 : es[j / k]! = es.toArray[j / k]! := by
    rw [getElem!_pos es _ hkk, getElem!_pos es.toArray _ (by simpa using hkk)]
    simp
  rw [h2]
  have hm : j % k < (enc es.toArray[j / k]!).length := by rw [hl]; exact Nat.mod_lt j hk
  rw [List.getElem?_eq_getElem hm, getElem!_pos (enc es.toArray[j / k]!) (j % k) hm]
theorem holdsK_own (hl : ∀ x, (enc x).length = k) {W : World} {g : Nat} {cur : Array Value} {t : TypeId} {es : List α} (h : W.heap[g]? = some (.cells cur t (0, 0))) (hx : cur.toList.take (es.length * k) = es.flatMap enc) : HoldsK enc k W g 0 es.toArray := by
  intro j hj
  rw [size_flatK] at hj
  have hj' : j < es.length * k := by simpa using hj
  have e1 : (cur.toList.take (es.length * k))[j]? = some ((enc es.toArray[j / k]!)[j % k]!) := by rw [hx]; exact flatK_at hl es j hj'
  rw [List.getElem?_take, if_pos hj', Array.getElem?_toList] at e1
  refine ⟨?_, by simp [World.frozen?, h]⟩
  rw [Nat.zero_add, cell_of_row W g j cur t _ h, e1, get_flatK _ _ _ _ hj]
  rfl
theorem rdK_holds (hl : ∀ x, (enc x).length = k) {W : World} {g : Nat} {d : Array α} (h : HoldsK enc k W g 0 d) (hg : g < W.heap.size) : Rd W k (some ⟨g, 0, none⟩) d.size (d.toList.flatMap enc) := by
  refine ⟨by rw [flatMap_len hl]; simp, fun _ => ⟨g, 0, rfl, hg, fun j u hu => ?_⟩⟩
  have hj : j < d.size * k := by
    have h1 := (List.getElem?_eq_some_iff.1 hu).1
    rw [flatMap_len hl] at h1
    simpa [Nat.mul_comm] using h1
  rw [flatK_at hl d.toList j (by simpa using hj)] at hu
  have := (h j (by rw [size_flatK]; exact hj)).1
  rw [this, get_flatK _ _ _ _ hj]
  simpa using hu
theorem holdsK_gr {W W' : World} {g : Nat} {d : Array α} (h : HoldsK enc k W g 0 d) (kk : Gr W W') (hg : g < W.heap.size) : HoldsK enc k W' g 0 d := fun j hj =>
  ⟨(kk.cell hg).trans (h j hj).1, (kk.frozen hg).trans (h j hj).2⟩
theorem gr_sortK {w W W' : World} {g : Nat} {d' : Array α} (h : Gr w W) (S : SWK enc k W g 0 d' W') (hg : w.heap.size ≤ g) : Gr w W' := by
  obtain ⟨n, os, rfl⟩ := S
  have hb : Below w.heap.size w W := h
  refine ⟨hb.os, hb.tape, hb.output, ?_, fun q hq => ?_⟩
  · exact Nat.le_trans hb.size (size_sortWorldK_c enc k W g 0 n d' os)
  · have hk' : q < W.heap.size := Nat.lt_of_lt_of_le hq hb.size
    rw [← hb.block q hq]
    simp only [sortWorldK, grow, putRowK, putRow, mapBlock, Sort.ahead]
    rw [Array.getElem?_append_left (by simpa using hk'), Array.getElem?_modify, if_neg (by omega)]
/-- A slice of the call's own: it holds a list. -/
structure OwnK (enc : α → List Value) (k : Nat) (w0 W : World) (A : Option Addr) (n cap : Nat) (l : List α) : Prop where
  len : n = l.length
  le : n ≤ cap
  big : cap ≤ 9223372036854775807
  row : (A = none ∧ n = 0 ∧ cap = 0) ∨ ∃ b, A = some ⟨b, 0, none⟩ ∧ w0.heap.size ≤ b ∧ b < W.heap.size ∧ HoldsK enc k W b 0 l.toArray
theorem OwnK.gr {w0 W W' : World} {A : Option Addr} {n cap : Nat} {l : List α} (h : OwnK enc k w0 W A n cap l) (g : Gr W W') : OwnK enc k w0 W' A n cap l :=
  ⟨h.len, h.le, h.big, h.row.imp id fun ⟨b, e, h1, h2, h3⟩ => ⟨b, e, h1, Nat.lt_of_lt_of_le h2 g.size, holdsK_gr h3 g h2⟩⟩
theorem OwnK.mono {w0 w1 W : World} {A : Option Addr} {n cap : Nat} {l : List α} (h : OwnK enc k w1 W A n cap l) (hs : w0.heap.size ≤ w1.heap.size) : OwnK enc k w0 W A n cap l :=
  ⟨h.len, h.le, h.big, h.row.imp id fun ⟨b, e, h1, h2, h3⟩ => ⟨b, e, Nat.le_trans hs h1, h2, h3⟩⟩
theorem OwnK.rd (hl : ∀ x, (enc x).length = k) {w0 W : World} {A : Option Addr} {n cap : Nat} {l : List α} (h : OwnK enc k w0 W A n cap l) : Rd W k A n (l.flatMap enc) := by
  obtain ⟨h1, _, _, h4⟩ := h
  subst h1
  rcases h4 with ⟨rfl, h0, _⟩ | ⟨b, rfl, _, h2, h3⟩
  · have : l = [] := List.length_eq_zero_iff.1 h0
    subst this
    exact Rd.nil_
  · simpa using rdK_holds hl h3 h2
theorem OwnK.none_ {w0 W : World} : OwnK enc k w0 W none 0 0 [] := ⟨rfl, by omega, by omega, .inl ⟨rfl, rfl, rfl⟩⟩
theorem OwnK.addr {w0 W : World} {A : Option Addr} {n cap : Nat} {l : List α} (h : OwnK enc k w0 W A n cap l) : ∀ b o, A = some ⟨b, o, none⟩ → b < W.heap.size := by
  intro b o e
  rcases h.row with ⟨rfl, _⟩ | ⟨g, rfl, _, h2, _⟩
  · cases e
  · cases e; exact h2
theorem ownK_of (hl : ∀ x, (enc x).length = k) {base : Nat} {w0 W : World} {t : TypeId} {v : Value} {l : List α} (h : W.ownsRow base t k v l.length (l.flatMap enc)) (hb : w0.heap.size ≤ base) : ∃ A cap, v = .slice A l.length cap ∧ OwnK enc k w0 W A l.length cap l := by
  rcases h.2 with ⟨rfl, h0⟩ | ⟨g, cap, cur, rfl, hbg, hgg, h1, h2, h3, h4⟩
  · exact ⟨none, 0, by rw [h0], rfl, by omega, by omega, .inl ⟨rfl, h0, rfl⟩⟩
  · exact ⟨_, cap, rfl, rfl, h1, h2, .inr ⟨g, rfl, Nat.le_trans hb hbg, (Array.getElem?_eq_some_iff.1 hgg).1, holdsK_own hl hgg h4⟩⟩
end Go.Proofs.Ytimhkkijoelmhaa
