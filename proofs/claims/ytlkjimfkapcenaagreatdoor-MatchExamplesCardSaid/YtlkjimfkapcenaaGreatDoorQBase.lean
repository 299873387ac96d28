/- Words for memory that every text of this seat uses: a world that only grew, a slice that reads as a list of cells. No condition. The edits of two words, as a function of plain data. For any words. A slice of slices of numbers. For any program. -/
import Derived.Below
import Derived.Deep.Draws
import Derived.WalkKit
namespace Go.Proofs.YtlkjimfkapcenaaGreatDoor
open Go.RowKit

/-- Everything that was there is as it was. -/
def Gr (w w' : World) : Prop := Below w.heap.size w w'
theorem Gr.refl (w : World) : Gr w w := Below.refl _ _
theorem Gr.size {w w' : World} (h : Gr w w') : w.heap.size ≤ w'.heap.size := Below.size h
theorem Gr.trans {a b c : World} (h : Gr a b) (k : Gr b c) : Gr a c := Below.trans h (Below.mono k h.size)
theorem Gr.drew {a w : World} (h : Gr a w) : Gr a w.drew := Below.drew h
theorem Gr.drewN {a w : World} (h : Gr a w) (q : Nat) : Gr a (w.drewN q) := by
  have k : Below a.heap.size a w := h
  exact ⟨k.os, k.tape, k.output, k.size, k.block⟩
theorem Gr.alloc {a w : World} (h : Gr a w) (o : Obj) : Gr a (w.alloc o) := Below.alloc h h.size o
theorem Gr.setCell {a w : World} (h : Gr a w) {p : Addr} (hp : a.heap.size ≤ p.block) (u : Value) : Gr a (w.setCell p u) := Below.setCell h hp u
theorem Gr.cell {w w' : World} (h : Gr w w') {b o : Nat} (hb : b < w.heap.size) : w'.cell? ⟨b, o, none⟩ = w.cell? ⟨b, o, none⟩ := Below.cell h (p := ⟨b, o, none⟩) hb
theorem Gr.frozen {w w' : World} (h : Gr w w') {b o : Nat} (hb : b < w.heap.size) : w'.frozen? ⟨b, o, none⟩ = w.frozen? ⟨b, o, none⟩ := Below.frozen h (p := ⟨b, o, none⟩) hb
theorem Gr.heap {w w' : World} (h : Gr w w') {k : Nat} (hk : k < w.heap.size) : w'.heap[k]? = w.heap[k]? := Below.block h k hk
theorem Gr.below {w w' : World} (h : Gr w w') : Below w.heap.size w w' := h
theorem Gr.of {B : Nat} {w w' : World} (h : Below B w w') (hB : w.heap.size ≤ B) : Gr w w' := Below.mono h hB
theorem Gr.grown {a w w' : World} {row : Option Nat} (h : Gr a w) (hg : w.grownBy w' row) (hr : ∀ k, row = some k → a.heap.size ≤ k) : Gr a w' := Below.grown h hg h.size hr

/-- A slice's address and length read as these cells. -/
def Rd (w : World) (size : Nat) (A : Option Addr) (n : Nat) (xs : List Value) : Prop :=
  xs.length = n * size ∧ (0 < n → ∃ b off, A = some ⟨b, off, none⟩ ∧ b < w.heap.size ∧ ∀ j u, xs[j]? = some u → w.cell? ⟨b, off + j, none⟩ = some u)
theorem Rd.len {w : World} {size n : Nat} {A : Option Addr} {xs : List Value} (h : Rd w size A n xs) : xs.length = n * size := h.1
theorem Rd.nil_ {w : World} {size : Nat} {A : Option Addr} : Rd w size A 0 [] := ⟨by simp, fun h => absurd h (by omega)⟩
theorem Rd.gr {w w' : World} {size n : Nat} {A : Option Addr} {xs : List Value} (h : Rd w size A n xs) (g : Gr w w') : Rd w' size A n xs :=
  ⟨h.1, fun hn => by
    obtain ⟨b, off, e, hb, hc⟩ := h.2 hn
    exact ⟨b, off, e, Nat.lt_of_lt_of_le hb g.size, fun j u hu => (g.cell hb).trans (hc j u hu)⟩⟩
theorem Rd.at_ {w : World} {size n : Nat} {A : Option Addr} {xs : List Value} (h : Rd w size A n xs) (hn : 0 < n) :
    ∃ b off, A = some ⟨b, off, none⟩ ∧ b < w.heap.size ∧ ∀ j u, xs[j]? = some u → w.cell? ⟨b, off + j, none⟩ = some u := h.2 hn

/-- A fact kept aside from the walk. -/
theorem hid {p : Prop} (h : p) : Hid p := h

/-- The place of the first element of which p holds; -1 if there is none. -/
def fidx {α : Type} (p : α → Bool) (zs : List α) : Int := match zs.findIdx? p with | some i => (i : Int) | none => -1
theorem fidx_hit {α : Type} [Inhabited α] {p : α → Bool} {zs : List α} {k : Nat} (hk : k < zs.length) (h : p zs[k]! = true) (hb : ∀ j, j < k → p zs[j]! = false) : fidx p zs = k := by
  have e : zs.findIdx? p = some k := by
    rw [List.findIdx?_eq_some_iff_getElem]
    refine ⟨hk, by rwa [getElem!_pos zs k hk] at h, fun j hj => ?_⟩
    have := hb j hj
    rw [getElem!_pos zs j (by omega)] at this
    simp [this]
  unfold fidx; rw [e]
theorem fidx_miss {α : Type} [Inhabited α] {p : α → Bool} {zs : List α} (hb : ∀ j, j < zs.length → p zs[j]! = false) : fidx p zs = -1 := by
  have e : zs.findIdx? p = none := by
    rw [List.findIdx?_eq_none_iff]
    intro x hx
    obtain ⟨j, hj, rfl⟩ := List.getElem_of_mem hx
    have := hb j hj
    rwa [getElem!_pos zs j hj] at this
  unfold fidx; rw [e]
theorem fidx_any {α : Type} (p : α → Bool) (zs : List α) : decide (0 ≤ fidx p zs) = zs.any p := by
  unfold fidx
  cases h : zs.findIdx? p with
  | none =>
    rw [List.findIdx?_eq_none_iff] at h
    have : zs.any p = false := by simpa using h
    simp [this]
  | some i =>
    have : zs.any p = true := by
      rw [← List.findIdx?_isSome, h]; rfl
    simp only [this, decide_eq_true_eq]; omega
theorem Rd.get {α : Type} [Inhabited α] {enc : α → Value} {zs : List α} {k : Nat} (hk : k < zs.length) : (zs.map enc)[k]? = some (enc zs[k]!) := by
  simp [List.getElem?_map, List.getElem?_eq_getElem hk, getElem!_pos zs k hk]

/-- Rows of k cells each, one behind the other. -/
theorem flatMap_get {α : Type} [Inhabited α] {f : α → List Value} {m : Nat} (hf : ∀ x, (f x).length = m) {l : List α} {k i : Nat} (hk : k < l.length) (hi : i < m) : (l.flatMap f)[k * m + i]? = (f l[k]!)[i]? := by
  induction l generalizing k with
  | nil => simp at hk
  | cons a l ih =>
    cases k with
    | zero => simp [List.flatMap_cons, List.getElem?_append_left (show i < (f a).length by rw [hf]; exact hi)]
    | succ k =>
      have e : (k + 1) * m + i = (f a).length + (k * m + i) := by rw [hf, Nat.succ_mul]; omega
      rw [List.flatMap_cons, e, List.getElem?_append_right (Nat.le_add_right _ _), Nat.add_sub_cancel_left]
      simpa using ih (by simpa using hk)
theorem flatMap_len {α : Type} {f : α → List Value} {m : Nat} (hf : ∀ x, (f x).length = m) (l : List α) : (l.flatMap f).length = l.length * m := by
  induction l with
  | nil => simp
  | cons a l ih => simp [List.flatMap_cons, ih, hf, Nat.succ_mul]; omega

/-- Block g is a row of n numbers, none of it frozen. -/
def IBlk (w : World) (g : Nat) (t : TypeId) (n : Nat) (f : Nat → Int) : Prop :=
  ∃ cs : Array Value, w.heap[g]? = some (.cells cs t (0, 0)) ∧ cs.size = n ∧ ∀ j, j < n → cs[j]? = some (.int .i64 (f j))
section
variable {w w' : World} {g n : Nat} {t : TypeId} {f : Nat → Int}
theorem IBlk.lt (h : IBlk w g t n f) : g < w.heap.size := by
  obtain ⟨cs, h, _⟩ := h
  rcases Nat.lt_or_ge g w.heap.size with hlt | hge
  · exact hlt
  · rw [Array.getElem?_eq_none hge] at h; cases h
theorem IBlk.cell (h : IBlk w g t n f) {j : Nat} (hj : j < n) : w.cell? ⟨g, j, none⟩ = some (.int .i64 (f j)) := by
  obtain ⟨cs, h, _, hc⟩ := h
  rw [cell_of_row w g j cs t (0, 0) h]; exact hc j hj
theorem IBlk.frozen (h : IBlk w g t n f) (j : Nat) : w.frozen? ⟨g, j, none⟩ = false := by
  obtain ⟨cs, h, _⟩ := h
  exact frozen_of_row w g j cs t h
theorem IBlk.keep (h : IBlk w g t n f) (e : w'.heap[g]? = w.heap[g]?) : IBlk w' g t n f := by
  obtain ⟨cs, h, k⟩ := h
  exact ⟨cs, e.trans h, k⟩
theorem IBlk.gr (h : IBlk w g t n f) (k : Gr w w') : IBlk w' g t n f := h.keep (k.heap h.lt)
theorem IBlk.drew (h : IBlk w g t n f) : IBlk w.drew g t n f := h
theorem IBlk.drewN (h : IBlk w g t n f) (q : Nat) : IBlk (w.drewN q) g t n f := h
theorem IBlk.alloc (h : IBlk w g t n f) (o : Obj) : IBlk (w.alloc o) g t n f := h.gr ((Gr.refl w).alloc o)
theorem IBlk.far (h : IBlk w g t n f) {p : Addr} (hp : g ≠ p.block) (u : Value) : IBlk (w.setCell p u) g t n f := h.keep (Below.heap_setCell w p u g hp)
theorem IBlk.set_ (h : IBlk w g t n f) (i : Nat) (v : Int) : IBlk (w.setCell ⟨g, i, none⟩ (.int .i64 v)) g t n (fun j => if j = i then v else f j) := by
  obtain ⟨cs, h, hs, hc⟩ := h
  refine ⟨cs.setIfInBounds i (.int .i64 v), heap_setCell_same w g i cs t _ h, by simp [hs], fun j hj => ?_⟩
  rw [Array.getElem?_setIfInBounds]
  by_cases e : i = j
  · subst e; simp [hs, hj]
  · have e' : ¬ j = i := fun h => e h.symm
    simp [e, e', hc j hj]
theorem IBlk.congr (h : IBlk w g t n f) {f' : Nat → Int} (e : ∀ j, j < n → f j = f' j) : IBlk w g t n f' := by
  obtain ⟨cs, h, hs, hc⟩ := h
  exact ⟨cs, h, hs, fun j hj => by rw [hc j hj, e j hj]⟩
theorem IBlk.new (w : World) (t : TypeId) (cs : Array Value) (n : Nat) (f : Nat → Int) (hs : cs.size = n) (hc : ∀ j, j < n → cs[j]? = some (.int .i64 (f j))) : IBlk (w.alloc (.cells cs t)) w.heap.size t n f :=
  ⟨cs, heap_alloc_new w _, hs, hc⟩
end

/-- A function value with a predicate's contract, in every world that grew out of w. -/
def PredG (P : Program) {α : Type} (g : Nat) (lb : Array Value) (enc : α → Value) (p : α → Bool) (zs : List α) (w : World) : Prop :=
  ∀ (W : World) (x : α), x ∈ zs → Gr w W → Calls P g (#[enc x] ++ lb) W fun e w' => e = .returned (.bool (p x)) ∧ Gr W w'
theorem PredG.gr {P : Program} {α : Type} {g : Nat} {lb : Array Value} {enc : α → Value} {p : α → Bool} {zs : List α} {w w' : World} (h : PredG P g lb enc p zs w) (hg : Gr w w') : PredG P g lb enc p zs w' :=
  fun W x hx k => h W x hx (hg.trans k)
theorem mem_get {α : Type} [Inhabited α] {zs : List α} {k : Nat} (hk : k < zs.length) : zs[k]! ∈ zs := by
  rw [getElem!_pos zs k hk]; exact List.getElem_mem hk
end Go.Proofs.YtlkjimfkapcenaaGreatDoor
namespace Go.Proofs.YtlkjimfkapcenaaGreatDoor
open Go.RowKit

/-- What a cell holds, whatever it is. -/
def getv (w : World) (a : Addr) : Value := (w.cell? a).getD undef
theorem getv_some {w : World} {a : Addr} {x : Value} (h : w.cell? a = some x) : w.cell? a = some (getv w a) := by
  unfold getv; rw [h]; rfl

/-- A byte of a text, by its place. -/
def byt (s : ByteArray) (i : Nat) : UInt8 := s.data.toList.getD i 0
/-- The edits of the first i bytes of one and the first k bytes of the other text. -/
def lev (a b : ByteArray) : Nat → Nat → Nat
  | 0, k => k
  | i + 1, 0 => i + 1
  | i + 1, k + 1 => min (min (lev a b i k + if byt a i = byt b k then 0 else 1) (lev a b i (k + 1) + 1)) (lev a b (i + 1) k + 1)
theorem byt_ne {a b : ByteArray} {i k : Nat} (hi : i < a.size) (hk : k < b.size) (h : ¬ byt a i = byt b k) : ((a[i].toNat : Int) != (b[k].toNat : Int)) = true := by
  have e1 : byt a i = a[i] := by unfold byt; rw [List.getD_eq_getElem?_getD, List.getElem?_eq_getElem (by simpa using hi)]; rfl
  have e2 : byt b k = b[k] := by unfold byt; rw [List.getD_eq_getElem?_getD, List.getElem?_eq_getElem (by simpa using hk)]; rfl
  rw [e1, e2] at h
  rw [bne_iff_ne]
  intro h'
  exact h (UInt8.toNat_inj.1 (by omega))
theorem byt_eq {a b : ByteArray} {i k : Nat} (hi : i < a.size) (hk : k < b.size) (h : byt a i = byt b k) : ((a[i].toNat : Int) != (b[k].toNat : Int)) = false := by
  have e1 : byt a i = a[i] := by unfold byt; rw [List.getD_eq_getElem?_getD, List.getElem?_eq_getElem (by simpa using hi)]; rfl
  have e2 : byt b k = b[k] := by unfold byt; rw [List.getD_eq_getElem?_getD, List.getElem?_eq_getElem (by simpa using hk)]; rfl
  rw [e1, e2] at h
  rw [h]; simp
theorem lev_zero (a b : ByteArray) (i : Nat) : lev a b i 0 = i := by cases i <;> simp [lev]
theorem lev_step (a b : ByteArray) (i k : Nat) : lev a b (i + 1) (k + 1) = min (min (lev a b i k + if byt a i = byt b k then 0 else 1) (lev a b i (k + 1) + 1)) (lev a b (i + 1) k + 1) := by rw [lev]
theorem lev_le (a b : ByteArray) : ∀ i k, lev a b i k ≤ i + k := by
  intro i
  induction i with
  | zero => intro k; simp [lev]
  | succ i ih =>
    intro k
    induction k with
    | zero => simp [lev]
    | succ k ihk => rw [lev_step]; omega

theorem lev_pred (a b : ByteArray) {i k : Nat} (hi : 1 ≤ i) (hk : 1 ≤ k) : lev a b i k = min (min (lev a b (i - 1) (k - 1) + if byt a (i - 1) = byt b (k - 1) then 0 else 1) (lev a b (i - 1) k + 1)) (lev a b i (k - 1) + 1) := by
  obtain ⟨i, rfl⟩ : ∃ j, i = j + 1 := ⟨i - 1, by omega⟩
  obtain ⟨k, rfl⟩ : ∃ j, k = j + 1 := ⟨k - 1, by omega⟩
  simpa using lev_step a b i k
end Go.Proofs.YtlkjimfkapcenaaGreatDoor
namespace Go.Proofs.YtlkjimfkapcenaaGreatDoor
open Go.RowKit

/-- A value is a slice of slices that hold these numbers. -/
def ListsIn (W : World) (v : Value) (L : List (List Int)) : Prop :=
  ∃ A c svs, v = .slice A L.length c ∧ Rd W 1 A L.length svs ∧ ∀ j, j < L.length → ∃ A' c', svs[j]? = some (.slice A' (L[j]!).length c') ∧ Rd W 1 A' (L[j]!).length ((L[j]!).map (Value.int .i64))
theorem ListsIn.gr {W W' : World} {v : Value} {L : List (List Int)} (h : ListsIn W v L) (g : Gr W W') : ListsIn W' v L := by
  obtain ⟨A, c, svs, e, h1, h2⟩ := h
  exact ⟨A, c, svs, e, h1.gr g, fun j hj => by obtain ⟨A', c', h3, h4⟩ := h2 j hj; exact ⟨A', c', h3, h4.gr g⟩⟩
theorem ListsIn.nil_ (W : World) : ListsIn W (.slice none 0 0) [] := ⟨none, 0, [], rfl, Rd.nil_, fun _ h => absurd h (Nat.not_lt_zero _)⟩
end Go.Proofs.YtlkjimfkapcenaaGreatDoor
