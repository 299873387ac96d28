/- Words for memory that every text of this seat uses: a world that only grew, a slice that reads as a list of cells. No condition. What the chapter on sums says, in plain functions: tables, questions, who is asked for, and what is printed. No program in sight. -/
import Derived.Below
import Derived.Deep.Draws
import Derived.WalkKit
namespace Go.Proofs.Ytimhkkijoelmhaa
open Go.RowKit

/-- Everything that was there is as it was. -/
def Gr (w w' : World) : Prop := Below w.heap.size w w'
theorem Gr.refl (w : World) : Gr w w := Below.refl _ _
theorem Gr.size {w w' : World} (h : Gr w w') : w.heap.size ≤ w'.heap.size := Below.size h
theorem Gr.trans {a b c : World} (h : Gr a b) (k : Gr b c) : Gr a c := Below.trans h (Below.mono k h.size)
theorem Gr.drew {a w : World} (h : Gr a w) : Gr a w.drew := Below.drew h
theorem Gr.drewN {a w : World} (h : Gr a w) (q : Nat) : Gr a (w.drewN q) := by
  have k : Below a.heap.size a w := h
  exact ⟨k.os, k.tape, k.output, k.size, k.block⟩
theorem Gr.alloc {a w : World} (h : Gr a w) (o : Obj) : Gr a (w.alloc o) := Below.alloc h h.size o
theorem Gr.setCell {a w : World} (h : Gr a w) {p : Addr} (hp : a.heap.size ≤ p.block) (u : Value) : Gr a (w.setCell p u) := Below.setCell h hp u
theorem Gr.cell {w w' : World} (h : Gr w w') {b o : Nat} (hb : b < w.heap.size) : w'.cell? ⟨b, o, none⟩ = w.cell? ⟨b, o, none⟩ := Below.cell h (p := ⟨b, o, none⟩) hb
theorem Gr.frozen {w w' : World} (h : Gr w w') {b o : Nat} (hb : b < w.heap.size) : w'.frozen? ⟨b, o, none⟩ = w.frozen? ⟨b, o, none⟩ := Below.frozen h (p := ⟨b, o, none⟩) hb
theorem Gr.heap {w w' : World} (h : Gr w w') {k : Nat} (hk : k < w.heap.size) : w'.heap[k]? = w.heap[k]? := Below.block h k hk
theorem Gr.below {w w' : World} (h : Gr w w') : Below w.heap.size w w' := h
theorem Gr.of {B : Nat} {w w' : World} (h : Below B w w') (hB : w.heap.size ≤ B) : Gr w w' := Below.mono h hB
theorem Gr.grown {a w w' : World} {row : Option Nat} (h : Gr a w) (hg : w.grownBy w' row) (hr : ∀ k, row = some k → a.heap.size ≤ k) : Gr a w' := Below.grown h hg h.size hr

/-- A slice's address and length read as these cells. -/
def Rd (w : World) (size : Nat) (A : Option Addr) (n : Nat) (xs : List Value) : Prop :=
  xs.length = n * size ∧ (0 < n → ∃ b off, A = some ⟨b, off, none⟩ ∧ b < w.heap.size ∧ ∀ j u, xs[j]? = some u → w.cell? ⟨b, off + j, none⟩ = some u)
theorem Rd.len {w : World} {size n : Nat} {A : Option Addr} {xs : List Value} (h : Rd w size A n xs) : xs.length = n * size := h.1
theorem Rd.nil_ {w : World} {size : Nat} {A : Option Addr} : Rd w size A 0 [] := ⟨by simp, fun h => absurd h (by omega)⟩
theorem Rd.gr {w w' : World} {size n : Nat} {A : Option Addr} {xs : List Value} (h : Rd w size A n xs) (g : Gr w w') : Rd w' size A n xs :=
  ⟨h.1, fun hn => by
    obtain ⟨b, off, e, hb, hc⟩ := h.2 hn
    exact ⟨b, off, e, Nat.lt_of_lt_of_le hb g.size, fun j u hu => (g.cell hb).trans (hc j u hu)⟩⟩
theorem Rd.at_ {w : World} {size n : Nat} {A : Option Addr} {xs : List Value} (h : Rd w size A n xs) (hn : 0 < n) :
    ∃ b off, A = some ⟨b, off, none⟩ ∧ b < w.heap.size ∧ ∀ j u, xs[j]? = some u → w.cell? ⟨b, off + j, none⟩ = some u := h.2 hn

/-- A fact kept aside from the walk. -/
theorem hid {p : Prop} (h : p) : Hid p := h

/-- The place of the first element of which p holds; -1 if there is none. -/
def fidx {α : Type} (p : α → Bool) (zs : List α) : Int := match zs.findIdx? p with | some i => (i : Int) | none => -1
theorem fidx_hit {α : Type} [Inhabited α] {p : α → Bool} {zs : List α} {k : Nat} (hk : k < zs.length) (h : p zs[k]! = true) (hb : ∀ j, j < k → p zs[j]! = false) : fidx p zs = k := by
  have e : zs.findIdx? p = some k := by
    rw [List.findIdx?_eq_some_iff_getElem]
    refine ⟨hk, by rwa [getElem!_pos zs k hk] at h, fun j hj => ?_⟩
    have := hb j hj
    rw [getElem!_pos zs j (by omega)] at this
    simp [this]
  unfold fidx; rw [e]
theorem fidx_miss {α : Type} [Inhabited α] {p : α → Bool} {zs : List α} (hb : ∀ j, j < zs.length → p zs[j]! = false) : fidx p zs = -1 := by
  have e : zs.findIdx? p = none := by
    rw [List.findIdx?_eq_none_iff]
    intro x hx
    obtain ⟨j, hj, rfl⟩ := List.getElem_of_mem hx
    have := hb j hj
    rwa [getElem!_pos zs j hj] at this
  unfold fidx; rw [e]
theorem fidx_any {α : Type} (p : α → Bool) (zs : List α) : decide (0 ≤ fidx p zs) = zs.any p := by
  unfold fidx
  cases h : zs.findIdx? p with
  | none =>
    rw [List.findIdx?_eq_none_iff] at h
    have : zs.any p = false := by simpa using h
    simp [this]
  | some i =>
    have : zs.any p = true := by
      rw [← List.findIdx?_isSome, h]; rfl
    simp only [this, decide_eq_true_eq]; omega
theorem Rd.get {α : Type} [Inhabited α] {enc : α → Value} {zs : List α} {k : Nat} (hk : k < zs.length) : (zs.map enc)[k]? = some (enc zs[k]!) := by
  simp [List.getElem?_map, List.getElem?_eq_getElem hk, getElem!_pos zs k hk]

/-- Rows of k cells each, one behind the other. -/
theorem flatMap_get {α : Type} [Inhabited α] {f : α → List Value} {m : Nat} (hf : ∀ x, (f x).length = m) {l : List α} {k i : Nat} (hk : k < l.length) (hi : i < m) : (l.flatMap f)[k * m + i]? = (f l[k]!)[i]? := by
  induction l generalizing k with
  | nil => simp at hk
  | cons a l ih =>
    cases k with
    | zero => simp [List.flatMap_cons, List.getElem?_append_left (show i < (f a).length by rw [hf]; exact hi)]
    | succ k =>
      have e : (k + 1) * m + i = (f a).length + (k * m + i) := by rw [hf, Nat.succ_mul]; omega
      rw [List.flatMap_cons, e, List.getElem?_append_right (Nat.le_add_right _ _), Nat.add_sub_cancel_left]
      simpa using ih (by simpa using hk)
theorem flatMap_len {α : Type} {f : α → List Value} {m : Nat} (hf : ∀ x, (f x).length = m) (l : List α) : (l.flatMap f).length = l.length * m := by
  induction l with
  | nil => simp
  | cons a l ih => simp [List.flatMap_cons, ih, hf, Nat.succ_mul]; omega

/-- Block g is a row of n numbers, none of it frozen. -/
def IBlk (w : World) (g : Nat) (t : TypeId) (n : Nat) (f : Nat → Int) : Prop :=
  ∃ cs : Array Value, w.heap[g]? = some (.cells cs t (0, 0)) ∧ cs.size = n ∧ ∀ j, j < n → cs[j]? = some (.int .i64 (f j))
section
variable {w w' : World} {g n : Nat} {t : TypeId} {f : Nat → Int}
theorem IBlk.lt (h : IBlk w g t n f) : g < w.heap.size := by
  obtain ⟨cs, h, _⟩ := h
  rcases Nat.lt_or_ge g w.heap.size with hlt | hge
  · exact hlt
  · rw [Array.getElem?_eq_none hge] at h; cases h
theorem IBlk.cell (h : IBlk w g t n f) {j : Nat} (hj : j < n) : w.cell? ⟨g, j, none⟩ = some (.int .i64 (f j)) := by
  obtain ⟨cs, h, _, hc⟩ := h
  rw [cell_of_row w g j cs t (0, 0) h]; exact hc j hj
theorem IBlk.frozen (h : IBlk w g t n f) (j : Nat) : w.frozen? ⟨g, j, none⟩ = false := by
  obtain ⟨cs, h, _⟩ := h
  exact frozen_of_row w g j cs t h
theorem IBlk.keep (h : IBlk w g t n f) (e : w'.heap[g]? = w.heap[g]?) : IBlk w' g t n f := by
  obtain ⟨cs, h, k⟩ := h
  exact ⟨cs, e.trans h, k⟩
theorem IBlk.gr (h : IBlk w g t n f) (k : Gr w w') : IBlk w' g t n f := h.keep (k.heap h.lt)
theorem IBlk.drew (h : IBlk w g t n f) : IBlk w.drew g t n f := h
theorem IBlk.drewN (h : IBlk w g t n f) (q : Nat) : IBlk (w.drewN q) g t n f := h
theorem IBlk.alloc (h : IBlk w g t n f) (o : Obj) : IBlk (w.alloc o) g t n f := h.gr ((Gr.refl w).alloc o)
theorem IBlk.far (h : IBlk w g t n f) {p : Addr} (hp : g ≠ p.block) (u : Value) : IBlk (w.setCell p u) g t n f := h.keep (Below.heap_setCell w p u g hp)
theorem IBlk.set_ (h : IBlk w g t n f) (i : Nat) (v : Int) : IBlk (w.setCell ⟨g, i, none⟩ (.int .i64 v)) g t n (fun j => if j = i then v else f j) := by
  obtain ⟨cs, h, hs, hc⟩ := h
  refine ⟨cs.setIfInBounds i (.int .i64 v), heap_setCell_same w g i cs t _ h, by simp [hs], fun j hj => ?_⟩
  rw [Array.getElem?_setIfInBounds]
  by_cases e : i = j
  · subst e; simp [hs, hj]
  · have e' : ¬ j = i := fun h => e h.symm
    simp [e, e', hc j hj]
theorem IBlk.congr (h : IBlk w g t n f) {f' : Nat → Int} (e : ∀ j, j < n → f j = f' j) : IBlk w g t n f' := by
  obtain ⟨cs, h, hs, hc⟩ := h
  exact ⟨cs, h, hs, fun j hj => by rw [hc j hj, e j hj]⟩
theorem IBlk.new (w : World) (t : TypeId) (cs : Array Value) (n : Nat) (f : Nat → Int) (hs : cs.size = n) (hc : ∀ j, j < n → cs[j]? = some (.int .i64 (f j))) : IBlk (w.alloc (.cells cs t)) w.heap.size t n f :=
  ⟨cs, heap_alloc_new w _, hs, hc⟩
end

/-- A function value with a predicate's contract, in every world that grew out of w. -/
def PredG (P : Program) {α : Type} (g : Nat) (lb : Array Value) (enc : α → Value) (p : α → Bool) (zs : List α) (w : World) : Prop :=
  ∀ (W : World) (x : α), x ∈ zs → Gr w W → Calls P g (#[enc x] ++ lb) W fun e w' => e = .returned (.bool (p x)) ∧ Gr W w'
theorem PredG.gr {P : Program} {α : Type} {g : Nat} {lb : Array Value} {enc : α → Value} {p : α → Bool} {zs : List α} {w w' : World} (h : PredG P g lb enc p zs w) (hg : Gr w w') : PredG P g lb enc p zs w' :=
  fun W x hx k => h W x hx (hg.trans k)
theorem mem_get {α : Type} [Inhabited α] {zs : List α} {k : Nat} (hk : k < zs.length) : zs[k]! ∈ zs := by
  rw [getElem!_pos zs k hk]; exact List.getElem_mem hk
end Go.Proofs.Ytimhkkijoelmhaa
namespace Go.Proofs.Ytimhkkijoelmhaa
open Go.RowKit

/-- A subject, as it lies: its values lie in a row of their own. -/
structure Sbj where
  id : Int
  a : Option Addr
  n : Nat
  c : Nat
  vals : List Int
  deriving Inhabited
def Sbj.cells (s : Sbj) : List Value := [.int .i64 s.id, .slice s.a s.n s.c]
def Sbj.val (s : Sbj) : Value := .agg #[.int .i64 s.id, .slice s.a s.n s.c]
theorem Sbj.len (s : Sbj) : s.cells.length = 2 := rfl
/-- A condition. -/
structure Whr where
  col : Int
  lo : Int
  hi : Int
  deriving Inhabited, DecidableEq
def Whr.cells (x : Whr) : List Value := [.int .i64 x.col, .int .i64 x.lo, .int .i64 x.hi]
def Whr.val (x : Whr) : Value := .agg #[.int .i64 x.col, .int .i64 x.lo, .int .i64 x.hi]
theorem Whr.len (x : Whr) : x.cells.length = 3 := rfl
/-- A question, as it lies. -/
structure Qst where
  a : Option Addr
  n : Nat
  c : Nat
  whs : List Whr
  col : Int
  clip : Int
  step : Int
  deriving Inhabited
def Qst.cells (q : Qst) : List Value := [.slice q.a q.n q.c, .int .i64 q.col, .int .i64 q.clip, .int .i64 q.step]
def Qst.val (q : Qst) : Value := .agg #[.slice q.a q.n q.c, .int .i64 q.col, .int .i64 q.clip, .int .i64 q.step]
theorem Qst.len (q : Qst) : q.cells.length = 4 := rfl

/-- n lies from lo to hi. -/
def inB (lo hi n : Int) : Bool := decide (lo ≤ n ∧ n ≤ hi)
theorem inB_not (lo hi n : Int) : (!inB lo hi n) = (decide (n < lo) || decide (hi < n)) := by unfold inB; rw [Bool.eq_iff_iff]; simp
theorem all_inB (lo hi : Int) (zs : List Int) : (!zs.any fun n => !inB lo hi n) = zs.all (inB lo hi) := by
  simp [List.any_eq_not_all_not]

/-- Whether a subject is wrong by itself. -/
def sbjB (columns : Int) (s : Sbj) : Bool := inB 0 999999 s.id && (s.vals.length : Int) == columns && s.vals.all (inB 0 1000000)
/-- Whether a table is wrong at a place. -/
def sbjBad (columns : Int) (l : List Sbj) (j : Nat) : Bool := (l.take j).any (fun x => x.id == l[j]!.id) || !sbjB columns l[j]!
/-- Whether subjects are a table. -/
def tableB (columns : Int) (l : List Sbj) : Bool := inB 1 5 columns && decide (l.length ≤ 16) && !(List.range l.length).any (sbjBad columns l)
def tableN (columns : Int) (l : List Sbj) : Int := if tableB columns l = true then 0 else 100
/-- Whether a condition is valid. -/
def whrB (columns : Int) (x : Whr) : Bool := inB 0 (columns - 1) x.col && (inB 0 1000000 x.lo && inB 0 1000000 x.hi)
/-- Whether a question is valid. -/
def qstB (columns : Int) (q : Qst) : Bool := (if q.col = -1 then q.clip == 1 else inB 0 (columns - 1) q.col && inB 1 1000000 q.clip) && inB 1 1000000 q.step && decide (q.whs.length ≤ 4) && q.whs.all (whrB columns)
/-- Whether a subject is asked for. -/
def askedB (s : Sbj) (q : Qst) : Bool := q.whs.all fun x => inB x.lo x.hi s.vals[x.col.toNat]!
/-- What a subject counts. -/
def cntN (s : Sbj) (q : Qst) : Int := if q.col = -1 then 1 else min s.vals[q.col.toNat]! q.clip
/-- The sum. -/
def rawN (l : List Sbj) (q : Qst) : Int := l.foldl (fun n s => if askedB s q = true then n + cntN s q else n) 0
/-- What is printed, and the bound. -/
def printN (n step : Int) : Int := (2 * n + step) / (2 * step) * step
def boundN (clip step : Int) : Int := (clip + step - 1) / step * step
/-- The error of a table and a question. -/
def askN10 (columns : Int) (l : List Sbj) (q : Qst) : Int := if tableB columns l = true then (if qstB columns q = true then 0 else 101) else 100

theorem rawN_snoc (l : List Sbj) (s : Sbj) (q : Qst) : rawN (l ++ [s]) q = if askedB s q = true then rawN l q + cntN s q else rawN l q := by
  unfold rawN
  rw [List.foldl_append]
  rfl
/-- The rounding of the program. -/
theorem print_mod {n step : Int} (hn : 0 ≤ n) (hs : 0 < step) : (if 2 * (n % step) ≥ step then n - n % step + step else n - n % step) = printN n step := by
  unfold printN
  have h1 := Int.emod_add_mul_ediv n step
  have h2 := Int.emod_nonneg n (show step ≠ 0 by omega)
  have h3 := Int.emod_lt_of_pos n hs
  generalize n % step = r at *
  generalize n / step = d at *
  have hn2 : n = r + step * d := by omega
  subst hn2
  have key : (2 * (r + step * d) + step) / (2 * step) = d + (2 * r + step) / (2 * step) := by
    have : 2 * (r + step * d) + step = (2 * r + step) + 2 * step * d := by rw [Int.mul_add, Int.mul_assoc]; omega
    rw [this, Int.add_mul_ediv_left _ _ (by omega)]
    omega
  rw [key]
  have e : r + step * d - r = step * d := by omega
  rw [e]
  by_cases h : 2 * r ≥ step
  · rw [if_pos h]
    have : (2 * r + step) / (2 * step) = 1 := by
      have a : 2 * step ≤ 2 * r + step := by omega
      have b : 2 * r + step < 2 * step + 2 * step := by omega
      have c := Int.ediv_mul_le (2 * r + step) (show 2 * step ≠ 0 by omega)
      have dd := Int.lt_ediv_add_one_mul_self (2 * r + step) (show 0 < 2 * step by omega)
      have lo : 1 ≤ (2 * r + step) / (2 * step) := (Int.le_ediv_iff_mul_le (by omega)).2 (by omega)
      have hi : (2 * r + step) / (2 * step) < 2 := (Int.ediv_lt_iff_lt_mul (by omega)).2 (by omega)
      omega
    rw [this, Int.add_mul, Int.mul_comm d step]
    omega
  · rw [if_neg h]
    have : (2 * r + step) / (2 * step) = 0 := Int.ediv_eq_zero_of_lt (by omega) (by omega)
    rw [this, Int.add_zero, Int.mul_comm d step]
theorem bound_mul {clip step : Int} (hs : 0 < step) : boundN clip step = (if clip % step = 0 then clip / step * step else clip / step * step + step) := by
  unfold boundN
  have h1 := Int.emod_add_mul_ediv clip step
  have h2 := Int.emod_nonneg clip (show step ≠ 0 by omega)
  have h3 := Int.emod_lt_of_pos clip hs
  generalize clip % step = r at *
  generalize clip / step = d at *
  have hn : clip = r + step * d := by omega
  subst hn
  have e : r + step * d + step - 1 = (r + step - 1) + step * d := by omega
  rw [e, Int.add_mul_ediv_left _ _ (by omega)]
  by_cases h : r = 0
  · rw [if_pos h]
    have : (r + step - 1) / step = 0 := Int.ediv_eq_zero_of_lt (by omega) (by omega)
    rw [this, Int.zero_add]
  · rw [if_neg h]
    have lo : 1 ≤ (r + step - 1) / step := (Int.le_ediv_iff_mul_le hs).2 (by omega)
    have hi : (r + step - 1) / step < 2 := (Int.ediv_lt_iff_lt_mul hs).2 (by omega)
    have : (r + step - 1) / step = 1 := by omega
    rw [this, Int.add_mul]
    omega
/-- Subjects in the order of their Ids. -/
def putI (s : Sbj) : List Sbj → List Sbj
  | [] => [s]
  | x :: r => if s.id < x.id then s :: x :: r else x :: putI s r
def ordI (l : List Sbj) : List Sbj := l.foldl (fun o s => putI s o) []
theorem putI_perm (s : Sbj) (l : List Sbj) : (putI s l).Perm (s :: l) := by
  induction l with
  | nil => exact List.Perm.refl _
  | cons x r ih =>
    unfold putI
    split
    · exact List.Perm.refl _
    · exact (List.Perm.cons x ih).trans (List.Perm.swap s x r)
theorem ordI_perm (l : List Sbj) : (ordI l).Perm l := by
  have key : ∀ (l o : List Sbj), (l.foldl (fun o s => putI s o) o).Perm (o ++ l) := by
    intro l
    induction l with
    | nil => intro o; simp
    | cons s r ih =>
      intro o
      rw [List.foldl_cons]
      refine (ih _).trans ?_
      refine ((putI_perm s o).append_right r).trans ?_
      rw [List.cons_append]
      exact List.perm_middle.symm
  have h := key l []
  rwa [List.nil_append] at h
/-- The Ids of those who are asked for, in order. -/
def meetsL (l : List Sbj) (q : Qst) : List Int := ((ordI l).filter fun s => askedB s q).map Sbj.id
end Go.Proofs.Ytimhkkijoelmhaa
