/- Words for memory that every text of this seat uses: a world that only grew, a slice that reads as a list of cells. No condition. What the chapter on inquiries says, in plain functions: signals, licences, inquiries and traces. No program in sight. Rows of signals, traces, licences and inquiries, cell by cell. For every row. Traces in the order of their days, and how many spans there are: plain lemmas. No program in sight. What merging signals comes to, in plain functions. For all lists of signals. -/
import Derived.Below
import Derived.Deep.Draws
import Derived.WalkKit
namespace Go.Proofs.YtliehlefpodhaaaDoor
open Go.RowKit

/-- Everything that was there is as it was. -/
def Gr (w w' : World) : Prop := Below w.heap.size w w'
theorem Gr.refl (w : World) : Gr w w := Below.refl _ _
theorem Gr.size {w w' : World} (h : Gr w w') : w.heap.size ≤ w'.heap.size := Below.size h
theorem Gr.trans {a b c : World} (h : Gr a b) (k : Gr b c) : Gr a c := Below.trans h (Below.mono k h.size)
theorem Gr.drew {a w : World} (h : Gr a w) : Gr a w.drew := Below.drew h
theorem Gr.drewN {a w : World} (h : Gr a w) (q : Nat) : Gr a (w.drewN q) := by
  have k : Below a.heap.size a w := h
  exact ⟨k.os, k.tape, k.output, k.size, k.block⟩
theorem Gr.alloc {a w : World} (h : Gr a w) (o : Obj) : Gr a (w.alloc o) := Below.alloc h h.size o
theorem Gr.setCell {a w : World} (h : Gr a w) {p : Addr} (hp : a.heap.size ≤ p.block) (u : Value) : Gr a (w.setCell p u) := Below.setCell h hp u
theorem Gr.cell {w w' : World} (h : Gr w w') {b o : Nat} (hb : b < w.heap.size) : w'.cell? ⟨b, o, none⟩ = w.cell? ⟨b, o, none⟩ := Below.cell h (p := ⟨b, o, none⟩) hb
theorem Gr.frozen {w w' : World} (h : Gr w w') {b o : Nat} (hb : b < w.heap.size) : w'.frozen? ⟨b, o, none⟩ = w.frozen? ⟨b, o, none⟩ := Below.frozen h (p := ⟨b, o, none⟩) hb
theorem Gr.heap {w w' : World} (h : Gr w w') {k : Nat} (hk : k < w.heap.size) : w'.heap[k]? = w.heap[k]? := Below.block h k hk
theorem Gr.below {w w' : World} (h : Gr w w') : Below w.heap.size w w' := h
theorem Gr.of {B : Nat} {w w' : World} (h : Below B w w') (hB : w.heap.size ≤ B) : Gr w w' := Below.mono h hB
theorem Gr.grown {a w w' : World} {row : Option Nat} (h : Gr a w) (hg : w.grownBy w' row) (hr : ∀ k, row = some k → a.heap.size ≤ k) : Gr a w' := Below.grown h hg h.size hr

/-- A slice's address and length read as these cells. -/
def Rd (w : World) (size : Nat) (A : Option Addr) (n : Nat) (xs : List Value) : Prop :=
  xs.length = n * size ∧ (0 < n → ∃ b off, A = some ⟨b, off, none⟩ ∧ b < w.heap.size ∧ ∀ j u, xs[j]? = some u → w.cell? ⟨b, off + j, none⟩ = some u)
theorem Rd.len {w : World} {size n : Nat} {A : Option Addr} {xs : List Value} (h : Rd w size A n xs) : xs.length = n * size := h.1
theorem Rd.nil_ {w : World} {size : Nat} {A : Option Addr} : Rd w size A 0 [] := ⟨by simp, fun h => absurd h (by omega)⟩
theorem Rd.gr {w w' : World} {size n : Nat} {A : Option Addr} {xs : List Value} (h : Rd w size A n xs) (g : Gr w w') : Rd w' size A n xs :=
  ⟨h.1, fun hn => by
    obtain ⟨b, off, e, hb, hc⟩ := h.2 hn
    exact ⟨b, off, e, Nat.lt_of_lt_of_le hb g.size, fun j u hu => (g.cell hb).trans (hc j u hu)⟩⟩
theorem Rd.at_ {w : World} {size n : Nat} {A : Option Addr} {xs : List Value} (h : Rd w size A n xs) (hn : 0 < n) :
    ∃ b off, A = some ⟨b, off, none⟩ ∧ b < w.heap.size ∧ ∀ j u, xs[j]? = some u → w.cell? ⟨b, off + j, none⟩ = some u := h.2 hn

/-- A fact kept aside from the walk. -/
theorem hid {p : Prop} (h : p) : Hid p := h

/-- The place of the first element of which p holds; -1 if there is none. -/
def fidx {α : Type} (p : α → Bool) (zs : List α) : Int := match zs.findIdx? p with | some i => (i : Int) | none => -1
theorem fidx_hit {α : Type} [Inhabited α] {p : α → Bool} {zs : List α} {k : Nat} (hk : k < zs.length) (h : p zs[k]! = true) (hb : ∀ j, j < k → p zs[j]! = false) : fidx p zs = k := by
  have e : zs.findIdx? p = some k := by
    rw [List.findIdx?_eq_some_iff_getElem]
    refine ⟨hk, by rwa [getElem!_pos zs k hk] at h, fun j hj => ?_⟩
    have := hb j hj
    rw [getElem!_pos zs j (by omega)] at this
    simp [this]
  unfold fidx; rw [e]
theorem fidx_miss {α : Type} [Inhabited α] {p : α → Bool} {zs : List α} (hb : ∀ j, j < zs.length → p zs[j]! = false) : fidx p zs = -1 := by
  have e : zs.findIdx? p = none := by
    rw [List.findIdx?_eq_none_iff]
    intro x hx
    obtain ⟨j, hj, rfl⟩ := List.getElem_of_mem hx
    have := hb j hj
    rwa [getElem!_pos zs j hj] at this
  unfold fidx; rw [e]
theorem fidx_any {α : Type} (p : α → Bool) (zs : List α) : decide (0 ≤ fidx p zs) = zs.any p := by
  unfold fidx
  cases h : zs.findIdx? p with
  | none =>
    rw [List.findIdx?_eq_none_iff] at h
    have : zs.any p = false := by simpa using h
    simp [this]
  | some i =>
    have : zs.any p = true := by
      rw [← List.findIdx?_isSome, h]; rfl
    simp only [this, decide_eq_true_eq]; omega
theorem Rd.get {α : Type} [Inhabited α] {enc : α → Value} {zs : List α} {k : Nat} (hk : k < zs.length) : (zs.map enc)[k]? = some (enc zs[k]!) := by
  simp [List.getElem?_map, List.getElem?_eq_getElem hk, getElem!_pos zs k hk]

/-- Rows of k cells each, one behind the other. -/
theorem flatMap_get {α : Type} [Inhabited α] {f : α → List Value} {m : Nat} (hf : ∀ x, (f x).length = m) {l : List α} {k i : Nat} (hk : k < l.length) (hi : i < m) : (l.flatMap f)[k * m + i]? = (f l[k]!)[i]? := by
  induction l generalizing k with
  | nil => simp at hk
  | cons a l ih =>
    cases k with
    | zero => simp [List.flatMap_cons, List.getElem?_append_left (show i < (f a).length by rw [hf]; exact hi)]
    | succ k =>
      have e : (k + 1) * m + i = (f a).length + (k * m + i) := by rw [hf, Nat.succ_mul]; omega
      rw [List.flatMap_cons, e, List.getElem?_append_right (Nat.le_add_right _ _), Nat.add_sub_cancel_left]
      simpa using ih (by simpa using hk)
theorem flatMap_len {α : Type} {f : α → List Value} {m : Nat} (hf : ∀ x, (f x).length = m) (l : List α) : (l.flatMap f).length = l.length * m := by
  induction l with
  | nil => simp
  | cons a l ih => simp [List.flatMap_cons, ih, hf, Nat.succ_mul]; omega

/-- Block g is a row of n numbers, none of it frozen. -/
def IBlk (w : World) (g : Nat) (t : TypeId) (n : Nat) (f : Nat → Int) : Prop :=
  ∃ cs : Array Value, w.heap[g]? = some (.cells cs t (0, 0)) ∧ cs.size = n ∧ ∀ j, j < n → cs[j]? = some (.int .i64 (f j))
section
variable {w w' : World} {g n : Nat} {t : TypeId} {f : Nat → Int}
theorem IBlk.lt (h : IBlk w g t n f) : g < w.heap.size := by
  obtain ⟨cs, h, _⟩ := h
  rcases Nat.lt_or_ge g w.heap.size with hlt | hge
  · exact hlt
  · rw [Array.getElem?_eq_none hge] at h; cases h
theorem IBlk.cell (h : IBlk w g t n f) {j : Nat} (hj : j < n) : w.cell? ⟨g, j, none⟩ = some (.int .i64 (f j)) := by
  obtain ⟨cs, h, _, hc⟩ := h
  rw [cell_of_row w g j cs t (0, 0) h]; exact hc j hj
theorem IBlk.frozen (h : IBlk w g t n f) (j : Nat) : w.frozen? ⟨g, j, none⟩ = false := by
  obtain ⟨cs, h, _⟩ := h
  exact frozen_of_row w g j cs t h
theorem IBlk.keep (h : IBlk w g t n f) (e : w'.heap[g]? = w.heap[g]?) : IBlk w' g t n f := by
  obtain ⟨cs, h, k⟩ := h
  exact ⟨cs, e.trans h, k⟩
theorem IBlk.gr (h : IBlk w g t n f) (k : Gr w w') : IBlk w' g t n f := h.keep (k.heap h.lt)
theorem IBlk.drew (h : IBlk w g t n f) : IBlk w.drew g t n f := h
theorem IBlk.drewN (h : IBlk w g t n f) (q : Nat) : IBlk (w.drewN q) g t n f := h
theorem IBlk.alloc (h : IBlk w g t n f) (o : Obj) : IBlk (w.alloc o) g t n f := h.gr ((Gr.refl w).alloc o)
theorem IBlk.far (h : IBlk w g t n f) {p : Addr} (hp : g ≠ p.block) (u : Value) : IBlk (w.setCell p u) g t n f := h.keep (Below.heap_setCell w p u g hp)
theorem IBlk.set_ (h : IBlk w g t n f) (i : Nat) (v : Int) : IBlk (w.setCell ⟨g, i, none⟩ (.int .i64 v)) g t n (fun j => if j = i then v else f j) := by
  obtain ⟨cs, h, hs, hc⟩ := h
  refine ⟨cs.setIfInBounds i (.int .i64 v), heap_setCell_same w g i cs t _ h, by simp [hs], fun j hj => ?_⟩
  rw [Array.getElem?_setIfInBounds]
  by_cases e : i = j
  · subst e; simp [hs, hj]
  · have e' : ¬ j = i := fun h => e h.symm
    simp [e, e', hc j hj]
theorem IBlk.congr (h : IBlk w g t n f) {f' : Nat → Int} (e : ∀ j, j < n → f j = f' j) : IBlk w g t n f' := by
  obtain ⟨cs, h, hs, hc⟩ := h
  exact ⟨cs, h, hs, fun j hj => by rw [hc j hj, e j hj]⟩
theorem IBlk.new (w : World) (t : TypeId) (cs : Array Value) (n : Nat) (f : Nat → Int) (hs : cs.size = n) (hc : ∀ j, j < n → cs[j]? = some (.int .i64 (f j))) : IBlk (w.alloc (.cells cs t)) w.heap.size t n f :=
  ⟨cs, heap_alloc_new w _, hs, hc⟩
end

/-- A function value with a predicate's contract, in every world that grew out of w. -/
def PredG (P : Program) {α : Type} (g : Nat) (lb : Array Value) (enc : α → Value) (p : α → Bool) (zs : List α) (w : World) : Prop :=
  ∀ (W : World) (x : α), x ∈ zs → Gr w W → Calls P g (#[enc x] ++ lb) W fun e w' => e = .returned (.bool (p x)) ∧ Gr W w'
theorem PredG.gr {P : Program} {α : Type} {g : Nat} {lb : Array Value} {enc : α → Value} {p : α → Bool} {zs : List α} {w w' : World} (h : PredG P g lb enc p zs w) (hg : Gr w w') : PredG P g lb enc p zs w' :=
  fun W x hx k => h W x hx (hg.trans k)
theorem mem_get {α : Type} [Inhabited α] {zs : List α} {k : Nat} (hk : k < zs.length) : zs[k]! ∈ zs := by
  rw [getElem!_pos zs k hk]; exact List.getElem_mem hk
end Go.Proofs.YtliehlefpodhaaaDoor
namespace Go.Proofs.YtliehlefpodhaaaDoor
open Go.RowKit

/-- A signal. -/
structure Sig where
  bureau : Int
  id : Int
  file : Int
  day : Int
  kind : Int
  till : Int
  deriving Inhabited, DecidableEq
def Sig.cells (x : Sig) : List Value := [.int .i64 x.bureau, .int .i64 x.id, .int .i64 x.file, .int .i64 x.day, .int .u8 x.kind, .int .i64 x.till]
def Sig.val (x : Sig) : Value := .agg #[.int .i64 x.bureau, .int .i64 x.id, .int .i64 x.file, .int .i64 x.day, .int .u8 x.kind, .int .i64 x.till]
theorem Sig.len (x : Sig) : x.cells.length = 6 := rfl
/-- A licence. -/
structure Lic where
  who : Int
  purpose : Int
  lo : Int
  hi : Int
  deriving Inhabited, DecidableEq
def Lic.cells (x : Lic) : List Value := [.int .i64 x.who, .int .u8 x.purpose, .int .i64 x.lo, .int .i64 x.hi]
def Lic.val (x : Lic) : Value := .agg #[.int .i64 x.who, .int .u8 x.purpose, .int .i64 x.lo, .int .i64 x.hi]
theorem Lic.len (x : Lic) : x.cells.length = 4 := rfl
/-- An inquiry. -/
structure Inq where
  id : Int
  day : Int
  who : Int
  file : Int
  purpose : Int
  called : Bool
  deriving Inhabited, DecidableEq
def Inq.cells (x : Inq) : List Value := [.int .i64 x.id, .int .i64 x.day, .int .i64 x.who, .int .i64 x.file, .int .u8 x.purpose, .bool x.called]
def Inq.val (x : Inq) : Value := .agg #[.int .i64 x.id, .int .i64 x.day, .int .i64 x.who, .int .i64 x.file, .int .u8 x.purpose, .bool x.called]
theorem Inq.len (x : Inq) : x.cells.length = 6 := rfl
/-- A trace. -/
structure Trc where
  inq : Int
  who : Int
  day : Int
  purpose : Int
  became : Int
  deriving Inhabited, DecidableEq
def Trc.cells (x : Trc) : List Value := [.int .i64 x.inq, .int .i64 x.who, .int .i64 x.day, .int .u8 x.purpose, .int .u8 x.became]
def Trc.val (x : Trc) : Value := .agg #[.int .i64 x.inq, .int .i64 x.who, .int .i64 x.day, .int .u8 x.purpose, .int .u8 x.became]
theorem Trc.len (x : Trc) : x.cells.length = 5 := rfl

/-- n lies from lo to hi. -/
def inB (lo hi n : Int) : Bool := decide (lo ≤ n ∧ n ≤ hi)
theorem inB_not (lo hi n : Int) : (!inB lo hi n) = (decide (n < lo) || decide (hi < n)) := by unfold inB; rw [Bool.eq_iff_iff]; simp
theorem all_inB (lo hi : Int) (zs : List Int) : (!zs.any fun n => !inB lo hi n) = zs.all (inB lo hi) := by
  simp [List.any_eq_not_all_not]

/-- cmp.Compare at whole numbers. -/
def cmpI (x y : Int) : Int := if x < y then -1 else if y < x then 1 else 0
/-- Two things, compared by numbers of them, the first ones that differ. -/
def byN {α : Type} : List (α → Int) → α → α → Int
  | [], _, _ => 0
  | f :: r, a, b => if cmpI (f a) (f b) = 0 then byN r a b else cmpI (f a) (f b)

/-- Whether a signal is valid by itself. -/
def sigB (x : Sig) : Bool := inB 0 9 x.bureau && (inB 0 999999 x.id && inB 0 999999 x.file) && inB 0 100000 x.day && inB 1 5 x.kind &&
  (if x.kind = 3 ∨ x.kind = 4 then inB x.day 100000 x.till else x.till == 0)
/-- Whether a signal is before another one in a list. -/
def befB (a b : Sig) : Bool := decide (a.bureau < b.bureau ∨ (a.bureau = b.bureau ∧ a.id < b.id))
/-- Whether a list is wrong at a place. -/
def sigBad (l : List Sig) (j : Nat) : Bool := !sigB l[j]! || (decide (0 < j) && !befB l[j - 1]! l[j]!)
/-- Whether signals are valid. -/
def sigsB (l : List Sig) : Bool := decide (l.length ≤ 40) && !(List.range l.length).any (sigBad l)
/-- Whether a licence is valid. -/
def licB (x : Lic) : Bool := inB 0 999999 x.who && inB 1 6 x.purpose && (x.purpose != 5) && (inB 0 100000 x.lo && inB 0 100000 x.hi) && decide (x.lo ≤ x.hi)
/-- Whether licences are valid. -/
def licsB (l : List Lic) : Bool := decide (l.length ≤ 40) && l.all licB
/-- The error of a gate. -/
def gateN (ls : List Lic) (ss : List Sig) : Int := if licsB ls then (if sigsB ss then 0 else 91) else 90

/-- Whether a signal is later than another one. -/
def laterB (a b : Sig) : Bool := decide (a.day > b.day ∨ (a.day = b.day ∧ (a.bureau > b.bureau ∨ (a.bureau = b.bureau ∧ a.id > b.id))))
/-- The later one of what is known and a signal. -/
def laterS (b : Option Sig) (x : Sig) : Option Sig := match b with | none => some x | some y => if laterB x y then some x else some y
/-- The latest one. -/
def latestS (l : List Sig) : Option Sig := l.foldl laterS none
/-- Signals of a file until a day, of two kinds. -/
def ofB (file day a b : Int) (x : Sig) : Bool := x.file == file && decide (x.day ≤ day) && (x.kind == a || x.kind == b)
def latestOf (l : List Sig) (file day a b : Int) : Option Sig := latestS (l.filter (ofB file day a b))
/-- Whether a signal lifts what another one froze. -/
def liftB (file day : Int) (f x : Sig) : Bool := x.kind == 3 && x.file == file && laterB x f && decide (x.day ≤ day) && decide (day ≤ x.till)
/-- Whether a file is frozen. -/
def frozenB (l : List Sig) (file day : Int) : Bool := match latestOf l file day 1 2 with | none => false | some f => f.kind == 1 && !l.any (liftB file day f)
/-- Whether a file has an alert. -/
def alertB (l : List Sig) (file day : Int) : Bool := match latestOf l file day 4 5 with | none => false | some a => a.kind == 4 && decide (day ≤ a.till)

/-- Whether an inquiry is valid. -/
def inqB (q : Inq) : Bool := (inB 0 999999 q.id && inB 0 999999 q.who && inB 0 999999 q.file) && inB 0 100000 q.day && inB 1 6 q.purpose
/-- Whether an inquiry has a purpose. -/
def licensedB (ls : List Lic) (q : Inq) : Bool := if q.purpose = 5 then q.who == q.file else ls.any fun x => x.who == q.who && x.purpose == q.purpose && inB x.lo x.hi q.day
/-- What becomes of an inquiry. -/
def askN (ls : List Lic) (ss : List Sig) (q : Inq) : Int :=
  if !licensedB ls q then 1 else
  if frozenB ss q.file q.day && (q.purpose == 1 || q.purpose == 3 || q.purpose == 6) then 2 else
  if alertB ss q.file q.day && (q.purpose == 6 || (q.purpose == 1 && !q.called)) then 3 else 0
/-- Whether a list of inquiries is wrong at a place. -/
def inqBad (l : List Inq) (j : Nat) : Bool := !inqB l[j]! || (decide (0 < j) && decide (l[j]!.id ≤ l[j - 1]!.id))
/-- Whether inquiries are valid. -/
def inqsB (l : List Inq) : Bool := decide (l.length ≤ 40) && !(List.range l.length).any (inqBad l)

/-- The trace of an inquiry. -/
def trcOf (ls : List Lic) (ss : List Sig) (q : Inq) : Trc := ⟨q.id, q.who, q.day, q.purpose, askN ls ss q⟩
/-- Whether an inquiry has a trace that is kept. -/
def keptB (file day : Int) (q : Inq) : Bool := q.file == file && inB (day - 730) day q.day
/-- Whether a trace is not shown to others. -/
def hidB (day : Int) (t : Trc) : Bool := t.became != 0 || t.purpose != 1 || decide (day - t.day > 365)
/-- A trace is put in, behind those of its day and before. -/
def putT (t : Trc) : List Trc → List Trc
  | [] => [t]
  | x :: r => if t.day < x.day then t :: x :: r else x :: putT t r
/-- Traces, in the order of their days. -/
def sortT (l : List Trc) : List Trc := l.foldl (fun o t => putT t o) []
/-- The traces that are shown. -/
def tracesL (ls : List Lic) (ss : List Sig) (l : List Inq) (file day purpose : Int) : List Trc :=
  sortT (((l.filter (keptB file day)).map (trcOf ls ss)).filter fun t => purpose == 5 || !hidB day t)
/-- The error of what is asked of traces. -/
def tracesN (ls : List Lic) (ss : List Sig) (l : List Inq) (file day purpose : Int) : Int :=
  if gateN ls ss = 0 then (if inqsB l then (if inB 0 999999 file && inB 0 100000 day && inB 1 6 purpose then 0 else 2) else 92) else gateN ls ss
/-- How many spans of days. -/
def countStep (s : Int × Int) (t : Trc) : Int × Int := if s.1 = 0 ∨ t.day > s.2 + 14 then (s.1 + 1, t.day) else s
def countN (l : List Trc) : Int := (l.foldl countStep (0, 0)).1
end Go.Proofs.YtliehlefpodhaaaDoor
namespace Go.Proofs.YtliehlefpodhaaaDoor
open Go.RowKit

/-- What is known of a slice of them. -/
structure SigsIn (w : World) (A : Option Addr) (n : Nat) (zs : List Sig) : Prop where
  rd : Rd w 6 A n (zs.flatMap Sig.cells)
  big : n ≤ 9223372036854775807
  u8 : ∀ x ∈ zs, 0 ≤ x.kind ∧ x.kind ≤ 255
theorem SigsIn.gr {w w' : World} {A : Option Addr} {n : Nat} {zs : List Sig} (h : SigsIn w A n zs) (g : Gr w w') : SigsIn w' A n zs := ⟨h.rd.gr g, h.big, h.u8⟩
/-- A thing of the list, cell by cell. -/
theorem Rd.sig {w : World} {A : Option Addr} {n : Nat} {zs : List Sig} (h : Rd w 6 A n (zs.flatMap Sig.cells)) {k : Nat} (hk : k < n) :
    k < zs.length ∧ ∃ b off, A = some ⟨b, off, none⟩ ∧ b < w.heap.size ∧ w.cell? ⟨b, off + k * 6, none⟩ = some (.int .i64 zs[k]!.bureau) ∧ w.cell? ⟨b, off + k * 6 + 1, none⟩ = some (.int .i64 zs[k]!.id) ∧ w.cell? ⟨b, off + k * 6 + 2, none⟩ = some (.int .i64 zs[k]!.file) ∧ w.cell? ⟨b, off + k * 6 + 3, none⟩ = some (.int .i64 zs[k]!.day) ∧ w.cell? ⟨b, off + k * 6 + 4, none⟩ = some (.int .u8 zs[k]!.kind) ∧ w.cell? ⟨b, off + k * 6 + 5, none⟩ = some (.int .i64 zs[k]!.till) := by
  have hl := h.len
  rw [flatMap_len Sig.len] at hl
  have hk' : k < zs.length := by omega
  obtain ⟨b, off, e, hb, hc⟩ := h.at_ (by omega)
  exact ⟨hk', b, off, e, hb, hc (k * 6) _ (by simpa [Sig.cells] using flatMap_get (i := 0) Sig.len hk' (by omega)), hc (k * 6 + 1) _ (by simpa [Sig.cells] using flatMap_get (i := 1) Sig.len hk' (by omega)), hc (k * 6 + 2) _ (by simpa [Sig.cells] using flatMap_get (i := 2) Sig.len hk' (by omega)), hc (k * 6 + 3) _ (by simpa [Sig.cells] using flatMap_get (i := 3) Sig.len hk' (by omega)), hc (k * 6 + 4) _ (by simpa [Sig.cells] using flatMap_get (i := 4) Sig.len hk' (by omega)), hc (k * 6 + 5) _ (by simpa [Sig.cells] using flatMap_get (i := 5) Sig.len hk' (by omega))⟩
theorem Rd.sig_len {w : World} {A : Option Addr} {n : Nat} {zs : List Sig} (h : Rd w 6 A n (zs.flatMap Sig.cells)) : zs.length = n := by
  have hl := h.len
  rw [flatMap_len Sig.len] at hl
  omega
/-- What is known of a slice of them. -/
structure TrcsIn (w : World) (A : Option Addr) (n : Nat) (zs : List Trc) : Prop where
  rd : Rd w 5 A n (zs.flatMap Trc.cells)
  big : n ≤ 9223372036854775807
  u8 : ∀ x ∈ zs, 0 ≤ x.purpose ∧ x.purpose ≤ 255
theorem TrcsIn.gr {w w' : World} {A : Option Addr} {n : Nat} {zs : List Trc} (h : TrcsIn w A n zs) (g : Gr w w') : TrcsIn w' A n zs := ⟨h.rd.gr g, h.big, h.u8⟩
/-- A thing of the list, cell by cell. -/
theorem Rd.trc {w : World} {A : Option Addr} {n : Nat} {zs : List Trc} (h : Rd w 5 A n (zs.flatMap Trc.cells)) {k : Nat} (hk : k < n) :
    k < zs.length ∧ ∃ b off, A = some ⟨b, off, none⟩ ∧ b < w.heap.size ∧ w.cell? ⟨b, off + k * 5, none⟩ = some (.int .i64 zs[k]!.inq) ∧ w.cell? ⟨b, off + k * 5 + 1, none⟩ = some (.int .i64 zs[k]!.who) ∧ w.cell? ⟨b, off + k * 5 + 2, none⟩ = some (.int .i64 zs[k]!.day) ∧ w.cell? ⟨b, off + k * 5 + 3, none⟩ = some (.int .u8 zs[k]!.purpose) ∧ w.cell? ⟨b, off + k * 5 + 4, none⟩ = some (.int .u8 zs[k]!.became) := by
  have hl := h.len
  rw [flatMap_len Trc.len] at hl
  have hk' : k < zs.length := by omega
  obtain ⟨b, off, e, hb, hc⟩ := h.at_ (by omega)
  exact ⟨hk', b, off, e, hb, hc (k * 5) _ (by simpa [Trc.cells] using flatMap_get (i := 0) Trc.len hk' (by omega)), hc (k * 5 + 1) _ (by simpa [Trc.cells] using flatMap_get (i := 1) Trc.len hk' (by omega)), hc (k * 5 + 2) _ (by simpa [Trc.cells] using flatMap_get (i := 2) Trc.len hk' (by omega)), hc (k * 5 + 3) _ (by simpa [Trc.cells] using flatMap_get (i := 3) Trc.len hk' (by omega)), hc (k * 5 + 4) _ (by simpa [Trc.cells] using flatMap_get (i := 4) Trc.len hk' (by omega))⟩
theorem Rd.trc_len {w : World} {A : Option Addr} {n : Nat} {zs : List Trc} (h : Rd w 5 A n (zs.flatMap Trc.cells)) : zs.length = n := by
  have hl := h.len
  rw [flatMap_len Trc.len] at hl
  omega
/-- What is known of a slice of them. -/
structure LicsIn (w : World) (A : Option Addr) (n : Nat) (zs : List Lic) : Prop where
  rd : Rd w 4 A n (zs.flatMap Lic.cells)
  big : n ≤ 9223372036854775807
  u8 : ∀ x ∈ zs, 0 ≤ x.purpose ∧ x.purpose ≤ 255
theorem LicsIn.gr {w w' : World} {A : Option Addr} {n : Nat} {zs : List Lic} (h : LicsIn w A n zs) (g : Gr w w') : LicsIn w' A n zs := ⟨h.rd.gr g, h.big, h.u8⟩
/-- A thing of the list, cell by cell. -/
theorem Rd.lic {w : World} {A : Option Addr} {n : Nat} {zs : List Lic} (h : Rd w 4 A n (zs.flatMap Lic.cells)) {k : Nat} (hk : k < n) :
    k < zs.length ∧ ∃ b off, A = some ⟨b, off, none⟩ ∧ b < w.heap.size ∧ w.cell? ⟨b, off + k * 4, none⟩ = some (.int .i64 zs[k]!.who) ∧ w.cell? ⟨b, off + k * 4 + 1, none⟩ = some (.int .u8 zs[k]!.purpose) ∧ w.cell? ⟨b, off + k * 4 + 2, none⟩ = some (.int .i64 zs[k]!.lo) ∧ w.cell? ⟨b, off + k * 4 + 3, none⟩ = some (.int .i64 zs[k]!.hi) := by
  have hl := h.len
  rw [flatMap_len Lic.len] at hl
  have hk' : k < zs.length := by omega
  obtain ⟨b, off, e, hb, hc⟩ := h.at_ (by omega)
  exact ⟨hk', b, off, e, hb, hc (k * 4) _ (by simpa [Lic.cells] using flatMap_get (i := 0) Lic.len hk' (by omega)), hc (k * 4 + 1) _ (by simpa [Lic.cells] using flatMap_get (i := 1) Lic.len hk' (by omega)), hc (k * 4 + 2) _ (by simpa [Lic.cells] using flatMap_get (i := 2) Lic.len hk' (by omega)), hc (k * 4 + 3) _ (by simpa [Lic.cells] using flatMap_get (i := 3) Lic.len hk' (by omega))⟩
theorem Rd.lic_len {w : World} {A : Option Addr} {n : Nat} {zs : List Lic} (h : Rd w 4 A n (zs.flatMap Lic.cells)) : zs.length = n := by
  have hl := h.len
  rw [flatMap_len Lic.len] at hl
  omega
/-- What is known of a slice of them. -/
structure InqsIn (w : World) (A : Option Addr) (n : Nat) (zs : List Inq) : Prop where
  rd : Rd w 6 A n (zs.flatMap Inq.cells)
  big : n ≤ 9223372036854775807
  u8 : ∀ x ∈ zs, 0 ≤ x.purpose ∧ x.purpose ≤ 255
theorem InqsIn.gr {w w' : World} {A : Option Addr} {n : Nat} {zs : List Inq} (h : InqsIn w A n zs) (g : Gr w w') : InqsIn w' A n zs := ⟨h.rd.gr g, h.big, h.u8⟩
/-- A thing of the list, cell by cell. -/
theorem Rd.inq {w : World} {A : Option Addr} {n : Nat} {zs : List Inq} (h : Rd w 6 A n (zs.flatMap Inq.cells)) {k : Nat} (hk : k < n) :
    k < zs.length ∧ ∃ b off, A = some ⟨b, off, none⟩ ∧ b < w.heap.size ∧ w.cell? ⟨b, off + k * 6, none⟩ = some (.int .i64 zs[k]!.id) ∧ w.cell? ⟨b, off + k * 6 + 1, none⟩ = some (.int .i64 zs[k]!.day) ∧ w.cell? ⟨b, off + k * 6 + 2, none⟩ = some (.int .i64 zs[k]!.who) ∧ w.cell? ⟨b, off + k * 6 + 3, none⟩ = some (.int .i64 zs[k]!.file) ∧ w.cell? ⟨b, off + k * 6 + 4, none⟩ = some (.int .u8 zs[k]!.purpose) ∧ w.cell? ⟨b, off + k * 6 + 5, none⟩ = some (.bool zs[k]!.called) := by
  have hl := h.len
  rw [flatMap_len Inq.len] at hl
  have hk' : k < zs.length := by omega
  obtain ⟨b, off, e, hb, hc⟩ := h.at_ (by omega)
  exact ⟨hk', b, off, e, hb, hc (k * 6) _ (by simpa [Inq.cells] using flatMap_get (i := 0) Inq.len hk' (by omega)), hc (k * 6 + 1) _ (by simpa [Inq.cells] using flatMap_get (i := 1) Inq.len hk' (by omega)), hc (k * 6 + 2) _ (by simpa [Inq.cells] using flatMap_get (i := 2) Inq.len hk' (by omega)), hc (k * 6 + 3) _ (by simpa [Inq.cells] using flatMap_get (i := 3) Inq.len hk' (by omega)), hc (k * 6 + 4) _ (by simpa [Inq.cells] using flatMap_get (i := 4) Inq.len hk' (by omega)), hc (k * 6 + 5) _ (by simpa [Inq.cells] using flatMap_get (i := 5) Inq.len hk' (by omega))⟩
theorem Rd.inq_len {w : World} {A : Option Addr} {n : Nat} {zs : List Inq} (h : Rd w 6 A n (zs.flatMap Inq.cells)) : zs.length = n := by
  have hl := h.len
  rw [flatMap_len Inq.len] at hl
  omega
end Go.Proofs.YtliehlefpodhaaaDoor
namespace Go.Proofs.YtliehlefpodhaaaDoor

/-- A trace comes ahead of another one: by day, then by inquiry. -/
def AhT (x y : Trc) : Prop := x.day < y.day ∨ (x.day = y.day ∧ x.inq < y.inq)
theorem AhT.trans {x y z : Trc} (h : AhT x y) (k : AhT y z) : AhT x z := by unfold AhT at *; omega
/-- Two lists in order, of the same things: one list. -/
theorem perm_sorted_eq {α : Type} {R : α → α → Prop} (hR : ∀ a b, R a b → R b a → False) {l l' : List α} (p : l'.Perm l) (h' : l'.Pairwise R) (h : l.Pairwise R) : l' = l := by
  induction l generalizing l' with
  | nil => exact List.Perm.eq_nil p
  | cons a l ih =>
    cases l' with
    | nil => exact absurd p.symm.eq_nil (by simp)
    | cons b l' =>
      have hab : b = a := by
        have h1 : b ∈ a :: l := p.mem_iff.1 (by simp)
        have h2 : a ∈ b :: l' := p.mem_iff.2 (by simp)
        rcases List.mem_cons.1 h1 with e | h1
        · exact e
        · rcases List.mem_cons.1 h2 with e | h2
          · exact e.symm
          · exact (hR _ _ ((List.pairwise_cons.1 h).1 b h1) ((List.pairwise_cons.1 h').1 a h2)).elim
      subst hab
      rw [ih ((List.perm_cons b).1 p) (List.pairwise_cons.1 h').2 (List.pairwise_cons.1 h).2]
theorem snoc_ind {α : Type} {p : List α → Prop} (h0 : p []) (h1 : ∀ l t, p l → p (l ++ [t])) (l : List α) : p l := by
  have h : ∀ r : List α, p r.reverse := by
    intro r
    induction r with
    | nil => exact h0
    | cons t r ih => rw [List.reverse_cons]; exact h1 _ _ ih
  have := h l.reverse
  rwa [List.reverse_reverse] at this
theorem putT_perm (t : Trc) (l : List Trc) : (putT t l).Perm (t :: l) := by
  induction l with
  | nil => exact List.Perm.refl _
  | cons x r ih =>
    unfold putT
    split
    · exact List.Perm.refl _
    · exact (List.Perm.cons x ih).trans (List.Perm.swap t x r)
theorem putT_sorted {t : Trc} {l : List Trc} (h : l.Pairwise AhT) (ht : ∀ x ∈ l, x.inq < t.inq) : (putT t l).Pairwise AhT := by
  induction l with
  | nil => simp [putT]
  | cons x r ih =>
    obtain ⟨h1, h2⟩ := List.pairwise_cons.1 h
    unfold putT
    split
    · rename_i hlt
      refine List.pairwise_cons.2 ⟨fun y hy => ?_, h⟩
      rcases List.mem_cons.1 hy with rfl | hy
      · exact Or.inl hlt
      · have := h1 y hy
        unfold AhT at *; omega
    · rename_i hlt
      refine List.pairwise_cons.2 ⟨fun y hy => ?_, ih h2 (fun y hy => ht y (List.mem_cons_of_mem _ hy))⟩
      rcases List.mem_cons.1 ((putT_perm t r).mem_iff.1 hy) with rfl | hy
      · have := ht x (by simp)
        unfold AhT; omega
      · exact h1 y hy
theorem sortT_snoc (l : List Trc) (t : Trc) : sortT (l ++ [t]) = putT t (sortT l) := by simp [sortT]
theorem sortT_perm (l : List Trc) : (sortT l).Perm l := by
  refine snoc_ind (p := fun l => (sortT l).Perm l) (List.Perm.refl _) (fun l t ih => ?_) l
  · rw [sortT_snoc]
    exact (putT_perm t _).trans ((List.Perm.cons t ih).trans (List.perm_append_singleton t l).symm)
theorem sortT_sorted {l : List Trc} (h : l.Pairwise (fun x y => x.inq < y.inq)) : (sortT l).Pairwise AhT := by
  refine snoc_ind (p := fun l => l.Pairwise (fun x y => x.inq < y.inq) → (sortT l).Pairwise AhT) (fun _ => by simp [sortT]) (fun l t ih h => ?_) l h
  · rw [sortT_snoc]
    obtain ⟨h1, _, h3⟩ := List.pairwise_append.1 h
    exact putT_sorted (ih h1) (fun x hx => h3 x ((sortT_perm l).mem_iff.1 hx) t (by simp))
/-- What is sorted, and of the same traces, is their list in order. -/
theorem sortT_eq {l l' : List Trc} (h : l.Pairwise (fun x y => x.inq < y.inq)) (p : l'.Perm l) (s : l'.Pairwise AhT) : l' = sortT l :=
  perm_sorted_eq (R := AhT) (fun a b h k => by unfold AhT at *; omega) (p.trans (sortT_perm l).symm) s (sortT_sorted h)

/-- The traces, inquiry by inquiry. -/
def trStep (ls : List Lic) (ss : List Sig) (file day purpose : Int) (o : List Trc) (q : Inq) : List Trc :=
  if keptB file day q && (purpose == 5 || !hidB day (trcOf ls ss q)) then putT (trcOf ls ss q) o else o
theorem tracesL_fold (ls : List Lic) (ss : List Sig) (l : List Inq) (file day purpose : Int) : tracesL ls ss l file day purpose = l.foldl (trStep ls ss file day purpose) [] := by
  unfold tracesL sortT
  generalize ([] : List Trc) = o
  induction l generalizing o with
  | nil => rfl
  | cons q l ih =>
    rw [List.foldl_cons, ← ih]
    unfold trStep
    cases h1 : keptB file day q
    · simp [h1]
    · cases h2 : (purpose == 5 || !hidB day (trcOf ls ss q))
      · simp only [List.filter_cons, h1, if_true, List.map_cons, h2]; simp
      · simp only [List.filter_cons, h1, if_true, List.map_cons, h2, Bool.and_self, List.foldl_cons]
theorem tracesL_take (ls : List Lic) (ss : List Sig) (l : List Inq) (file day purpose : Int) {k : Nat} (hk : k < l.length) :
    (l.take (k + 1)).foldl (trStep ls ss file day purpose) [] = trStep ls ss file day purpose ((l.take k).foldl (trStep ls ss file day purpose) []) l[k]! := by
  rw [List.take_succ_eq_append_getElem hk, List.foldl_append, getElem!_pos l k hk]; rfl
/-- Inquiries in the order of their Ids. -/
theorem inqs_pairwise {l : List Inq} (h : inqsB l = true) : l.Pairwise (fun x y => x.id < y.id) := by
  unfold inqsB at h
  simp only [Bool.and_eq_true, decide_eq_true_eq, Bool.not_eq_true', List.any_eq_false, List.mem_range, Bool.not_eq_true] at h
  have hs : ∀ j, 0 < j → j < l.length → l[j - 1]!.id < l[j]!.id := by
    intro j h0 hj
    have := h.2 j hj
    unfold inqBad at this
    simp only [Bool.or_eq_false_iff, Bool.and_eq_false_imp, decide_eq_true_eq, decide_eq_false_iff_not] at this
    have := this.2 h0
    omega
  have hs2 : ∀ n i, i + n + 1 < l.length → l[i]!.id < l[i + n + 1]!.id := by
    intro n
    induction n with
    | zero => intro i hi; exact hs (i + 1) (by omega) hi
    | succ n ih =>
      intro i hi
      have a := ih i (by omega)
      have b := hs (i + (n + 1) + 1) (by omega) hi
      rw [show i + (n + 1) + 1 - 1 = i + n + 1 by omega] at b
      omega
  rw [List.pairwise_iff_getElem]
  intro i j hi hj hij
  have := hs2 (j - i - 1) i (by omega)
  rw [show i + (j - i - 1) + 1 = j by omega, getElem!_pos l i hi, getElem!_pos l j hj] at this
  exact this

/-- Within a span nothing counts. -/
theorem count_skip {l : List Trc} {n last : Int} (hn : n ≠ 0) (h : ∀ t ∈ l, t.day ≤ last + 14) : l.foldl countStep (n, last) = (n, last) := by
  induction l with
  | nil => rfl
  | cons t l ih =>
    have := h t (by simp)
    rw [List.foldl_cons, show countStep (n, last) t = (n, last) by unfold countStep; rw [if_neg (by simp only; omega)]]
    exact ih (fun u hu => h u (by simp [hu]))
/-- What is left to count, n spans before. -/
def CntQ (l : List Trc) (n : Int) (s : List Trc) : Prop := 0 ≤ n ∧ n ≤ (l.length : Int) - s.length ∧ ∃ last, (s.foldl countStep (n, last)).1 = countN l ∧ ∀ x r, s = x :: r → n = 0 ∨ x.day > last + 14
theorem CntQ.start (l : List Trc) : CntQ l 0 l := ⟨by omega, by omega, 0, rfl, fun _ _ _ => Or.inl rfl⟩
theorem CntQ.done {l : List Trc} {n : Int} (h : CntQ l n []) : n = countN l := by
  obtain ⟨_, _, last, e, _⟩ := h
  exact e
theorem CntQ.last {l : List Trc} {n : Int} {x : Trc} {r : List Trc} (h : CntQ l n (x :: r)) (hr : ∀ t ∈ r, t.day ≤ x.day + 14) : n + 1 = countN l := by
  obtain ⟨h0, _, last, e, hx⟩ := h
  rw [List.foldl_cons, show countStep (n, last) x = (n + 1, x.day) by unfold countStep; rw [if_pos (hx x r rfl)], count_skip (by omega) hr] at e
  exact e
theorem CntQ.step {l : List Trc} {n : Int} {x : Trc} {pre s : List Trc} (h : CntQ l n (x :: (pre ++ s))) (hp : ∀ t ∈ pre, t.day ≤ x.day + 14) (hs : ∀ y r, s = y :: r → y.day > x.day + 14) : CntQ l (n + 1) s := by
  obtain ⟨h0, h1, last, e, hx⟩ := h
  rw [List.foldl_cons, show countStep (n, last) x = (n + 1, x.day) by unfold countStep; rw [if_pos (hx x _ rfl)], List.foldl_append, count_skip (by omega) hp] at e
  refine ⟨by omega, ?_, x.day, e, fun y r hy => Or.inr (hs y r hy)⟩
  simp at h1
  omega
end Go.Proofs.YtliehlefpodhaaaDoor
namespace Go.Proofs.YtliehlefpodhaaaDoor
open Go.RowKit

/-- Two signals are at one place. -/
def samePl (x y : Sig) : Bool := x.bureau == y.bureau && x.id == y.id
theorem samePl_iff {x y : Sig} : samePl x y = true ↔ x.bureau = y.bureau ∧ x.id = y.id := by simp [samePl]
theorem samePl_comm (x y : Sig) : samePl x y = samePl y x := by
  rw [Bool.eq_iff_iff, samePl_iff, samePl_iff]
  exact ⟨fun h => ⟨h.1.symm, h.2.symm⟩, fun h => ⟨h.1.symm, h.2.symm⟩⟩
def hasPl (l : List Sig) (x : Sig) : Bool := l.any (samePl x)
/-- A signal of b is at the place of another one of a. -/
def clashB (a b : List Sig) : Bool := b.any fun x => a.any fun y => samePl x y && decide (y ≠ x)
/-- What b adds. -/
def newsS (a b : List Sig) : List Sig := b.filter fun x => !hasPl a x
/-- A signal put in, in order. -/
def putS (x : Sig) : List Sig → List Sig
  | [] => [x]
  | y :: r => if befB x y then x :: y :: r else y :: putS x r
def mergeAll (a b : List Sig) : List Sig := (newsS a b).foldl (fun o x => putS x o) a
def mergeN (a b : List Sig) : Int := if (!sigsB a || !sigsB b) = true then 91 else if clashB a b = true then 91 else if 40 < (mergeAll a b).length then 4 else 0
def mergeL (a b : List Sig) : List Sig := if mergeN a b = 0 then mergeAll a b else []
/-- Before, as a relation. -/
def BefS (a b : Sig) : Prop := befB a b = true
theorem BefS_iff {a b : Sig} : BefS a b ↔ a.bureau < b.bureau ∨ (a.bureau = b.bureau ∧ a.id < b.id) := by unfold BefS befB; simp
theorem BefS.anti {a b : Sig} (h : BefS a b) (k : BefS b a) : False := by rw [BefS_iff] at *; omega
theorem BefS.trans {a b c : Sig} (h : BefS a b) (k : BefS b c) : BefS a c := by rw [BefS_iff] at *; omega
theorem BefS.apart {a b : Sig} (h : BefS a b) : samePl a b = false := by
  cases e : samePl a b with
  | false => rfl
  | true => rw [samePl_iff] at e; rw [BefS_iff] at h; omega
theorem befS_total {a b : Sig} (h : samePl a b = false) : BefS a b ∨ BefS b a := by
  have : ¬ (a.bureau = b.bureau ∧ a.id = b.id) := fun e => by rw [samePl_iff.2 e] at h; cases h
  rw [BefS_iff, BefS_iff]; omega
theorem putS_perm (x : Sig) (l : List Sig) : (putS x l).Perm (x :: l) := by
  induction l with
  | nil => exact List.Perm.refl _
  | cons y r ih =>
    unfold putS
    split
    · exact List.Perm.refl _
    · exact (List.Perm.cons y ih).trans (List.Perm.swap x y r)
theorem putS_sorted {x : Sig} {l : List Sig} (h : l.Pairwise BefS) (hx : ∀ y ∈ l, samePl x y = false) : (putS x l).Pairwise BefS := by
  induction l with
  | nil => simp [putS]
  | cons y r ih =>
    obtain ⟨h1, h2⟩ := List.pairwise_cons.1 h
    unfold putS
    split
    · rename_i hlt
      refine List.pairwise_cons.2 ⟨fun z hz => ?_, h⟩
      rcases List.mem_cons.1 hz with rfl | hz
      · exact hlt
      · exact BefS.trans hlt (h1 z hz)
    · rename_i hlt
      refine List.pairwise_cons.2 ⟨fun z hz => ?_, ih h2 (fun z hz => hx z (List.mem_cons_of_mem _ hz))⟩
      rcases List.mem_cons.1 ((putS_perm x r).mem_iff.1 hz) with rfl | hz
      · rcases befS_total (hx y (by simp)) with h3 | h3
        · exact absurd h3 hlt
        · exact h3
      · exact h1 z hz
theorem sigs_pairwise {l : List Sig} (h : sigsB l = true) : l.Pairwise BefS := by
  unfold sigsB at h
  simp only [Bool.and_eq_true, decide_eq_true_eq, Bool.not_eq_true', List.any_eq_false, List.mem_range, Bool.not_eq_true] at h
  have hs : ∀ j, 0 < j → j < l.length → BefS l[j - 1]! l[j]! := by
    intro j h0 hj
    have := h.2 j hj
    unfold sigBad at this
    simp only [Bool.or_eq_false_iff, Bool.and_eq_false_imp, decide_eq_true_eq, Bool.not_eq_false'] at this
    exact this.2 h0
  have hs2 : ∀ n i, i + n + 1 < l.length → BefS l[i]! l[i + n + 1]! := by
    intro n
    induction n with
    | zero => intro i hi; exact hs (i + 1) (by omega) hi
    | succ n ih =>
      intro i hi
      have a := ih i (by omega)
      have b := hs (i + (n + 1) + 1) (by omega) hi
      rw [show i + (n + 1) + 1 - 1 = i + n + 1 by omega] at b
      exact a.trans b
  rw [List.pairwise_iff_getElem]
  intro i j hi hj hij
  have := hs2 (j - i - 1) i (by omega)
  rw [show i + (j - i - 1) + 1 = j by omega, getElem!_pos l i hi, getElem!_pos l j hj] at this
  exact this
theorem sigsB_len {l : List Sig} (h : sigsB l = true) : l.length ≤ 40 := by
  unfold sigsB at h
  simp only [Bool.and_eq_true, decide_eq_true_eq] at h
  exact h.1
theorem sigsB_mem {l : List Sig} (h : sigsB l = true) {x : Sig} (hx : x ∈ l) : sigB x = true := by
  unfold sigsB at h
  simp only [Bool.and_eq_true, decide_eq_true_eq, Bool.not_eq_true', List.any_eq_false, List.mem_range, Bool.not_eq_true] at h
  obtain ⟨j, hj, rfl⟩ := List.getElem_of_mem hx
  have := h.2 j hj
  unfold sigBad at this
  simp only [Bool.or_eq_false_iff, Bool.not_eq_false'] at this
  rw [getElem!_pos l j hj] at this
  exact this.1
theorem sigB_place {x : Sig} (h : sigB x = true) : (0 ≤ x.bureau ∧ x.bureau ≤ 9) ∧ (0 ≤ x.id ∧ x.id ≤ 999999) := by
  unfold sigB inB at h
  simp only [Bool.and_eq_true, decide_eq_true_eq] at h
  exact ⟨h.1.1.1.1, h.1.1.1.2.1⟩
/-- Putting in some, one by one. -/
theorem putAll_perm (l o : List Sig) : (l.foldl (fun o x => putS x o) o).Perm (o ++ l) := by
  induction l generalizing o with
  | nil => simp
  | cons x l ih =>
    rw [List.foldl_cons]
    refine (ih _).trans ?_
    refine ((putS_perm x o).append_right l).trans ?_
    have : (x :: o ++ l).Perm (o ++ x :: l) := by
      rw [List.cons_append]
      exact List.perm_middle.symm
    exact this
theorem putAll_sorted {l o : List Sig} (h : o.Pairwise BefS) (hl : l.Pairwise (fun x y => samePl x y = false)) (hx : ∀ x ∈ l, ∀ y ∈ o, samePl x y = false) : (l.foldl (fun o x => putS x o) o).Pairwise BefS := by
  induction l generalizing o with
  | nil => exact h
  | cons x l ih =>
    rw [List.foldl_cons]
    obtain ⟨h1, h2⟩ := List.pairwise_cons.1 hl
    refine ih (putS_sorted h (hx x (by simp))) h2 (fun z hz y hy => ?_)
    rcases List.mem_cons.1 ((putS_perm x o).mem_iff.1 hy) with rfl | hy
    · rw [samePl_comm]; exact h1 z hz
    · exact hx z (List.mem_cons_of_mem _ hz) y hy
theorem hasPl_false {l : List Sig} {x : Sig} (h : hasPl l x = false) : ∀ y ∈ l, samePl x y = false := by
  unfold hasPl at h
  intro y hy
  have := (List.any_eq_false.1 h) y hy
  simpa using this
theorem news_apart {a b : List Sig} : ∀ x ∈ newsS a b, ∀ y ∈ a, samePl x y = false := fun x hx => by
  unfold newsS at hx
  have := (List.mem_filter.1 hx).2
  exact hasPl_false (by simpa using this)
theorem news_pairwise {a b : List Sig} (h : b.Pairwise BefS) : (newsS a b).Pairwise (fun x y => samePl x y = false) :=
  (h.imp (fun k => k.apart)).filter _
theorem mergeAll_sorted {a b : List Sig} (ha : a.Pairwise BefS) (hb : b.Pairwise BefS) : (mergeAll a b).Pairwise BefS :=
  putAll_sorted ha (news_pairwise hb) news_apart
theorem mergeAll_perm (a b : List Sig) : (mergeAll a b).Perm (a ++ newsS a b) := putAll_perm _ _
/-- What is sorted, and of the same signals, is their list in order. -/
theorem mergeAll_eq {a b l : List Sig} (ha : a.Pairwise BefS) (hb : b.Pairwise BefS) (p : l.Perm (a ++ newsS a b)) (s : l.Pairwise BefS) : l = mergeAll a b :=
  perm_sorted_eq (R := BefS) (fun _ _ h k => h.anti k) (p.trans (mergeAll_perm a b).symm) s (mergeAll_sorted ha hb)

/-- The program's way: what is known so far, signal by signal. -/
def mgStep (o : Option (List Sig)) (x : Sig) : Option (List Sig) := match o with
  | none => none
  | some o => match o.find? (samePl x) with | none => some (o ++ [x]) | some y => if y = x then some o else none
theorem mg_none (l : List Sig) : l.foldl mgStep none = none := by
  induction l with
  | nil => rfl
  | cons x l ih => exact ih
theorem find_none {l : List Sig} {x : Sig} (h : ∀ y ∈ l, samePl x y = false) : l.find? (samePl x) = none := by
  rw [List.find?_eq_none]
  intro y hy
  simp [h y hy]
theorem mg_first {a o : List Sig} (ha : a.Pairwise (fun x y => samePl x y = false)) (hx : ∀ x ∈ a, ∀ y ∈ o, samePl x y = false) : a.foldl mgStep (some o) = some (o ++ a) := by
  induction a generalizing o with
  | nil => simp
  | cons x a ih =>
    obtain ⟨h1, h2⟩ := List.pairwise_cons.1 ha
    have : mgStep (some o) x = some (o ++ [x]) := by
      unfold mgStep
      simp only [find_none (hx x (by simp))]
    rw [List.foldl_cons, this, ih h2 (fun z hz y hy => ?_)]
    · simp
    · rcases List.mem_append.1 hy with hy | hy
      · exact hx z (List.mem_cons_of_mem _ hz) y hy
      · simp at hy; subst hy; rw [samePl_comm]; exact h1 z hz
theorem mg_second {a b o : List Sig} (hb : b.Pairwise (fun x y => samePl x y = false)) (ha : a.Pairwise (fun x y => samePl x y = false)) (ho : ∀ x ∈ b, ∀ y ∈ o, samePl x y = false) :
    b.foldl mgStep (some (a ++ o)) = if clashB a b = true then none else some (a ++ (o ++ newsS a b)) := by
  induction b generalizing o with
  | nil => simp [clashB, newsS]
  | cons x b ih =>
    obtain ⟨h1, h2⟩ := List.pairwise_cons.1 hb
    rw [List.foldl_cons]
    have hox : o.find? (samePl x) = none := find_none (ho x (by simp))
    cases hf : a.find? (samePl x) with
    | none =>
      have hn : ∀ y ∈ a, samePl x y = false := by
        rw [List.find?_eq_none] at hf
        intro y hy
        have := hf y hy
        simpa using this
      have hs : mgStep (some (a ++ o)) x = some (a ++ (o ++ [x])) := by
        unfold mgStep
        simp only [List.find?_append, hf, hox, Option.or_none]
        simp
      have hc : clashB a (x :: b) = clashB a b := by
        unfold clashB
        rw [List.any_cons]
        have : (a.any fun y => samePl x y && decide (y ≠ x)) = false := by
          rw [List.any_eq_false]
          intro y hy
          simp [hn y hy]
        rw [this, Bool.false_or]
      have hw : newsS a (x :: b) = x :: newsS a b := by
        unfold newsS
        rw [List.filter_cons]
        have : hasPl a x = false := by
          unfold hasPl
          rw [List.any_eq_false]
          intro y hy
          simp [hn y hy]
        simp [this]
      rw [hs, ih h2 (fun z hz y hy => ?_), hc, hw]
      · simp
      · rcases List.mem_append.1 hy with hy | hy
        · exact ho z (List.mem_cons_of_mem _ hz) y hy
        · simp at hy; subst hy; rw [samePl_comm]; exact h1 z hz
    | some y =>
      have hy1 := List.find?_some hf
      have hy2 := List.mem_of_find?_eq_some hf
      have huniq : ∀ z ∈ a, samePl x z = true → z = y := by
        intro z hz hxz
        by_cases e : z = y
        · exact e
        · exfalso
          obtain ⟨i, hi, rfl⟩ := List.getElem_of_mem hz
          obtain ⟨j, hj, rfl⟩ := List.getElem_of_mem hy2
          have hij : i ≠ j := fun h => by subst h; exact e rfl
          have hss : samePl a[i] a[j] = true := by
            rw [samePl_iff] at *
            exact ⟨hxz.1.symm.trans hy1.1, hxz.2.symm.trans hy1.2⟩
          rw [List.pairwise_iff_getElem] at ha
          rcases Nat.lt_or_ge i j with h | h
          · rw [ha i j hi hj h] at hss; cases hss
          · rw [samePl_comm, ha j i hj hi (by omega)] at hss; cases hss
      have hcl : (a.any fun z => samePl x z && decide (z ≠ x)) = decide (y ≠ x) := by
        rw [Bool.eq_iff_iff, List.any_eq_true, decide_eq_true_eq]
        constructor
        · rintro ⟨z, hz, h⟩
          simp only [Bool.and_eq_true, decide_eq_true_eq] at h
          rw [← huniq z hz h.1]; exact h.2
        · intro h
          exact ⟨y, hy2, by simp [hy1, h]⟩
      have hs : mgStep (some (a ++ o)) x = if y = x then some (a ++ o) else none := by
        unfold mgStep
        simp only [List.find?_append, hf, Option.some_or]
      have hw : newsS a (x :: b) = newsS a b := by
        unfold newsS
        rw [List.filter_cons]
        have : hasPl a x = true := by
          unfold hasPl
          rw [List.any_eq_true]
          exact ⟨y, hy2, hy1⟩
        simp [this]
      have hc : clashB a (x :: b) = (decide (y ≠ x) || clashB a b) := by
        unfold clashB
        rw [List.any_cons, hcl]
      rw [hs, hc, hw]
      by_cases e : y = x
      · rw [if_pos e, ih h2 (fun z hz => ho z (List.mem_cons_of_mem _ hz))]
        simp [e]
      · rw [if_neg e, mg_none]
        simp [e]
/-- The program's way comes to the same. -/
theorem mg_all {a b : List Sig} (ha : a.Pairwise BefS) (hb : b.Pairwise BefS) : (a ++ b).foldl mgStep (some []) = if clashB a b = true then none else some (a ++ newsS a b) := by
  have ha' := ha.imp (fun k => BefS.apart k)
  have hb' := hb.imp (fun k => BefS.apart k)
  rw [List.foldl_append, mg_first ha' (by simp)]
  have := mg_second (o := []) hb' ha' (by simp)
  simpa using this
theorem mg_len {l o o' : List Sig} (h : l.foldl mgStep (some o) = some o') : o'.length ≤ o.length + l.length := by
  induction l generalizing o with
  | nil => cases h; simp
  | cons x l ih =>
    rw [List.foldl_cons] at h
    cases e : mgStep (some o) x with
    | none => rw [e, mg_none] at h; cases h
    | some o1 =>
      rw [e] at h
      have h1 := ih h
      have h2 : o1.length ≤ o.length + 1 := by
        unfold mgStep at e
        split at e
        · cases e
        · rename_i o2 _ heq
          cases heq
          split at e
          · cases e; simp
          · split at e
            · cases e; omega
            · cases e
      simp
      omega
theorem mg_mem {l o o' : List Sig} (h : l.foldl mgStep (some o) = some o') : ∀ x ∈ o', x ∈ o ∨ x ∈ l := by
  induction l generalizing o with
  | nil => cases h; exact fun x hx => .inl hx
  | cons y l ih =>
    rw [List.foldl_cons] at h
    cases e : mgStep (some o) y with
    | none => rw [e, mg_none] at h; cases h
    | some o1 =>
      rw [e] at h
      intro x hx
      rcases ih h x hx with h1 | h1
      · have h2 : o1 = o ++ [y] ∨ o1 = o := by
          unfold mgStep at e
          split at e
          · cases e
          · rename_i o2 _ heq
            cases heq
            split at e
            · cases e; exact .inl rfl
            · split at e
              · cases e; exact .inr rfl
              · cases e
        rcases h2 with rfl | rfl
        · rcases List.mem_append.1 h1 with h1 | h1
          · exact .inl h1
          · simp at h1; subst h1; exact .inr (by simp)
        · exact .inl h1
      · exact .inr (List.mem_cons_of_mem _ h1)
theorem mg_take {l : List Sig} {k : Nat} {o : List Sig} (hk : k < l.length) (h : (l.take k).foldl mgStep (some []) = some o) : (l.take (k + 1)).foldl mgStep (some []) = mgStep (some o) l[k]! := by
  rw [List.take_succ_eq_append_getElem hk, List.foldl_append, h, getElem!_pos l k hk]; rfl
theorem mg_stuck {l : List Sig} {k : Nat} (h : (l.take k).foldl mgStep (some []) = none) : l.foldl mgStep (some []) = none := by
  rw [← List.take_append_drop k l, List.foldl_append, h, mg_none]
end Go.Proofs.YtliehlefpodhaaaDoor
