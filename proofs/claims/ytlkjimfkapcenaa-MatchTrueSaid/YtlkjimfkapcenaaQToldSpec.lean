/- told of the laws of match: the record that it builds, where it lies, step by step. -/
import Derived.Test.YtlkjimfkapcenaaQTwinOwn
import Derived.Test.YtlkjimfkapcenaaQTrueSpec
import Derived.Test.YtlkjimfkapcenaaQWrong
import Derived.Test.YtlkjimfkapcenaaQRegGr
import Derived.Laws.IdiomStrings
namespace Go.Proofs.Ytlkjimfkapcenaa
open Go.RowKit

/-- One name more is told. -/
theorem names_step {names zs : List ByteArray} {L j n : Nat} {v : ByteArray} (hz : zs.length = n) (hj : j < n) (h : (∀ q, q < j → wordB zs[q]! = true ∧ levW names[q]! zs[q]! ≤ L) ∧ (∀ q, j ≤ q → zs[q]! = names[q]!)) (hv : wordB v = true ∧ levW names[j]! v ≤ L) :
    (zs.set j v).length = n ∧ (∀ q, q < j + 1 → wordB (zs.set j v)[q]! = true ∧ levW names[q]! (zs.set j v)[q]! ≤ L) ∧ (∀ q, j + 1 ≤ q → (zs.set j v)[q]! = names[q]!) := by
  have e : ∀ q, q ≠ j → (zs.set j v)[q]! = zs[q]! := fun q hq => by
    rw [List.getElem!_eq_getElem?_getD, List.getElem!_eq_getElem?_getD, List.getElem?_set_ne (by omega)]
  have e2 : (zs.set j v)[j]! = v := by
    rw [List.getElem!_eq_getElem?_getD, List.getElem?_set_self (by omega)]; rfl
  refine ⟨by simpa using hz, fun q hq => ?_, fun q hq => by rw [e q (by omega)]; exact h.2 q (by omega)⟩
  by_cases hqj : q = j
  · subst hqj; rw [e2]; exact hv
  · rw [e q hqj]; exact h.1 q (by omega)

theorem offN_refl (p : ByteArray) : ∀ k, offN p p k = 0
  | 0 => rfl
  | k + 1 => by unfold offN; rw [offN_refl p k, if_pos rfl]
theorem bytes_back (s : ByteArray) : (⟨s.data.toList.toArray⟩ : ByteArray) = s := by simp
theorem bytesRow_le (s : ByteArray) (cap : Nat) : s.size ≤ (bytesRow s cap).size := by unfold bytesRow; simp

/-- One place that differs. -/
theorem offN_one {q s : ByteArray} {j : Nat} (h : ∀ t, t ≠ j → byt q t = byt s t) : ∀ k, offN q s k ≤ if j < k then 1 else 0 := by
  intro k
  induction k with
  | zero => simp [offN]
  | succ k ih =>
    unfold offN
    by_cases e : k = j
    · subst e
      have ih' : offN q s k ≤ 0 := by rw [if_neg (Nat.lt_irrefl k)] at ih; exact ih
      rw [if_pos (Nat.lt_succ_self k)]
      split <;> omega
    · rw [if_pos (h k e)]
      by_cases hj : j < k
      · rw [if_pos hj] at ih; rw [if_pos (show j < k + 1 by omega)]; omega
      · rw [if_neg hj] at ih; rw [if_neg (show ¬ j < k + 1 by omega)]; omega
theorem byt_list (l : List UInt8) (j : Nat) : byt ⟨l.toArray⟩ j = l.getD j 0 := rfl
/-- A digit replaced. -/
theorem off_set {p : ByteArray} {ds : List UInt8} {k j : Nat} {b : UInt8} (h : offN p ⟨ds.toArray⟩ 9 ≤ k) : offN p ⟨(ds.set j b).toArray⟩ 9 ≤ k + 1 := by
  have h1 := offN_tri p ⟨ds.toArray⟩ ⟨(ds.set j b).toArray⟩ 9
  have h2 : offN ⟨(ds.set j b).toArray⟩ ⟨ds.toArray⟩ 9 ≤ 1 := by
    refine Nat.le_trans (offN_one (j := j) (fun t ht => ?_) 9) (by split <;> omega)
    rw [byt_list, byt_list, List.getD_eq_getElem?_getD, List.getD_eq_getElem?_getD, List.getElem?_set_ne (by omega)]
  have h3 : offN ⟨ds.toArray⟩ ⟨(ds.set j b).toArray⟩ 9 ≤ 1 := by
    refine Nat.le_trans (offN_one (j := j) (fun t ht => ?_) 9) (by split <;> omega)
    rw [byt_list, byt_list, List.getD_eq_getElem?_getD, List.getD_eq_getElem?_getD, List.getElem?_set_ne (by omega)]
  omega
/-- All of them digits. -/
def Digits (ds : List UInt8) : Prop := ∀ b ∈ ds, 48 ≤ b.toNat ∧ b.toNat ≤ 57
theorem digits_made {ds : List UInt8} (h : Digits ds) : madeB ⟨ds.toArray⟩ 48 57 = true := by
  unfold madeB
  rw [List.all_eq_true]
  intro b hb
  have := h b (by simpa using hb)
  unfold inC
  simp only [decide_eq_true_eq]
  omega
theorem made_digits {s : ByteArray} (h : madeB s 48 57 = true) : Digits s.data.toList := by
  intro b hb
  unfold madeB at h
  rw [List.all_eq_true] at h
  have := h b hb
  unfold inC at this
  simp only [decide_eq_true_eq] at this
  omega
theorem digits_set {ds : List UInt8} {j : Nat} {b : UInt8} (h : Digits ds) (hb : 48 ≤ b.toNat ∧ b.toNat ≤ 57) : Digits (ds.set j b) := by
  intro x hx
  rcases List.mem_or_eq_of_mem_set hx with h1 | rfl
  · exact h x h1
  · exact hb

/-- A block of bytes whose cells are these, none of them frozen. -/
def DB (W : World) (g : Nat) (ds : List UInt8) : Prop :=
  ∃ cs lo hi, W.heap[g]? = some (.cells cs 5 (lo, hi)) ∧ ds.length ≤ lo ∧ ds.length ≤ cs.size ∧ ∀ j (h : j < ds.length), cs[j]? = some (.int .u8 (ds[j].toNat : Int))
theorem DB.gr {W W' : World} {g : Nat} {ds : List UInt8} (h : DB W g ds) (k : Gr W W') : DB W' g ds := by
  obtain ⟨cs, lo, hi, h1, h2⟩ := h
  exact ⟨cs, lo, hi, (k.heap (Array.getElem?_eq_some_iff.1 h1).1).trans h1, h2⟩
theorem DB.cell {W : World} {g : Nat} {ds : List UInt8} (h : DB W g ds) {j : Nat} (hj : j < ds.length) : W.cell? ⟨g, j, none⟩ = some (.int .u8 (ds[j].toNat : Int)) := by
  obtain ⟨cs, lo, hi, h1, h2, h3, h4⟩ := h
  exact (cell_of_row W g j cs _ _ h1).trans (h4 j hj)
theorem DB.frozen {W : World} {g : Nat} {ds : List UInt8} (h : DB W g ds) {j : Nat} (hj : j < ds.length) : W.frozen? ⟨g, j, none⟩ = false := by
  obtain ⟨cs, lo, hi, h1, h2, h3, h4⟩ := h
  unfold World.frozen?
  rw [h1]
  simp
  omega
theorem heap_set_mark (w : World) (g i : Nat) (cs : Array Value) (t : TypeId) (fr : Nat × Nat) (v : Value) (hg : w.heap[g]? = some (.cells cs t fr)) :
    (w.setCell ⟨g, i, none⟩ v).heap[g]? = some (.cells (cs.setIfInBounds i v) t fr) := by
  obtain ⟨hlt, e⟩ := Array.getElem?_eq_some_iff.1 hg
  unfold World.setCell
  simp [Array.getElem?_modify, hg]
theorem DB.set_ {W : World} {g : Nat} {ds : List UInt8} (h : DB W g ds) (j : Nat) (b : UInt8) (x : Int) (hx : x = (b.toNat : Int)) : DB (W.setCell ⟨g, j, none⟩ (.int .u8 x)) g (ds.set j b) := by
  subst hx
  obtain ⟨cs, lo, hi, h1, h2, h3, h4⟩ := h
  refine ⟨cs.setIfInBounds j (.int .u8 (b.toNat : Int)), lo, hi, heap_set_mark W g j cs _ _ _ h1, by simpa using h2, by simpa using h3, fun i hi' => ?_⟩
  have hi2 : i < ds.length := by simpa using hi'
  by_cases e : i = j
  · subst e
    rw [Array.getElem?_setIfInBounds_self_of_lt (by omega)]
    simp
  · rw [Array.getElem?_setIfInBounds_ne (by omega), h4 i hi2]
    simp [List.getElem_set_ne (show j ≠ i by omega)]
theorem DB.back {W : World} {g cap : Nat} {ds : List UInt8} (h : DB W g ds) : (convert 53 9 (.slice (some ⟨g, 0, none⟩) ds.length cap)).run Try.prog W = .ok (.string ⟨ds.toArray⟩) W :=
  run_convert_bytes_back W _ _ 5 ⟨g, 0, none⟩ cap ds Try.underlying53 Try.underlying5 Try.underlying9 (fun j hj => by
    have e : (⟨g, 0, none⟩ : Addr).add j = ⟨g, j, none⟩ := by
      simp [Addr.add]
      intro h; exact h.symm
    rw [e]
    exact h.cell hj)
theorem DB.new (W : World) (s : ByteArray) (cap : Nat) (lo hi : Nat) (hlo : s.size ≤ lo) : DB (W.alloc (.cells (bytesRow s cap) 5 (lo, hi))) W.heap.size s.data.toList := by
  refine ⟨bytesRow s cap, lo, hi, heap_alloc_new W _, by simpa using hlo, ?_, fun j hj => ?_⟩
  · unfold bytesRow; simp
  · rw [bytesRow_at s cap j (by simpa using hj)]
    simp

/-- What lies where while the record is built: the boxes of rules and of the given record, the result's box, the copy and its rows. -/
structure TW (w W : World) (gb : Nat) (RR RA : Array Value) (x : Rcd) (A : Option Addr) (n c : Nat) (B : Option Addr) (m d mid : Nat) : Prop where
  gr : Gr w W
  rules : W.heap[w.heap.size]? = some (.cells RR 23 (0, 0))
  given : W.heap[w.heap.size + 1]? = some (.cells RA 29 (0, 0))
  res : W.heap[w.heap.size + 1 + 1]? = some (.cells #[.int .i64 0, .slice none 0 0, .int .u8 0, .int .i64 0, .int .i64 0, .string ByteArray.empty, .bool false, .slice none 0 0] 29 (0, 0))
  out : W.heap[gb]? = some (.cells #[.int .i64 x.id, .slice A n c, .int .u8 x.suffix, .int .i64 x.lo, .int .i64 x.hi, .string x.number, .bool x.twin, .slice B m d] 29 (0, 0))
  names : W.ownsRow (w.heap.size + 1 + 1 + 1) 9 1 (.slice A n c) n (x.names.map Value.string)
  stays : W.ownsRow mid 75 3 (.slice B m d) m (x.stays.flatMap Sty.cells)
  apart : ∀ a, A = some a → a.block < mid
  midle : w.heap.size + 1 + 1 + 1 ≤ mid
  midgb : mid ≤ gb
  bgb : ∀ a, B = some a → a.block < gb
theorem own_grk {w w' : World} {base : Nat} {e : TypeId} {size n : Nat} {v : Value} {xs : List Value} (h : w.ownsRow base e size v n xs) (k : Gr w w') : w'.ownsRow base e size v n xs :=
  own_keep h (Nat.le_refl _) (fun _ _ h2 => k.heap h2)
theorem own_awayc {w : World} {base : Nat} {e : TypeId} {size n c : Nat} {A : Option Addr} {xs : List Value} (h : w.ownsRow base e size (.slice A n c) n xs) {p : Addr} (hp : ∀ a, A = some a → a.block ≠ p.block) (u : Value) : (w.setCell p u).ownsRow base e size (.slice A n c) n xs := by
  refine ownsRow_setCell_other h ?_ u
  cases A with
  | none => simp [Value.ownBlock]
  | some a => simp only [Value.ownBlock, ne_eq, Option.some.injEq]; exact hp a rfl
theorem own_at {w : World} {base : Nat} {e : TypeId} {size n c : Nat} {A : Option Addr} {xs : List Value} (h : w.ownsRow base e size (.slice A n c) n xs) (hn : 0 < n) : ∃ g, A = some ⟨g, 0, none⟩ := by
  rcases h.2 with ⟨_, e0⟩ | ⟨g, cap, cur, h1, _⟩
  · omega
  · injection h1 with e1
    exact ⟨g, e1⟩
section
variable {w W W' : World} {gb : Nat} {RR RA : Array Value} {x : Rcd} {A : Option Addr} {n c : Nat} {B : Option Addr} {m d mid : Nat}
theorem TW.gbl (h : TW w W gb RR RA x A n c B m d mid) : gb < W.heap.size := (Array.getElem?_eq_some_iff.1 h.out).1
theorem TW.to (h : TW w W gb RR RA x A n c B m d mid) (k : Gr W W') : TW w W' gb RR RA x A n c B m d mid :=
  ⟨h.gr.trans k, row_gr h.rules k, row_gr h.given k, row_gr h.res k, row_gr h.out k, own_grk h.names k, own_grk h.stays k, h.apart, h.midle, h.midgb, h.bgb⟩
theorem TW.ins (h : TW w W gb RR RA x A n c B m d mid) (hk : ∀ k, w.heap.size + 1 + 1 + 1 ≤ k → k < W.heap.size → W'.heap[k]? = W.heap[k]?) (hw : ∀ s ∈ x.names, s.size ≤ maxLen) (hn : x.number.size ≤ maxLen) (hn2 : n ≤ 9223372036854775807) (hm2 : m ≤ 9223372036854775807) : x.In W' A n B m :=
  ⟨Rd.of_own (own_keep h.names (Nat.le_refl _) hk), Rd.of_own (own_keep h.stays (Nat.le_refl _) (fun k h1 h2 => hk k (by have := h.midle; omega) h2)), hn2, hm2, hw, hn⟩
/-- A cell far from all of it. -/
theorem TW.far (h : TW w W gb RR RA x A n c B m d mid) {g : Nat} (hg : gb < g) (j : Nat) (u : Value) : TW w (W.setCell ⟨g, j, none⟩ u) gb RR RA x A n c B m d mid := by
  have h1 := h.midle
  have h2 := h.midgb
  have f : ∀ k, k ≠ g → (W.setCell ⟨g, j, none⟩ u).heap[k]? = W.heap[k]? := fun k hk => Below.heap_setCell W _ u k hk
  exact ⟨h.gr.setCell (by show _ ≤ g; omega) u, (f _ (by omega)).trans h.rules, (f _ (by omega)).trans h.given, (f _ (by omega)).trans h.res, (f _ (by omega)).trans h.out,
    own_awayc h.names (fun a ha => by have := h.apart a ha; show a.block ≠ g; omega) u, own_awayc h.stays (fun a ha => by have := h.bgb a ha; show a.block ≠ g; omega) u, h.apart, h.midle, h.midgb, h.bgb⟩
/-- A name written. -/
theorem TW.name {g : Nat} (h : TW w W gb RR RA x (some ⟨g, 0, none⟩) n c B m d mid) (j : Nat) (u : ByteArray) : TW w (W.setCell ⟨g, j, none⟩ (.string u)) gb RR RA { x with names := x.names.set j u } (some ⟨g, 0, none⟩) n c B m d mid := by
  have h1 := h.midle
  have h2 := h.midgb
  have h3 := h.apart _ rfl
  dsimp only at h3
  have h4 : w.heap.size + 1 + 1 + 1 ≤ g := (h.names.lt g rfl).1
  have f : ∀ k, k ≠ g → (W.setCell ⟨g, j, none⟩ (.string u)).heap[k]? = W.heap[k]? := fun k hk => Below.heap_setCell W _ _ k hk
  have hs := (h.names.stored j (.string u)).1
  rw [← List.map_set] at hs
  refine ⟨h.gr.setCell (by show _ ≤ g; omega) _, (f _ (by omega)).trans h.rules, (f _ (by omega)).trans h.given, (f _ (by omega)).trans h.res, (f _ (by omega)).trans h.out, hs, ?_, h.apart, h.midle, h.midgb, h.bgb⟩
  refine own_awayc h.stays (fun a ha => ?_) _
  subst ha
  have hb := h.stays.lt a.block rfl
  show a.block ≠ g
  omega
/-- A cell of the copy written. -/
theorem TW.field (h : TW w W gb RR RA x A n c B m d mid) (j : Nat) (u : Value) {y : Rcd}
    (hy : (#[.int .i64 x.id, .slice A n c, .int .u8 x.suffix, .int .i64 x.lo, .int .i64 x.hi, .string x.number, .bool x.twin, .slice B m d] : Array Value).setIfInBounds j u = #[.int .i64 y.id, .slice A n c, .int .u8 y.suffix, .int .i64 y.lo, .int .i64 y.hi, .string y.number, .bool y.twin, .slice B m d])
    (hn : y.names = x.names) (hs : y.stays = x.stays) : TW w (W.setCell ⟨gb, j, none⟩ u) gb RR RA y A n c B m d mid := by
  have h1 := h.midle
  have h2 := h.midgb
  have f : ∀ k, k ≠ gb → (W.setCell ⟨gb, j, none⟩ u).heap[k]? = W.heap[k]? := fun k hk => Below.heap_setCell W _ u k hk
  exact ⟨h.gr.setCell (by show _ ≤ gb; omega) u, (f _ (by omega)).trans h.rules, (f _ (by omega)).trans h.given, (f _ (by omega)).trans h.res, (heap_setCell_same W gb j _ _ u h.out).trans (by rw [hy]),
    hn ▸ own_awayc h.names (fun a ha => by have := h.apart a ha; show a.block ≠ gb; omega) u, hs ▸ own_awayc h.stays (fun a ha => by have := h.bgb a ha; show a.block ≠ gb; omega) u, h.apart, h.midle, h.midgb, h.bgb⟩
end
end Go.Proofs.Ytlkjimfkapcenaa
