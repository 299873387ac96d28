/- A row whose elements are given rows of their own, one by one: what stays. For any program. -/
import Derived.Test.YtimhkkijoelmhaaLike10
import Derived.Test.YtimhkkijoelmhaaAppend
import Derived.Test.YtimhkkijoelmhaaBoxRows
namespace Go.Proofs.Ytimhkkijoelmhaa
open Go.RowKit

/-- Block g holds these values, from its first cell on; none of it is frozen. -/
def Lies (w : World) (g : Nat) (t : TypeId) (xs : List Value) : Prop := ∃ cs : Array Value, w.heap[g]? = some (.cells cs t (0, 0)) ∧ ∀ (j : Nat) (u : Value), xs[j]? = some u → cs[j]? = some u
section
variable {w w' : World} {g : Nat} {t : TypeId} {xs : List Value}
theorem Lies.lt (h : Lies w g t xs) : g < w.heap.size := by
  obtain ⟨cs, h, _⟩ := h
  exact (Array.getElem?_eq_some_iff.1 h).1
theorem Lies.cell (h : Lies w g t xs) {j : Nat} {u : Value} (hu : xs[j]? = some u) : w.cell? ⟨g, j, none⟩ = some u := by
  obtain ⟨cs, h, hc⟩ := h
  rw [cell_of_row w g j cs t (0, 0) h]
  exact hc j u hu
theorem Lies.frozen (h : Lies w g t xs) (j : Nat) : w.frozen? ⟨g, j, none⟩ = false := by
  obtain ⟨cs, h, _⟩ := h
  exact frozen_of_row w g j cs t h
theorem Lies.keep (h : Lies w g t xs) (e : w'.heap[g]? = w.heap[g]?) : Lies w' g t xs := by
  obtain ⟨cs, h, k⟩ := h
  exact ⟨cs, e.trans h, k⟩
theorem Lies.set (h : Lies w g t xs) (i : Nat) (v : Value) : Lies (w.setCell ⟨g, i, none⟩ v) g t (xs.set i v) := by
  obtain ⟨cs, h, hc⟩ := h
  refine ⟨cs.setIfInBounds i v, heap_setCell_same w g i cs t _ h, fun j u hu => ?_⟩
  rw [List.getElem?_set] at hu
  rw [Array.getElem?_setIfInBounds]
  split at hu
  · rename_i e
    subst e
    split at hu
    · rename_i hl
      have := (Array.getElem?_eq_some_iff.1 (hc i _ (List.getElem?_eq_getElem hl))).1
      rw [if_pos rfl, if_pos this]
      exact hu
    · cases hu
  · rename_i e
    rw [if_neg e]
    exact hc j u hu
theorem lies_rd {n size : Nat} (h : Lies w g t xs) (hl : xs.length = n * size) : Rd w size (some ⟨g, 0, none⟩) n xs :=
  ⟨hl, fun _ => ⟨g, 0, rfl, h.lt, fun j u hu => by rw [Nat.zero_add]; exact h.cell hu⟩⟩
theorem lies_of_own {base size n c : Nat} {A : Option Addr} (h : w.ownsRow base t size (.slice A n c) n xs) (hn : 0 < n) : ∃ g, A = some ⟨g, 0, none⟩ ∧ base ≤ g ∧ Hid (Lies w g t xs) := by
  rcases h.2 with ⟨_, h0⟩ | ⟨g, cap, cur, hv, hbg, hg, _, _, _, hx⟩
  · omega
  · have hA : A = some ⟨g, 0, none⟩ := by injection hv
    refine ⟨g, hA, hbg, cur, hg, fun j u hu => ?_⟩
    subst hx
    rw [List.getElem?_take] at hu
    split at hu
    · simpa using hu
    · cases hu
/-- A row that reads as it does in every world that keeps the blocks behind g. -/
def KeptRd (w : World) (g size : Nat) (a : Option Addr) (n : Nat) (xs : List Value) : Prop := ∀ w' : World, (∀ k, g < k → k < w.heap.size → w'.heap[k]? = w.heap[k]?) → w.heap.size ≤ w'.heap.size → Rd w' size a n xs
variable {size n : Nat} {a : Option Addr}
theorem KeptRd.rd (h : KeptRd w g size a n xs) : Rd w size a n xs := h w (fun _ _ _ => rfl) (Nat.le_refl _)
theorem KeptRd.keep (h : KeptRd w g size a n xs) (hk : ∀ k, g < k → k < w.heap.size → w'.heap[k]? = w.heap[k]?) (hz : w.heap.size ≤ w'.heap.size) : KeptRd w' g size a n xs :=
  fun w'' h2 z2 => h w'' (fun k k1 k2 => (h2 k k1 (Nat.lt_of_lt_of_le k2 hz)).trans (hk k k1 k2)) (Nat.le_trans hz z2)
theorem KeptRd.of_own {base c : Nat} (h : w.ownsRow base t size (.slice a n c) n xs) (hg : g < base) : KeptRd w g size a n xs :=
  fun w' h2 z2 => Rd.of_own_keep h (fun k k1 k2 => h2 k (by omega) k2) z2
end
section
variable {α : Type} {f : α → List Value} {k : Nat} (hf : ∀ x, (f x).length = k)
include hf in
theorem flat_set {es rest : List α} {s s' : α} {i o : Nat} {v : Value} (he : es.length = i) (ho : o < k) (hs : f s' = (f s).set o v) : ((es ++ s :: rest).flatMap f).set (i * k + o) v = ((es ++ [s']) ++ rest).flatMap f := by
  have hl : (es.flatMap f).length = i * k := by rw [flatMap_len hf, he]
  have h1 := hf s
  rw [List.flatMap_append, List.flatMap_cons, List.set_append_right _ _ (by omega), hl, List.set_append_left _ _ (by omega), show i * k + o - i * k = o by omega, ← hs]
  simp
include hf in
theorem lies_at {w : World} {g : Nat} {t : TypeId} {es rest : List α} {s : α} {i : Nat} (he : es.length = i) (h : Lies w g t ((es ++ s :: rest).flatMap f)) (o : Nat) (u : Value) (hu : (f s)[o]? = some u) : w.cell? ⟨g, i * k + o, none⟩ = some u := by
  have hl : (es.flatMap f).length = i * k := by rw [flatMap_len hf, he]
  have h1 := (List.getElem?_eq_some_iff.1 hu).1
  refine h.cell ?_
  rw [List.flatMap_append, List.flatMap_cons, List.getElem?_append_right (by omega), hl, show i * k + o - i * k = o by omega, List.getElem?_append_left h1]
  exact hu
end
theorem like_n {es zs : List Sbj} {N : Nat} (h : es.map Sbj.bare = zs.map Sbj.bare) (hz : ∀ s ∈ zs, s.n ≤ N) : ∀ s ∈ es, s.n ≤ N := by
  intro s hs
  have h1 : s.bare ∈ zs.map Sbj.bare := h ▸ List.mem_map_of_mem hs
  obtain ⟨x, hx, e⟩ := List.mem_map.1 h1
  have := congrArg Sbj.n e
  have h2 := hz x hx
  exact (show s.n = x.n from this.symm) ▸ h2
theorem like_id {es zs : List Sbj} {lo hi : Int} (h : es.map Sbj.bare = zs.map Sbj.bare) (hz : ∀ s ∈ zs, lo ≤ s.id ∧ s.id ≤ hi) : ∀ s ∈ es, lo ≤ s.id ∧ s.id ≤ hi := by
  intro s hs
  have h1 : s.bare ∈ zs.map Sbj.bare := h ▸ List.mem_map_of_mem hs
  obtain ⟨x, hx, e⟩ := List.mem_map.1 h1
  have := congrArg Sbj.id e
  have h2 := hz x hx
  exact (show s.id = x.id from this.symm) ▸ h2
theorem qlike_n {es zs : List Qst} {N : Nat} (h : es.map Qst.bare = zs.map Qst.bare) (hz : ∀ s ∈ zs, s.n ≤ N) : ∀ s ∈ es, s.n ≤ N := by
  intro s hs
  have h1 : s.bare ∈ zs.map Qst.bare := h ▸ List.mem_map_of_mem hs
  obtain ⟨x, hx, e⟩ := List.mem_map.1 h1
  have := congrArg Qst.n e
  have h2 := hz x hx
  exact (show s.n = x.n from this.symm) ▸ h2
theorem info_qst10 : (Try.prog.info? 25).map (fun i => (i.zero, i.size, i.bytes)) = some (some (.agg #[.slice none 0 0, .int .i64 0, .int .i64 0, .int .i64 0]), 4, 48) := by kernel_rfl
theorem info_whr10 : (Try.prog.info? 72).map (fun i => (i.zero, i.size, i.bytes)) = some (some (.agg #[.int .i64 0, .int .i64 0, .int .i64 0]), 3, 24) := by kernel_rfl
theorem flatQ_one (l : List Qst) : ∀ v ∈ l.flatMap Qst.cells, v.oneCell' = true := by
  intro v hv
  obtain ⟨x, _, hv⟩ := List.mem_flatMap.1 hv
  simp [Qst.cells] at hv
  rcases hv with rfl | rfl | rfl | rfl <;> rfl
theorem flatW_one (l : List Whr) : ∀ v ∈ l.flatMap Whr.cells, v.oneCell' = true := by
  intro v hv
  obtain ⟨x, _, hv⟩ := List.mem_flatMap.1 hv
  simp [Whr.cells] at hv
  rcases hv with rfl | rfl | rfl <;> rfl
end Go.Proofs.Ytimhkkijoelmhaa
