/- Maps by pairs, and records by their Ids: what a law keeps of a list. For all lists. -/
import Derived.DeepKeys4
import Derived.WalkSpells
import Derived.Test.YtlkjimfkapcenaaQMapIs
import Derived.Test.YtlkjimfkapcenaaQPairSpec
import Derived.Test.YtlkjimfkapcenaaQMoreSpec
namespace Go.Proofs.Ytlkjimfkapcenaa
open Go.RowKit Go.Maps Go.ChangeMaps

theorem zero_u8 (w : World) : (zeroValue 5).run Try.prog w = .ok (.int .u8 0) w := by kernel_rfl
theorem pcells_one (l : List (Int × Int)) : ∀ u ∈ pcells l, u.oneCell' = true := by
  intro u hu
  obtain ⟨p, _, h⟩ := List.mem_flatMap.1 hu
  simp at h
  rcases h with rfl | rfl <;> rfl
def enc2 (p : Int × Int) : Value := .agg #[.int .i64 p.1, .int .i64 p.2]
theorem enc2_inj (p q : Int × Int) (h : enc2 p = enc2 q) : p = q := by
  unfold enc2 at h
  obtain ⟨a, b⟩ := p
  obtain ⟨c, d⟩ := q
  simp at h
  rw [h.1, h.2]
theorem laidOutM : laidOutB Try.prog = true := by kernel_rfl
theorem keyed_pair : Keyed Try.prog 68 := Keyed.of_law (deep_law_laid laidOutM (m := 3) (by omega) (of_decide_eq_true (by kernel_rfl)) (by kernel_rfl) (by rw [Try.underlying68]))
theorem key_pair (b i : Int) (hb : 0 ≤ b ∧ b ≤ 999999) (hi : 0 ≤ i ∧ i ≤ 999999) : ∃ l, keyOf Try.prog 68 (enc2 (b, i)) = some l := by
  have w1 : (Lit.int IntKind.i64 b).wf = true := by simp only [Lit.wf, Bool.and_eq_true, decide_eq_true_eq]; exact ⟨by show -9223372036854775808 ≤ b; omega, by show b ≤ 9223372036854775807; omega⟩
  have w2 : (Lit.int IntKind.i64 i).wf = true := by simp only [Lit.wf, Bool.and_eq_true, decide_eq_true_eq]; exact ⟨by show -9223372036854775808 ≤ i; omega, by show i ≤ 9223372036854775807; omega⟩
  unfold keyOf enc2
  simp only [Try.underlying68]
  have hI : ∀ (d : Nat) (n : Int), (Lit.int IntKind.i64 n).wf = true → Try.prog.keyLits (d + 1) 3 [.int .i64 n] = some [.int .i64 n] := by
    intro d n hn
    unfold Program.keyLits
    simp only [Try.underlying3]
    simp [hn]
  have hc3 : Try.prog.cellsOf 3 = 1 := by kernel_rfl
  have hc : Try.prog.cellsOf 68 = 2 := by kernel_rfl
  have hkt : Try.prog.keyType 68 = true := by kernel_rfl
  have hpos : 0 < Try.prog.types.size := of_decide_eq_true (by kernel_rfl)
  obtain ⟨m, hm⟩ : ∃ m, Try.prog.types.size = m + 1 := ⟨Try.prog.types.size - 1, by omega⟩
  have hs : Try.prog.keyLits (m + 1 + 1) 68 [.int .i64 b, .int .i64 i] = some [.int .i64 b, .int .i64 i] := by
    unfold Program.keyLits
    simp only [Try.underlying68]
    rw [if_pos (by rw [hc]; rfl)]
    simp [hc3, hI m b w1, hI m i w2, List.range_succ]
  have hfm : Value.formed Try.prog 68 (.agg #[.int .i64 b, .int .i64 i]) = true := by
    unfold Value.formed
    simp only [Try.underlying68, hc]
    rfl
  rw [hkt, hfm, hm]
  have hs' : Try.prog.keyLits (m + 1 + 1) 68 (Value.agg #[Value.int IntKind.i64 b, Value.int IntKind.i64 i]).cells.toList = some [.int .i64 b, .int .i64 i] := hs
  rw [hs']
  exact ⟨_, rfl⟩

/-- A map's length: that of any list of its keys, each told once. -/
theorem MapIs.lenN {κ : Type} {P : Program} {k E t : TypeId} {enc : κ → Value} {w : World} {b : Nat} {f : κ → Option Value} {L : List κ} (h : MapIs P k enc w b f) (hinj : ∀ p q, enc p = enc q → p = q) (ht : P.underlying t = some (.map k E)) (hL : L.Nodup) (hf : ∀ q, q ∈ L ↔ ∃ v, f q = some v) :
    ∀ ty, (Builtin.len_ #[t] ty #[.map (some b)]).run P w = .ok (.int .i64 (L.length : Int)) w := by
  obtain ⟨es, clock, hb, hs, h1, h2⟩ := h
  have hp := ((Go.MapKept.stamped_iff es clock).1 hs).2.2
  obtain ⟨qs, hq⟩ : ∃ qs : List κ, es.toList.map (·.key) = qs.map enc := by
    have : ∀ xs : List MapEntry, (∀ x ∈ xs, ∃ q, x.key = enc q) → ∃ qs : List κ, xs.map (·.key) = qs.map enc := by
      intro xs
      induction xs with
      | nil => exact fun _ => ⟨[], rfl⟩
      | cons x xs ih =>
        intro hx
        obtain ⟨qs, e⟩ := ih (fun y hy => hx y (by simp [hy]))
        obtain ⟨q, e'⟩ := hx x (by simp)
        exact ⟨q :: qs, by simp [e, e']⟩
    exact this _ (fun x hx => by obtain ⟨q, _, e, _⟩ := h1 x hx; exact ⟨q, e⟩)
  have hl : es.size = qs.length := by have := congrArg List.length hq; simpa using this
  have hnd : qs.Nodup := by
    have h3 : (es.toList.map (·.key)).Pairwise (fun x y => x ≠ y) := by
      rw [List.pairwise_map]
      exact hp.imp (fun h => by first | exact h | exact fun e => h e | exact fun e => h e.symm)
    rw [hq, List.pairwise_map] at h3
    exact h3.imp (fun h e => h (by rw [e]))
  have hmem : ∀ q, q ∈ qs ↔ q ∈ L := by
    intro q
    rw [hf q]
    constructor
    · intro hqm
      have : enc q ∈ es.toList.map (·.key) := by rw [hq]; exact List.mem_map_of_mem hqm
      obtain ⟨x, hx, e⟩ := List.mem_map.1 this
      obtain ⟨p, _, e1, _, e2⟩ := h1 x hx
      have : p = q := hinj p q (e1.symm.trans e)
      subst this
      exact ⟨_, e2⟩
    · rintro ⟨v, hv⟩
      obtain ⟨x, hx, e⟩ := h2 q v hv
      have : enc q ∈ es.toList.map (·.key) := by rw [← e]; exact List.mem_map_of_mem hx
      rw [hq] at this
      obtain ⟨p, hp, e⟩ := List.mem_map.1 this
      rw [← hinj p q e]; exact hp
  have hlen : es.size = L.length := by rw [hl]; exact ((List.perm_ext_iff_of_nodup hnd hL).2 hmem).length_eq
  intro ty
  rw [← hlen]
  simp [Builtin.len_, run_underlying ht, MapKept.run_getObj_map hb, goInt, Result.andThen]

/-- Records by their Ids. -/
def byF (l : List Elt) (q : Int) : Option Value := (l.find? (fun e => decide (e.r.id = q))).map Elt.val
theorem byF_snoc {l : List Elt} {x : Elt} (h : ∀ e ∈ l, e.r.id ≠ x.r.id) (q : Int) : (if q = x.r.id then some x.val else byF l q) = byF (l ++ [x]) q := by
  unfold byF
  rw [List.find?_append]
  by_cases e : q = x.r.id
  · subst e
    rw [if_pos rfl]
    have h1 : l.find? (fun e => decide (e.r.id = x.r.id)) = none := by
      rw [List.find?_eq_none]
      intro y hy
      simpa using h y hy
    rw [h1]
    simp
  · rw [if_neg e]
    have h1 : [x].find? (fun e => decide (e.r.id = q)) = none := by
      rw [List.find?_eq_none]
      intro y hy
      simp at hy
      subst hy
      simp
      exact fun k => e k.symm
    rw [h1, Option.or_none]
theorem byF_some {l : List Elt} {q : Int} {v : Value} (h : byF l q = some v) : ∃ e ∈ l, e.r.id = q ∧ v = e.val := by
  unfold byF at h
  cases hf : l.find? (fun e => decide (e.r.id = q)) with
  | none => rw [hf] at h; cases h
  | some x =>
    rw [hf] at h
    injection h with h
    have h1 := List.find?_some hf
    exact ⟨x, List.mem_of_find?_eq_some hf, by simpa using h1, h.symm⟩
theorem byF_take {es : List Elt} (hap : es.Pairwise (fun x y => x.r.id ≠ y.r.id)) {k : Nat} (hk : k < es.length) (q : Int) : (if q = es[k]!.r.id then some es[k]!.val else byF (es.take k) q) = byF (es.take (k + 1)) q := by
  rw [List.take_succ_eq_append_getElem hk, ← getElem!_pos es k hk]
  refine byF_snoc (fun e he => ?_) q
  obtain ⟨j, hj, rfl⟩ := List.getElem_of_mem he
  rw [List.length_take] at hj
  rw [List.getElem_take, getElem!_pos es k hk]
  exact List.pairwise_iff_getElem.1 hap j k (by omega) hk (by omega)

/-- What is found, while a list is laid. -/
def layF (c : Int) (L : List (Int × Int)) (G : Int × Int → Option Value) (p : Int × Int) : Option Value := if p ∈ L then some (.int .u8 c) else G p
theorem layF_take {c : Int} {L : List (Int × Int)} {G : Int × Int → Option Value} {k : Nat} (hk : k < L.length) (p : Int × Int) : (if p = L[k]! then some (.int .u8 c) else layF c (L.take k) G p) = layF c (L.take (k + 1)) G p := by
  unfold layF
  rw [List.take_succ_eq_append_getElem hk, ← getElem!_pos L k hk]
  by_cases e : p = L[k]!
  · rw [if_pos e, if_pos (by rw [e]; simp)]
  · rw [if_neg e]
    by_cases e2 : p ∈ L.take k
    · rw [if_pos e2, if_pos (by simp [e2])]
    · rw [if_neg e2, if_neg (fun h => by
        rcases List.mem_append.1 h with h | h
        · exact e2 h
        · exact e (List.mem_singleton.1 h))]
theorem layF_nil (c : Int) (G : Int × Int → Option Value) (p : Int × Int) : layF c [] G p = G p := by simp [layF]
theorem found_look (o s : List (Int × Int)) (p : Int × Int) : ((layF 2 s (layF 1 o (fun _ => none)) p).getD (.int .u8 0)) = .int .u8 (foundV o s p) := by
  unfold layF foundV
  split
  · rfl
  · split <;> rfl
theorem found_keys (o s : List (Int × Int)) (p : Int × Int) : p ∈ o ++ s ↔ ∃ v, layF 2 s (layF 1 o (fun _ => none)) p = some v := by
  unfold layF
  rw [List.mem_append]
  by_cases h1 : p ∈ s
  · simp [h1]
  · by_cases h2 : p ∈ o
    · simp [h1, h2]
    · simp [h1, h2]
/-- What a law asks of the pairs of a list. -/
structure PairFacts (r : Rul) (es : List Elt) (L1 L2 : List (Int × Int)) : Prop where
  so1 : L1.Pairwise lexlt
  so2 : L2.Pairwise lexlt
  few1 : L1.length ≤ 576
  few2 : L2.length ≤ 576
  found : ∀ x ∈ es, ∀ y ∈ es, foundV L1 L2 (x.r.id, y.r.id) = if x.r.id < y.r.id then (cmpN r x.r y.r).vd else 0
  apart : ∀ p ∈ L1, p ∉ L2
  ids : ∀ p, p ∈ L1 ∨ p ∈ L2 → (0 ≤ p.1 ∧ p.1 ≤ 999999) ∧ (0 ≤ p.2 ∧ p.2 ≤ 999999)
theorem pair_facts {r : Rul} {es : List Elt} (hr : r.ok = true) (h0 : recsE (es.map (·.r)) = 0) : PairFacts r es (pairsN r (es.map (·.r)) 1) (pairsN r (es.map (·.r)) 2) := by
  obtain ⟨_, hall, _⟩ := recsE_zero h0
  refine ⟨pairsN_sorted hr h0 1, pairsN_sorted hr h0 2, pairsN_len hr h0 1, pairsN_len hr h0 2, fun x hx y hy => ?_, fun p h1 h2 => ?_, fun p hp => ?_⟩
  · have := cmpN_range r x.r y.r
    exact foundV_is hr h0 (List.mem_map_of_mem hx) (List.mem_map_of_mem hy) (by omega)
  · obtain ⟨x, hx, y, hy, a1, a2, rfl⟩ := (pairsN_mem hr h0).1 h1
    have := ((found_is hr h0 hx hy 2).1 h2).2
    omega
  · obtain ⟨x, hx, y, hy, _, _, rfl⟩ : ∃ x ∈ es.map (·.r), ∃ y ∈ es.map (·.r), True ∧ True ∧ p = (x.id, y.id) := by
      rcases hp with h | h
      · obtain ⟨x, hx, y, hy, _, _, e⟩ := (pairsN_mem hr h0).1 h
        exact ⟨x, hx, y, hy, trivial, trivial, e⟩
      · obtain ⟨x, hx, y, hy, _, _, e⟩ := (pairsN_mem hr h0).1 h
        exact ⟨x, hx, y, hy, trivial, trivial, e⟩
    exact ⟨ok_id (hall x hx), ok_id (hall y hy)⟩
theorem PairFacts.nodup {r : Rul} {es : List Elt} {L1 L2 : List (Int × Int)} (h : PairFacts r es L1 L2) : (L1 ++ L2).Nodup := by
  have nd : ∀ {l : List (Int × Int)}, l.Pairwise lexlt → l.Nodup := fun h => List.Pairwise.imp (fun {a b} (k : lexlt a b) => (fun (e : a = b) => by subst e; exact lexlt_irrefl k : a ≠ b)) h
  exact List.nodup_append.2 ⟨nd h.so1, nd h.so2, fun a ha b hb e => h.apart a ha (by rw [e]; exact hb)⟩
end Go.Proofs.Ytlkjimfkapcenaa
