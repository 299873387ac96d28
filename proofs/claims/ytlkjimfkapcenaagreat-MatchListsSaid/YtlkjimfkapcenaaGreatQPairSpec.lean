/- Lists of records in order, and their pairs: plain functions. No condition. Who was at one place: plain functions. No condition. Pairs of the package match: the pairs that are surely, and perhaps, one person. For all rules and lists of records. A list of records, as it lies. For every list. Records of the reference of layer 1: the error of a list of records. For every list. Records in the order of their Ids, put in from the right by exchanges, in plain functions. For all lists of records. (Printed by gen_pute.py.) Ordered of the reference of layer 1: records by their Ids, in new memory. For up to a thousand records, no two of one Id. (Printed by gen_reforde.py.) Pairs and homes, as the reference goes through a list: plain functions. No program in sight. -/
import Derived.Deep.AppendLies
import Derived.Deep.CutRange
import Derived.Deep.DeepCutAuto
import Derived.Deep.RegionHeld3
import Derived.Test.YtlkjimfkapcenaaGreatQWithin
import Derived.Test.YtlkjimfkapcenaaGreatQAppend
import Derived.Test.YtlkjimfkapcenaaGreatQRegGr
import Derived.Test.YtlkjimfkapcenaaGreatQOrdered
import Derived.Test.YtlkjimfkapcenaaGreatQListed
import Derived.Test.YtlkjimfkapcenaaGreatQCompareTop
import Derived.Test.YtlkjimfkapcenaaGreatQFar
import Derived.Test.YtlkjimfkapcenaaGreatQMoreSpec
namespace Go.Proofs.YtlkjimfkapcenaaGreat
open Go.RowKit

instance : Inhabited Rcd := ⟨(default : Elt).r⟩

/-- Two lists in order, of the same records: one list. -/
theorem sorted_eq {l l' : List Rcd} (p : l'.Perm l) (h' : l'.Pairwise (fun x y => x.id < y.id)) (h : l.Pairwise (fun x y => x.id < y.id)) : l' = l := by
  induction l generalizing l' with
  | nil => exact List.Perm.eq_nil p
  | cons a l ih =>
    cases l' with
    | nil => exact absurd p.symm.eq_nil (by simp)
    | cons b l' =>
      have hab : b = a := by
        have h1 : b ∈ a :: l := p.mem_iff.1 (by simp)
        have h2 : a ∈ b :: l' := p.mem_iff.2 (by simp)
        rcases List.mem_cons.1 h1 with e | h1
        · exact e
        · rcases List.mem_cons.1 h2 with e | h2
          · exact e.symm
          · have k1 := (List.pairwise_cons.1 h).1 b h1
            have k2 := (List.pairwise_cons.1 h').1 a h2
            omega
      subst hab
      rw [ih ((List.perm_cons b).1 p) (List.pairwise_cons.1 h').2 (List.pairwise_cons.1 h).2]

def insR (a : Rcd) : List Rcd → List Rcd
  | [] => [a]
  | b :: l => if a.id < b.id then a :: b :: l else b :: insR a l
/-- Records by their Ids. -/
def srt : List Rcd → List Rcd
  | [] => []
  | a :: l => insR a (srt l)
theorem insR_perm (a : Rcd) (l : List Rcd) : (insR a l).Perm (a :: l) := by
  induction l with
  | nil => exact List.Perm.refl _
  | cons b l ih =>
    unfold insR
    split
    · exact List.Perm.refl _
    · exact (List.Perm.cons b ih).trans (List.Perm.swap a b l)
theorem srt_perm (l : List Rcd) : (srt l).Perm l := by
  induction l with
  | nil => exact List.Perm.refl _
  | cons a l ih => exact (insR_perm a _).trans (List.Perm.cons a ih)
theorem insR_sorted (a : Rcd) {l : List Rcd} (h : l.Pairwise (fun x y => x.id < y.id)) (hn : ∀ b ∈ l, b.id ≠ a.id) : (insR a l).Pairwise (fun x y => x.id < y.id) := by
  induction l with
  | nil => simp [insR]
  | cons b l ih =>
    obtain ⟨h1, h2⟩ := List.pairwise_cons.1 h
    unfold insR
    split
    · rename_i hlt
      refine List.pairwise_cons.2 ⟨fun x hx => ?_, h⟩
      rcases List.mem_cons.1 hx with rfl | hx
      · exact hlt
      · have := h1 x hx; omega
    · rename_i hlt
      refine List.pairwise_cons.2 ⟨fun x hx => ?_, ih h2 (fun x hx => hn x (by simp [hx]))⟩
      rcases List.mem_cons.1 ((insR_perm a l).mem_iff.1 hx) with rfl | hx
      · have := hn b (by simp); omega
      · exact h1 x hx
theorem srt_sorted {l : List Rcd} (h : (l.map (·.id)).Nodup) : (srt l).Pairwise (fun x y => x.id < y.id) := by
  induction l with
  | nil => simp [srt]
  | cons a l ih =>
    obtain ⟨h1, h2⟩ := List.nodup_cons.1 h
    exact insR_sorted a (ih h2) (fun b hb e => h1 (by show a.id ∈ _; rw [← e]; exact List.mem_map_of_mem ((srt_perm l).mem_iff.1 hb)))
theorem srt_eq {l l' : List Rcd} (p : l'.Perm l) (h : l'.Pairwise (fun x y => x.id < y.id)) : l' = srt l := by
  refine sorted_eq (p.trans (srt_perm l).symm) h (srt_sorted ?_)
  refine (List.Perm.nodup_iff (p.map (·.id))).1 ?_
  refine (List.pairwise_map).2 (h.imp (fun {x y} h => ?_))
  show x.id ≠ y.id
  omega
theorem recsE_zero {rs : List Rcd} (h : recsE rs = 0) : rs.length ≤ 24 ∧ (∀ x ∈ rs, x.ok = true) ∧ (rs.map (·.id)).Nodup := by
  unfold recsE at h
  split at h
  · cases h
  · split at h
    · rename_i h1 h2
      split at h
      · rename_i h3
        exact ⟨by omega, fun x hx => List.all_eq_true.1 h2 x hx, h3⟩
      · cases h
    · cases h

/-- The pair of two records, if the first is the lesser, and they agree so. -/
def pairAt (r : Rul) (v : Int) (x y : Rcd) : List (Int × Int) := if x.id < y.id ∧ (cmpN r x y).vd = v then [(x.id, y.id)] else []
def pairsK (r : Rul) (rs : List Rcd) (v : Int) (k : Nat) : List (Int × Int) := (List.range k).flatMap (fun t => pairAt r v rs[t / rs.length]! rs[t % rs.length]!)
theorem pairsK_succ (r : Rul) (rs : List Rcd) (v : Int) (k : Nat) : pairsK r rs v (k + 1) = pairsK r rs v k ++ pairAt r v rs[k / rs.length]! rs[k % rs.length]! := by
  simp [pairsK, List.range_succ]
def pairErr (r : Rul) (rs : List Rcd) : Int := if r.ok then recsE rs else 10
/-- The pairs of a list. -/
def pairsN (r : Rul) (rs : List Rcd) (v : Int) : List (Int × Int) := if pairErr r rs = 0 then pairsK r (srt rs) v (rs.length * rs.length) else []
def pcells (l : List (Int × Int)) : List Value := l.flatMap (fun p => [.int .i64 p.1, .int .i64 p.2])
theorem pcells_append (l m : List (Int × Int)) : pcells (l ++ m) = pcells l ++ pcells m := by simp [pcells]
theorem pcells_len (l : List (Int × Int)) : (pcells l).length = l.length * 2 := by
  induction l with
  | nil => rfl
  | cons a l ih => simp only [pcells, List.flatMap_cons, List.length_append, List.length_cons, List.length_nil] at ih ⊢; omega
theorem pairAt_len (r : Rul) (v : Int) (x y : Rcd) : (pairAt r v x y).length ≤ 1 := by
  unfold pairAt
  split <;> simp
theorem pairsK_len (r : Rul) (rs : List Rcd) (v : Int) (k : Nat) : (pairsK r rs v k).length ≤ k := by
  induction k with
  | zero => simp [pairsK]
  | succ k ih =>
    rw [pairsK_succ, List.length_append]
    have := pairAt_len r v rs[k / rs.length]! rs[k % rs.length]!
    omega
/-- A value is a slice that holds these pairs. -/
def PairsIn (W : World) (v : Value) (l : List (Int × Int)) : Prop := ∃ A c, v = .slice A l.length c ∧ Rd W 2 A l.length (pcells l)
theorem PairsIn.gr {W W' : World} {v : Value} {l : List (Int × Int)} (h : PairsIn W v l) (g : Gr W W') : PairsIn W' v l := by
  obtain ⟨A, c, e, h⟩ := h
  exact ⟨A, c, e, h.gr g⟩
/-- What a walk asks of an element. -/
structure EltIn (w : World) (e : Elt) : Prop where
  at_ : e.r.In w e.A e.n e.B e.m
  cap : e.n ≤ e.c ∧ e.c ≤ 9223372036854775807
  sfx : 0 ≤ e.r.suffix
theorem EltIn.gr {w w' : World} {e : Elt} (h : EltIn w e) (g : Gr w w') : EltIn w' e := ⟨h.at_.gr g, h.cap, h.sfx⟩
end Go.Proofs.YtlkjimfkapcenaaGreat
namespace Go.Proofs.YtlkjimfkapcenaaGreat
open Go.RowKit

/-- A stay at a place on a day. -/
def onB (day : Int) (s : Sty) : Bool := decide (s.from_ ≤ day) && decide (day ≤ s.to_)
def atB (day p : Int) (s : Sty) : Bool := onB day s && decide (s.place = p)
/-- Who of some records was at a place, in their order. -/
def homeL (day p : Int) (rs : List Rcd) : List Int := (rs.filter (fun r => r.stays.any (atB day p))).map (·.id)
theorem homeL_snoc (day p : Int) (rs : List Rcd) (x : Rcd) : homeL day p (rs ++ [x]) = homeL day p rs ++ if x.stays.any (atB day p) then [x.id] else [] := by
  unfold homeL
  rw [List.filter_append, List.map_append]
  by_cases h : x.stays.any (atB day p) = true
  · simp [h]
  · simp [h]
theorem homeL_mem {day p : Int} {rs : List Rcd} {i : Int} (h : i ∈ homeL day p rs) : ∃ r ∈ rs, r.id = i := by
  unfold homeL at h
  obtain ⟨r, hr, e⟩ := List.mem_map.1 h
  exact ⟨r, (List.mem_filter.1 hr).1, e⟩
/-- What a map holds at a place when some records have been seen, and some stays of the next one. -/
def homeF (day : Int) (rs : List Rcd) (i k : Nat) (p : Int) : List Int :=
  homeL day p (rs.take i) ++ if i < rs.length ∧ (rs[i]!.stays.take k).any (atB day p) = true then [rs[i]!.id] else []
theorem homeF_zero (day : Int) (rs : List Rcd) (i : Nat) (p : Int) : homeF day rs i 0 p = homeL day p (rs.take i) := by
  unfold homeF; simp
theorem homeF_done (day : Int) (rs : List Rcd) (i : Nat) (p : Int) (hi : i < rs.length) : homeF day rs i rs[i]!.stays.length p = homeF day rs (i + 1) 0 p := by
  rw [homeF_zero]
  unfold homeF
  rw [List.take_succ_eq_append_getElem hi, homeL_snoc, List.take_length]
  have e : rs[i]! = rs[i] := getElem!_pos rs i hi
  rw [e]
  simp [hi]
theorem any_take_succ {α : Type} [Inhabited α] (f : α → Bool) (l : List α) (k : Nat) (hk : k < l.length) : (l.take (k + 1)).any f = ((l.take k).any f || f l[k]!) := by
  rw [List.take_succ_eq_append_getElem hk, List.any_append, getElem!_pos l k hk]
  simp
/-- A stay that is none of the day, or of somebody who is told, changes nothing. -/
theorem homeF_skip (day : Int) (rs : List Rcd) (i k : Nat) (p : Int) (hk : k < rs[i]!.stays.length) (h : onB day rs[i]!.stays[k]! = false ∨ p ≠ rs[i]!.stays[k]!.place ∨ (rs[i]!.stays.take k).any (atB day p) = true) : homeF day rs i (k + 1) p = homeF day rs i k p := by
  have e : ((rs[i]!.stays.take (k + 1)).any (atB day p) = true) ↔ ((rs[i]!.stays.take k).any (atB day p) = true) := by
    rw [any_take_succ _ _ _ hk, Bool.or_eq_true]
    constructor
    · rintro (h1 | h1)
      · exact h1
      · unfold atB at h1
        simp only [Bool.and_eq_true, decide_eq_true_eq] at h1
        rcases h with h | h | h
        · rw [h] at h1; exact absurd h1.1 (by simp)
        · exact absurd h1.2.symm h
        · exact h
    · exact .inl
  unfold homeF
  by_cases h1 : i < rs.length ∧ (rs[i]!.stays.take k).any (atB day p) = true
  · rw [if_pos h1, if_pos ⟨h1.1, e.2 h1.2⟩]
  · rw [if_neg h1, if_neg (fun h2 => h1 ⟨h2.1, e.1 h2.2⟩)]
theorem homeF_more (day : Int) (rs : List Rcd) (i k : Nat) (hi : i < rs.length) (hk : k < rs[i]!.stays.length) (h : onB day rs[i]!.stays[k]! = true) (hn : (rs[i]!.stays.take k).any (atB day rs[i]!.stays[k]!.place) = false) :
    homeF day rs i (k + 1) rs[i]!.stays[k]!.place = homeF day rs i k rs[i]!.stays[k]!.place ++ [rs[i]!.id] := by
  have e : (rs[i]!.stays.take (k + 1)).any (atB day rs[i]!.stays[k]!.place) = true := by
    rw [any_take_succ _ _ _ hk, Bool.or_eq_true]
    exact .inr (by unfold atB; rw [h]; simp)
  unfold homeF
  rw [if_pos ⟨hi, e⟩, if_neg (fun h2 => by rw [hn] at h2; exact absurd h2.2 (by simp))]
  simp
/-- Somebody is told last just where a stay of his has been seen. -/
theorem homeF_last (day : Int) (rs : List Rcd) (i k : Nat) (p : Int) (hi : i < rs.length) (hs : rs.Pairwise (fun x y => x.id < y.id)) :
    (rs[i]!.stays.take k).any (atB day p) = true ↔ (homeF day rs i k p ≠ [] ∧ (homeF day rs i k p)[(homeF day rs i k p).length - 1]! = rs[i]!.id) := by
  constructor
  · intro h
    unfold homeF
    rw [if_pos ⟨hi, h⟩]
    refine ⟨by simp, ?_⟩
    simp
  · intro ⟨h1, h2⟩
    rcases Bool.eq_false_or_eq_true ((rs[i]!.stays.take k).any (atB day p)) with h | h
    · exact h
    · exfalso
      have e : homeF day rs i k p = homeL day p (rs.take i) := by
        unfold homeF
        rw [if_neg (fun h3 => by rw [h] at h3; exact absurd h3.2 (by simp))]
        simp
      rw [e] at h1 h2
      have hl : 0 < (homeL day p (rs.take i)).length := by
        rcases Nat.eq_zero_or_pos (homeL day p (rs.take i)).length with h3 | h3
        · exact absurd (List.length_eq_zero_iff.1 h3) h1
        · exact h3
      rw [getElem!_pos _ _ (by omega)] at h2
      obtain ⟨r, hr, er⟩ := homeL_mem (List.getElem_mem (l := homeL day p (rs.take i)) (n := (homeL day p (rs.take i)).length - 1) (by omega))
      rw [h2, getElem!_pos rs i hi] at er
      obtain ⟨j, hj, ej⟩ := List.getElem_of_mem hr
      rw [List.length_take] at hj
      rw [List.getElem_take] at ej
      have := (List.pairwise_iff_getElem.1 hs) j i (by omega) hi (by omega)
      rw [ej] at this
      omega
/-- Numbers in order, each once. -/
def insP (x : Int) : List Int → List Int
  | [] => [x]
  | y :: l => if x < y then x :: y :: l else if x = y then y :: l else y :: insP x l
def placesL (day : Int) (rs : List Rcd) : List Int := ((rs.flatMap (fun r => r.stays.filter (onB day))).map (·.place)).foldr insP []
theorem insP_mem (x y : Int) (l : List Int) : y ∈ insP x l ↔ y = x ∨ y ∈ l := by
  induction l with
  | nil => simp [insP]
  | cons z l ih =>
    unfold insP
    split
    · simp
    · split
      · rename_i h1 h2; subst h2; simp
      · simp only [List.mem_cons, ih]
        constructor
        · rintro (h | h | h)
          · exact .inr (.inl h)
          · exact .inl h
          · exact .inr (.inr h)
        · rintro (h | h | h)
          · exact .inr (.inl h)
          · exact .inl h
          · exact .inr (.inr h)
theorem insP_sorted (x : Int) {l : List Int} (h : l.Pairwise (· < ·)) : (insP x l).Pairwise (· < ·) := by
  induction l with
  | nil => simp [insP]
  | cons z l ih =>
    obtain ⟨h1, h2⟩ := List.pairwise_cons.1 h
    unfold insP
    split
    · rename_i hlt
      refine List.pairwise_cons.2 ⟨fun y hy => ?_, h⟩
      rcases List.mem_cons.1 hy with rfl | hy
      · exact hlt
      · have := h1 y hy; omega
    · split
      · exact h
      · refine List.pairwise_cons.2 ⟨fun y hy => ?_, ih h2⟩
        rcases (insP_mem x y l).1 hy with rfl | hy
        · omega
        · exact h1 y hy
theorem foldr_insP (l : List Int) : (l.foldr insP []).Pairwise (· < ·) ∧ ∀ y, y ∈ l.foldr insP [] ↔ y ∈ l := by
  induction l with
  | nil => simp
  | cons x l ih => exact ⟨insP_sorted x ih.1, fun y => by rw [List.foldr_cons, insP_mem, ih.2, List.mem_cons]⟩
/-- Two lists in order, of the same numbers: one list. -/
theorem asc_eq {l l' : List Int} (h : l.Pairwise (· < ·)) (h' : l'.Pairwise (· < ·)) (e : ∀ y, y ∈ l ↔ y ∈ l') : l = l' := by
  induction l generalizing l' with
  | nil =>
    cases l' with
    | nil => rfl
    | cons b l' => exact absurd ((e b).2 (by simp)) (by simp)
  | cons a l ih =>
    cases l' with
    | nil => exact absurd ((e a).1 (by simp)) (by simp)
    | cons b l' =>
      obtain ⟨h1, h2⟩ := List.pairwise_cons.1 h
      obtain ⟨h1', h2'⟩ := List.pairwise_cons.1 h'
      have hab : a = b := by
        rcases List.mem_cons.1 ((e a).1 (by simp)) with k | k
        · exact k
        · rcases List.mem_cons.1 ((e b).2 (by simp)) with k' | k'
          · exact k'.symm
          · have := h1 b k'; have := h1' a k; omega
      subst hab
      rw [ih h2 h2' (fun y => ?_)]
      constructor
      · intro hy
        rcases List.mem_cons.1 ((e y).1 (by simp [hy])) with rfl | k
        · have := h1 _ hy; omega
        · exact k
      · intro hy
        rcases List.mem_cons.1 ((e y).2 (by simp [hy])) with rfl | k
        · have := h1' _ hy; omega
        · exact k
theorem homeL_ne (day p : Int) (rs : List Rcd) : homeL day p rs ≠ [] ↔ p ∈ placesL day rs := by
  unfold placesL
  rw [(foldr_insP _).2]
  unfold homeL
  constructor
  · intro h
    obtain ⟨i, hi⟩ := List.exists_mem_of_ne_nil _ h
    obtain ⟨r, hr, _⟩ := List.mem_map.1 hi
    obtain ⟨hr1, hr2⟩ := List.mem_filter.1 hr
    obtain ⟨s, hs, ha⟩ := List.any_eq_true.1 hr2
    unfold atB at ha
    simp only [Bool.and_eq_true, decide_eq_true_eq] at ha
    exact List.mem_map.2 ⟨s, List.mem_flatMap.2 ⟨r, hr1, List.mem_filter.2 ⟨hs, ha.1⟩⟩, ha.2⟩
  · intro h
    obtain ⟨s, hs, e⟩ := List.mem_map.1 h
    obtain ⟨r, hr, hs⟩ := List.mem_flatMap.1 hs
    obtain ⟨hs1, hs2⟩ := List.mem_filter.1 hs
    have : r ∈ rs.filter (fun r => r.stays.any (atB day p)) := List.mem_filter.2 ⟨hr, List.any_eq_true.2 ⟨s, hs1, by unfold atB; rw [hs2]; simp [e]⟩⟩
    exact List.ne_nil_of_mem (List.mem_map_of_mem (f := (·.id)) this)
def homeErr (day : Int) (rs : List Rcd) : Int := if inB 0 100000 day then recsE rs else 2
/-- Who was at one place. -/
def homesK (day : Int) (rs : List Rcd) : List (List Int) := (placesL day rs).map (fun p => homeL day p rs)
def homesN (day : Int) (rs : List Rcd) : List (List Int) := if homeErr day rs = 0 then homesK day (srt rs) else []
end Go.Proofs.YtlkjimfkapcenaaGreat
namespace Go.Proofs.YtlkjimfkapcenaaGreat
open Go.RowKit

theorem info_pair : (Tryz.prog.info? 53).map (fun i => (i.zero, i.size, i.bytes)) = some (some (.agg #[.int .i64 0, .int .i64 0]), 2, 16) := by kernel_rfl

/-- Two slices of pairs of the call's own, of which no append touches the other. -/
structure Two2 (W : World) (base : Nat) (v1 v2 : Value) (l1 l2 : List (Int × Int)) : Prop where
  one : W.ownsRow base 53 2 v1 l1.length (pcells l1)
  two : W.ownsRow base 53 2 v2 l2.length (pcells l2)
  apart : v1.ownBlock = none ∨ v1.ownBlock ≠ v2.ownBlock

theorem gr_grown {W W' : World} (g : Gr W W') : W.grownBy W' none := ⟨g.os, g.tape, g.output, Gr.size g, fun _ hi _ => Gr.heap g hi⟩
theorem own_gr {W W' : World} {base : Nat} {e : TypeId} {size n : Nat} {v : Value} {xs : List Value} (h : W.ownsRow base e size v n xs) (g : Gr W W') : W'.ownsRow base e size v n xs :=
  h.kept (gr_grown g) (by
    cases v.ownBlock with
    | none => exact .inl rfl
    | some _ => exact .inr (by simp))
theorem Two2.gr {W W' : World} {base : Nat} {v1 v2 : Value} {l1 l2 : List (Int × Int)} (h : Two2 W base v1 v2 l1 l2) (g : Gr W W') : Two2 W' base v1 v2 l1 l2 := ⟨own_gr h.one g, own_gr h.two g, h.apart⟩
theorem Two2.push1 {W w1 : World} {base : Nat} {v1 v2 v' : Value} {l1 l2 : List (Int × Int)} {x y : Int} (h : Two2 W base v1 v2 l1 l2) (own : w1.ownsRow base 53 2 v' (l1.length + 1) (pcells l1 ++ [.int .i64 x, .int .i64 y])) (g : W.grownBy w1 v1.ownBlock)
    (hat : v'.ownBlock = v1.ownBlock ∨ v'.ownBlock = some W.heap.size) : Two2 w1 base v' v2 (l1 ++ [(x, y)]) l2 := by
  refine ⟨?_, h.two.kept g ?_, ?_⟩
  · rw [pcells_append, List.length_append]; exact own
  · rcases h.apart with e | e
    · rw [e]
      cases v2.ownBlock with
      | none => exact .inl rfl
      | some _ => exact .inr (by simp)
    · exact .inr (fun e' => e e'.symm)
  · rcases hat with e | e
    · rw [e]; exact h.apart
    · refine .inr (fun e' => ?_)
      rw [e] at e'
      have := (h.two.lt _ e'.symm).2
      omega
theorem Two2.push2 {W w1 : World} {base : Nat} {v1 v2 v' : Value} {l1 l2 : List (Int × Int)} {x y : Int} (h : Two2 W base v1 v2 l1 l2) (own : w1.ownsRow base 53 2 v' (l2.length + 1) (pcells l2 ++ [.int .i64 x, .int .i64 y])) (g : W.grownBy w1 v2.ownBlock)
    (hat : v'.ownBlock = v2.ownBlock ∨ v'.ownBlock = some W.heap.size) : Two2 w1 base v1 v' l1 (l2 ++ [(x, y)]) := by
  refine ⟨h.one.kept g h.apart, ?_, ?_⟩
  · rw [pcells_append, List.length_append]; exact own
  · rcases hat with e | e
    · rw [e]; exact h.apart
    · refine .inr (fun e' => ?_)
      rw [e] at e'
      have := (h.one.lt _ e').2
      omega
theorem own_pairs {W : World} {base : Nat} {v : Value} {l : List (Int × Int)} (h : W.ownsRow base 53 2 v l.length (pcells l)) : PairsIn W v l := by
  obtain ⟨A, c, e⟩ := own_slice h
  subst e
  exact ⟨A, c, rfl, Rd.of_own h⟩
theorem keepc8o {W W' : World} {g o : Nat} {v0 v1 v2 v3 v4 v5 v6 v7 : Value} (h : W.cell? ⟨g, o, none⟩ = some v0 ∧ W.cell? ⟨g, o + 1, none⟩ = some v1 ∧ W.cell? ⟨g, o + 2, none⟩ = some v2 ∧ W.cell? ⟨g, o + 3, none⟩ = some v3 ∧ W.cell? ⟨g, o + 4, none⟩ = some v4 ∧ W.cell? ⟨g, o + 5, none⟩ = some v5 ∧ W.cell? ⟨g, o + 6, none⟩ = some v6 ∧ W.cell? ⟨g, o + 7, none⟩ = some v7) (k : Gr W W') : W'.cell? ⟨g, o, none⟩ = some v0 ∧ W'.cell? ⟨g, o + 1, none⟩ = some v1 ∧ W'.cell? ⟨g, o + 2, none⟩ = some v2 ∧ W'.cell? ⟨g, o + 3, none⟩ = some v3 ∧ W'.cell? ⟨g, o + 4, none⟩ = some v4 ∧ W'.cell? ⟨g, o + 5, none⟩ = some v5 ∧ W'.cell? ⟨g, o + 6, none⟩ = some v6 ∧ W'.cell? ⟨g, o + 7, none⟩ = some v7 :=
  ⟨row_cell (h.1) k, row_cell (h.2.1) k, row_cell (h.2.2.1) k, row_cell (h.2.2.2.1) k, row_cell (h.2.2.2.2.1) k, row_cell (h.2.2.2.2.2.1) k, row_cell (h.2.2.2.2.2.2.1) k, row_cell (h.2.2.2.2.2.2.2) k⟩
/-- The pairs behind one round more. -/
theorem pairsK_at (r : Rul) (v : Int) {es : List Elt} {rs : List Rcd} {k i j : Nat} (h : es.map (·.r) = rs) (hi : i < es.length) (hj : j < es.length) (hk : True ∧ i = k / es.length ∧ j = k % es.length) : pairsK r rs v (k + 1) = pairsK r rs v k ++ pairAt r v es[i]!.r es[j]!.r := by
  obtain ⟨_, hi', hj'⟩ := hk
  subst h
  rw [pairsK_succ]
  simp only [List.length_map]
  rw [← hi', ← hj', getElem!_pos (es.map (·.r)) i (by simpa using hi), getElem!_pos (es.map (·.r)) j (by simpa using hj), getElem!_pos es i hi, getElem!_pos es j hj]
  simp
set_option maxRecDepth 100000 in
set_option maxHeartbeats 8000000 in
theorem pairs_any (r : Rul) (es : List Elt) (A : Option Addr) (cap : Nat) (w : World) (hI : RdE w A es.length es) (hE : ∀ e ∈ es, EltIn w e) (hbig : es.length ≤ 9223372036854775807) :
    Calls Tryz.prog 6 #[r.val, .slice A es.length cap] w fun e w' => ∃ v1 v2, e = .returned (.tuple #[v1, v2, .int .i64 (pairErr r (es.map (·.r)))]) ∧ PairsIn w' v1 (pairsN r (es.map (·.r)) 2) ∧ PairsIn w' v2 (pairsN r (es.map (·.r)) 1) ∧ Gr w w' := by
  have HL := hid (fun W (g : Gr w W) => listed_any es A cap W (hI.gr g) (fun e he => (hE e he).at_.gr g) hbig)
  have HU := hid (fun W => ruled_any r W)
  have HNil : Hid (∀ W, PairsIn W (.slice none 0 0) []) := hid (fun W => ⟨none, 0, rfl, Rd.nil_⟩)
  obtain ⟨rs, hrs⟩ : ∃ rs, rs = es.map (·.r) := ⟨_, rfl⟩
  rw [← hrs] at HL ⊢
  cases hro : r.ok with
  | false =>
    have he : pairErr r rs = 10 := by unfold pairErr; rw [hro]; rfl
    have h1 : ∀ v, pairsN r rs v = [] := fun v => by unfold pairsN; rw [he]; rfl
    rw [he, h1, h1]
    rw [hro] at HU
    clear hI hE HL
    obtain ⟨l, dg, dy, t⟩ := r
    unfold Rul.val at *
    dsimp only at *
    go_enter Tryz.func6, Tryz.ntmps6
    go_wp2_with ((go_at_call 15; (with_reducible refine (HU.out _).mono ?_); rotate_right; rintro e w1 ⟨rfl, hbw1⟩; obtain ⟨hcw1, hfw1, hzw1⟩ := hbw1.rules; (try simp at hzw1)))
    refine bodyPost_ret (results_tmp3 rfl _ _ _) rfl ?_
    exact ⟨_, _, rfl, HNil.out _, HNil.out _, by (repeat (first | with_reducible exact Gr.refl _ | with_reducible refine Gr.trans ?_ hbw1 | with_reducible refine Gr.alloc ?_ _ | with_reducible refine Gr.setCell ?_ (by simp) _ | with_reducible refine Gr.setCell ?_ (by simp; omega) _ | with_reducible refine Gr.drew ?_ | with_reducible refine Gr.drewN ?_ _))⟩
  | true =>
    have he : pairErr r rs = recsE rs := by unfold pairErr; rw [hro]; rfl
    have h1 : ∀ v, pairsN r rs v = if recsE rs = 0 then pairsK r (srt rs) v (rs.length * rs.length) else [] := fun v => by unfold pairsN; rw [he]
    rw [he, h1, h1]
    rw [hro] at HU
    by_cases hz : recsE rs = 0
    · rw [if_pos hz, if_pos hz, hz]
      obtain ⟨h24, hall, hnd⟩ := recsE_zero hz
      have HL2 : Hid (∀ W, Gr w W → Calls Tryz.prog 16 #[.slice A es.length cap] W fun e w' => ∃ A2 c2 es', e = .returned (.tuple #[.slice A2 es.length c2, .int .i64 0]) ∧ es'.length = es.length ∧ es'.map (·.r) = srt rs ∧ (∀ e ∈ es', e.r.ok = true ∧ EltIn w e) ∧ RdE w' A2 es.length es' ∧ Gr W w') := fun W g => (HL.out W g).mono (fun e w' h => by
        rcases h with h | ⟨_, v, rfl, A2, c2, es', rfl, h1, h2, h3, h4⟩
        · exact absurd hz h.1
        · have hp : (es'.map (·.r)).Perm rs := by rw [hrs]; exact h1.map _
          refine ⟨A2, c2, es', rfl, h1.length_eq, srt_eq hp (by rw [List.pairwise_map]; exact h2), fun e he => ⟨hall _ (hp.mem_iff.1 (List.mem_map_of_mem he)), hE e (h1.mem_iff.1 he)⟩, h3, h4⟩)
      have hlr : rs.length = es.length := by rw [hrs]; simp
      rw [hlr] at h24 ⊢
      have hC := hid (fun (e1 e2 : Elt) (h1 : e1.r.ok = true ∧ EltIn w e1) (h2 : e2.r.ok = true ∧ EltIn w e2) W (g : Gr w W) => compare_any r e1.r e2.r e1.A e1.n e1.c e1.B e1.m e1.d e2.A e2.n e2.c e2.B e2.m e2.d W ((good_of h1.2.at_ h1.2.cap.1 h1.2.cap.2 h1.2.sfx h1.1).gr g) ((good_of h2.2.at_ h2.2.cap.1 h2.2.cap.2 h2.2.sfx h2.1).gr g) hro)
      obtain ⟨n, hn⟩ : ∃ n, n = es.length := ⟨_, rfl⟩
      rw [← hn] at h24 HL2 ⊢
      obtain ⟨M, hM⟩ : ∃ M, M = n * n := ⟨_, rfl⟩
      rw [← hM]
      have hM2 : (n : Int) * (n : Int) = (M : Int) := by subst hM; simp
      have hMb : M ≤ 576 := by subst hM; exact Nat.mul_le_mul h24 h24
      have HM := hid hM
      have HN := hid hn
      have n0 : (n : Int) ≤ 24 := by omega
      have m0 : (M : Int) ≤ 576 := by omega
      obtain ⟨i0, hi0, hz0, hs0, hy0⟩ := info_parts info_pair
      have HI0 := hid hi0
      have HZ0 := hid hz0
      have HS0 := hid hs0
      have HY0 := hid hy0
      clear hi0 hz0 hs0 hy0 hI hE HL hrs he h1 hall hnd hlr hn hM hro
      obtain ⟨l, dg, dy, t⟩ := r
      unfold Rul.val at *
      dsimp only at *
      go_enter Tryz.func6, Tryz.ntmps6
      go_wp2_with (first
        | (go_at_call 15; (with_reducible refine (HU.out _).mono ?_); rotate_right; rintro e w1 ⟨rfl, hbw1⟩; obtain ⟨hcw1, hfw1, hzw1⟩ := hbw1.rules; (try simp at hzw1); have hzw1_0 : w.heap.size < w1.heap.size := (by omega); have hyw1_0 : w.heap.size ≤ w1.heap.size := (by omega))
        | (go_at_call 16; (with_reducible refine (HL2.out _ ?_).mono ?_); rotate_right; rintro e w2 ⟨A2, c2, es', rfl, j1, j2, j3, j4, hbw2⟩; have J1 := hid j1; have J2 := hid j2; have J3 := hid j3; have J4 := hid j4; clear j1 j2 j3 j4; obtain ⟨hcw2, hfw2, hzw2⟩ := hbw2.rules; (try simp at hzw2); have hzw2_0 : w.heap.size < w2.heap.size := (by omega)))
      · have HB1 := hid hbw1
        have G2 : Gr w w2 := ((Gr.refl w).alloc _).trans (hbw1.trans hbw2)
        have HG2 := hid G2
        have hbox : w2.heap[w.heap.size]? = some (.cells #[.int .i64 l, .int .i64 dg, .int .i64 dy, .int .i64 t] 23 (0, 0)) := row_gr (heap_alloc_new w _) (hbw1.trans hbw2)
        have HBOX := hid hbox
        have HT0 : Hid (Two2 w2 w2.heap.size (.slice none 0 0) (.slice none 0 0) (pairsK ⟨l, dg, dy, t⟩ (srt rs) 2 0) (pairsK ⟨l, dg, dy, t⟩ (srt rs) 1 0)) := ⟨World.ownsRow_nil _ _ _ _, World.ownsRow_nil _ _ _ _, .inl rfl⟩
        clear hbw1 hbw2 hcw1 hfw1 hzw1 hcw2 hfw2 hzw2 G2 hbox hzw1_0 hyw1_0
        go_loopg [4, 5, 28] M (fun gg s4 s5 s28 wr => ∃ k : Nat, k ≤ M ∧ M - k ≤ gg ∧ s28 = .int .i64 k ∧ Gr w2 wr ∧ Hid (Two2 wr w2.heap.size s4 s5 (pairsK ⟨l, dg, dy, t⟩ (srt rs) 2 k) (pairsK ⟨l, dg, dy, t⟩ (srt rs) 1 k)))
        case atStart => exact ⟨0, Nat.zero_le _, by omega, rfl, Gr.refl _, HT0⟩
        case round =>
          clear HT0
          obtain ⟨k, hk, hgk, rfl, BW, HT⟩ := hrel
          by_cases hlt : k < M
          · have hltz : (k : Int) < (M : Int) := by omega
            have hnp : 0 < n := by
              rcases Nat.eq_zero_or_pos n with h | h
              · have := HM.out; subst h; omega
              · exact h
            have hin : k / n < n := Nat.div_lt_of_lt_mul (by have := HM.out; omega)
            have hjn : k % n < n := Nat.mod_lt _ hnp
            have hq1 : Int.tdiv (k : Int) (n : Int) = ((k / n : Nat) : Int) := by simp
            have hq2 : (k : Int) / (n : Int) = ((k / n : Nat) : Int) := by simp
            have hr1 : Int.tmod (k : Int) (n : Int) = ((k % n : Nat) : Int) := by rw [Int.tmod_eq_emod_of_nonneg (by omega)]; simp
            have hq3 : IntKind.i64.wrap (Int.tdiv (k : Int) (n : Int)) = ((k / n : Nat) : Int) := by rw [hq1]; have hb := Nat.div_le_self k n; generalize k / n = z at hb ⊢; exact IntWalk.i64_in _ (by omega)
            have hr3 : IntKind.i64.wrap (Int.tmod (k : Int) (n : Int)) = ((k % n : Nat) : Int) := by rw [hr1]; have hb := Nat.mod_le k n; generalize k % n = z at hb ⊢; exact IntWalk.i64_in _ (by omega)
            have hr2 : (k : Int) % (n : Int) = ((k % n : Nat) : Int) := by simp
            have hst := hid (fun v => pairsK_at ⟨l, dg, dy, t⟩ v J2.out (by rw [J1.out]; exact hin) (by rw [J1.out]; exact hjn) (by rw [J1.out]; exact ⟨trivial, rfl, rfl⟩))
            obtain ⟨b, off, rfl, hb, hh⟩ := (RdE.gr J4.out BW).2 hnp
            have he1 : es'[k / n]? = some es'[k / n]! := by rw [getElem!_pos es' (k / n) (by rw [J1.out]; exact hin)]; exact List.getElem?_eq_getElem _
            have he2 : es'[k % n]? = some es'[k % n]! := by rw [getElem!_pos es' (k % n) (by rw [J1.out]; exact hjn)]; exact List.getElem?_eq_getElem _
            have S1 := (hh _ _ he1).all
            have S2 := (hh _ _ he2).all
            have hc1 := hC.out es'[k / n]! es'[k % n]! (J3.out _ (mem_get (by rw [J1.out]; exact hin))) (J3.out _ (mem_get (by rw [J1.out]; exact hjn)))
            generalize es'[k / n]! = x at hst S1 hc1
            generalize es'[k % n]! = y at hst S2 hc1
            generalize k / n = ii at hin hq1 hq2 hq3 S1
            generalize k % n = jj at hjn hr1 hr2 hr3 S2
            clear hh he1 he2
            obtain ⟨⟨i1, N1, u1, l1, h1, p1, t1, Y1⟩, A3, n3, c3, B3, m3, d3⟩ := x
            obtain ⟨⟨i2, N2, u2, l2, h2, p2, t2, Y2⟩, A4, n4, c4, B4, m4, d4⟩ := y
            unfold Rcd.val at hc1
            dsimp only at hst S1 S2 hc1
            have HC1 := hid hc1
            have i1z : (0 : Int) ≤ (ii : Int) := by omega
            have i2z : (ii : Int) < (n : Int) := by omega
            have j1z : (0 : Int) ≤ (jj : Int) := by omega
            have j2z : (jj : Int) < (n : Int) := by omega
            have hw1 : IntKind.i64.wrap (ii : Int) = (ii : Int) := IntWalk.i64_in _ (by omega)
            have hw2 : IntKind.i64.wrap (jj : Int) = (jj : Int) := IntWalk.i64_in _ (by omega)
            have hn0 : ¬ (n : Int) = 0 := by omega
            have hn1 : ¬ n = 0 := by omega
            clear hc1
            go_upto_region 9 with fail
            go_cut [8, 9] (fun s8 s9 wx => ∃ g8 g9 : Nat, s8 = .pointer (some ⟨g8, 0, none⟩) ∧ s9 = .pointer (some ⟨g9, 0, none⟩) ∧ Gr wr wx ∧ wx.heap[g8]? = some (.cells #[.int .i64 i1, .slice A3 n3 c3, .int .u8 u1, .int .i64 l1, .int .i64 h1, .string p1, .bool t1, .slice B3 m3 d3] 48 (0, 0)) ∧ wx.heap[g9]? = some (.cells #[.int .i64 i2, .slice A4 n4 c4, .int .u8 u2, .int .i64 l2, .int .i64 h2, .string p2, .bool t2, .slice B4 m4 d4] 48 (0, 0)))
            case first =>
              go_region_held3 (fun W => (W.cell? ⟨b, off + ii * 8, none⟩ = some (.int .i64 i1) ∧ W.cell? ⟨b, off + ii * 8 + 1, none⟩ = some (.slice A3 n3 c3) ∧ W.cell? ⟨b, off + ii * 8 + 2, none⟩ = some (.int .u8 u1) ∧ W.cell? ⟨b, off + ii * 8 + 3, none⟩ = some (.int .i64 l1) ∧ W.cell? ⟨b, off + ii * 8 + 4, none⟩ = some (.int .i64 h1) ∧ W.cell? ⟨b, off + ii * 8 + 5, none⟩ = some (.string p1) ∧ W.cell? ⟨b, off + ii * 8 + 6, none⟩ = some (.bool t1) ∧ W.cell? ⟨b, off + ii * 8 + 7, none⟩ = some (.slice B3 m3 d3)) ∧ (W.cell? ⟨b, off + jj * 8, none⟩ = some (.int .i64 i2) ∧ W.cell? ⟨b, off + jj * 8 + 1, none⟩ = some (.slice A4 n4 c4) ∧ W.cell? ⟨b, off + jj * 8 + 2, none⟩ = some (.int .u8 u2) ∧ W.cell? ⟨b, off + jj * 8 + 3, none⟩ = some (.int .i64 l2) ∧ W.cell? ⟨b, off + jj * 8 + 4, none⟩ = some (.int .i64 h2) ∧ W.cell? ⟨b, off + jj * 8 + 5, none⟩ = some (.string p2) ∧ W.cell? ⟨b, off + jj * 8 + 6, none⟩ = some (.bool t2) ∧ W.cell? ⟨b, off + jj * 8 + 7, none⟩ = some (.slice B4 m4 d4)))
                (first | exact ⟨keepc8o S1 (by (repeat (first | with_reducible exact Gr.refl _ | with_reducible refine Gr.alloc ?_ _ | with_reducible refine Gr.setCell ?_ (by simp) _ | with_reducible refine Gr.setCell ?_ (by simp; omega) _ | with_reducible refine Gr.drew ?_ | with_reducible refine Gr.drewN ?_ _))), keepc8o S2 (by (repeat (first | with_reducible exact Gr.refl _ | with_reducible refine Gr.alloc ?_ _ | with_reducible refine Gr.setCell ?_ (by simp) _ | with_reducible refine Gr.setCell ?_ (by simp; omega) _ | with_reducible refine Gr.drew ?_ | with_reducible refine Gr.drewN ?_ _)))⟩) (fail)
              · go_wp2
                go_meet
                obtain ⟨F1, F2⟩ := rows2 wr (.cells #[.int .i64 i1, .slice A3 n3 c3, .int .u8 u1, .int .i64 l1, .int .i64 h1, .string p1, .bool t1, .slice B3 m3 d3] 48) (.cells #[.int .i64 i2, .slice A4 n4 c4, .int .u8 u2, .int .i64 l2, .int .i64 h2, .string p2, .bool t2, .slice B4 m4 d4] 48)
                exact ⟨_, _, rfl, rfl, (((Gr.refl wr).alloc _).alloc _).drew, F1, F2⟩
              · go_wp2
                go_meet
                obtain ⟨F1, F2⟩ := rows2 wr (.cells #[.int .i64 i2, .slice A4 n4 c4, .int .u8 u2, .int .i64 l2, .int .i64 h2, .string p2, .bool t2, .slice B4 m4 d4] 48) (.cells #[.int .i64 i1, .slice A3 n3 c3, .int .u8 u1, .int .i64 l1, .int .i64 h1, .string p1, .bool t1, .slice B3 m3 d3] 48)
                exact ⟨_, _, rfl, rfl, (((Gr.refl wr).alloc _).alloc _).drew, F2, F1⟩
            case rest =>
              obtain ⟨g8, g9, rfl, rfl, GW, F8, F9⟩ := hcut
              obtain ⟨W6, rfl⟩ : ∃ W6 : World, W6 = wc := ⟨_, rfl⟩
              have B6 := hid (BW.trans GW)
              have HT6 := hid (Two2.gr HT.out GW)
              have z8 : g8 < W6.heap.size := (Array.getElem?_eq_some_iff.1 F8).1
              have z9 : g9 < W6.heap.size := (Array.getElem?_eq_some_iff.1 F9).1
              have zb : w.heap.size < W6.heap.size := (Array.getElem?_eq_some_iff.1 (row_gr HBOX.out B6.out)).1
              have zw : w2.heap.size ≤ W6.heap.size := B6.out.size
              obtain ⟨r0, r1, r2, r3⟩ := cellsat4 (row_gr HBOX.out B6.out)
              obtain ⟨e0, e1, e2, e3, e4, e5, e6, e7⟩ := cellsat8 F8
              obtain ⟨f0, f1, f2, f3, f4, f5, f6, f7⟩ := cellsat8 F9
              have hcv := cmpN_range ⟨l, dg, dy, t⟩ ⟨i1, N1, u1, l1, h1, p1, t1, Y1⟩ ⟨i2, N2, u2, l2, h2, p2, t2, Y2⟩
              unfold pairAt at hst
              dsimp only at hst
              generalize cmpN ⟨l, dg, dy, t⟩ ⟨i1, N1, u1, l1, h1, p1, t1, Y1⟩ ⟨i2, N2, u2, l2, h2, p2, t2, Y2⟩ = cv at hst HC1 hcv
              obtain ⟨nm, nu, bi, pl, vd⟩ := cv
              unfold Cmp.val at HC1
              dsimp only at hst HC1 hcv
              obtain ⟨_, _, _, _, hvd⟩ := hcv
              clear GW F8 F9 HT S1 S2 hq1 hq2 hq3 hr1 hr2 hr3 hw1 hw2 hb
              by_cases hlt12 : i1 < i2
              · have hle12 : ¬ i2 ≤ i1 := by omega
                have hvd3 : vd = 0 ∨ vd = 1 ∨ vd = 2 := by omega
                clear hvd
                rcases hvd3 with rfl | rfl | rfl
                · have HST : Hid (pairsK ⟨l, dg, dy, t⟩ (srt rs) 2 (k + 1) = pairsK ⟨l, dg, dy, t⟩ (srt rs) 2 k ∧ pairsK ⟨l, dg, dy, t⟩ (srt rs) 1 (k + 1) = pairsK ⟨l, dg, dy, t⟩ (srt rs) 1 k) := ⟨by rw [hst.out]; simp, by rw [hst.out]; simp⟩
                  clear hst
                  go_wp2_with ((go_at_call 17; (with_reducible refine (HC1.out _ (HG2.out.trans (B6.out.trans ?_))).mono ?_); rotate_right; rintro e w7 ⟨rfl, hbw7⟩; obtain ⟨hcw7, hfw7, hzw7⟩ := hbw7.rules; (try simp at hzw7); have hzw7_0 : W6.heap.size < w7.heap.size := (by omega); have hyw7_0 : W6.heap.size ≤ w7.heap.size := (by omega)))
                  · go_roundg (M - (k + 1))
                    case measure => omega
                    case rel => exact ⟨k + 1, by omega, by omega, by go_num, B6.out.trans (by (repeat (first | with_reducible exact Gr.refl _ | with_reducible refine Gr.trans ?_ hbw7 | with_reducible refine Gr.alloc ?_ _ | with_reducible refine Gr.setCell ?_ (by simp) _ | with_reducible refine Gr.setCell ?_ (by simp; omega) _ | with_reducible refine Gr.drew ?_ | with_reducible refine Gr.drewN ?_ _))), hid (by rw [HST.out.1, HST.out.2]; exact HT6.out.gr (by (repeat (first | with_reducible exact Gr.refl _ | with_reducible refine Gr.trans ?_ hbw7 | with_reducible refine Gr.alloc ?_ _ | with_reducible refine Gr.setCell ?_ (by simp) _ | with_reducible refine Gr.setCell ?_ (by simp; omega) _ | with_reducible refine Gr.drew ?_ | with_reducible refine Gr.drewN ?_ _))))⟩
                  · (repeat (first | with_reducible exact Gr.refl _ | with_reducible refine Gr.alloc ?_ _ | with_reducible refine Gr.setCell ?_ (by simp) _ | with_reducible refine Gr.setCell ?_ (by simp; omega) _ | with_reducible refine Gr.drew ?_ | with_reducible refine Gr.drewN ?_ _))
                · have HST : Hid (pairsK ⟨l, dg, dy, t⟩ (srt rs) 2 (k + 1) = pairsK ⟨l, dg, dy, t⟩ (srt rs) 2 k ∧ pairsK ⟨l, dg, dy, t⟩ (srt rs) 1 (k + 1) = pairsK ⟨l, dg, dy, t⟩ (srt rs) 1 k ++ [(i1, i2)]) := ⟨by rw [hst.out]; simp [hlt12], by rw [hst.out]; simp [hlt12]⟩
                  clear hst
                  go_wp2_with (first
                    | (go_at_call 17; (with_reducible refine (HC1.out _ (HG2.out.trans (B6.out.trans ?_))).mono ?_); rotate_right; rintro e w7 ⟨rfl, hbw7⟩; obtain ⟨hcw7, hfw7, hzw7⟩ := hbw7.rules; (try simp at hzw7); have hzw7_0 : W6.heap.size < w7.heap.size := (by omega); have hyw7_0 : W6.heap.size ≤ w7.heap.size := (by omega))
                    | ((with_reducible show wpList _ _ _ (⟨some 89, _, _, _, _, _⟩ :: _) _ _); (refine wpList_append_own_at _ rfl (.tmp 86) (.tmp 88) 27 rfl w2.heap.size 53 i0 _ 2 16 Tryz.underlying27 HI0.out HZ0.out HS0.out HY0.out rfl (by decide) _ _ _ rfl (own_gr HT6.out.two ?_) ⟨_, 0, none⟩ 1 1 [.int .i64 i1, .int .i64 i2] rfl rfl ?_ ?_ ?_ ?_ ?_ ?_); rotate_right; intro v' w9 hown hgrow _ hat))
                  · have GG : Gr W6 ((w7.alloc (Obj.cells #[Value.int IntKind.u8 nm, Value.int IntKind.u8 nu, Value.int IntKind.u8 bi, Value.int IntKind.u8 pl, Value.int IntKind.u8 1] 55)).alloc (Obj.cells #[Value.int IntKind.i64 i1, Value.int IntKind.i64 i2] 53)) := by (repeat (first | with_reducible exact Gr.refl _ | with_reducible refine Gr.trans ?_ hbw7 | with_reducible refine Gr.alloc ?_ _ | with_reducible refine Gr.setCell ?_ (by simp) _ | with_reducible refine Gr.setCell ?_ (by simp; omega) _ | with_reducible refine Gr.drew ?_ | with_reducible refine Gr.drewN ?_ _))
                    go_roundg (M - (k + 1))
                    case measure => omega
                    case rel =>
                      refine ⟨k + 1, by omega, by omega, by go_num, (B6.out.trans GG).grown hgrow (fun kk hkk => ((own_gr HT6.out.two GG).lt kk hkk).1), hid ?_⟩
                      rw [HST.out.1, HST.out.2]
                      exact Two2.push2 (HT6.out.gr GG) hown hgrow hat
                  · (repeat (first | with_reducible exact Gr.refl _ | with_reducible refine Gr.trans ?_ hbw7 | with_reducible refine Gr.alloc ?_ _ | with_reducible refine Gr.setCell ?_ (by simp) _ | with_reducible refine Gr.setCell ?_ (by simp; omega) _ | with_reducible refine Gr.drew ?_ | with_reducible refine Gr.drewN ?_ _))
                  · exact World.news_of_block (cs := #[.int .i64 i1, .int .i64 i2]) (t := 53) (fr := (0, 0)) (by simpa using heap_alloc_new (w7.alloc (Obj.cells #[Value.int IntKind.u8 nm, Value.int IntKind.u8 nu, Value.int IntKind.u8 bi, Value.int IntKind.u8 pl, Value.int IntKind.u8 1] 55)) (Obj.cells #[Value.int IntKind.i64 i1, Value.int IntKind.i64 i2] 53))
                  · simp [Value.oneCell']
                  · have := pairsK_len ⟨l, dg, dy, t⟩ (srt rs) 1 k
                    unfold maxLen
                    omega
                  · have := pairsK_len ⟨l, dg, dy, t⟩ (srt rs) 1 k
                    omega
                  · simp; omega
                  · (repeat (first | with_reducible exact Gr.refl _ | with_reducible refine Gr.alloc ?_ _ | with_reducible refine Gr.setCell ?_ (by simp) _ | with_reducible refine Gr.setCell ?_ (by simp; omega) _ | with_reducible refine Gr.drew ?_ | with_reducible refine Gr.drewN ?_ _))
                · have HST : Hid (pairsK ⟨l, dg, dy, t⟩ (srt rs) 2 (k + 1) = pairsK ⟨l, dg, dy, t⟩ (srt rs) 2 k ++ [(i1, i2)] ∧ pairsK ⟨l, dg, dy, t⟩ (srt rs) 1 (k + 1) = pairsK ⟨l, dg, dy, t⟩ (srt rs) 1 k) := ⟨by rw [hst.out]; simp [hlt12], by rw [hst.out]; simp [hlt12]⟩
                  clear hst
                  go_wp2_with (first
                    | (go_at_call 17; (with_reducible refine (HC1.out _ (HG2.out.trans (B6.out.trans ?_))).mono ?_); rotate_right; rintro e w7 ⟨rfl, hbw7⟩; obtain ⟨hcw7, hfw7, hzw7⟩ := hbw7.rules; (try simp at hzw7); have hzw7_0 : W6.heap.size < w7.heap.size := (by omega); have hyw7_0 : W6.heap.size ≤ w7.heap.size := (by omega))
                    | ((with_reducible show wpList _ _ _ (⟨some 74, _, _, _, _, _⟩ :: _) _ _); (refine wpList_append_own_at _ rfl (.tmp 71) (.tmp 73) 27 rfl w2.heap.size 53 i0 _ 2 16 Tryz.underlying27 HI0.out HZ0.out HS0.out HY0.out rfl (by decide) _ _ _ rfl (own_gr HT6.out.one ?_) ⟨_, 0, none⟩ 1 1 [.int .i64 i1, .int .i64 i2] rfl rfl ?_ ?_ ?_ ?_ ?_ ?_); rotate_right; intro v' w9 hown hgrow _ hat))
                  · have GG : Gr W6 ((w7.alloc (Obj.cells #[Value.int IntKind.u8 nm, Value.int IntKind.u8 nu, Value.int IntKind.u8 bi, Value.int IntKind.u8 pl, Value.int IntKind.u8 2] 55)).alloc (Obj.cells #[Value.int IntKind.i64 i1, Value.int IntKind.i64 i2] 53)) := by (repeat (first | with_reducible exact Gr.refl _ | with_reducible refine Gr.trans ?_ hbw7 | with_reducible refine Gr.alloc ?_ _ | with_reducible refine Gr.setCell ?_ (by simp) _ | with_reducible refine Gr.setCell ?_ (by simp; omega) _ | with_reducible refine Gr.drew ?_ | with_reducible refine Gr.drewN ?_ _))
                    go_roundg (M - (k + 1))
                    case measure => omega
                    case rel =>
                      refine ⟨k + 1, by omega, by omega, by go_num, (B6.out.trans GG).grown hgrow (fun kk hkk => ((own_gr HT6.out.one GG).lt kk hkk).1), hid ?_⟩
                      rw [HST.out.1, HST.out.2]
                      exact Two2.push1 (HT6.out.gr GG) hown hgrow hat
                  · (repeat (first | with_reducible exact Gr.refl _ | with_reducible refine Gr.trans ?_ hbw7 | with_reducible refine Gr.alloc ?_ _ | with_reducible refine Gr.setCell ?_ (by simp) _ | with_reducible refine Gr.setCell ?_ (by simp; omega) _ | with_reducible refine Gr.drew ?_ | with_reducible refine Gr.drewN ?_ _))
                  · exact World.news_of_block (cs := #[.int .i64 i1, .int .i64 i2]) (t := 53) (fr := (0, 0)) (by simpa using heap_alloc_new (w7.alloc (Obj.cells #[Value.int IntKind.u8 nm, Value.int IntKind.u8 nu, Value.int IntKind.u8 bi, Value.int IntKind.u8 pl, Value.int IntKind.u8 2] 55)) (Obj.cells #[Value.int IntKind.i64 i1, Value.int IntKind.i64 i2] 53))
                  · simp [Value.oneCell']
                  · have := pairsK_len ⟨l, dg, dy, t⟩ (srt rs) 2 k
                    unfold maxLen
                    omega
                  · have := pairsK_len ⟨l, dg, dy, t⟩ (srt rs) 2 k
                    omega
                  · simp; omega
                  · (repeat (first | with_reducible exact Gr.refl _ | with_reducible refine Gr.alloc ?_ _ | with_reducible refine Gr.setCell ?_ (by simp) _ | with_reducible refine Gr.setCell ?_ (by simp; omega) _ | with_reducible refine Gr.drew ?_ | with_reducible refine Gr.drewN ?_ _))
              · have hle12 : i2 ≤ i1 := by omega
                have HST : Hid (pairsK ⟨l, dg, dy, t⟩ (srt rs) 2 (k + 1) = pairsK ⟨l, dg, dy, t⟩ (srt rs) 2 k ∧ pairsK ⟨l, dg, dy, t⟩ (srt rs) 1 (k + 1) = pairsK ⟨l, dg, dy, t⟩ (srt rs) 1 k) := ⟨by rw [hst.out]; simp [hlt12], by rw [hst.out]; simp [hlt12]⟩
                clear hst
                go_wp2
                go_roundg (M - (k + 1))
                case measure => omega
                case rel =>
                  refine ⟨k + 1, by omega, by omega, by go_num, B6.out, ?_⟩
                  rw [HST.out.1, HST.out.2]
                  exact HT6
          · obtain rfl : k = M := by omega
            go_wp2
            go_ret3
            exact ⟨_, _, rfl, own_pairs HT.out.one, own_pairs HT.out.two, HG2.out.trans BW⟩
      · (repeat (first | with_reducible exact Gr.refl _ | with_reducible refine Gr.trans ?_ hbw1 | with_reducible refine Gr.alloc ?_ _ | with_reducible refine Gr.setCell ?_ (by simp) _ | with_reducible refine Gr.setCell ?_ (by simp; omega) _ | with_reducible refine Gr.drew ?_ | with_reducible refine Gr.drewN ?_ _))
    · rw [if_neg hz, if_neg hz]
      obtain ⟨E, hEE⟩ : ∃ E, E = recsE rs := ⟨_, rfl⟩
      rw [← hEE] at HL hz ⊢
      have HL2 : Hid (∀ W, Gr w W → Calls Tryz.prog 16 #[.slice A es.length cap] W fun e w' => e = .returned (.tuple #[.slice none 0 0, .int .i64 E]) ∧ Gr W w') := fun W g => (HL.out W g).mono (fun e w' h => by
        rcases h with h | h
        · exact ⟨h.2.1, h.2.2⟩
        · exact absurd h.1 hz)
      clear hI hE HL hEE he h1
      obtain ⟨l, dg, dy, t⟩ := r
      unfold Rul.val at *
      dsimp only at *
      go_enter Tryz.func6, Tryz.ntmps6
      go_wp2_with (first
        | (go_at_call 15; (with_reducible refine (HU.out _).mono ?_); rotate_right; rintro e w1 ⟨rfl, hbw1⟩; obtain ⟨hcw1, hfw1, hzw1⟩ := hbw1.rules; (try simp at hzw1))
        | (go_at_call 16; (with_reducible refine (HL2.out _ ?_).mono ?_); rotate_right; rintro e w2 ⟨rfl, hbw2⟩; obtain ⟨hcw2, hfw2, hzw2⟩ := hbw2.rules; (try simp at hzw2)))
      · refine bodyPost_ret (results_tmp3 rfl _ _ _) rfl ?_
        exact ⟨_, _, rfl, HNil.out _, HNil.out _, by (repeat (first | with_reducible exact Gr.refl _ | with_reducible refine Gr.trans ?_ hbw2 | with_reducible refine Gr.trans ?_ hbw1 | with_reducible refine Gr.alloc ?_ _ | with_reducible refine Gr.setCell ?_ (by simp) _ | with_reducible refine Gr.setCell ?_ (by simp; omega) _ | with_reducible refine Gr.drew ?_ | with_reducible refine Gr.drewN ?_ _))⟩
      · (repeat (first | with_reducible exact Gr.refl _ | with_reducible refine Gr.trans ?_ hbw1 | with_reducible refine Gr.alloc ?_ _ | with_reducible refine Gr.setCell ?_ (by simp) _ | with_reducible refine Gr.setCell ?_ (by simp; omega) _ | with_reducible refine Gr.drew ?_ | with_reducible refine Gr.drewN ?_ _))
end Go.Proofs.YtlkjimfkapcenaaGreat
namespace Go.Proofs.YtlkjimfkapcenaaGreat
open Go.RowKit

structure RecsIn (w : World) (A : Option Addr) (n : Nat) (es : List Elt) : Prop where
  rd : Rd w 8 A n (es.flatMap Elt.cells)
  big : n ≤ 9223372036854775807
  each : ∀ e ∈ es, EltIn w e
section
variable {w w' : World} {A : Option Addr} {n : Nat} {es : List Elt}
theorem RecsIn.gr (h : RecsIn w A n es) (g : Gr w w') : RecsIn w' A n es := ⟨h.rd.gr g, h.big, fun e he => (h.each e he).gr g⟩
theorem RecsIn.len (h : RecsIn w A n es) : es.length = n := by
  have := h.rd.len
  rw [flatMap_len Elt.len] at this
  omega
theorem flatE_cell {es : List Elt} {j q : Nat} {e : Elt} {u : Value} (he : es[j]? = some e) (hu : e.cells[q]? = some u) (hq : q < 8) : (es.flatMap Elt.cells)[j * 8 + q]? = some u := by
  induction es generalizing j with
  | nil => cases he
  | cons x r ih =>
    rw [List.flatMap_cons]
    cases j with
    | zero =>
      simp only [List.getElem?_cons_zero, Option.some.injEq] at he
      subst he
      rw [List.getElem?_append_left (by rw [Elt.len]; omega), Nat.zero_mul, Nat.zero_add]
      exact hu
    | succ j =>
      rw [List.getElem?_append_right (by rw [Elt.len]; omega), Elt.len, show (j + 1) * 8 + q - 8 = j * 8 + q by omega]
      exact ih (by simpa using he)
theorem RecsIn.rdE (h : RecsIn w A n es) : RdE w A n es := by
  refine ⟨h.len, fun hn => ?_⟩
  obtain ⟨b, off, hA, hb, hc⟩ := h.rd.2 hn
  refine ⟨b, off, hA, hb, fun j e he q u hu => ?_⟩
  rw [Nat.add_assoc]
  refine hc _ _ (flatE_cell he hu ?_)
  have := (List.getElem?_eq_some_iff.1 hu).1
  rw [Elt.len] at this
  exact this
theorem rd_of_rdE (h : RdE w A n es) : Rd w 8 A n (es.flatMap Elt.cells) := by
  refine ⟨by rw [flatMap_len Elt.len, h.1], fun hn => ?_⟩
  obtain ⟨b, off, hA, hb, hc⟩ := h.2 hn
  refine ⟨b, off, hA, hb, fun j u hu => ?_⟩
  have hj : j < es.length * 8 := by
    have := (List.getElem?_eq_some_iff.1 hu).1
    rwa [flatMap_len Elt.len] at this
  have hd : j / 8 < es.length := by omega
  have hq : j % 8 < 8 := Nat.mod_lt _ (by omega)
  have hcl : es[j / 8].cells[j % 8]? = some (es[j / 8].cells[j % 8]'(by rw [Elt.len]; exact hq)) := List.getElem?_eq_getElem _
  have h1 := flatE_cell (List.getElem?_eq_getElem hd) hcl hq
  rw [show j / 8 * 8 + j % 8 = j by omega, hu] at h1
  have h2 := hc (j / 8) _ (List.getElem?_eq_getElem hd) (j % 8) _ hcl
  rw [Nat.add_assoc, show j / 8 * 8 + j % 8 = j by omega, ← Option.some.inj h1] at h2
  exact h2
/-- One of them. -/
theorem RecsIn.at_ (h : RecsIn w A n es) {k : Nat} (hk : k < n) : k < es.length ∧ EltIn w es[k]! ∧ ∃ b off, A = some ⟨b, off, none⟩ ∧ b < w.heap.size ∧
    (w.cell? ⟨b, off + k * 8, none⟩ = some (.int .i64 es[k]!.r.id) ∧ w.cell? ⟨b, off + k * 8 + 1, none⟩ = some (.slice es[k]!.A es[k]!.n es[k]!.c) ∧ w.cell? ⟨b, off + k * 8 + 2, none⟩ = some (.int .u8 es[k]!.r.suffix) ∧ w.cell? ⟨b, off + k * 8 + 3, none⟩ = some (.int .i64 es[k]!.r.lo) ∧
     w.cell? ⟨b, off + k * 8 + 4, none⟩ = some (.int .i64 es[k]!.r.hi) ∧ w.cell? ⟨b, off + k * 8 + 5, none⟩ = some (.string es[k]!.r.number) ∧ w.cell? ⟨b, off + k * 8 + 6, none⟩ = some (.bool es[k]!.r.twin) ∧ w.cell? ⟨b, off + k * 8 + 7, none⟩ = some (.slice es[k]!.B es[k]!.m es[k]!.d)) := by
  have hl := h.len
  have hk' : k < es.length := by omega
  have he : es[k]? = some es[k]! := by rw [getElem!_pos es k hk']; exact List.getElem?_eq_getElem hk'
  obtain ⟨b, off, hA, hb, hc⟩ := h.rdE.2 (by omega)
  exact ⟨hk', h.each _ (by rw [getElem!_pos es k hk']; exact List.getElem_mem hk'), b, off, hA, hb, (hc k _ he).all⟩
end
end Go.Proofs.YtlkjimfkapcenaaGreat
namespace Go.Proofs.YtlkjimfkapcenaaGreat
open Go.RowKit

theorem nodup_ids {es : List Elt} : ((es.map (·.r)).map (·.id)).Nodup ↔ ∀ i j, i < es.length → j < i → es[i]!.r.id ≠ es[j]!.r.id := by
  rw [List.map_map]
  unfold List.Nodup
  rw [List.pairwise_map, List.pairwise_iff_getElem]
  constructor
  · intro h i j hi hj
    rw [getElem!_pos es i hi, getElem!_pos es j (by omega)]
    exact fun e => h j i (by omega) hi hj e.symm
  · intro h i j hi hj hij
    have := h j i hj hij
    rw [getElem!_pos es i hi, getElem!_pos es j hj] at this
    exact fun e => this e.symm

set_option maxRecDepth 100000 in
set_option maxHeartbeats 2000000 in
theorem refRecs_any (A : Option Addr) (n c : Nat) (es : List Elt) (w : World) (hi : RecsIn w A n es) :
    Calls Tryz.prog 19 #[.slice A n c] w fun e w' => e = .returned (.int .i64 (recsE (es.map (·.r)))) ∧ Gr w w' := by
  have HI := hid hi
  have hl := hi.len
  have hbig := hi.big
  have hbig' : (n : Int) ≤ 9223372036854775807 := by omega
  unfold recsE
  rw [List.length_map, hl]
  clear hi
  by_cases h24 : 24 < n
  · have h24' : (24 : Int) < (n : Int) := by omega
    rw [if_pos h24]
    go_enter Tryz.func19, Tryz.ntmps19
    go_wp2
    go_ret
    exact ⟨rfl, Gr.refl w⟩
  · have h24' : ¬ (24 : Int) < (n : Int) := by omega
    rw [if_neg h24]
    have HL := hid hl
    clear hl hbig hbig'
    have hn24 : (n : Int) ≤ 24 := by omega
    generalize hE : (if (es.map (·.r)).all Rcd.ok = true then if ((es.map (·.r)).map (·.id)).Nodup then (0 : Int) else 12 else 11) = E
    have HE := hid hE
    clear hE
    go_enter Tryz.func19, Tryz.ntmps19
    go_wp2_with fail
    go_loopg [3] n (fun gg s3 wr => ∃ k : Nat, k ≤ n ∧ n - k ≤ gg ∧ s3 = .int .i64 k ∧ Gr w wr ∧ Hid (∀ j, j < k → (es[j]!.r).ok = true))
    case atStart => exact ⟨0, Nat.zero_le _, by omega, rfl, Gr.refl w, fun j hj => absurd hj (Nat.not_lt_zero _)⟩
    case round =>
      obtain ⟨k, hk, hgk, rfl, BW, HF⟩ := hrel
      by_cases hkl : k < n
      · obtain ⟨hk', hE, b, off, rfl, hbl, c0, c1, c2, c3, c4, c5, c6, c7⟩ := (HI.out.gr BW).at_ hkl
        have HK := hid hk'
        have HG := hid (fun W (g : Gr wr W) => refRecord_any es[k]!.r es[k]!.A es[k]!.n es[k]!.c es[k]!.B es[k]!.m es[k]!.d W (hE.at_.gr g))
        obtain ⟨q, hq⟩ : ∃ q, (es[k]!.r).ok = q := ⟨_, rfl⟩
        rw [hq] at HG
        have HQ := hid hq
        generalize es[k]! = e at c0 c1 c2 c3 c4 c5 c6 c7 HG
        obtain ⟨⟨id, names, suf, lo, hi, num, tw, stays⟩, A1, n1, c1', B1, m1, d1⟩ := e
        unfold Rcd.val at HG
        dsimp only at *
        have hkn : (k : Int) < (n : Int) := by omega
        have hk0 : (0 : Int) ≤ (k : Int) := by omega
        clear hE hq hk'
        cases q with
        | false =>
          have HT : Hid (E = 11) := by
            show _ = _
            rw [← HE.out, if_neg]
            intro h
            have := List.all_eq_true.1 h _ (List.mem_map_of_mem (mem_get HK.out))
            rw [HQ.out] at this
            cases this
          go_wp2_with (go_at_call 36; (with_reducible refine (HG.out _ (Gr.refl _)).mono ?_); rotate_right; rintro e w2 ⟨rfl, hbw2⟩; obtain ⟨hcw2, hfw2, hzw2⟩ := hbw2.rules; (try simp at hzw2))
          go_ret
          exact ⟨by rw [HT.out]; rfl, BW.trans hbw2⟩
        | true =>
          go_wp2_with (go_at_call 36; (with_reducible refine (HG.out _ (Gr.refl _)).mono ?_); rotate_right; rintro e w2 ⟨rfl, hbw2⟩; obtain ⟨hcw2, hfw2, hzw2⟩ := hbw2.rules; (try simp at hzw2))
          go_roundg (n - (k + 1))
          case measure => omega
          case rel => exact ⟨k + 1, by omega, by omega, by go_num, BW.trans hbw2, fun j hj => by
            rcases Nat.lt_or_ge j k with h | h
            · exact HF.out j h
            · have e : j = k := by omega
              rw [e]; exact HQ.out⟩
      · have hkn : ¬ (k : Int) < (n : Int) := by omega
        have HT : Hid (E = if ((es.map (·.r)).map (·.id)).Nodup then (0 : Int) else 12) := by
          show _ = _
          rw [← HE.out, if_pos]
          rw [List.all_eq_true]
          intro x hx
          obtain ⟨e, he, rfl⟩ := List.mem_map.1 hx
          obtain ⟨j, hj, rfl⟩ := List.getElem_of_mem he
          have := HF.out j (by have := HL.out; omega)
          rwa [getElem!_pos es j hj] at this
        clear HF hk hgk hkl
        obtain ⟨wm, rfl⟩ : ∃ wm : World, wm = wr := ⟨_, rfl⟩
        go_wp2_with fail
        go_loopg [4] n (fun gg s4 wr => ∃ k : Nat, k ≤ n ∧ n - k ≤ gg ∧ s4 = .int .i64 k ∧ Gr w wr ∧ Hid (∀ i j, i < k → j < i → es[i]!.r.id ≠ es[j]!.r.id))
        case atStart => exact ⟨0, Nat.zero_le _, by omega, rfl, BW, fun i j hi => absurd hi (Nat.not_lt_zero _)⟩
        case round =>
          clear BW
          obtain ⟨k, hk, hgk, rfl, BW, HF⟩ := hrel
          by_cases hkl : k < n
          · have hkn : (k : Int) < (n : Int) := by omega
            have hk0 : (0 : Int) ≤ (k : Int) := by omega
            obtain ⟨wo, rfl⟩ : ∃ wo : World, wo = wr := ⟨_, rfl⟩
            go_wp2_with fail
            go_loopg [5] k (fun gg s5 wr => ∃ q : Nat, q ≤ k ∧ k - q ≤ gg ∧ s5 = .int .i64 q ∧ Gr w wr ∧ Hid (∀ j, j < q → es[k]!.r.id ≠ es[j]!.r.id))
            case atStart => exact ⟨0, Nat.zero_le _, by omega, rfl, BW, fun j hj => absurd hj (Nat.not_lt_zero _)⟩
            case round =>
              clear BW
              obtain ⟨q, hq, hgq, rfl, BW, HJ⟩ := hrel
              by_cases hql : q < k
              · have hqn : (q : Int) < (k : Int) := by omega
                have hqn2 : (q : Int) < (n : Int) := by omega
                have hq0 : (0 : Int) ≤ (q : Int) := by omega
                obtain ⟨_, _, b, off, rfl, hbl, c0, _⟩ := (HI.out.gr BW).at_ hkl
                obtain ⟨_, _, b', off', e', _, d0, _⟩ := (HI.out.gr BW).at_ (show q < n by omega)
                injection e' with e'
                injection e' with e1 e2
                subst e1
                obtain rfl : off = off' := by omega
                generalize hx : es[k]!.r.id = x at c0 HJ
                generalize hy : es[q]!.r.id = y at d0
                have HX := hid hx
                have HY := hid hy
                clear hx hy
                by_cases hxy : x = y
                · have HT2 : Hid (E = 12) := by
                    show _ = _
                    rw [HT.out, if_neg]
                    intro h
                    exact nodup_ids.1 h k q (by have := HL.out; omega) hql (by rw [HX.out, HY.out, hxy])
                  subst hxy
                  go_wp2_with fail
                  go_quiet (fail)
                  go_wp2
                  go_ret
                  exact ⟨by rw [HT2.out]; rfl, BW.drewN _⟩
                · go_wp2_with fail
                  go_quiet (fail)
                  go_wp2
                  go_roundg (k - (q + 1))
                  case measure => omega
                  case rel => exact ⟨q + 1, by omega, by omega, by go_num, BW.drewN _, fun j hj => by
                    rcases Nat.lt_or_ge j q with h | h
                    · rw [HX.out]; exact HJ.out j h
                    · have e : j = q := by omega
                      rw [e, HX.out, HY.out]; exact hxy⟩
              · have hqn : ¬ (q : Int) < (k : Int) := by omega
                go_wp2
                go_roundg (n - (k + 1))
                case measure => omega
                case rel => exact ⟨k + 1, by omega, by omega, by go_num, BW, fun i j hi hj => by
                  rcases Nat.lt_or_ge i k with h | h
                  · exact HF.out i j h hj
                  · have e : i = k := by omega
                    subst e
                    exact HJ.out j (by omega)⟩
          · have hkn : ¬ (k : Int) < (n : Int) := by omega
            have HT2 : Hid (E = 0) := by
              show _ = _
              rw [HT.out, if_pos]
              exact nodup_ids.2 (fun i j hi hj => HF.out i j (by have := HL.out; omega) hj)
            go_wp2
            go_ret
            exact ⟨by rw [HT2.out]; rfl, BW⟩
end Go.Proofs.YtlkjimfkapcenaaGreat
namespace Go.Proofs.YtlkjimfkapcenaaGreat
open Go.RowKit Go.Shelf Go.Sort

/-- Subjects in the order of their Ids. -/
def putE (s : Elt) : List Elt → List Elt
  | [] => [s]
  | x :: r => if s.r.id < x.r.id then s :: x :: r else x :: putE s r
def ordE (l : List Elt) : List Elt := l.foldl (fun o s => putE s o) []
theorem putE_perm (s : Elt) (l : List Elt) : (putE s l).Perm (s :: l) := by
  induction l with
  | nil => exact List.Perm.refl _
  | cons x r ih =>
    unfold putE
    split
    · exact List.Perm.refl _
    · exact (List.Perm.cons x ih).trans (List.Perm.swap s x r)
theorem ordE_perm (l : List Elt) : (ordE l).Perm l := by
  have key : ∀ (l o : List Elt), (l.foldl (fun o s => putE s o) o).Perm (o ++ l) := by
    intro l
    induction l with
    | nil => intro o; simp
    | cons s r ih =>
      intro o
      rw [List.foldl_cons]
      refine (ih _).trans ?_
      refine ((putE_perm s o).append_right r).trans ?_
      rw [List.cons_append]
      exact List.perm_middle.symm
  have h := key l []
  rwa [List.nil_append] at h
theorem permE_eq {α : Type} {R : α → α → Prop} (hR : ∀ a b, R a b → R b a → False) {l l' : List α} (p : l'.Perm l) (h' : l'.Pairwise R) (h : l.Pairwise R) : l' = l :=
  p.eq_of_pairwise (fun a b _ _ h1 h2 => (hR a b h1 h2).elim) h' h
theorem putE_sorted {s : Elt} {l : List Elt} (h : l.Pairwise (fun x y => x.r.id < y.r.id)) (hs : ∀ x ∈ l, s.r.id ≠ x.r.id) : (putE s l).Pairwise (fun x y => x.r.id < y.r.id) := by
  induction l with
  | nil => simp [putE]
  | cons x r ih =>
    obtain ⟨h1, h2⟩ := List.pairwise_cons.1 h
    unfold putE
    split
    · rename_i hlt
      refine List.pairwise_cons.2 ⟨fun z hz => ?_, h⟩
      rcases List.mem_cons.1 hz with rfl | hz
      · exact hlt
      · have := h1 z hz; omega
    · rename_i hlt
      refine List.pairwise_cons.2 ⟨fun z hz => ?_, ih h2 (fun z hz => hs z (by simp [hz]))⟩
      rcases List.mem_cons.1 ((putE_perm s r).mem_iff.1 hz) with rfl | hz
      · have := hs x (by simp); omega
      · exact h1 z hz
theorem ordE_sorted {l : List Elt} (h : l.Pairwise (fun x y => x.r.id ≠ y.r.id)) : (ordE l).Pairwise (fun x y => x.r.id < y.r.id) := by
  have key : ∀ (l o : List Elt), o.Pairwise (fun x y => x.r.id < y.r.id) → l.Pairwise (fun x y => x.r.id ≠ y.r.id) → (∀ x ∈ l, ∀ y ∈ o, x.r.id ≠ y.r.id) → (l.foldl (fun o s => putE s o) o).Pairwise (fun x y => x.r.id < y.r.id) := by
    intro l
    induction l with
    | nil => exact fun o h _ _ => h
    | cons s r ih =>
      intro o ho hl hx
      obtain ⟨h1, h2⟩ := List.pairwise_cons.1 hl
      rw [List.foldl_cons]
      refine ih _ (putE_sorted ho (hx s (by simp))) h2 (fun x hxr y hy => ?_)
      rcases List.mem_cons.1 ((putE_perm s o).mem_iff.1 hy) with rfl | hy
      · exact fun e => h1 x hxr e.symm
      · exact hx x (by simp [hxr]) y hy
  exact key l [] List.Pairwise.nil h (fun _ _ y hy => by cases hy)
theorem ordE_eq {l es : List Elt} (h : l.Pairwise (fun x y => x.r.id ≠ y.r.id)) (p : es.Perm l) (s : es.Pairwise (fun x y => x.r.id < y.r.id)) : es = ordE l :=
  permE_eq (R := fun x y : Elt => x.r.id < y.r.id) (fun a b h k => by omega) (p.trans (ordE_perm l).symm) s (ordE_sorted h)
theorem putE_split {t : Elt} {pre post : List Elt} (h1 : ∀ x ∈ pre, ¬ t.r.id < x.r.id) (h2 : ∀ y r, post = y :: r → t.r.id < y.r.id) : putE t (pre ++ post) = pre ++ t :: post := by
  induction pre with
  | nil =>
    cases post with
    | nil => rfl
    | cons y r => simp [putE, h2 y r rfl]
  | cons x pre ih =>
    have hx := h1 x (by simp)
    simp only [List.cons_append, putE, hx]
    rw [ih (fun y hy => h1 y (by simp [hy]))]
    rfl

/-- Where a signal has come from the right. -/
structure PutE (t : Elt) (l rest : List Elt) (k : Nat) (d : Array Elt) : Prop where
  ex : ∃ pre post, l = pre ++ post ∧ d.toList = pre ++ t :: (post ++ rest) ∧ pre.length = k ∧ ∀ y r, post = y :: r → t.r.id < y.r.id
theorem PutE.start (t : Elt) (l rest : List Elt) : PutE t l rest l.length (l ++ t :: rest).toArray := ⟨l, [], by simp, by simp, rfl, fun y r h => by cases h⟩
theorem PutE.size {t : Elt} {l rest : List Elt} {k : Nat} {d : Array Elt} (h : PutE t l rest k d) : d.size = l.length + 1 + rest.length ∧ k < d.size := by
  obtain ⟨pre, post, e1, e2, e3, _⟩ := h.ex
  have := congrArg List.length e2
  have h2 := congrArg List.length e1
  simp at this h2
  omega
theorem PutE.at_ {t : Elt} {l rest : List Elt} {k : Nat} {d : Array Elt} (h : PutE t l rest k d) : d[k]! = t := by
  obtain ⟨pre, post, e1, e2, e3, _⟩ := h.ex
  have hk := h.size.2
  rw [getElem!_pos d k hk]
  have : d.toList[k]? = some t := by
    rw [e2, List.getElem?_append_right (by omega), e3]
    simp
  rw [Array.getElem?_toList, Array.getElem?_eq_getElem hk] at this
  exact Option.some.inj this
theorem PutE.step {t : Elt} {l rest : List Elt} {k : Nat} {d : Array Elt} (h : PutE t l rest (k + 1) d) (hl : t.r.id < d[k]!.r.id) : PutE t l rest k (swp d (k + 1) k) := by
  have ha := h.at_
  have hs := h.size
  obtain ⟨pre, post, e1, e2, e3, e4⟩ := h.ex
  obtain ⟨p, z, rfl⟩ : ∃ p z, pre = p ++ [z] := ⟨pre.dropLast, pre.getLast (by intro e; subst e; simp at e3), (List.dropLast_concat_getLast _).symm⟩
  have hp : p.length = k := by simpa using e3
  have hz : d[k]! = z := by
    rw [getElem!_pos d k (by omega)]
    have : d.toList[k]? = some z := by
      rw [e2, List.append_assoc, List.getElem?_append_right (by omega), hp]
      simp
    rw [Array.getElem?_toList, Array.getElem?_eq_getElem (by omega)] at this
    exact Option.some.inj this
  refine ⟨p, z :: post, by rw [e1]; simp, ?_, hp, fun y r hy => by cases hy; rw [← hz]; exact hl⟩
  have hsz : (swp d (k + 1) k).size = d.size := by simp [swp]
  apply List.ext_getElem?
  intro i
  by_cases hi : i < d.size
  · have e5 : (swp d (k + 1) k).toList[i]? = some ((swp d (k + 1) k)[i]!) := by
      rw [Array.getElem?_toList, Array.getElem?_eq_getElem (by omega), getElem!_pos _ i (by omega)]
    have e6 : d.toList[i]? = some d[i]! := by
      rw [Array.getElem?_toList, Array.getElem?_eq_getElem hi, getElem!_pos d i hi]
    rw [e5, swp_get d (show k + 1 < d.size by omega) (show k < d.size by omega)]
    rw [e2, List.append_assoc] at e6
    by_cases h1 : i = k
    · subst h1
      rw [if_pos rfl, ha, List.getElem?_append_right (by omega), hp]
      simp
    · by_cases h2 : i = k + 1
      · subst h2
        rw [if_neg h1, if_pos rfl, hz, List.getElem?_append_right (by omega), hp]
        simp
      · rw [if_neg h1, if_neg h2, ← e6]
        by_cases h3 : i < k
        · rw [List.getElem?_append_left (by omega), List.getElem?_append_left (by omega)]
        · obtain ⟨j, rfl⟩ : ∃ j, i = k + 2 + j := ⟨i - k - 2, by omega⟩
          have e7 : (p ++ ([z] ++ t :: (post ++ rest)))[k + 2 + j]? = (post ++ rest)[j]? := by
            rw [List.getElem?_append_right (by omega), hp, show k + 2 + j - k = j + 1 + 1 by omega]; simp
          have e8 : (p ++ t :: (z :: post ++ rest))[k + 2 + j]? = (post ++ rest)[j]? := by
            rw [List.getElem?_append_right (by omega), hp, show k + 2 + j - k = j + 1 + 1 by omega]; simp
          rw [e7, e8]
  · have hl1 : (swp d (k + 1) k).toList.length ≤ i := by simp; omega
    have h2 := congrArg List.length e2
    have hl2 : (p ++ t :: (z :: post ++ rest)).length ≤ i := by simp at h2 ⊢; omega
    rw [List.getElem?_eq_none hl1, List.getElem?_eq_none hl2]
theorem PutE.done {t : Elt} {l rest : List Elt} {k : Nat} {d : Array Elt} (h : PutE t l rest k d) (ho : l.Pairwise (fun x y => x.r.id < y.r.id)) (hk : k = 0 ∨ ¬ t.r.id < d[k - 1]!.r.id) : d = (putE t l ++ rest).toArray := by
  have hs := h.size
  obtain ⟨pre, post, e1, e2, e3, e4⟩ := h.ex
  have h1 : ∀ x ∈ pre, ¬ t.r.id < x.r.id := by
    intro x hx
    by_cases hk0 : k = 0
    · subst hk0
      have : pre = [] := List.length_eq_zero_iff.1 e3
      subst this; simp at hx
    · have hk := hk.resolve_left hk0
      obtain ⟨p, z, rfl⟩ : ∃ p z, pre = p ++ [z] := ⟨pre.dropLast, pre.getLast (by intro e; subst e; simp at hx), (List.dropLast_concat_getLast _).symm⟩
      have hp : p.length = k - 1 := by simp at e3; omega
      have hz : d[k - 1]! = z := by
        rw [getElem!_pos d (k - 1) (by omega)]
        have : d.toList[k - 1]? = some z := by
          rw [e2, List.append_assoc, List.getElem?_append_right (by omega), hp]
          simp
        rw [Array.getElem?_toList, Array.getElem?_eq_getElem (by omega)] at this
        exact Option.some.inj this
      rw [hz] at hk
      rcases List.mem_append.1 hx with hx | hx
      · rw [e1, List.append_assoc] at ho
        have h5 := (List.pairwise_append.1 ho).2.2 x hx z (by simp)
        omega
      · simp at hx; subst hx; exact hk
  have := putE_split h1 e4
  rw [e1, this]
  have e9 : pre ++ t :: post ++ rest = d.toList := by rw [e2]; simp
  rw [e9]

theorem ordE_take {zs : List Elt} {i : Nat} (hi : i < zs.length) : ordE (zs.take (i + 1)) = putE zs[i]! (ordE (zs.take i)) := by
  unfold ordE
  rw [List.take_succ_eq_append_getElem hi, List.foldl_append, ← getElem!_pos zs i hi]
  rfl
theorem ordE_len (l : List Elt) : (ordE l).length = l.length := (ordE_perm l).length_eq

theorem holds8_get {W : World} {g : Nat} {d : Array Elt} (h : HoldsK Elt.cells 8 W g 0 d) {i : Nat} (hi : i < d.size) (q : Nat) (hq : q < 8) : W.cell? ⟨g, i * 8 + q, none⟩ = some (d[i]!.cells[q]!) ∧ W.frozen? ⟨g, i * 8 + q, none⟩ = false := by
  have hj : i * 8 + q < d.size * 8 := by omega
  have := h (i * 8 + q) (by rw [size_flatK]; exact hj)
  rw [Nat.zero_add, get_flatK _ _ _ _ hj, show (i * 8 + q) / 8 = i by omega, show (i * 8 + q) % 8 = q by omega] at this
  exact this
end Go.Proofs.YtlkjimfkapcenaaGreat
namespace Go.Proofs.YtlkjimfkapcenaaGreat
open Go.RowKit Go.Shelf Go.Sort Go.Lib

theorem drew_setCellsE (b : Nat) : ∀ (vs : List Value) (o : Nat) (W : World), W.drew.setCells b o vs = (W.setCells b o vs).drew
  | [], _, _ => rfl
  | v :: r, o, W => by
    show (W.drew.setCell ⟨b, o, none⟩ v).setCells b (o + 1) r = ((W.setCell ⟨b, o, none⟩ v).setCells b (o + 1) r).drew
    rw [World.setCell_drew]
    exact drew_setCellsE b r (o + 1) _
theorem holds8_cells {W : World} {g : Nat} {d : Array Elt} (h : HoldsK Elt.cells 8 W g 0 d) {i : Nat} (hi : i < d.size) :
    (W.cell? ⟨g, i * 8, none⟩ = some (.int .i64 d[i]!.r.id) ∧ W.cell? ⟨g, i * 8 + 1, none⟩ = some (.slice d[i]!.A d[i]!.n d[i]!.c) ∧ W.cell? ⟨g, i * 8 + 2, none⟩ = some (.int .u8 d[i]!.r.suffix) ∧ W.cell? ⟨g, i * 8 + 3, none⟩ = some (.int .i64 d[i]!.r.lo) ∧ W.cell? ⟨g, i * 8 + 4, none⟩ = some (.int .i64 d[i]!.r.hi) ∧ W.cell? ⟨g, i * 8 + 5, none⟩ = some (.string d[i]!.r.number) ∧ W.cell? ⟨g, i * 8 + 6, none⟩ = some (.bool d[i]!.r.twin) ∧ W.cell? ⟨g, i * 8 + 7, none⟩ = some (.slice d[i]!.B d[i]!.m d[i]!.d)) ∧ (W.frozen? ⟨g, i * 8, none⟩ = false ∧ W.frozen? ⟨g, i * 8 + 1, none⟩ = false ∧ W.frozen? ⟨g, i * 8 + 2, none⟩ = false ∧ W.frozen? ⟨g, i * 8 + 3, none⟩ = false ∧ W.frozen? ⟨g, i * 8 + 4, none⟩ = false ∧ W.frozen? ⟨g, i * 8 + 5, none⟩ = false ∧ W.frozen? ⟨g, i * 8 + 6, none⟩ = false ∧ W.frozen? ⟨g, i * 8 + 7, none⟩ = false) :=
  ⟨⟨(holds8_get h hi 0 (by omega)).1, (holds8_get h hi 1 (by omega)).1, (holds8_get h hi 2 (by omega)).1, (holds8_get h hi 3 (by omega)).1, (holds8_get h hi 4 (by omega)).1, (holds8_get h hi 5 (by omega)).1, (holds8_get h hi 6 (by omega)).1, (holds8_get h hi 7 (by omega)).1⟩, ⟨(holds8_get h hi 0 (by omega)).2, (holds8_get h hi 1 (by omega)).2, (holds8_get h hi 2 (by omega)).2, (holds8_get h hi 3 (by omega)).2, (holds8_get h hi 4 (by omega)).2, (holds8_get h hi 5 (by omega)).2, (holds8_get h hi 6 (by omega)).2, (holds8_get h hi 7 (by omega)).2⟩⟩
/-- What Ordered hands back. -/
def RefOrdERet (zs : List Elt) (n : Nat) (w : World) (e : Ending) (w' : World) : Prop := ∃ B cap, e = .returned (.slice B n cap) ∧ (Gr w w' ∧ Rd w' 8 B n ((ordE zs).flatMap Elt.cells))

set_option maxRecDepth 100000 in
set_option maxHeartbeats 16000000 in
theorem refOrdE_any (A : Option Addr) (n c : Nat) (zs : List Elt) (w : World) (hi : RecsIn w A n zs) (hn : n ≤ 1000) (hap : zs.Pairwise (fun x y => x.r.id ≠ y.r.id)) :
    Calls Tryz.prog 20 #[.slice A n c] w (RefOrdERet zs n w) := by
  obtain ⟨i0, hi0, hz0, hs0, hy0⟩ := info_parts info_rec
  have HI0 := hid hi0
  have HZ0 := hid hz0
  have HS0 := hid hs0
  have HY0 := hid hy0
  have HRd := hid (hi.rd.gr ((Gr.refl w).alloc (.cells #[] 48)))
  have HL := hid hi.len
  have HAp := hid hap
  clear hi hap hi0 hz0 hs0 hy0
  go_enter Tryz.func20, Tryz.ntmps20
  go_wp2_with (first
    | ((with_reducible show wpList _ _ _ (⟨some 8, _, _, _, _, _⟩ :: _) _ _); refine wpList_append_rd _ rfl (.tmp 6) (.tmp 7) 24 rfl w.heap.size 48 i0 (.agg #[.int .i64 0, .slice none 0 0, .int .u8 0, .int .i64 0, .int .i64 0, .string ByteArray.empty, .bool false, .slice none 0 0]) 8 104 Tryz.underlying24 HI0.out HZ0.out HS0.out HY0.out rfl (by decide) _ _ _ rfl (own_new w w.heap.size 48 8 rfl) A n c (zs.flatMap Elt.cells) rfl HRd.out (flatE_one zs) (by have : maxLen = 9223372036854775807 := rfl; omega) (by omega) (by simp) ?_; intro B cap w9 hown hbel; rw [Nat.zero_add, List.nil_append] at hown; have HO := hid hown; have hb9 : Below w.heap.size w w9 := Below.trans ((Gr.refl w).alloc _) hbel; have HB := hid hb9; clear hown hbel hb9; simp only [Nat.zero_add]))
  rcases Nat.eq_zero_or_pos n with h0 | h0
  · subst h0
    have hz : zs = [] := List.length_eq_zero_iff.1 HL.out
    subst hz
    go_wp2_with fail
    go_loopg [4] 0 (fun gg s4 wr => s4 = .int .i64 1 ∧ wr = w9)
    case atStart => exact ⟨rfl, rfl⟩
    case round =>
      obtain ⟨rfl, rfl⟩ := hrel
      go_wp2
      go_ret
      unfold RefOrdERet
      exact ⟨B, cap, rfl, HB.out, Rd.nil_⟩
  · obtain ⟨g, hBg, hbg, hgl, hnc, hcm, HH0⟩ : ∃ g, B = some ⟨g, 0, none⟩ ∧ w.heap.size ≤ g ∧ g < w9.heap.size ∧ n ≤ cap ∧ cap ≤ 9223372036854775807 ∧ Hid (HoldsK Elt.cells 8 w9 g 0 zs.toArray) := by
      rcases HO.out.2 with ⟨_, h⟩ | ⟨g, cap', cur, hv, h1, h2, h3, h4, h5, h6⟩
      · omega
      · injection hv with e1 e2 e3
        subst e1 e3
        refine ⟨g, rfl, h1, (Array.getElem?_eq_some_iff.1 h2).1, h3, h4, holds_own h2 ?_⟩
        rw [show zs.length = n from HL.out]
        exact h6
    subst hBg
    have HGl := hid hgl
    have HGb := hid hbg
    have hl := HL.out
    go_wp2_with fail
    go_loopg [4] n (fun gg s4 wr => ∃ (i : Nat) (d : Array Elt), 1 ≤ i ∧ i ≤ n ∧ n - i ≤ gg ∧ s4 = .int .i64 i ∧ Hid (SWK Elt.cells 8 w9 g 0 d wr ∧ d.toList = ordE (zs.take i) ++ zs.drop i))
    case atStart =>
      refine ⟨1, zs.toArray, Nat.le_refl _, h0, by omega, rfl, SWK.start HH0.out, ?_⟩
      rw [show (1 : Nat) = 0 + 1 from rfl, ordE_take (by omega), List.take_zero]
      show zs = putE zs[0]! [] ++ zs.drop (0 + 1)
      have e1 : zs[0]! :: zs.drop 1 = zs := by
        rw [getElem!_pos zs 0 (by omega)]
        cases zs with
        | nil => simp at hl; omega
        | cons a r => rfl
      exact e1.symm
    case round =>
      obtain ⟨i, d, hi1, hin, hgi, rfl, HD⟩ := hrel
      by_cases hil : i < n
      · have hik : i < zs.length := by omega
        have hin' : (i : Int) < (n : Int) := by omega
        have HDr : Hid (zs.drop i = zs[i]! :: zs.drop (i + 1)) := by
          show _ = _
          rw [List.drop_eq_getElem_cons hik, getElem!_pos zs i hik]
        have HT2 := hid (ordE_take hik)
        have HSo : Hid ((ordE (zs.take i)).Pairwise (fun x y => x.r.id < y.r.id)) := ordE_sorted (HAp.out.sublist (List.take_sublist _ _))
        have HM : Hid ((ordE (zs.take i)).length = i) := by show _ = _; rw [ordE_len, List.length_take]; omega
        have HR9 : Hid ((zs.drop (i + 1)).length = n - (i + 1)) := by show _ = _; rw [List.length_drop]; omega
        generalize zs[i]! = t at HDr HT2
        generalize ordE (zs.take i) = o at *
        generalize hrest : zs.drop (i + 1) = rest at *
        have HRest := hid hrest
        clear hrest
        obtain ⟨wp, rfl⟩ : ∃ wp : World, wp = wr := ⟨_, rfl⟩
        go_wp2_with fail
        go_loopg [5] i (fun gg s5 wq => ∃ (k : Nat) (e : Array Elt), s5 = .int .i64 k ∧ k ≤ i ∧ k ≤ gg ∧ Hid (PutE t o rest k e ∧ SWK Elt.cells 8 w9 g 0 e wq))
        case atStart =>
          refine ⟨i, d, rfl, Nat.le_refl _, Nat.le_refl _, ?_, HD.out.1⟩
          have h := PutE.start t o rest
          rw [HM.out] at h
          have e1 : d = (o ++ t :: rest).toArray := by
            apply Array.ext'
            rw [HD.out.2, HDr.out]
          rw [e1]
          exact h
        case round =>
          obtain ⟨q, e, rfl, hq, hqg, HQ⟩ := hrel
          obtain ⟨hq1, hq2⟩ := HQ.out
          obtain ⟨hs1, hs2⟩ := hq1.size
          have hsn : e.size = n := by have h1 := HM.out; have h2 := HR9.out; omega
          have hs0 : e.size = zs.toArray.size := by simp; omega
          have HEnd : Hid ((q = 0 ∨ ¬ t.r.id < e[q - 1]!.r.id) → ∀ W', SWK Elt.cells 8 w9 g 0 e W' → (SWK Elt.cells 8 w9 g 0 (putE t o ++ rest).toArray W')) := fun h W' S => by
            have ee := hq1.done HSo.out h
            rw [← ee]
            exact S
          by_cases hq0 : q = 0
          · subst hq0
            have HF2 := hid (fun n' => HEnd.out (.inl rfl) _ (hq2.drewN n'))
            clear hq1 hq2 hs1 hs2 hs0 HEnd
            go_wp2_with fail
            go_quiet (fail)
            go_wp2
            go_roundg (n - (i + 1))
            case measure => omega
            case rel => exact ⟨i + 1, (putE t o ++ rest).toArray, by omega, by omega, by omega, by go_num, HF2.out _, by rw [HT2.out, HRest.out]⟩
          · obtain ⟨j, rfl⟩ : ∃ j, q = j + 1 := ⟨q - 1, by omega⟩
            clear hq0
            rw [Nat.add_sub_cancel] at HEnd
            have hat := hq1.at_
            obtain ⟨y, hy⟩ : ∃ y, e[j]! = y := ⟨_, rfl⟩
            obtain ⟨⟨a0, a1, a2, a3, a4, a5, a6, a7⟩, _⟩ := holds8_cells (hq2.holds HGl.out HH0.out hs0) hs2
            obtain ⟨⟨b0, b1, b2, b3, b4, b5, b6, b7⟩, _⟩ := holds8_cells (hq2.holds HGl.out HH0.out hs0) (i := j) (by omega)
            rw [hat] at a0 a1 a2 a3 a4 a5 a6 a7
            rw [hy] at b0 b1 b2 b3 b4 b5 b6 b7 HEnd
            have HY := hid hy
            have HAt2 := hid hat
            have HQ1 := hid hq1
            have HQ22 := hid hq2
            have HSz := hid (And.intro hs2 hs0)
            have hj0 : (0 : Int) ≤ (j : Int) := by omega
            have hj1 : (0 : Int) ≤ (j : Int) + 1 := by omega
            have hjp : (0 : Int) < (j : Int) + 1 := by omega
            have hjm1 : (j : Int) < (n : Int) := by omega
            have hjm2 : (j : Int) + 1 < (n : Int) := by omega
            have hjt : ((j : Int) + 1).toNat = j + 1 := by omega
            have hjw : IntKind.i64.wrap ((j : Int) + 1 - 1) = (j : Int) := by rw [IntKind.wrap_i64]; omega
            have hjw2 : IntKind.i64.wrap (j : Int) = (j : Int) := by rw [IntKind.wrap_i64]; omega
            by_cases hty : t.r.id < y.r.id
            · have HPQ := hid (hq1.step (k := j) (by rw [hy]; exact hty))
              clear hq1 hq2 hs1 hs2 hs0 hat hy HEnd
              go_wp2_with fail
              go_quiet (fail)
              go_wp2_with fail
              have HG2 := hid (HQ22.out.drewN nq)
              clear a0 a1 a2 a3 a4 a5 a6 a7 b0 b1 b2 b3 b4 b5 b6 b7
              generalize wr.drewN nq = wz at HG2 ⊢
              have S2 := hid (HG2.out.swapped (⟨Elt.len, Elt.one, HH0.out, HGl.out⟩ : RowK Elt.cells 8 w9 g 0 zs.toArray) (j + 1) j HSz.out.1 (by have := HSz.out.1; omega))
              obtain ⟨⟨a0, a1, a2, a3, a4, a5, a6, a7⟩, f0, f1, f2, f3, f4, f5, f6, f7⟩ := holds8_cells (HG2.out.holds HGl.out HH0.out HSz.out.2) HSz.out.1
              obtain ⟨⟨b0, b1, b2, b3, b4, b5, b6, b7⟩, g0, g1, g2, g3, g4, g5, g6, g7⟩ := holds8_cells (HG2.out.holds HGl.out HH0.out HSz.out.2) (i := j) (by have := HSz.out.1; omega)
              simp only [Nat.zero_add] at S2
              rw [HAt2.out] at a0 a1 a2 a3 a4 a5 a6 a7 S2
              rw [HY.out] at b0 b1 b2 b3 b4 b5 b6 b7 S2
              go_region
              all_goals go_wp2
              go_roundg j
              case measure => omega
              case rel =>
                refine ⟨j, swp e (j + 1) j, by first | rfl | go_num, by omega, Nat.le_refl _, HPQ.out, ?_⟩
                have h := S2.out
                rw [drew_setCellsE, drew_setCellsE] at h
                exact h
            · have HF2 := hid (fun n' => HEnd.out (.inr hty) _ (hq2.drewN n'))
              clear hq1 hq2 hs1 hs2 hs0 hat hy HEnd
              go_wp2_with fail
              go_quiet (fail)
              go_wp2
              go_roundg (n - (i + 1))
              case measure => omega
              case rel => exact ⟨i + 1, (putE t o ++ rest).toArray, by omega, by omega, by omega, by go_num, HF2.out _, by rw [HT2.out, HRest.out]⟩
      · have hin' : ¬ (i : Int) < (n : Int) := by omega
        have htk : zs.take i = zs := by rw [show i = zs.length by omega, List.take_length]
        have hdk : zs.drop i = [] := by rw [show i = zs.length by omega, List.drop_length]
        obtain ⟨hS, hd⟩ := HD.out
        rw [htk, hdk, List.append_nil] at hd
        have hdn : d.size = n := by
          have h := congrArg List.length hd
          rw [ordE_len] at h
          simp at h
          omega
        have hr := rd_of_rdE (rdE_holds (hS.holds HGl.out HH0.out (by simp; omega)) (hS.lt HGl.out))
        rw [hdn, hd] at hr
        have HF := hid hr
        have HGr := hid (gr_sortWorld (show Gr w w9 from HB.out) hS HGb.out)
        clear htk hdk hS hd hr HD
        go_wp2
        go_ret
        unfold RefOrdERet
        exact ⟨_, cap, rfl, HGr.out, HF.out⟩
end Go.Proofs.YtlkjimfkapcenaaGreat
namespace Go.Proofs.YtlkjimfkapcenaaGreat
open Go.RowKit

theorem pairsR_at {r : Rul} {rs : List Rcd} {v : Int} {i k : Nat} (hk : k < rs.length) : pairsK r rs v (i * rs.length + (k + 1)) = pairsK r rs v (i * rs.length + k) ++ pairAt r v rs[i]! rs[k]! := by
  have hn : 0 < rs.length := by omega
  rw [← Nat.add_assoc, pairsK_succ]
  rw [show (i * rs.length + k) / rs.length = i by rw [Nat.mul_comm, Nat.mul_add_div hn, Nat.div_eq_of_lt hk]; rfl, show (i * rs.length + k) % rs.length = k by rw [Nat.mul_comm, Nat.mul_add_mod, Nat.mod_eq_of_lt hk]]
theorem pairsR_low {r : Rul} {rs : List Rcd} {v : Int} (hs : rs.Pairwise (fun x y => x.id < y.id)) {i : Nat} (hi : i < rs.length) : ∀ k, k ≤ i + 1 → pairsK r rs v (i * rs.length + k) = pairsK r rs v (i * rs.length) := by
  intro k hk
  induction k with
  | zero => rfl
  | succ k ih =>
    rw [pairsR_at (by omega), ih (by omega)]
    have hne : ¬ (rs[i]!.id < rs[k]!.id) := by
      rw [getElem!_pos rs i hi, getElem!_pos rs k (by omega)]
      rcases Nat.lt_or_ge k i with h | h
      · have := List.pairwise_iff_getElem.1 hs k i (by omega) hi h
        omega
      · have e : k = i := by omega
        subst e
        omega
    unfold pairAt
    rw [if_neg (fun h => hne h.1), List.append_nil]
theorem pairAt_up {r : Rul} {rs : List Rcd} {v : Int} (hs : rs.Pairwise (fun x y => x.id < y.id)) {i k : Nat} (hik : i < k) (hk : k < rs.length) : pairAt r v rs[i]! rs[k]! = if (cmpN r rs[i]! rs[k]!).vd = v then [(rs[i]!.id, rs[k]!.id)] else [] := by
  have h : rs[i]!.id < rs[k]!.id := by
    rw [getElem!_pos rs i (by omega), getElem!_pos rs k hk]
    exact List.pairwise_iff_getElem.1 hs i k (by omega) hk hik
  unfold pairAt
  by_cases e : (cmpN r rs[i]! rs[k]!).vd = v
  · rw [if_pos ⟨h, e⟩, if_pos e]
  · rw [if_neg (fun h2 => e h2.2), if_neg e]

/-- The next place, a stay on. -/
def stepP (day place next : Int) (s : Sty) : Int := if onB day s && decide (place < s.place) && (decide (next < 0) || decide (s.place < next)) then s.place else next
def nextP (day place : Int) (l : List Sty) : Int := l.foldl (stepP day place) (-1)
theorem nextP_snoc (day place : Int) (l : List Sty) (s : Sty) : nextP day place (l ++ [s]) = stepP day place (nextP day place l) s := by
  unfold nextP
  rw [List.foldl_append]
  rfl
theorem snoc_ind {α : Type} {P : List α → Prop} (nil : P []) (snoc : ∀ l x, P l → P (l ++ [x])) (l : List α) : P l := by
  have h : ∀ r : List α, P r.reverse := by
    intro r
    induction r with
    | nil => exact nil
    | cons x r ih =>
      rw [List.reverse_cons]
      exact snoc _ _ ih
  have := h l.reverse
  rwa [List.reverse_reverse] at this
theorem nextP_is {day place : Int} (l : List Sty) (hp : ∀ s ∈ l, 0 ≤ s.place) :
    (nextP day place l = -1 ∧ ∀ s ∈ l, onB day s = true → s.place ≤ place) ∨
    ((∃ s ∈ l, onB day s = true ∧ s.place = nextP day place l) ∧ place < nextP day place l ∧ 0 ≤ nextP day place l ∧ ∀ s ∈ l, onB day s = true → place < s.place → nextP day place l ≤ s.place) := by
  induction l using snoc_ind with
  | nil => exact .inl ⟨rfl, fun s hs => by cases hs⟩
  | snoc l x ih =>
    rw [nextP_snoc]
    have hx := hp x (by simp)
    have ih := ih (fun s hs => hp s (by simp [hs]))
    generalize nextP day place l = q at *
    unfold stepP
    by_cases hon : onB day x = true
    · by_cases hlt : place < x.place
      · rcases ih with ⟨h1, h2⟩ | ⟨h1, h2, h3, h4⟩
        · rw [if_pos (by simp [hon, hlt]; left; omega)]
          refine .inr ⟨⟨x, by simp, hon, rfl⟩, hlt, hx, fun s hs ho hl => ?_⟩
          rcases List.mem_append.1 hs with h | h
          · have := h2 s h ho; omega
          · rw [List.mem_singleton.1 h]; exact Int.le_refl _
        · by_cases hq : x.place < q
          · rw [if_pos (by simp [hon, hlt]; right; exact hq)]
            refine .inr ⟨⟨x, by simp, hon, rfl⟩, hlt, hx, fun s hs ho hl => ?_⟩
            rcases List.mem_append.1 hs with h | h
            · have := h4 s h ho hl; omega
            · rw [List.mem_singleton.1 h]; exact Int.le_refl _
          · rw [if_neg (by simp [hon, hlt]; omega)]
            obtain ⟨s, hs, ho, e⟩ := h1
            refine .inr ⟨⟨s, by simp [hs], ho, e⟩, h2, h3, fun s hs ho hl => ?_⟩
            rcases List.mem_append.1 hs with h | h
            · exact h4 s h ho hl
            · rw [List.mem_singleton.1 h]; omega
      · rw [if_neg (by simp [hlt])]
        rcases ih with ⟨h1, h2⟩ | ⟨⟨s, hs, ho, e⟩, h2, h3, h4⟩
        · refine .inl ⟨h1, fun s hs ho => ?_⟩
          rcases List.mem_append.1 hs with h | h
          · exact h2 s h ho
          · rw [List.mem_singleton.1 h]; omega
        · refine .inr ⟨⟨s, by simp [hs], ho, e⟩, h2, h3, fun s hs ho hl => ?_⟩
          rcases List.mem_append.1 hs with h | h
          · exact h4 s h ho hl
          · rw [List.mem_singleton.1 h] at hl; omega
    · rw [if_neg (by simp [hon])]
      rcases ih with ⟨h1, h2⟩ | ⟨⟨s, hs, ho, e⟩, h2, h3, h4⟩
      · refine .inl ⟨h1, fun s hs ho => ?_⟩
        rcases List.mem_append.1 hs with h | h
        · exact h2 s h ho
        · rw [List.mem_singleton.1 h] at ho; exact absurd ho hon
      · refine .inr ⟨⟨s, by simp [hs], ho, e⟩, h2, h3, fun s hs ho hl => ?_⟩
        rcases List.mem_append.1 hs with h | h
        · exact h4 s h ho hl
        · rw [List.mem_singleton.1 h] at ho; exact absurd ho hon
/-- Every stay of everybody. -/
def staysL (rs : List Rcd) : List Sty := rs.flatMap (·.stays)
theorem placesR_mem {day : Int} {rs : List Rcd} {p : Int} : p ∈ placesL day rs ↔ ∃ s ∈ staysL rs, onB day s = true ∧ s.place = p := by
  unfold placesL staysL
  rw [(foldr_insP _).2, List.mem_map]
  constructor
  · rintro ⟨s, hs, e⟩
    obtain ⟨r, hr, h⟩ := List.mem_flatMap.1 hs
    exact ⟨s, List.mem_flatMap.2 ⟨r, hr, (List.mem_filter.1 h).1⟩, (List.mem_filter.1 h).2, e⟩
  · rintro ⟨s, hs, ho, e⟩
    obtain ⟨r, hr, h⟩ := List.mem_flatMap.1 hs
    exact ⟨s, List.mem_flatMap.2 ⟨r, hr, List.mem_filter.2 ⟨h, ho⟩⟩, e⟩
theorem placesL_asc (day : Int) (rs : List Rcd) : (placesL day rs).Pairwise (· < ·) := (foldr_insP _).1
/-- The place that some list of places has reached. -/
def lastP (P : List Int) (m : Nat) : Int := if m = 0 then -1 else P[m - 1]!
theorem next_at {day : Int} {rs : List Rcd} (hp : ∀ s ∈ staysL rs, 0 ≤ s.place) {m : Nat} (hm : m ≤ (placesL day rs).length) :
    nextP day (lastP (placesL day rs) m) (staysL rs) = if m < (placesL day rs).length then (placesL day rs)[m]! else -1 := by
  have hasc := placesL_asc day rs
  have hmem := fun p => placesR_mem (day := day) (rs := rs) (p := p)
  generalize placesL day rs = P at *
  have hlast : ∀ j, j < P.length → (lastP P m < P[j]! ↔ m ≤ j) := by
    intro j hj
    unfold lastP
    by_cases h0 : m = 0
    · rw [if_pos h0]
      obtain ⟨s, hs, _, e⟩ := (hmem P[j]!).1 (by rw [getElem!_pos P j hj]; exact List.getElem_mem hj)
      have := hp s hs
      omega
    · rw [if_neg h0, getElem!_pos P (m - 1) (by omega), getElem!_pos P j hj]
      constructor
      · intro h
        rcases Nat.lt_or_ge j m with h2 | h2
        · exfalso
          rcases Nat.lt_or_ge j (m - 1) with h3 | h3
          · have := List.pairwise_iff_getElem.1 hasc j (m - 1) hj (by omega) h3
            omega
          · have e : j = m - 1 := by omega
            subst e
            omega
        · exact h2
      · intro h
        exact List.pairwise_iff_getElem.1 hasc (m - 1) j (by omega) hj (by omega)
  generalize lastP P m = place at *
  rcases nextP_is (day := day) (place := place) (staysL rs) hp with ⟨h1, h2⟩ | ⟨⟨s, hs, ho, e⟩, h2, h3, h4⟩
  · rw [h1]
    by_cases hml : m < P.length
    · exfalso
      obtain ⟨s, hs, ho, e⟩ := (hmem P[m]!).1 (by rw [getElem!_pos P m hml]; exact List.getElem_mem hml)
      have := h2 s hs ho
      have := (hlast m hml).2 (Nat.le_refl _)
      omega
    · rw [if_neg hml]
  · generalize nextP day place (staysL rs) = q at *
    obtain ⟨j, hj, ej⟩ := List.getElem_of_mem ((hmem q).2 ⟨s, hs, ho, e⟩)
    have hjm : m ≤ j := by
      refine (hlast j hj).1 ?_
      rw [getElem!_pos P j hj, ej]
      exact h2
    have hml : m < P.length := by omega
    rw [if_pos hml]
    obtain ⟨s', hs', ho', e'⟩ := (hmem P[m]!).1 (by rw [getElem!_pos P m hml]; exact List.getElem_mem hml)
    have h5 := h4 s' hs' ho' (by rw [e']; exact (hlast m hml).2 (Nat.le_refl _))
    rw [e'] at h5
    rcases Nat.lt_or_ge m j with h6 | h6
    · have h7 := List.pairwise_iff_getElem.1 hasc m j hml hj h6
      rw [ej] at h7
      rw [getElem!_pos P m hml] at h5
      omega
    · have e : j = m := by omega
      subst e
      rw [getElem!_pos P j hj, ej]
theorem staysL_take {rs : List Rcd} {i : Nat} (hi : i < rs.length) : staysL (rs.take (i + 1)) = staysL (rs.take i) ++ rs[i]!.stays := by
  unfold staysL
  rw [List.take_succ_eq_append_getElem hi, List.flatMap_append, List.flatMap_singleton, getElem!_pos rs i hi]
theorem homesK_take {day : Int} {rs : List Rcd} {m : Nat} (hm : m < (placesL day rs).length) : (homesK day rs).take (m + 1) = (homesK day rs).take m ++ [homeL day (placesL day rs)[m]! rs] := by
  unfold homesK
  rw [← List.map_take, ← List.map_take, List.take_succ_eq_append_getElem hm, List.map_append, getElem!_pos _ m hm]
  rfl
end Go.Proofs.YtlkjimfkapcenaaGreat
