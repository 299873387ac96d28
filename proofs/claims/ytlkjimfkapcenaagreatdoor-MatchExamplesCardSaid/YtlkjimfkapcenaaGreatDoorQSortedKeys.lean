/- slices.Sorted(maps.Keys(m)) at ints: the keys of a map, in order. For every map that is known key by key. Homes of the package match: who was at one place. For all lists of records and days. -/
import Derived.BigQuiet
import Derived.Deep.AppendLies
import Derived.Deep.QuietTactic
import Derived.Deep.RegionHeld3
import Derived.Test.YtlkjimfkapcenaaGreatDoorQBase
import Derived.Test.YtlkjimfkapcenaaGreatDoorQPlaces
import Derived.Test.YtlkjimfkapcenaaGreatDoorQListed
import Derived.Test.YtlkjimfkapcenaaGreatDoorQCompareOne
import Derived.Test.YtlkjimfkapcenaaGreatDoorQPairSpec
import Derived.Test.YtlkjimfkapcenaaGreatDoorQFar
import Derived.Test.YtlkjimfkapcenaaGreatDoorQLayKeys
namespace Go.Proofs.YtlkjimfkapcenaaGreatDoor
open Go.RowKit Go.Maps Go.Sort Go.Shelf
open Go.WideElems (Fit)

/-- A reading of a map's elements that asks nothing of them. -/
def anyR (_ : Value) : Option (DataW Unit × List MemPlace) := some (.lit (.bool true), [])
theorem MapIs.keys {P : Program} {k : TypeId} {w : World} {b : Nat} {f : Int → Option Value} (h : MapIs P k (Value.int .i64) w b f) (L : List Int) (hL : ∀ q v, f q = some v → q ∈ L) (hk : P.underlying k = some (.int .i64)) (hmax : L.length ≤ maxLen) :
    ∃ (D : DataW Unit) (qs : List Int), w.ownsMap P k anyR b L.length D ∧ (intKeys D).Perm qs ∧ qs.Nodup ∧ (∀ q, q ∈ qs ↔ ∃ v, f q = some v) ∧ Maps.size D ≤ L.length := by
  obtain ⟨es, clock, hb, hs, h1, h2⟩ := h
  have hp := ((Go.MapKept.stamped_iff es clock).1 hs).2.2
  obtain ⟨qs, hq⟩ : ∃ qs : List Int, es.toList.map (·.key) = qs.map (Value.int .i64) := by
    have : ∀ xs : List MapEntry, (∀ x ∈ xs, ∃ q, x.key = Value.int .i64 q) → ∃ qs : List Int, xs.map (·.key) = qs.map (Value.int .i64) := by
      intro xs
      induction xs with
      | nil => exact fun _ => ⟨[], rfl⟩
      | cons x xs ih =>
        intro hx
        obtain ⟨qs, e⟩ := ih (fun y hy => hx y (by simp [hy]))
        obtain ⟨q, e'⟩ := hx x (by simp)
        exact ⟨q :: qs, by simp [e, e']⟩
    exact this _ (fun x hx => by obtain ⟨q, _, e, _⟩ := h1 x hx; exact ⟨q, e⟩)
  have hl : es.size = qs.length := by have := congrArg List.length hq; simpa using this
  have hnd : qs.Nodup := by
    have h3 : (es.toList.map (·.key)).Pairwise (fun x y => x ≠ y) := by
      rw [List.pairwise_map]
      exact hp.imp (fun h => by first | exact h | exact fun e => h e | exact fun e => h e.symm)
    rw [hq, List.pairwise_map] at h3
    exact h3.imp (fun h e => h (by rw [e]))
  have hmem : ∀ q, q ∈ qs ↔ ∃ v, f q = some v := by
    intro q
    constructor
    · intro hqm
      have : Value.int .i64 q ∈ es.toList.map (·.key) := by rw [hq]; exact List.mem_map_of_mem hqm
      obtain ⟨x, hx, e⟩ := List.mem_map.1 this
      obtain ⟨p, _, e1, _, e2⟩ := h1 x hx
      have : p = q := int_inj p q (e1.symm.trans e)
      subst this
      exact ⟨_, e2⟩
    · rintro ⟨v, hv⟩
      obtain ⟨x, hx, e⟩ := h2 q v hv
      have : Value.int .i64 q ∈ es.toList.map (·.key) := by rw [← e]; exact List.mem_map_of_mem hx
      rw [hq] at this
      obtain ⟨p, hp, e⟩ := List.mem_map.1 this
      rw [← int_inj p q e]; exact hp
  have hle : es.size ≤ L.length := by
    rw [hl]
    exact nodup_le hnd (fun q h => by obtain ⟨v, hv⟩ := (hmem q).1 h; exact hL q v hv)
  have hrd : ∀ x ∈ es.toList, ∃ q, x.key = Value.int .i64 q ∧ Go.WideElems.rd P k anyR x = some (.int .i64 q, .lit (.bool true)) := by
    intro x hx
    obtain ⟨q, l, e1, e2, _⟩ := h1 x hx
    obtain ⟨y, e3, rfl, _⟩ := Maps.keyOf_i64 hk e2
    have : q = y := int_inj q y e3
    subst this
    refine ⟨q, e1, ?_⟩
    unfold Go.WideElems.rd
    rw [e1, e2]
    rfl
  refine ⟨.map ((es.toList.map (Go.WideElems.rg P k anyR)).foldr DataW.insert []), qs, ⟨es, clock, hb, ⟨by omega, hs, fun x hx => ?_⟩, hle, rfl⟩, ?_, hnd, hmem, ?_⟩
  · obtain ⟨q, _, h⟩ := hrd x hx
    exact ⟨_, h⟩
  · show (((es.toList.map (Go.WideElems.rg P k anyR)).foldr DataW.insert []).map fun p => Go.intOf p.1).Perm qs
    refine ((Go.WideShapes.sorted_perm (es.toList.map (Go.WideElems.rg P k anyR))).map _).trans ?_
    have e : (es.toList.map (Go.WideElems.rg P k anyR)).map (fun p => Go.intOf p.1) = qs := by
      have h4 : ∀ (xs : List MapEntry) (qs : List Int), xs.map (·.key) = qs.map (Value.int .i64) → (∀ x ∈ xs, ∃ q, x.key = Value.int .i64 q ∧ Go.WideElems.rd P k anyR x = some (.int .i64 q, .lit (.bool true))) → (xs.map (Go.WideElems.rg P k anyR)).map (fun p => Go.intOf p.1) = qs := by
        intro xs
        induction xs with
        | nil => intro qs h _; cases qs with
          | nil => rfl
          | cons _ _ => simp at h
        | cons x xs ih =>
          intro qs h hx
          cases qs with
          | nil => simp at h
          | cons q qs =>
            simp only [List.map_cons, List.cons.injEq] at h
            obtain ⟨p, e1, e2⟩ := hx x (by simp)
            have : p = q := int_inj p q (e1.symm.trans h.1)
            subst this
            simp only [List.map_cons, ih qs h.2 (fun y hy => hx y (by simp [hy])), Go.WideElems.rg_of e2]
            rfl
      exact h4 _ _ hq hrd
    rw [e]
  · show ((es.toList.map (Go.WideElems.rg P k anyR)).foldr DataW.insert []).length ≤ _
    rw [length_sorted]
    simpa using hle
/-- Numbers sorted, each once. -/
theorem sorted_asc {ss qs : List Int} (h : ss.Perm qs) (hn : qs.Nodup) : (ss.mergeSort (fun x y => decide (x ≤ y))).Pairwise (· < ·) ∧ ∀ q, q ∈ ss.mergeSort (fun x y => decide (x ≤ y)) ↔ q ∈ qs := by
  have p := (List.mergeSort_perm ss (fun x y => decide (x ≤ y))).trans h
  have tr : ∀ a b c : Int, decide (a ≤ b) = true → decide (b ≤ c) = true → decide (a ≤ c) = true := fun a b c h1 h2 => by simp only [decide_eq_true_eq] at *; omega
  have tt : ∀ a b : Int, (decide (a ≤ b) || decide (b ≤ a)) = true := fun a b => by simp only [Bool.or_eq_true, decide_eq_true_eq]; omega
  have h1 := List.pairwise_mergeSort tr tt ss
  have h2 : (ss.mergeSort (fun x y => decide (x ≤ y))).Nodup := p.nodup_iff.2 hn
  refine ⟨?_, fun q => p.mem_iff⟩
  refine (h1.and h2).imp (fun {x y} h => ?_)
  obtain ⟨h3, h4⟩ := h
  simp only [decide_eq_true_eq] at h3
  omega

theorem keys_call (mb : Option Nat) (W : World) : Calls Tryz.prog 23 #[.map mb] W fun e w' => e = .returned (.func (.func 39) #[] #[.pointer (some ⟨W.heap.size, 0, none⟩)]) ∧ w' = W.alloc (.cells #[.map mb] 63) :=
  callsIn_wide.1 (AnyZI.keys_in keysA Fence.wide 5 trivial rfl mb W)

theorem sorts_in (m : Nat) : AnyZI.SortsIn Tryz.prog sortedA_ren Fence.wide m :=
  ⟨fun blk off cap ss W hH hblk hsz => callsIn_wide.2 (AnyM.slices_Sort_int sortA blk off cap ss W hH hblk hsz),
   fun p cap W => callsIn_wide.2 (AnyM.slices_Sort_int_none sortA p cap W)⟩

set_option maxHeartbeats 1000000 in
theorem sorted_call (b Bm : Nat) (f : Int → Option Value) (L : List Int) (W : World) (h : MapIs Tryz.prog 3 (Value.int .i64) W b f) (hL : ∀ q v, f q = some v → q ∈ L) (hlen : L.length ≤ 1000000) (hBm : Bm < W.heap.size) (hm : W.cell? ⟨Bm, 0, none⟩ = some (.map (some b))) :
    Calls Tryz.prog 22 #[.func (.func 39) #[] #[.pointer (some ⟨Bm, 0, none⟩)]] W fun e w' => ∃ (v : Value) (ps : List Int), e = .returned v ∧ ps.Pairwise (· < ·) ∧ (∀ q, q ∈ ps ↔ ∃ v, f q = some v) ∧ w'.ownsRow W.heap.size 3 1 v ps.length (ps.map (Value.int .i64)) ∧ Gr W w' := by
  obtain ⟨D, qs, hown, hperm, hnd, hmem, hsz⟩ := h.keys L hL Tryz.underlying3 (by unfold maxLen; omega)
  have hseq : SeqGives Fence.wide 2 Tryz.prog 39 #[.pointer (some ⟨Bm, 0, none⟩)] encZ (fun ss => ss.Perm (intKeys D)) (Maps.size D) W :=
    AnyZI.keys_gives (ρ := keysA_ren) { keysA with } Fence.wide _ trivial rfl (by omega) Bm b L.length D W hBm hm hown
  have cS := AnyZI.sorted_in sortedA Fence.wide 5 trivial trivial trivial trivial rfl (by omega) (sorts_in _) (enters_of Tryz.func38 (by kernel_rfl) rfl) 39 #[.pointer (some ⟨Bm, 0, none⟩)] trivial (enters_of Tryz.func39 (by kernel_rfl) rfl) _ _ (by unfold maxLen; omega) (by omega) _ hseq
  change CallsIn _ _ Tryz.prog 22 _ _ _ at cS
  refine (callsIn_wide.1 cS).mono ?_
  rintro e w' ⟨v, ss, rfl, hS, hrow, _, hb⟩
  obtain ⟨a1, a2⟩ := sorted_asc (hS.trans hperm) hnd
  refine ⟨v, _, rfl, a1, fun q => (a2 q).trans (hmem q), ?_, hb⟩
  have e : (ss.mergeSort (fun x y => decide (x ≤ y))).length = ss.length := List.length_mergeSort _
  rw [e]
  exact hrow
end Go.Proofs.YtlkjimfkapcenaaGreatDoor
namespace Go.Proofs.YtlkjimfkapcenaaGreatDoor
open Go.RowKit Go.Maps

theorem zero_ints (w : World) : (zeroValue 51).run Tryz.prog w = .ok (.slice none 0 0) w := by kernel_rfl
theorem info_hint : (Tryz.prog.info? 3).map (fun i => (i.zero, i.size, i.bytes)) = some (some (.int .i64 0), 1, 8) := by kernel_rfl
theorem info_hints : (Tryz.prog.info? 51).map (fun i => (i.zero, i.size, i.bytes)) = some (some (.slice none 0 0), 1, 24) := by kernel_rfl

/-- A row of another type is another block. -/
theorem own_ne {w : World} {base : Nat} {e t : TypeId} {size n g : Nat} {v : Value} {xs : List Value} {cs : Array Value} {fr : Nat × Nat} (h : w.ownsRow base e size v n xs) (hg : w.heap[g]? = some (.cells cs t fr)) (hne : t ≠ e) : some g ≠ v.ownBlock := by
  rcases h.2 with ⟨rfl, _⟩ | ⟨g', cap, cur, rfl, _, hg', _⟩
  · intro e'; cases e'
  · intro e'
    have : g = g' := by simpa [Value.ownBlock] using e'
    subst this
    rw [hg] at hg'
    injection hg' with h1
    injection h1 with _ h2 _
    exact hne h2
theorem own_gr2 {W W' : World} {base : Nat} {e : TypeId} {size n : Nat} {v : Value} {xs : List Value} (h : W.ownsRow base e size v n xs) (g : Gr W W') : W'.ownsRow base e size v n xs := by
  have k : W.grownBy W' none := ⟨g.os, g.tape, g.output, Gr.size g, fun _ hi _ => Gr.heap g hi⟩
  refine h.kept k ?_
  cases v.ownBlock with
  | none => exact .inl rfl
  | some _ => exact .inr (by simp)
theorem own_ne2 {w : World} {base : Nat} {e : TypeId} {size n g : Nat} {v : Value} {xs : List Value} (h : w.ownsRow base e size v n xs) (hg : w.heap.size ≤ g) : some g ≠ v.ownBlock := fun e => by
  have := (h.lt g e.symm).2
  omega
theorem keepg2 {W W' : World} {a b : Nat} {u0 u1 : Value} (h : W.cell? ⟨a, 0, none⟩ = some u0 ∧ W.cell? ⟨b, 0, none⟩ = some u1) (k : Gr W W') : W'.cell? ⟨a, 0, none⟩ = some u0 ∧ W'.cell? ⟨b, 0, none⟩ = some u1 := ⟨row_cell h.1 k, row_cell h.2 k⟩
theorem keepgg2 {W W' : World} {row : Option Nat} {a b : Nat} {u0 u1 : Value} (h : W.cell? ⟨a, 0, none⟩ = some u0 ∧ W.cell? ⟨b, 0, none⟩ = some u1) (k : W.grownBy W' row) (h1 : some a ≠ row) (h2 : some b ≠ row) : W'.cell? ⟨a, 0, none⟩ = some u0 ∧ W'.cell? ⟨b, 0, none⟩ = some u1 :=
  ⟨(k.cell_far ⟨a, 0, none⟩ (block_lt_of_cell h.1) h1).trans h.1, (k.cell_far ⟨b, 0, none⟩ (block_lt_of_cell h.2) h2).trans h.2⟩
theorem homeF_len (day : Int) (rs : List Rcd) (i k : Nat) (p : Int) : (homeF day rs i k p).length ≤ rs.length + 1 := by
  unfold homeF homeL
  rw [List.length_append, List.length_map]
  have h1 := List.length_filter_le (fun r : Rcd => r.stays.any (atB day p)) (rs.take i)
  have h2 : (rs.take i).length ≤ rs.length := by rw [List.length_take]; omega
  split <;> simp <;> omega
theorem insP_len (x : Int) (l : List Int) : (insP x l).length ≤ l.length + 1 := by
  induction l with
  | nil => simp [insP]
  | cons y l ih =>
    unfold insP
    split
    · simp
    · split
      · simp
      · simp only [List.length_cons]; omega
theorem foldr_len (l : List Int) : (l.foldr insP []).length ≤ l.length := by
  induction l with
  | nil => simp
  | cons x l ih =>
    have := insP_len x (l.foldr insP [])
    simp only [List.foldr_cons, List.length_cons]; omega
theorem placesL_len (day : Int) (rs : List Rcd) (h : ∀ r ∈ rs, r.stays.length ≤ 6) : (placesL day rs).length ≤ rs.length * 6 := by
  unfold placesL
  refine Nat.le_trans (foldr_len _) ?_
  rw [List.length_map]
  induction rs with
  | nil => simp
  | cons r rs ih =>
    have h1 := ih (fun x hx => h x (by simp [hx]))
    have h2 := h r (by simp)
    have h3 := List.length_filter_le (onB day) r.stays
    simp only [List.flatMap_cons, List.length_append, List.length_cons]
    omega
theorem placesL_mem {day : Int} {rs : List Rcd} {q : Int} (h : q ∈ placesL day rs) : ∃ r ∈ rs, ∃ s ∈ r.stays, s.place = q := by
  unfold placesL at h
  rw [(foldr_insP _).2] at h
  obtain ⟨s, hs, e⟩ := List.mem_map.1 h
  obtain ⟨r, hr, hs⟩ := List.mem_flatMap.1 hs
  exact ⟨r, hr, s, (List.mem_filter.1 hs).1, e⟩
theorem ok_stays {r : Rcd} (h : r.ok = true) : r.stays.length ≤ 6 ∧ ∀ s ∈ r.stays, 0 ≤ s.place ∧ s.place ≤ 99999 := by
  unfold Rcd.ok at h
  simp only [Bool.and_eq_true, decide_eq_true_eq, List.all_eq_true] at h
  obtain ⟨⟨⟨⟨_, h6⟩, h7⟩, _⟩, _⟩ := h
  refine ⟨h6, fun s hs => ?_⟩
  have := h7 s hs
  unfold Sty.ok inB at this
  simp only [Bool.and_eq_true, decide_eq_true_eq] at this
  omega
theorem home_cells (day : Int) (rs : List Rcd) (i k : Nat) (q : Int) : ((homeF day rs i k q).map (Value.int .i64)).length = (homeF day rs i k q).length := by simp


set_option maxRecDepth 100000 in
set_option maxHeartbeats 8000000 in
theorem homes_any (es : List Elt) (day : Int) (A : Option Addr) (cap : Nat) (w : World) (hI : RdE w A es.length es) (hE : ∀ e ∈ es, EltIn w e) (hbig : es.length ≤ 9223372036854775807) :
    Calls Tryz.prog 11 #[.slice A es.length cap, .int .i64 day] w fun e w' => ∃ v, e = .returned (.tuple #[v, .int .i64 (homeErr day (es.map (·.r)))]) ∧ ListsIn w' v (homesN day (es.map (·.r))) ∧ Gr w w' := by
  have HL := hid (fun W (g : Gr w W) => listed_any es A cap W (hI.gr g) (fun e he => (hE e he).at_.gr g) hbig)
  obtain ⟨rs, hrs⟩ : ∃ rs, rs = es.map (·.r) := ⟨_, rfl⟩
  rw [← hrs] at HL ⊢
  obtain ⟨d0, hd0⟩ : ∃ b, inB 0 100000 day = b := ⟨_, rfl⟩
  have HD0 := hid hd0
  cases d0 with
  | false =>
    have he : homeErr day rs = 2 := by unfold homeErr; rw [hd0]; rfl
    have h1 : homesN day rs = [] := by unfold homesN; rw [he]; rfl
    rw [he, h1]
    clear hI hE HL hd0 he h1
    go_enter Tryz.func11, Tryz.ntmps11
    go_wp2_with ((go_at_call 16; (with_reducible refine (within_one 0 100000 day _ HD0.out _ _ _ ?_ ?_).mono ?_); rotate_right; rintro e w1 ⟨rfl, hbw1⟩; obtain ⟨hcw1, hfw1, hzw1⟩ := hbw1.rules; (try simp at hzw1)))
    · go_ret2
      exact ⟨_, rfl, ListsIn.nil_ _, by (repeat (first | with_reducible exact Gr.refl _ | with_reducible refine Gr.trans ?_ hbw1 | with_reducible refine Gr.alloc ?_ _ | with_reducible refine Gr.setCell ?_ (by simp) _ | with_reducible refine Gr.setCell ?_ (by simp; omega) _ | with_reducible refine Gr.drew ?_ | with_reducible refine Gr.drewN ?_ _))⟩
    · simp
    · simp
  | true =>
    have he : homeErr day rs = recsE rs := by unfold homeErr; rw [hd0]; rfl
    have h1 : homesN day rs = if recsE rs = 0 then homesK day (srt rs) else [] := by unfold homesN; rw [he]
    rw [he, h1]
    clear he h1
    by_cases hz : recsE rs = 0
    · rw [if_pos hz, hz]
      obtain ⟨h24, hall, hnd⟩ := recsE_zero hz
      have HL2 : Hid (∀ W, Gr w W → Calls Tryz.prog 21 #[.slice A es.length cap] W fun e w' => ∃ A2 c2 es', e = .returned (.tuple #[.slice A2 es.length c2, .int .i64 0]) ∧ es'.length = es.length ∧ es'.map (·.r) = srt rs ∧ (∀ e ∈ es', e.r.ok = true ∧ EltIn w e) ∧ RdE w' A2 es.length es' ∧ Gr W w') := fun W g => (HL.out W g).mono (fun e w' h => by
        rcases h with h | ⟨_, v, rfl, A2, c2, es', rfl, h1, h2, h3, h4⟩
        · exact absurd hz h.1
        · have hp : (es'.map (·.r)).Perm rs := by rw [hrs]; exact h1.map _
          refine ⟨A2, c2, es', rfl, h1.length_eq, srt_eq hp (by rw [List.pairwise_map]; exact h2), fun e he => ⟨hall _ (hp.mem_iff.1 (List.mem_map_of_mem he)), hE e (h1.mem_iff.1 he)⟩, h3, h4⟩)
      have hlr : rs.length = es.length := by rw [hrs]; simp
      have HSRT := hid (srt_sorted hnd)
      have HSL := hid (show (srt rs).length = es.length by rw [(srt_perm rs).length_eq, hlr])
      rw [hlr] at h24
      obtain ⟨n, hn⟩ : ∃ n, n = es.length := ⟨_, rfl⟩
      rw [← hn] at h24 HL2 HSL ⊢
      have n0 : (n : Int) ≤ 24 := by omega
      obtain ⟨i0, hi0, hz0, hs0, hy0⟩ := info_parts info_hint
      obtain ⟨i1, hi1, hz1, hs1, hy1⟩ := info_parts info_hints
      have HI0 := hid hi0
      have HZ0 := hid hz0
      have HS0 := hid hs0
      have HY0 := hid hy0
      have HI1 := hid hi1
      have HZ1 := hid hz1
      have HS1 := hid hs1
      have HY1 := hid hy1
      clear hi0 hz0 hs0 hy0 hi1 hz1 hs1 hy1 hI hE HL hall hnd hlr hn hd0 hz hrs
      generalize srt rs = ts at *
      have hmm := @run_makeMap Tryz.prog
      go_enter Tryz.func11, Tryz.ntmps11
      go_wp2_with (first
        | (go_at_call 16; (with_reducible refine (within_one 0 100000 day _ HD0.out _ _ _ ?_ ?_).mono ?_); rotate_right; rintro e w1 ⟨rfl, hbw1⟩; obtain ⟨hcw1, hfw1, hzw1⟩ := hbw1.rules; (try simp at hzw1))
        | (go_at_call 21; (with_reducible refine (HL2.out _ ?_).mono ?_); rotate_right; rintro e w2 ⟨A2, c2, es', rfl, j1, j2, j3, j4, hbw2⟩; have J1 := hid j1; have J2 := hid j2; have J3 := hid j3; have J4 := hid j4; clear j1 j2 j3 j4; obtain ⟨hcw2, hfw2, hzw2⟩ := hbw2.rules; (try simp at hzw2)))
      · have G2 : Gr w w2 := ((Gr.refl w).alloc _).trans (hbw1.trans hbw2)
        have HG2 := hid G2
        have hM0 : Grps Tryz.prog 3 (Value.int .i64) (w2.alloc (.map #[] 0)) (w2.heap.size + 1) w2.heap.size 3 1 (fun q => (homeF day ts 0 0 q).map (Value.int .i64)) (fun _ => .slice none 0 0) := by
          have h := Grps.made (P := Tryz.prog) (k := 3) w2 (Value.int .i64) 3 1
          have e : (fun q => (homeF day ts 0 0 q).map (Value.int .i64)) = fun _ => [] := by
            funext q
            rw [homeF_zero]
            rfl
          rw [e]
          exact h
        have hg0 : Gr w2 (w2.alloc (.map #[] 0)) := (Gr.refl _).alloc _
        have hs0 : w2.heap.size + 1 ≤ (w2.alloc (.map #[] 0)).heap.size := by simp
        generalize w2.alloc (.map #[] 0) = W0 at hM0 hg0 hs0 ⊢
        have HM0 := hid (show ∃ S, Grps Tryz.prog 3 (Value.int .i64) W0 (w2.heap.size + 1) w2.heap.size 3 1 (fun q => (homeF day ts 0 0 q).map (Value.int .i64)) S from ⟨_, hM0⟩)
        clear hbw1 hbw2 hcw1 hfw1 hzw1 hcw2 hfw2 hzw2 G2 hM0
        go_loopg [31] n (fun gg s31 wr => ∃ i : Nat, i ≤ n ∧ n - i ≤ gg ∧ s31 = .int .i64 i ∧ Gr w2 wr ∧ w2.heap.size + 1 ≤ wr.heap.size ∧ Hid (∃ S, Grps Tryz.prog 3 (Value.int .i64) wr (w2.heap.size + 1) w2.heap.size 3 1 (fun q => (homeF day ts i 0 q).map (Value.int .i64)) S))
        case atStart => exact ⟨0, Nat.zero_le _, by omega, rfl, hg0, hs0, HM0⟩
        case round =>
          clear HM0 hg0 hs0
          obtain ⟨i, hi, hgi, rfl, BW, hzr, HM⟩ := hrel
          by_cases hlt : i < n
          · have hltz : (i : Int) < (n : Int) := by omega
            have hi0 : (0 : Int) ≤ (i : Int) := by omega
            have hin : i < es'.length := by rw [J1.out]; exact hlt
            obtain ⟨b, off, rfl, hb, hh⟩ := (J4.out.gr BW).2 (by omega)
            have he1 : es'[i]? = some es'[i]! := by rw [getElem!_pos es' i hin]; exact List.getElem?_eq_getElem _
            have S1 := (hh _ _ he1).all
            have hEi := J3.out _ (mem_get hin)
            have hlt2 : i < ts.length := by rw [HSL.out]; exact hlt
            have hts : ts[i]! = es'[i]!.r := by
              rw [getElem!_pos ts i hlt2, getElem!_pos es' i hin]
              have := J2.out
              subst this
              simp
            generalize es'[i]! = x at S1 hEi hts
            clear hh he1
            obtain ⟨⟨id, names, suf, l1, h1, p, tw, stays⟩, A3, n3, c3, B3, m3, d3⟩ := x
            obtain ⟨hok, hIn, hcap, hsfx⟩ := hEi
            dsimp only at hok hIn hcap hsfx
            have HST := hid hIn.stays
            have hml := hIn.mlen
            have hmb := hIn.mbig
            have hsv : ∀ s ∈ stays, Rng s ∧ 0 ≤ s.place ∧ s.place ≤ 99999 := (good_of hIn hcap.1 hcap.2 hsfx hok).stays
            dsimp only at S1 hml hmb
            have HTS := hid hts
            have HSV := hid hsv
            have HML := hid hml
            have mz : (m3 : Int) ≤ 9223372036854775807 := by omega
            obtain ⟨e0, e1, e2, e3, e4, e5, e6, e7⟩ := S1
            clear hIn hok hts hsv hml hin hcap hsfx
            go_wp2
            have hrow : (wr.alloc (.cells #[.int .i64 id, .slice A3 n3 c3, .int .u8 suf, .int .i64 l1, .int .i64 h1, .string p, .bool tw, .slice B3 m3 d3] 41)).heap[wr.heap.size]? = some (.cells #[.int .i64 id, .slice A3 n3 c3, .int .u8 suf, .int .i64 l1, .int .i64 h1, .string p, .bool tw, .slice B3 m3 d3] 41 (0, 0)) := heap_alloc_new wr _
            have hg1 : Gr w2 (wr.alloc (.cells #[.int .i64 id, .slice A3 n3 c3, .int .u8 suf, .int .i64 l1, .int .i64 h1, .string p, .bool tw, .slice B3 m3 d3] 41)) := BW.alloc _
            have hz1 : w2.heap.size + 1 ≤ (wr.alloc (.cells #[.int .i64 id, .slice A3 n3 c3, .int .u8 suf, .int .i64 l1, .int .i64 h1, .string p, .bool tw, .slice B3 m3 d3] 41)).heap.size := by simp; omega
            have hM1 : Hid (∃ S, Grps Tryz.prog 3 (Value.int .i64) (wr.alloc (.cells #[.int .i64 id, .slice A3 n3 c3, .int .u8 suf, .int .i64 l1, .int .i64 h1, .string p, .bool tw, .slice B3 m3 d3] 41)) (w2.heap.size + 1) w2.heap.size 3 1 (fun q => (homeF day ts i 0 q).map (Value.int .i64)) S) := by
              obtain ⟨S, h⟩ := HM.out
              exact ⟨S, h.gr ((Gr.refl _).alloc _)⟩
            obtain ⟨gb, hgb⟩ : ∃ gb, gb = wr.heap.size := ⟨_, rfl⟩
            have hgb2 : w2.heap.size + 1 ≤ gb := by omega
            rw [← hgb] at hrow ⊢
            generalize wr.alloc (.cells #[.int .i64 id, .slice A3 n3 c3, .int .u8 suf, .int .i64 l1, .int .i64 h1, .string p, .bool tw, .slice B3 m3 d3] 41) = W1 at hrow hg1 hz1 hM1 ⊢
            clear HM hgb e0 e1 e2 e3 e4 e5 e6 e7 hzr
            go_loopg [38] m3 (fun gg s38 wq => ∃ k : Nat, k ≤ m3 ∧ m3 - k ≤ gg ∧ s38 = .int .i64 k ∧ Gr w2 wq ∧ w2.heap.size + 1 ≤ wq.heap.size ∧ wq.heap[gb]? = some (.cells #[.int .i64 id, .slice A3 n3 c3, .int .u8 suf, .int .i64 l1, .int .i64 h1, .string p, .bool tw, .slice B3 m3 d3] 41 (0, 0)) ∧ Hid (∃ S, Grps Tryz.prog 3 (Value.int .i64) wq (w2.heap.size + 1) w2.heap.size 3 1 (fun q => (homeF day ts i k q).map (Value.int .i64)) S))
            case atStart => exact ⟨0, Nat.zero_le _, by omega, rfl, hg1, hz1, hrow, hM1⟩
            case round =>
              clear hM1 hrow hg1 hz1
              obtain ⟨k, hk, hgk, rfl, CW, hzq, hrow, HM⟩ := hrel
              by_cases hlk : k < m3
              · have hkz : (k : Int) < (m3 : Int) := by omega
                have hk0 : (0 : Int) ≤ (k : Int) := by omega
                obtain ⟨hsl, b0, o0, rfl, hb0, q0, q1, q2⟩ := (HST.out.gr (HG2.out.trans CW)).sty hlk
                obtain ⟨S, hG⟩ := HM.out
                have hsk := fun q => homeF_skip day ts i k q (by rw [HTS.out]; exact hsl)
                have hmo := homeF_more day ts i k hlt2 (by rw [HTS.out]; exact hsl)
                have hla := homeF_last day ts i k ts[i]!.stays[k]!.place hlt2 HSRT.out
                have hsv := HSV.out _ (mem_get hsl)
                rw [HTS.out] at hsk hmo hla
                dsimp only at hsk hmo hla hsl q0 q1 q2
                obtain ⟨Ar, nr, cr, hSv, hown⟩ := hG.slice stays[k]!.place
                generalize hst : stays[k]! = st at q0 q1 q2 hsk hmo hla hSv hown hsv
                obtain ⟨p1, f1, t1⟩ := st
                unfold Rng at hsv
                dsimp only at q0 q1 q2 hsk hmo hla hSv hown hsv
                obtain ⟨⟨y1, y2, y3, y4⟩, y5, y6⟩ := hsv
                have hnr : nr = (homeF day ts i k p1).length := by
                  have := hown.1
                  simpa using this.symm
                have hk1 := key_int p1 (by omega)
                have HG := hid hG
                have hlk1 : (Instr.lookup 63 (.map (some w2.heap.size)) (.int .i64 p1) false).run Tryz.prog (wr.alloc (.cells #[.int .i64 p1, .int .i64 f1, .int .i64 t1] 55)) = .ok (.slice Ar nr cr) (wr.alloc (.cells #[.int .i64 p1, .int .i64 f1, .int .i64 t1] 55)) := by
                  rw [← hSv]
                  exact (hG.gr ((Gr.refl wr).alloc _)).look keyed_int (fun p q h => int_inj p q h) Tryz.underlying63 hk1 (zero_ints _)
                have hlk2 : ∀ z, (Instr.lookup 63 (.map (some w2.heap.size)) (.int .i64 p1) false).run Tryz.prog ((wr.alloc (.cells #[.int .i64 p1, .int .i64 f1, .int .i64 t1] 55)).drewN z) = .ok (.slice Ar nr cr) ((wr.alloc (.cells #[.int .i64 p1, .int .i64 f1, .int .i64 t1] 55)).drewN z) := fun z => by
                  rw [← hSv]
                  exact ((hG.gr ((Gr.refl wr).alloc _)).gr ((Gr.refl _).drewN z)).look keyed_int (fun p q h => int_inj p q h) Tryz.underlying63 hk1 (zero_ints _)
                have HSV2 := hid hSv
                have HOWN := hid hown
                have HK := hid hk1
                have hrb := (Rd.of_own hown).gr ((Gr.refl wr).alloc (.cells #[.int .i64 p1, .int .i64 f1, .int .i64 t1] 55))
                have zgb : gb < wr.heap.size := (Array.getElem?_eq_some_iff.1 hrow).1
                obtain ⟨g0, _, _, _, _, _, _, _⟩ := cellsat8 hrow
                obtain ⟨last, hlast⟩ : ∃ last, last = (homeF day ts i k p1)[(homeF day ts i k p1).length - 1]! := ⟨_, rfl⟩
                obtain ⟨bb, hbb⟩ : ∃ bb : Bool, bb = (decide (f1 ≤ day) && (decide (day ≤ t1) && (decide (nr = 0) || decide (last ≠ id)))) := ⟨_, rfl⟩
                have hnil : homeF day ts i k p1 = [] ↔ nr = 0 := by rw [hnr]; exact List.length_eq_zero_iff.symm
                have HFA : Hid (bb = false → (fun q => (homeF day ts i (k + 1) q).map (Value.int .i64)) = (fun q => (homeF day ts i k q).map (Value.int .i64))) := hid (fun e => funext fun q => by
                  rw [hsk q]
                  rw [hbb] at e
                  by_cases hq : q = p1
                  · subst hq
                    by_cases h1 : f1 ≤ day
                    · by_cases h2 : day ≤ t1
                      · simp only [h1, h2, decide_true, Bool.true_and, Bool.or_eq_false_iff, decide_eq_false_iff_not, Decidable.not_not] at e
                        exact .inr (.inr (hla.2 ⟨fun h => e.1 (hnil.1 h), by rw [← hlast]; exact e.2⟩))
                      · exact .inl (by unfold onB; simp [h2])
                    · exact .inl (by unfold onB; simp [h1])
                  · exact .inr (.inl hq))
                have HTR : Hid (bb = true → (fun q => (homeF day ts i (k + 1) q).map (Value.int .i64)) = fun q => if q = p1 then (homeF day ts i k p1).map (Value.int .i64) ++ [.int .i64 id] else (homeF day ts i k q).map (Value.int .i64)) := hid (fun e => funext fun q => by
                  rw [hbb] at e
                  simp only [Bool.and_eq_true, Bool.or_eq_true, decide_eq_true_eq] at e
                  obtain ⟨e1, e2, e3⟩ := e
                  by_cases hq : q = p1
                  · subst hq
                    rw [if_pos rfl, hmo (by unfold onB; simp [e1, e2])]
                    · simp
                    · cases hc : (List.take k stays).any (atB day q) with
                      | false => rfl
                      | true =>
                        obtain ⟨k1, k2⟩ := hla.1 hc
                        rcases e3 with e3 | e3
                        · exact absurd (hnil.2 e3) k1
                        · exact absurd (hlast.trans k2) e3
                  · rw [if_neg hq, hsk q (.inr (.inl hq))])
                have HX : Hid (0 < nr → ∀ z, ((wr.alloc (.cells #[.int .i64 p1, .int .i64 f1, .int .i64 t1] 55)).drewN z).cell? ((Ar.getD ⟨0, 0, none⟩).add (nr - 1)) = some (.int .i64 last)) := hid (fun hp z => by
                  obtain ⟨b1, o1, rfl, hb1, hc1⟩ := hrb.at_ hp
                  have hx := hc1 (nr - 1) _ (Rd.get (zs := homeF day ts i k p1) (by omega))
                  rw [hlast, ← hnr]
                  have e : (⟨b1, o1, none⟩ : Addr).add (nr - 1) = ⟨b1, o1 + (nr - 1), none⟩ := Addr.add_lit _ _ _
                  show _ = some (Value.int .i64 (homeF day ts i k p1)[nr - 1]!)
                  simp only [Option.getD_some, e]
                  exact (((Gr.refl _).drewN z).cell hb1).trans hx)
                have HAr : Hid (0 < nr → ∃ b1 o1, Ar = some ⟨b1, o1, none⟩) := hid (fun hp => by
                  obtain ⟨b1, o1, e, _⟩ := hrb.at_ hp
                  exact ⟨b1, o1, e⟩)
                have hnb : nr ≤ maxLen := by
                  rcases hown.2 with ⟨_, h0⟩ | ⟨g', cap', cur', _, _, _, h3, h4, _⟩
                  · rw [h0]; exact Nat.zero_le _
                  · omega
                unfold maxLen at hnb
                have HNR := hid hnr
                have HLT := hid hlt2
                clear HM hG hSv hown hk1 hst hb0 y1 y2 y3 y4 hsk hmo hla hrb hnil hlast hnr hlt2
                have HBB := hid hbb
                clear hbb
                go_upto_region 14 with fail
                go_cut [73] (fun s73 wx => s73 = .bool bb ∧ ∃ z, wx = (wr.alloc (.cells #[.int .i64 p1, .int .i64 f1, .int .i64 t1] 55)).drewN z)
                case first =>
                  have HB2 := HBB.out
                  by_cases hf : f1 ≤ day
                  · by_cases ht : day ≤ t1
                    · have hd1 : decide (f1 ≤ day) = true := by simpa using hf
                      have hd2 : decide (day ≤ t1) = true := by simpa using ht
                      by_cases hz0 : nr = 0
                      · obtain rfl : bb = true := by rw [HB2]; simp [hf, ht, hz0]
                        clear HB2 HBB
                        subst hz0
                        go_quiet (fail)
                        go_wp2
                        go_meet
                        exact ⟨rfl, _, rfl⟩
                      · obtain ⟨b1, o1, rfl⟩ := HAr.out (by omega)
                        have hx := HX.out (by omega)
                        simp only [Option.getD_some, Addr.add_lit] at hx
                        have w1 : IntKind.i64.wrap ((nr : Int) - 1) = ((nr - 1 : Nat) : Int) := by rw [IntWalk.i64_in _ (by omega)]; omega
                        have w2' : (0 : Int) ≤ ((nr - 1 : Nat) : Int) := by omega
                        have w3 : ((nr - 1 : Nat) : Int) < (nr : Int) := by omega
                        obtain ⟨nm, hnm⟩ : ∃ nm, nm = nr - 1 := ⟨_, rfl⟩
                        rw [← hnm] at w1 w2' w3 hx
                        have HNM := hid hnm
                        have hb0 : ((nr : Int) == 0) = false := by simpa using hz0
                        clear hnm
                        by_cases hxi : last = id
                        · obtain rfl : bb = false := by rw [HB2]; simp [hz0, hxi]
                          have hb1 : (last != id) = false := by simpa using hxi
                          clear HB2 HBB
                          go_quiet (fail)
                          go_wp2
                          go_meet
                          exact ⟨rfl, _, rfl⟩
                        · obtain rfl : bb = true := by rw [HB2]; simp [hf, ht, hxi]
                          have hb1 : (last != id) = true := by simpa using hxi
                          clear HB2 HBB
                          go_quiet (fail)
                          go_wp2
                          go_meet
                          exact ⟨rfl, _, rfl⟩
                    · have hd1 : decide (f1 ≤ day) = true := by simpa using hf
                      have hd2 : decide (day ≤ t1) = false := by simpa using ht
                      obtain rfl : bb = false := by rw [HB2]; simp [ht]
                      clear HB2 HBB
                      go_quiet (fail)
                      go_wp2
                      go_meet
                      exact ⟨rfl, _, rfl⟩
                  · have hd1 : decide (f1 ≤ day) = false := by simpa using hf
                    obtain rfl : bb = false := by rw [HB2]; simp [hf]
                    clear HB2 HBB
                    go_quiet (fail)
                    go_wp2
                    go_meet
                    exact ⟨rfl, _, rfl⟩
                case rest =>
                  obtain ⟨rfl, z, rfl⟩ := hcut
                  have hW5 : Gr wr ((wr.alloc (.cells #[.int .i64 p1, .int .i64 f1, .int .i64 t1] 55)).drewN z) := ((Gr.refl _).alloc _).drewN z
                  have hc5 : ((wr.alloc (.cells #[.int .i64 p1, .int .i64 f1, .int .i64 t1] 55)).drewN z).cell? ⟨wr.heap.size, 0, none⟩ = some (.int .i64 p1) := by simp
                  have hz5 : ((wr.alloc (.cells #[.int .i64 p1, .int .i64 f1, .int .i64 t1] 55)).drewN z).heap.size = wr.heap.size + 1 := by simp
                  generalize (wr.alloc (.cells #[.int .i64 p1, .int .i64 f1, .int .i64 t1] 55)).drewN z = W5 at hW5 hc5 hz5 ⊢
                  have HW5 := hid hW5
                  have hz6 : wr.heap.size < W5.heap.size := by omega
                  clear hz5
                  cases bb with
                  | false =>
                    have HFB := hid (HFA.out rfl)
                    clear HFA HTR
                    go_wp2
                    go_roundg (m3 - (k + 1))
                    case measure => omega
                    case rel => exact ⟨k + 1, by omega, by omega, by go_num, CW.trans hW5, by omega, row_gr hrow hW5, hid ⟨S, by rw [HFB.out]; exact HG.out.gr hW5⟩⟩
                  | true =>
                    have HTB := hid (HTR.out rfl)
                    clear HFA HTR
                    have hrow5 := row_gr hrow hW5
                    have hg5 : W5.cell? ⟨gb, 0, none⟩ = some (.int .i64 id) := row_cell_at hrow5 0 rfl
                    have HR5 := hid hrow5
                    have G5 := HG.out.gr hW5
                    have hl1 : (Instr.lookup 63 (.map (some w2.heap.size)) (.int .i64 p1) false).run Tryz.prog W5.drew = .ok (.slice Ar nr cr) W5.drew := by
                      rw [← HSV2.out]
                      exact (G5.gr ((Gr.refl _).drew)).look keyed_int (fun p q h => int_inj p q h) Tryz.underlying63 HK.out (zero_ints _)
                    have hl2 : ∀ o, (Instr.lookup 63 (.map (some w2.heap.size)) (.int .i64 p1) false).run Tryz.prog (W5.alloc o).drew = .ok (.slice Ar nr cr) (W5.alloc o).drew := fun o => by
                      rw [← HSV2.out]
                      exact ((G5.gr ((Gr.refl _).alloc o)).gr ((Gr.refl _).drew)).look keyed_int (fun p q h => int_inj p q h) Tryz.underlying63 HK.out (zero_ints _)
                    have HOW5 := hid (own_gr2 HOWN.out hW5)
                    have GA := hid (fun o => G5.gr ((Gr.refl W5).alloc o))
                    have HC5 := hid (CW.trans hW5)
                    have hnb5 : nr ≤ 1000000 := by
                      have h1 := homeF_len day ts i k p1
                      rw [← HNR.out, HSL.out] at h1
                      omega
                    clear hrow5 G5 CW hW5 hrow hlk1 hlk2 g0
                    go_wp2
                    go_region_held3 (fun W => W.cell? ⟨wr.heap.size, 0, none⟩ = some (.int .i64 p1) ∧ W.cell? ⟨gb, 0, none⟩ = some (.int .i64 id))
                      (first
                        | exact ⟨hc5, hg5⟩
                        | exact keepg2 ⟨hc5, hg5⟩ (Gr.drew (Gr.refl _))
                        | exact keepg2 ⟨hc5, hg5⟩ (Gr.drew (Gr.alloc (Gr.refl _) _))
                        | exact keepg2 (by assumption) (Gr.alloc (Gr.refl _) _)
                        | exact keepg2 (by assumption) (Gr.alloc (Gr.drew (Gr.refl _)) _)
                        | exact keepgg2 (by assumption) hgrow (own_ne2 HOWN.out (Nat.le_refl _)) (own_ne HOW5.out HR5.out (by decide))
                        | exact keepgg2 (by assumption) hg2 (fun e => by injection e with e; omega) (fun e => by injection e with e; omega))
                      (first
                        | (refine step_append_lies _ (by rfl) (.tmp 80) (.tmp 83) 51 (by rfl) (w2.heap.size + 1) 3 i0 _ 1 8 Tryz.underlying51 HI0.out HZ0.out HS0.out HY0.out rfl (by decide) (.slice Ar nr cr) nr _ (by rfl) ((HOW5.out.alloc _).drew)
                            ⟨W5.heap.size, 0, none⟩ 1 1 [.int .i64 id] (by rfl) (by rfl) (World.news_of_block (cs := #[.int .i64 id]) (t := 3) (fr := (0, 0)) (heap_alloc_new W5 _)) (by simp [Value.oneCell'])
                            (by omega) (by unfold maxLen; omega) (by omega) (by simp; omega) (W5.heap.size + 1) (by simp) ?_; intro gq cap w1 hown1 hgrow hat hlt; obtain ⟨w2x, hrun, hM2, hg2, hs2⟩ := (grps_map ((GA.out _).gr ((Gr.refl _).drew)) HSV2.out hgrow).put keyed_int (fun p q h => int_inj p q h) Tryz.underlying63 HK.out (.slice (some ⟨gq, 0, none⟩) (nr + 1) cap)))
                    all_goals
                      have g1 : (W5.alloc (.cells #[.int .i64 id] 3)).drew.grownBy w1 (S p1).ownBlock := by rw [HSV2.out]; exact hgrow
                      have gw1 : Gr w2 w1 := Gr.grown (Gr.drew (Gr.alloc HC5.out _)) hgrow (fun kk hkk => by have := (HOW5.out.lt kk hkk).1; omega)
                      have gw2 : Gr w2 w2x := Gr.grown gw1 hg2 (fun kk hkk => by injection hkk with hkk; omega)
                      have hz2 : w2.heap.size + 1 ≤ w2x.heap.size := by have h1 := hgrow.size; simp at h1; omega
                      have hb2 := (hg2.block gb (by have := hgrow.size; simp at this; omega) (fun e => by injection e with e; omega)).trans ((hgrow.block gb (by simp; omega) (own_ne HOW5.out HR5.out (by decide))).trans (al_keep HR5.out (.cells #[.int .i64 id] 3)))
                      have hB := ((GA.out _).gr ((Gr.refl _).drew)).back g1 hown1 (by simp) (by
                        rcases hat with h | h
                        · exact .inl (by rw [HSV2.out]; exact h.symm)
                        · exact .inr ⟨gq, rfl, by simp; omega⟩) hM2 hg2
                      have HB := hid (show ∃ S, Grps Tryz.prog 3 (Value.int .i64) w2x (w2.heap.size + 1) w2.heap.size 3 1 (fun q => (homeF day ts i (k + 1) q).map (Value.int .i64)) S from ⟨_, by rw [HTB.out]; exact hB⟩)
                      have HW2 := hid gw2
                      clear hB gw2 gw1 g1 hM2 hg2 hs2 hown1 hgrow hat hlt hrun hl1 hl2 hc5 hg5
                      go_wp2
                      go_roundg (m3 - (k + 1))
                      case measure => omega
                      case rel => exact ⟨k + 1, by omega, by omega, by go_num, HW2.out, hz2, hb2, HB⟩
              · obtain rfl : k = m3 := by omega
                have hkz : ¬ (k : Int) < (k : Int) := by omega
                go_wp2
                go_roundg (n - (i + 1))
                case measure => omega
                case rel =>
                  refine ⟨i + 1, by omega, by omega, by go_num, CW, hzq, hid ?_⟩
                  obtain ⟨S, h⟩ := HM.out
                  refine ⟨S, ?_⟩
                  have e : (fun q => (homeF day ts i k q).map (Value.int .i64)) = (fun q => (homeF day ts (i + 1) 0 q).map (Value.int .i64)) := by
                    funext q
                    rw [← homeF_done day ts i q hlt2, HTS.out]
                    dsimp only
                    rw [HML.out]
                  rw [← e]
                  exact h
          · obtain rfl : i = n := by omega
            have hiz : ¬ (i : Int) < (i : Int) := by omega
            obtain ⟨S, hG⟩ := HM.out
            have hF : (fun q => (homeF day ts i 0 q).map (Value.int .i64)) = fun q => (homeL day q ts).map (Value.int .i64) := by
              funext q
              rw [homeF_zero, List.take_of_length_le (Nat.le_of_eq HSL.out)]
            rw [hF] at hG
            have hts : ∀ r ∈ ts, r.ok = true := by
              intro r hr
              rw [← J2.out] at hr
              obtain ⟨e, he, rfl⟩ := List.mem_map.1 hr
              exact (J3.out e he).1
            have hpl : (placesL day ts).length ≤ 1000 := by
              have h1 := placesL_len day ts (fun r hr => (ok_stays (hts r hr)).1)
              rw [HSL.out] at h1
              omega
            have hkb : ∀ q ∈ placesL day ts, 0 ≤ q ∧ q ≤ 99999 := by
              intro q hq
              obtain ⟨r, hr, s, hs, rfl⟩ := placesL_mem hq
              exact (ok_stays (hts r hr)).2 s hs
            have hbm : w2.heap.size < wr.heap.size := by omega
            have HSO : Hid (Calls Tryz.prog 22 #[.func (.func 39) #[] #[.pointer (some ⟨wr.heap.size, 0, none⟩)]] (wr.alloc (.cells #[.map (some w2.heap.size)] 63)) fun e w' => ∃ Av cv, e = .returned (.slice Av (placesL day ts).length cv) ∧ Rd w' 1 Av (placesL day ts).length ((placesL day ts).map (Value.int .i64)) ∧ Gr (wr.alloc (.cells #[.map (some w2.heap.size)] 63)) w') := by
              refine (sorted_call w2.heap.size wr.heap.size (fun q => if (homeL day q ts).map (Value.int .i64) = [] then none else some (S q)) (placesL day ts) _ (hG.1.alloc _) (fun q v hq => ?_) (by omega) (by simp) (by simp)).mono ?_
              · rw [← homeL_ne]
                intro e
                rw [e] at hq
                simp at hq
              · rintro e w' ⟨v, ps, rfl, h1, h2, h3, h4⟩
                have hps : ps = placesL day ts := asc_eq h1 (foldr_insP _).1 (fun y => by
                  rw [h2, ← homeL_ne]
                  constructor
                  · rintro ⟨v, hv⟩ e
                    rw [e] at hv
                    simp at hv
                  · intro e
                    exact ⟨S y, by rw [if_neg (by simpa using e)]⟩)
                subst hps
                obtain ⟨A', c', e'⟩ := own_slice h3
                subst e'
                exact ⟨A', c', rfl, Rd.of_own h3, h4⟩
            obtain ⟨ps, hps⟩ : ∃ ps, ps = placesL day ts := ⟨_, rfl⟩
            have HPS := hid hps
            rw [← hps] at hpl hkb HSO
            obtain ⟨m, hm⟩ : ∃ m, m = ps.length := ⟨_, rfl⟩
            have HMM := hid hm
            rw [← hm] at hpl HSO
            have mz : (m : Int) ≤ 1000 := by omega
            have HKB := hid hkb
            have HG := hid hG
            have HBW := hid BW
            clear HM hG hF hts hkb hps hm BW
            go_wp2_with (first
              | (go_at_call 23; refine (keys_call _ _).mono ?_; rintro e w3 ⟨rfl, rfl⟩)
              | (go_at_call 22; refine HSO.out.mono ?_; rintro e w4 ⟨Av, cv, rfl, hrd, hbw4⟩; have HRD := hid hrd; clear hrd; obtain ⟨hcw4, hfw4, hzw4⟩ := hbw4.rules; (try simp at hzw4)))
            have HG4 := hid (((Gr.refl wr).alloc _).trans hbw4)
            have hz4 : wr.heap.size < w4.heap.size := by omega
            have HO0 : Hid (w4.ownsRow w4.heap.size 51 1 (.slice none 0 0) 0 ((ps.take 0).map S)) := World.ownsRow_nil _ _ _ _
            clear hbw4 hcw4 hfw4 hzw4
            go_loopg [13, 91] m (fun gg s13 s91 wq => ∃ k : Nat, k ≤ m ∧ m - k ≤ gg ∧ s91 = .int .i64 k ∧ Gr w4 wq ∧ Hid (wq.ownsRow w4.heap.size 51 1 s13 k ((ps.take k).map S)))
            case atStart => exact ⟨0, Nat.zero_le _, by omega, rfl, Gr.refl _, HO0⟩
            case round =>
              clear HO0
              obtain ⟨k, hk, hgk, rfl, CW, HO⟩ := hrel
              by_cases hlk : k < m
              · have hkz : (k : Int) < (m : Int) := by omega
                have hk0 : (0 : Int) ≤ (k : Int) := by omega
                obtain ⟨b1, o1, rfl, hb1, hc1⟩ := (HRD.out.gr CW).at_ (by omega)
                have hkl : k < ps.length := by rw [← HMM.out]; exact hlk
                have q0 := hc1 k _ (Rd.get hkl)
                have hkey := HKB.out _ (mem_get hkl)
                have HTK : Hid ((ps.take (k + 1)).map S = (ps.take k).map S ++ [S ps[k]!]) := by
                  unfold Hid
                  rw [List.take_succ_eq_append_getElem hkl, getElem!_pos ps k hkl, List.map_append]
                  rfl
                obtain ⟨Ar, nr, cr, hSv, _⟩ := HG.out.slice ps[k]!
                generalize ps[k]! = p1 at q0 hkey HTK hSv
                have hk1 := key_int p1 (by omega)
                have hlk1 : (Instr.lookup 63 (.map (some w2.heap.size)) (.int .i64 p1) false).run Tryz.prog wr = .ok (.slice Ar nr cr) wr := by
                  rw [← hSv]
                  exact (HG.out.gr (HG4.out.trans CW)).look keyed_int (fun p q h => int_inj p q h) Tryz.underlying63 hk1 (zero_ints _)
                have HSV := hid hSv
                have hsz := CW.size
                clear hc1 hb1 hkl hk1 hSv hkey
                go_wp2_with ((with_reducible show wpList _ _ _ (⟨some 100, _, _, _, _, _⟩ :: _) _ _); (refine wpList_append_own_at _ rfl (.tmp 95) (.tmp 99) 45 rfl w4.heap.size 51 i1 _ 1 24 Tryz.underlying45 HI1.out HZ1.out HS1.out HY1.out rfl (by decide) _ _ _ rfl (own_gr2 HO.out ?_) ⟨_, 0, none⟩ 1 1 [.slice Ar nr cr] rfl rfl ?_ ?_ ?_ ?_ ?_ ?_); rotate_right; intro v' w9 hown hgrow _ _)
                · go_roundg (m - (k + 1))
                  case measure => omega
                  case rel =>
                    refine ⟨k + 1, by omega, by omega, by go_num, (CW.alloc _).grown hgrow (fun kk hkk => (HO.out.lt kk hkk).1), hid ?_⟩
                    rw [HTK.out, HSV.out]
                    exact hown
                · (repeat (first | with_reducible exact Gr.refl _ | with_reducible refine Gr.alloc ?_ _ | with_reducible refine Gr.setCell ?_ (by simp) _ | with_reducible refine Gr.setCell ?_ (by simp; omega) _ | with_reducible refine Gr.drew ?_ | with_reducible refine Gr.drewN ?_ _))
                · exact World.news_of_block (cs := #[.slice Ar nr cr]) (t := 51) (fr := (0, 0)) (heap_alloc_new wr _)
                · simp [Value.oneCell']
                · unfold maxLen; omega
                · omega
                · simp; omega
              · obtain rfl : k = m := by omega
                have hkz : ¬ (k : Int) < (k : Int) := by omega
                go_wp2
                go_ret2
                refine ⟨_, rfl, ?_, HG2.out.trans (HBW.out.trans (HG4.out.trans CW))⟩
                have ho := HO.out
                rw [List.take_of_length_le (Nat.le_of_eq HMM.out.symm)] at ho
                obtain ⟨A9, c9, e9⟩ := own_slice ho
                subst e9
                have hlen : (homesK day ts).length = k := by unfold homesK; rw [List.length_map, ← HPS.out, HMM.out]
                refine ⟨A9, c9, ps.map S, by rw [hlen]; rfl, by rw [hlen]; exact Rd.of_own ho, fun j hj => ?_⟩
                rw [hlen] at hj
                have hjl : j < ps.length := by rw [← HMM.out]; exact hj
                have e1 : (homesK day ts)[j]! = homeL day ps[j]! ts := by
                  unfold homesK
                  rw [← HPS.out, getElem!_pos _ j (by simpa using hjl), getElem!_pos ps j hjl]
                  simp
                obtain ⟨Ar, nr, cr, hSv, hown⟩ := (HG.out.gr (HG4.out.trans CW)).slice ps[j]!
                have hnr : nr = (homeL day ps[j]! ts).length := by have := hown.1; simpa using this.symm
                refine ⟨Ar, cr, ?_, ?_⟩
                · rw [e1, ← hnr, ← hSv, List.getElem?_map, List.getElem?_eq_getElem hjl, getElem!_pos ps j hjl]
                  rfl
                · rw [e1, ← hnr]
                  exact Rd.of_own hown
      · (repeat (first | with_reducible exact Gr.refl _ | with_reducible refine Gr.trans ?_ hbw1 | with_reducible refine Gr.alloc ?_ _ | with_reducible refine Gr.setCell ?_ (by simp) _ | with_reducible refine Gr.setCell ?_ (by simp; omega) _ | with_reducible refine Gr.drew ?_ | with_reducible refine Gr.drewN ?_ _))
      · simp
      · simp
    · rw [if_neg hz]
      obtain ⟨E, hEE⟩ : ∃ E, E = recsE rs := ⟨_, rfl⟩
      rw [← hEE] at HL hz ⊢
      have HL2 : Hid (∀ W, Gr w W → Calls Tryz.prog 21 #[.slice A es.length cap] W fun e w' => e = .returned (.tuple #[.slice none 0 0, .int .i64 E]) ∧ Gr W w') := fun W g => (HL.out W g).mono (fun e w' h => by
        rcases h with h | h
        · exact ⟨h.2.1, h.2.2⟩
        · exact absurd h.1 hz)
      clear hI hE HL hEE hd0 hrs
      go_enter Tryz.func11, Tryz.ntmps11
      go_wp2_with (first
        | (go_at_call 16; (with_reducible refine (within_one 0 100000 day _ HD0.out _ _ _ ?_ ?_).mono ?_); rotate_right; rintro e w1 ⟨rfl, hbw1⟩; obtain ⟨hcw1, hfw1, hzw1⟩ := hbw1.rules; (try simp at hzw1))
        | (go_at_call 21; (with_reducible refine (HL2.out _ ?_).mono ?_); rotate_right; rintro e w2 ⟨rfl, hbw2⟩; obtain ⟨hcw2, hfw2, hzw2⟩ := hbw2.rules; (try simp at hzw2)))
      · go_ret2
        exact ⟨_, rfl, ListsIn.nil_ _, by (repeat (first | with_reducible exact Gr.refl _ | with_reducible refine Gr.trans ?_ hbw2 | with_reducible refine Gr.trans ?_ hbw1 | with_reducible refine Gr.alloc ?_ _ | with_reducible refine Gr.setCell ?_ (by simp) _ | with_reducible refine Gr.setCell ?_ (by simp; omega) _ | with_reducible refine Gr.drew ?_ | with_reducible refine Gr.drewN ?_ _))⟩
      · (repeat (first | with_reducible exact Gr.refl _ | with_reducible refine Gr.trans ?_ hbw1 | with_reducible refine Gr.alloc ?_ _ | with_reducible refine Gr.setCell ?_ (by simp) _ | with_reducible refine Gr.setCell ?_ (by simp; omega) _ | with_reducible refine Gr.drew ?_ | with_reducible refine Gr.drewN ?_ _))
      · simp
      · simp
end Go.Proofs.YtlkjimfkapcenaaGreatDoor
