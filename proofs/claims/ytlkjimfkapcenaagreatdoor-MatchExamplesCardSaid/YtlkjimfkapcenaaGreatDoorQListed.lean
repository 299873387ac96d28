/- listed of the package match: records by their Ids, or the error. For all lists of records. -/
import Derived.Carry
import Derived.Test.YtlkjimfkapcenaaGreatDoorQOrdered
import Derived.Test.YtlkjimfkapcenaaGreatDoorQMapIs
import Derived.Test.YtlkjimfkapcenaaGreatDoorQPlaces
namespace Go.Proofs.YtlkjimfkapcenaaGreatDoor
open Go.RowKit Go.Maps

theorem nodup_le {qs L : List Int} (h : qs.Nodup) (hs : ∀ q ∈ qs, q ∈ L) : qs.length ≤ L.length := by
  induction qs generalizing L with
  | nil => simp
  | cons q qs ih =>
    obtain ⟨h1, h2⟩ := List.nodup_cons.1 h
    have hq : q ∈ L := hs q (by simp)
    have := ih (L := L.erase q) h2 (fun x hx => (List.mem_erase_of_ne (show x ≠ q from fun e => h1 (by rw [← e]; exact hx))).2 (hs x (by simp [hx])))
    rw [List.length_erase_of_mem hq] at this
    have hp := List.length_pos_of_mem hq
    simp only [List.length_cons]
    omega
theorem dup_short {L : List Int} (h : ¬ L.Nodup) : ∃ L' : List Int, (∀ x, x ∈ L → x ∈ L') ∧ L'.length < L.length := by
  induction L with
  | nil => exact absurd List.nodup_nil h
  | cons x L ih =>
    by_cases hx : x ∈ L
    · refine ⟨L, fun y hy => ?_, by simp⟩
      rcases List.mem_cons.1 hy with rfl | h
      · exact hx
      · exact h
    · have : ¬ L.Nodup := fun hn => h (List.nodup_cons.2 ⟨hx, hn⟩)
      obtain ⟨L', h1, h2⟩ := ih this
      refine ⟨x :: L', fun y hy => ?_, by simp only [List.length_cons]; omega⟩
      rcases List.mem_cons.1 hy with rfl | h
      · exact List.mem_cons_self
      · exact List.mem_cons_of_mem _ (h1 y h)

/-- len of a map whose keys are those of a list. -/
theorem MapIs.len {P : Program} {k E t : TypeId} {w : World} {b : Nat} {L : List Int} {v : Value} (h : MapIs P k (Value.int .i64) w b (fun q => if q ∈ L then some v else none)) (ht : P.underlying t = some (.map k E)) :
    ∃ n : Nat, (∀ ty, (Builtin.len_ #[t] ty #[.map (some b)]).run P w = .ok (.int .i64 n) w) ∧ n ≤ L.length ∧ (n < L.length ↔ ¬ L.Nodup) := by
  obtain ⟨es, clock, hb, hs, h1, h2⟩ := h
  have hp := ((Go.MapKept.stamped_iff es clock).1 hs).2.2
  obtain ⟨qs, hq⟩ : ∃ qs : List Int, es.toList.map (·.key) = qs.map (Value.int .i64) := by
    have : ∀ xs : List MapEntry, (∀ x ∈ xs, ∃ q, x.key = Value.int .i64 q) → ∃ qs : List Int, xs.map (·.key) = qs.map (Value.int .i64) := by
      intro xs
      induction xs with
      | nil => exact fun _ => ⟨[], rfl⟩
      | cons x xs ih =>
        intro hx
        obtain ⟨qs, e⟩ := ih (fun y hy => hx y (by simp [hy]))
        obtain ⟨q, e'⟩ := hx x (by simp)
        exact ⟨q :: qs, by simp [e, e']⟩
    exact this _ (fun x hx => by obtain ⟨q, _, e, _⟩ := h1 x hx; exact ⟨q, e⟩)
  have hl : es.size = qs.length := by have := congrArg List.length hq; simpa using this
  have hnd : qs.Nodup := by
    have h3 : (es.toList.map (·.key)).Pairwise (fun x y => x ≠ y) := by
      rw [List.pairwise_map]
      exact hp.imp (fun h => by first | exact h | exact fun e => h e | exact fun e => h e.symm)
    rw [hq, List.pairwise_map] at h3
    exact h3.imp (fun h e => h (by rw [e]))
  have hmem : ∀ q, q ∈ qs ↔ q ∈ L := by
    intro q
    constructor
    · intro hqm
      have : Value.int .i64 q ∈ es.toList.map (·.key) := by rw [hq]; exact List.mem_map_of_mem hqm
      obtain ⟨x, hx, e⟩ := List.mem_map.1 this
      obtain ⟨p, _, e1, _, e2⟩ := h1 x hx
      have : p = q := int_inj p q (e1.symm.trans e)
      subst this
      by_cases hL : p ∈ L
      · exact hL
      · simp [hL] at e2
    · intro hqL
      obtain ⟨x, hx, e⟩ := h2 q v (by simp [hqL])
      have : Value.int .i64 q ∈ es.toList.map (·.key) := by rw [← e]; exact List.mem_map_of_mem hx
      rw [hq] at this
      obtain ⟨p, hp, e⟩ := List.mem_map.1 this
      rw [← int_inj p q e]; exact hp
  have hle := nodup_le hnd (fun q h => (hmem q).1 h)
  refine ⟨es.size, ?_, by omega, ?_⟩
  · intro ty
    simp [Builtin.len_, run_underlying ht, MapKept.run_getObj_map hb, goInt, Result.andThen]
  · rw [hl]
    constructor
    · intro hlt hn
      have := nodup_le hn (fun q h => (hmem q).2 h)
      omega
    · intro hn
      obtain ⟨L', h3, h4⟩ := dup_short hn
      have := nodup_le hnd (fun q h => h3 q ((hmem q).1 h))
      omega

/-- The error of a list of records. -/
def recsE (rs : List Rcd) : Int := if 24 < rs.length then 4 else if rs.all Rcd.ok then (if (rs.map (·.id)).Nodup then 0 else 12) else 11
def seenF (L : List Int) (q : Int) : Option Value := if q ∈ L then some (.bool true) else none
def idsE (es : List Elt) : List Int := es.map (fun e => e.r.id)
theorem recsE_ids (es : List Elt) : (es.map (·.r)).map (·.id) = idsE es := by simp [idsE]
theorem seen_more (es : List Elt) (i : Nat) (hi : i < es.length) : (fun p => if p = es[i].r.id then some (Value.bool true) else seenF (idsE (es.take i)) p) = seenF (idsE (es.take (i + 1))) := by
  funext p
  unfold seenF idsE
  simp only [List.take_succ_eq_append_getElem hi, List.map_append, List.mem_append, List.map_cons, List.map_nil, List.mem_singleton]
  by_cases h : p = es[i].r.id
  · simp [h]
  · simp [h]
theorem ok_id {r : Rcd} (h : r.ok = true) : 0 ≤ r.id ∧ r.id ≤ 999999 := by
  unfold Rcd.ok inB at h
  simp only [Bool.and_eq_true, decide_eq_true_eq] at h
  omega
theorem distinct_ids {es : List Elt} (h : (idsE es).Nodup) : es.Pairwise (fun x y => x.r.id ≠ y.r.id) := by
  unfold idsE List.Nodup at h
  rwa [List.pairwise_map] at h

set_option maxRecDepth 100000 in
set_option maxHeartbeats 4000000 in
theorem listed_any (es : List Elt) (A : Option Addr) (cap : Nat) (w : World) (hI : RdE w A es.length es) (hE : ∀ e ∈ es, e.r.In w e.A e.n e.B e.m) (hbig : es.length ≤ 9223372036854775807) :
    Calls Tryz.prog 21 #[.slice A es.length cap] w fun e w' => (recsE (es.map (·.r)) ≠ 0 ∧ e = .returned (.tuple #[.slice none 0 0, .int .i64 (recsE (es.map (·.r)))]) ∧ Gr w w') ∨
      (recsE (es.map (·.r)) = 0 ∧ ∃ v, e = .returned (.tuple #[v, .int .i64 0]) ∧ OrdOf es w w' v) := by
  by_cases h24 : 24 < es.length
  · have hr : recsE (es.map (·.r)) = 4 := by unfold recsE; rw [if_pos (by simpa using h24)]
    rw [hr]
    have hz : (24 : Int) < (es.length : Int) := by omega
    clear hI hE
    go_enter Tryz.func21, Tryz.ntmps21
    go_wp2
    go_ret2
    exact .inl ⟨by decide, rfl, Gr.refl w⟩
  · have hz : ¬ (24 : Int) < (es.length : Int) := by omega
    have HO := hid (fun W (g : Gr w W) hd => ordered_any es A cap W (hI.gr g) (by omega) hd)
    have HR := hid (fun (e : Elt) (he : e ∈ es) W (g : Gr w W) => recorded_any e.r e.A e.n e.c e.B e.m e.d W ((hE e he).gr g))
    have HI := hid hI
    clear hI hE
    obtain ⟨N, hN⟩ : ∃ N, N = es.length := ⟨_, rfl⟩
    have HN := hid hN
    rw [← hN] at hz h24 hbig ⊢
    clear hN
    have hmm := @run_makeMap Tryz.prog
    go_enter Tryz.func21, Tryz.ntmps21
    go_wp2
    have hM : MapIs Tryz.prog 3 (Value.int .i64) (w.alloc (.map #[] 0)) w.heap.size (seenF (idsE (es.take 0))) := (MapIs.new w).congr (fun q => by simp [seenF, idsE])
    have hG : Gr w (w.alloc (.map #[] 0)) := (Gr.refl w).alloc _
    have hlt0 : w.heap.size < (w.alloc (.map #[] 0)).heap.size := by simp
    generalize w.alloc (.map #[] 0) = W0 at hM hG hlt0 ⊢
    have HM := hid hM
    have HG := hid hG
    clear hM hG
    go_loopg [13] N (fun kx s13 wr => ∃ i : Nat, s13 = .int .i64 i ∧ i ≤ N ∧ N - i ≤ kx ∧ Hid (∀ j, (h : j < es.length) → j < i → es[j].r.ok = true) ∧ Hid (MapIs Tryz.prog 3 (Value.int .i64) wr w.heap.size (seenF (idsE (es.take i)))) ∧ Hid (Gr w wr))
    case atStart => exact ⟨0, rfl, Nat.zero_le _, by omega, hid (fun j _ h => absurd h (Nat.not_lt_zero _)), HM, HG⟩
    case round =>
      clear HM HG
      obtain ⟨i, rfl, hi, hkx, HK, HM, HG⟩ := hrel
      by_cases hlt : i < N
      · have hlz : (i : Int) < (N : Int) := by omega
        have hi' : i < es.length := by rw [← HN.out]; exact hlt
        obtain ⟨b, off, rfl, hb, hh⟩ := HI.out.2 (by omega)
        have hbr : b < wr.heap.size := Nat.lt_of_lt_of_le hb HG.out.size
        obtain ⟨c0, c1, c2, c3, c4, c5, c6, c7⟩ := ((hh i es[i] (by simp [hi'])).below HG.out hb).all
        have HE := hid (HR.out es[i] (List.getElem_mem hi'))
        have HS := hid (seen_more es i hi')
        have HKi := hid (HK.out)
        clear hh HI
        obtain ⟨x, hx⟩ : ∃ x, x = es[i] := ⟨_, rfl⟩
        have HX := hid hx
        rw [← hx] at c0 c1 c2 c3 c4 c5 c6 c7 HE HS
        clear hx
        unfold Rcd.val at HE
        cases hok : x.r.ok with
        | false =>
          rw [hok] at HE
          go_wp2_with ((go_at_call 29; (with_reducible refine (HE.out _ ?_).mono ?_); rotate_right; rintro e w1 ⟨rfl, hbw1⟩; obtain ⟨hcw1, hfw1, hzw1⟩ := hbw1.rules; (try simp at hzw1)))
          · go_ret2
            have hr : recsE (es.map (·.r)) = 11 := by
              unfold recsE
              rw [if_neg (by rw [List.length_map, ← HN.out]; exact h24), if_neg]
              intro hall
              have := List.all_eq_true.1 hall x.r (by rw [HX.out]; exact List.mem_map_of_mem (List.getElem_mem hi'))
              rw [hok] at this
              cases this
            rw [hr]
            exact .inl ⟨by decide, rfl, (HG.out.alloc _).trans hbw1⟩
          · exact HG.out.alloc _
        | true =>
          rw [hok] at HE
          have hid1 := ok_id hok
          have hbx : w.heap.size < wr.heap.size := HM.out.lt
          have hwr : wr.heap.size < (wr.alloc (.cells #[.int .i64 x.r.id, .slice x.A x.n x.c, .int .u8 x.r.suffix, .int .i64 x.r.lo, .int .i64 x.r.hi, .string x.r.number, .bool x.r.twin, .slice x.B x.m x.d] 41)).heap.size := by simp
          go_wp2_with (first
            | ((go_at_call 29; (with_reducible refine (HE.out _ ?_).mono ?_); rotate_right; rintro e w1 ⟨rfl, hbw1⟩; obtain ⟨hcw1, hfw1, hzw1⟩ := hbw1.rules; (try simp at hzw1); have hzw1_0 : wr.heap.size < w1.heap.size := (by omega); have hyw1_0 : wr.heap.size ≤ w1.heap.size := (by omega)))
            | (refine wpList_mapUpdate_is (Value.int .i64) _ rfl _ _ _ _ rfl keyed_int (fun p q => int_inj p q) Tryz.underlying82 w.heap.size (seenF (idsE (es.take i))) rfl ((HM.out.alloc _).gr hbw1) x.r.id (.bool true) (.int .i64 x.r.id) rfl rfl (key_int _ (by omega)) ?_; intro w2 hm2 hg2 hz2; have HM2 := hid hm2; have HG2 := hid hg2; clear hm2 hg2))
          · go_roundg (N - (i + 1))
            case measure => omega
            case rel =>
              refine ⟨i + 1, by first | rfl | simp, by omega, Nat.le_refl _, hid (fun j hj hji => ?_), hid ?_, hid (((HG.out.alloc _).trans hbw1).grown HG2.out (fun k e => by cases e; exact Nat.le_refl _))⟩
              · rcases Nat.lt_succ_iff_lt_or_eq.1 hji with h | rfl
                · exact HKi.out j hj h
                · rw [← HX.out]; exact hok
              · have h := HM2.out
                rw [HS.out] at h
                exact h
          · exact HG.out.alloc _
      · obtain rfl : i = N := by omega
        have hlz : ¬ (i : Int) < (i : Int) := by omega
        have ht : es.take i = es := by rw [HN.out]; exact List.take_length
        have hM := HM.out
        rw [ht] at hM
        obtain ⟨n, hlen, hle, hiff⟩ := MapIs.len (v := .bool true) (hM.congr (fun q => rfl)) Tryz.underlying82
        have hil : (idsE es).length = i := by simp [idsE, HN.out]
        rw [hil] at hle hiff
        have hrec : recsE (es.map (·.r)) = if (idsE es).Nodup then 0 else 12 := by
          unfold recsE
          rw [if_neg (by rw [List.length_map, ← HN.out]; exact h24), if_pos, recsE_ids]
          refine List.all_eq_true.2 (fun r hr => ?_)
          obtain ⟨e, he, rfl⟩ := List.mem_map.1 hr
          obtain ⟨j, hj, rfl⟩ := List.getElem_of_mem he
          exact HK.out j hj (by rw [HN.out]; exact hj)
        have HREC := hid hrec
        clear hM hrec ht hil
        by_cases hnd : (idsE es).Nodup
        · have hn : ¬ (n : Int) < (i : Int) := fun h => (hiff.1 (by omega)) hnd
          have HND := hid hnd
          have ho := HO.out wr HG.out (distinct_ids hnd)
          rw [← HN.out] at ho
          have HO2 := hid ho
          clear ho
          clear hiff hnd
          go_wp2_with (go_at_call 35; refine HO2.out.mono ?_; rintro e w1 ⟨v, rfl, hv⟩; have HV := hid hv; clear hv)
          go_ret2
          refine .inr ⟨by rw [HREC.out, if_pos HND.out], v, rfl, ?_⟩
          obtain ⟨A2, c2, es', h1, h2, h3, h4, h5⟩ := HV.out
          exact ⟨A2, c2, es', h1, h2, h3, h4, HG.out.trans h5⟩
        · have hn : (n : Int) < (i : Int) := by have := hiff.2 hnd; omega
          have HND := hid hnd
          clear hiff hnd
          go_wp2
          go_ret2
          rw [HREC.out, if_neg HND.out]
          exact .inl ⟨by decide, rfl, HG.out⟩
end Go.Proofs.YtlkjimfkapcenaaGreatDoor
