/- ordered of the package match: records by their Ids, in new memory. For fewer than forty records, no two of one Id. -/
import Derived.Test.YtlkjimfkapcenaaGreatDoorQAmong
import Derived.Test.YtlkjimfkapcenaaGreatDoorQOrdCmp
import Derived.Test.YtlkjimfkapcenaaGreatDoorQStable
namespace Go.Proofs.YtlkjimfkapcenaaGreatDoor
open Go.RowKit Go.Shelf Go.Sort

theorem flatE_get (es : List Elt) (j : Nat) (hj : j < es.length * 8) : (flatE es)[j]? = some (es.toArray[j / 8]!.cells[j % 8]!) := by
  induction es generalizing j with
  | nil => simp at hj
  | cons e es ih =>
    have hl : (e.cells ++ flatE es).length = 8 + es.length * 8 := by rw [List.length_append, e.len, flatE_len]
    show (e.cells ++ flatE es)[j]? = _
    by_cases h : j < 8
    · rw [List.getElem?_append_left (by rw [e.len]; exact h)]
      have h0 : j / 8 = 0 := by omega
      have h1 : j % 8 = j := by omega
      rw [h0, h1]
      have : j < e.cells.length := by rw [e.len]; exact h
      simp [this]
    · rw [List.getElem?_append_right (by rw [e.len]; omega), e.len, ih (j - 8) (by simp at hj; omega)]
      have h0 : j / 8 = (j - 8) / 8 + 1 := by omega
      have h1 : (j - 8) % 8 = j % 8 := by omega
      rw [h0, h1]
      have h2 : (j - 8) / 8 < es.length := by simp at hj; omega
      simp [h2]

theorem holds_own {W : World} {g : Nat} {cur : Array Value} {t : TypeId} {es : List Elt} (h : W.heap[g]? = some (.cells cur t (0, 0))) (hx : cur.toList.take (es.length * 8) = flatE es) : HoldsK Elt.cells 8 W g 0 es.toArray := by
  intro j hj
  rw [size_flatK] at hj
  have hj' : j < es.length * 8 := by simpa using hj
  have e1 : (cur.toList.take (es.length * 8))[j]? = some (es.toArray[j / 8]!.cells[j % 8]!) := by rw [hx]; exact flatE_get es j hj'
  rw [List.getElem?_take, if_pos hj', Array.getElem?_toList] at e1
  refine ⟨?_, by simp [World.frozen?, h]⟩
  rw [Nat.zero_add, cell_of_row W g j cur t _ h, e1, get_flatK _ _ _ _ hj]
  rfl

theorem rdE_holds {W : World} {g : Nat} {d : Array Elt} (h : HoldsK Elt.cells 8 W g 0 d) (hg : g < W.heap.size) : RdE W (some ⟨g, 0, none⟩) d.size d.toList := by
  refine ⟨by simp, fun _ => ⟨g, 0, rfl, hg, fun j e he k u hu => ?_⟩⟩
  have hj : j < d.size := by
    rcases Nat.lt_or_ge j d.size with h1 | h1
    · exact h1
    · rw [List.getElem?_eq_none (by simpa using h1)] at he; cases he
  have e1 : d[j]! = e := by
    rw [getElem!_pos d j hj]
    simp [hj] at he
    exact he
  have := HoldsK.cells h Elt.len hj k u (by rw [e1]; exact hu)
  rwa [Addr.add_lit] at this

theorem gr_sortWorld {w W W' : World} {g : Nat} {d' : Array Elt} (h : Gr w W) (S : SWK Elt.cells 8 W g 0 d' W') (hg : w.heap.size ≤ g) : Gr w W' := by
  obtain ⟨n, os, rfl⟩ := S
  have hb : Below w.heap.size w W := h
  refine ⟨hb.os, hb.tape, hb.output, ?_, fun k hk => ?_⟩
  · exact Nat.le_trans hb.size (size_sortWorldK_c Elt.cells 8 W g 0 n d' os)
  · have hk' : k < W.heap.size := Nat.lt_of_lt_of_le hk hb.size
    rw [← hb.block k hk]
    simp only [sortWorldK, grow, putRowK, putRow, mapBlock, Sort.ahead]
    rw [Array.getElem?_append_left (by simpa using hk'), Array.getElem?_modify, if_neg (by omega)]

theorem cell_sortWorld_other (W : World) (blk n : Nat) (dk : Array Elt) (os : Array Obj) (a : Addr) (h1 : a.block ≠ blk) (h2 : a.block < W.heap.size) : (sortWorldK Elt.cells 8 W blk 0 n dk os).cell? a = W.cell? a := by
  unfold sortWorldK
  rw [cell?_grow _ _ _ (by rw [size_putRowK]; exact h2), cell?_putRowK_other Elt.cells 8 _ blk 0 dk a h1]
  rfl

theorem cmpLays_ord (c blk size : Nat) (w : World) (hc : w.cell? ⟨c, 0, none⟩ = some (.func (.func 36) #[] #[])) (hne : c ≠ blk) :
    CmpLays Tryz.prog 59 #[.pointer (some ⟨c, 0, none⟩)] Elt.cells 8 (fun x y => cmpI x.r.id y.r.id) blk 0 size w :=
  fun m os dk _ x y => ordCmp_any x y c _ ((cell_sortWorld_other w blk m dk os ⟨c, 0, none⟩ hne (block_lt_of_cell hc)).trans hc)

theorem cmpI_neg (x y : Int) : cmpI x y < 0 ↔ x < y := by
  unfold cmpI
  split
  · simp [*]
  · split <;> simp [*]
theorem swo_id : SWO (ltOf (fun x y : Elt => cmpI x.r.id y.r.id)) := {
  irrefl := fun x => by simp only [ltOf, decide_eq_false_iff_not, cmpI_neg]; omega
  trans := fun x y z h1 h2 => by
    simp only [ltOf, decide_eq_true_eq, cmpI_neg] at *
    omega
  ntrans := fun x y z h1 h2 => by
    simp only [ltOf, decide_eq_false_iff_not, cmpI_neg] at *
    omega }
theorem sep_id {x y : Elt} (h : x.r.id ≠ y.r.id) : Sep (fun x y : Elt => x.r.id < y.r.id) (ltOf (fun x y : Elt => cmpI x.r.id y.r.id)) x y := by
  unfold Sep ltOf
  simp only [decide_eq_true_eq, decide_eq_false_iff_not, cmpI_neg]
  omega

set_option maxRecDepth 100000 in
set_option maxHeartbeats 2000000 in
theorem insertion_none (fn : Value) (w : World) : Calls Tryz.prog 103 #[.slice none 0 0, .int .i64 0, .int .i64 0, fn] w fun e w' => e = .returned (.tuple #[]) ∧ w = w' := by
  go_enter Tryz.func103, Tryz.ntmps103
  go_wp2
  refine wp_loop_rounds 1 ?_
  rw [rounds_succ]
  go_wp2
  go_end0
  exact ⟨rfl, rfl⟩

set_option maxRecDepth 100000 in
set_option maxHeartbeats 2000000 in
theorem stable_none (fn : Value) (w : World) : Calls Tryz.prog 94 #[.slice none 0 0, .int .i64 0, fn] w fun e w' => e = .returned (.tuple #[]) ∧ w = w' := by
  go_enter Tryz.func94, Tryz.ntmps94
  go_wp2
  refine wp_loop_rounds 1 ?_
  rw [rounds_succ]
  go_wp2_with ((go_at_call 103; (with_reducible refine (insertion_none _ _).mono ?_); rotate_right; rintro e w' ⟨rfl, rfl⟩))
  refine wp_loop_rounds 1 ?_
  rw [rounds_succ]
  go_wp2
  go_end0
  exact ⟨rfl, rfl⟩

set_option maxHeartbeats 2000000 in
/-- SortStableFunc over what Collect has handed back. -/
theorem sortStable_any (es : List Elt) (v : Value) (base c : Nat) (w : World) (hv : w.ownsRow base 41 8 v es.length (flatE es)) (hcb : c < base) (hc : w.cell? ⟨c, 0, none⟩ = some (.func (.func 36) #[] #[])) (hn : es.length < 40) (hd : es.Pairwise (fun x y => x.r.id ≠ y.r.id)) :
    Calls Tryz.prog 74 #[v, .func (.func 59) #[] #[.pointer (some ⟨c, 0, none⟩)]] w fun e w' => e = .returned (.tuple #[]) ∧ ∃ A cap es', v = .slice A es.length cap ∧ es'.Perm es ∧ es'.Pairwise (fun x y => x.r.id < y.r.id) ∧ RdE w' A es.length es' ∧ ∀ w0, Gr w0 w → w0.heap.size ≤ base → Gr w0 w' := by
  rcases hv.2 with ⟨rfl, h0⟩ | ⟨g, cap, cur, rfl, hbg, hgg, h1, h2, h3, h4⟩
  · have HE : Hid (es = []) := List.length_eq_zero_iff.1 h0
    clear hv hcb hc hn hd
    go_enter Tryz.func74, Tryz.ntmps74
    go_wp2_with ((go_at_call 94; (with_reducible refine (stable_none _ _).mono ?_); rotate_right; rintro e w' ⟨rfl, rfl⟩))
    go_end0
    refine ⟨rfl, none, 0, [], ?_, ?_, List.Pairwise.nil, ?_, fun _ h _ => h⟩
    · rw [HE.out]; rfl
    · rw [HE.out]
    · rw [HE.out]; exact ⟨rfl, fun h => absurd h (by simp)⟩
  · have hH := holds_own hgg h4
    have hglt : g < w.heap.size := (Array.getElem?_eq_some_iff.1 hgg).1
    have R : RowK Elt.cells 8 w g 0 es.toArray := ⟨Elt.len, Elt.one, hH, hglt⟩
    have eg : ∀ args w, (callFunc 59 args).run Tryz.prog w = .ok (.enter 59 args) w := enters_of Tryz.func59 (by kernel_rfl) rfl
    have HC := hid (stable_k Elt.cells (fun x y => cmpI x.r.id y.r.id) swo_id 59 #[.pointer (some ⟨c, 0, none⟩)] g 0 cap es.toArray w (fun x y => x.r.id < y.r.id) (fun x y z h1 h2 => by omega) eg
      (cmpLays_ord c g es.toArray.size w hc (by omega)) R (by simpa using hn) (by simpa using hd.imp (fun h => sep_id h)))
    simp only [List.size_toArray] at HC
    have HR := hid R
    have HB := hid hbg
    clear hv hcb hc hn hd h1 h2 h3 h4 hgg hH R eg
    go_enter Tryz.func74, Tryz.ntmps74
    go_wp2_with (go_at_call 94; refine HC.out.mono ?_; rintro e w1 ⟨rfl, d', T1, T2, S⟩; have T := hid (And.intro T1 (And.intro T2 S)); clear T1 T2 S)
    go_end0
    obtain ⟨T1, T2, S⟩ := T.out
    have hs : d'.size = es.length := by simpa using T1.1
    refine ⟨rfl, _, cap, d'.toList, rfl, ?_, ?_, ?_, fun w0 h h' => gr_sortWorld h S (Nat.le_trans h' HB.out)⟩
    · have p := T1.2.2
      have e1 : d'.extract 0 es.toArray.size = d' := by simp [← hs]
      have e2 : es.toArray.extract 0 es.toArray.size = es.toArray := by simp
      simp only [List.size_toArray] at e1 e2
      rw [e1, e2] at p
      simpa using p
    · refine List.pairwise_iff_getElem.2 (fun i j hi hj hij => ?_)
      have q := T2 i j (Nat.zero_le _) hij (by simp at hj; omega)
      simp at hi hj
      rw [getElem!_pos d' i hi, getElem!_pos d' j hj] at q
      simpa using q
    · have q := rdE_holds (S.holds HR.out.hblk HR.out.hH (by simpa using hs)) (S.lt HR.out.hblk)
      rw [hs] at q
      exact q

set_option maxHeartbeats 2000000 in
theorem collect_any (es : List Elt) (A : Option Addr) (cap Bs : Nat) (w0 w : World) (hw : Gr w0 w) (hBs : Bs < w.heap.size) (hc : w.cell? ⟨Bs, 0, none⟩ = some (.slice A es.length cap)) (hI : RdE w0 A es.length es) (hN : es.length ≤ 1000) :
    Calls Tryz.prog 73 #[.func (.func 75) #[] #[.pointer (some ⟨Bs, 0, none⟩)]] w fun e w' => ∃ v, e = .returned v ∧ w'.ownsRow w.heap.size 41 8 v es.length (flatE es) ∧ Gr w w' := by
  have HC := hid (callsIn_wide.1 (sr_appendSeq es A cap Bs w0 w hw hBs hc hI hN))
  clear hw hBs hc hI hN
  go_enter Tryz.func73, Tryz.ntmps73
  go_wp2_with (go_at_call 93; refine HC.out.mono ?_; rintro e w1 ⟨v, rfl, T1, T2⟩; have T := hid (And.intro T1 T2); clear T1 T2)
  go_ret
  exact ⟨v, rfl, T.out.1, T.out.2⟩

/-- What ordered hands back. -/
def OrdOf (es : List Elt) (w w' : World) (v : Value) : Prop :=
  ∃ A cap es', v = .slice A es.length cap ∧ es'.Perm es ∧ es'.Pairwise (fun x y => x.r.id < y.r.id) ∧ RdE w' A es.length es' ∧ Gr w w'

set_option maxHeartbeats 2000000 in
theorem sortedStable_any (es : List Elt) (A : Option Addr) (cap Bs c : Nat) (w0 w : World) (hw : Gr w0 w) (hBs : Bs < w.heap.size) (hb : w.cell? ⟨Bs, 0, none⟩ = some (.slice A es.length cap)) (hI : RdE w0 A es.length es)
    (hc : w.cell? ⟨c, 0, none⟩ = some (.func (.func 36) #[] #[])) (hn : es.length < 40) (hd : es.Pairwise (fun x y => x.r.id ≠ y.r.id)) :
    Calls Tryz.prog 57 #[.func (.func 75) #[] #[.pointer (some ⟨Bs, 0, none⟩)], .func (.func 59) #[] #[.pointer (some ⟨c, 0, none⟩)]] w fun e w' => ∃ v, e = .returned v ∧ OrdOf es w w' v := by
  have H1 := hid (collect_any es A cap Bs w0 w hw hBs hb hI (by omega))
  have hcl : c < w.heap.size := block_lt_of_cell hc
  have H2 := hid (fun (v : Value) (W : World) (hv : W.ownsRow w.heap.size 41 8 v es.length (flatE es)) (g : Gr w W) => sortStable_any es v w.heap.size c W hv hcl ((g.cell hcl).trans hc) hn hd)
  clear hw hBs hb hI hc hn hd
  go_enter Tryz.func57, Tryz.ntmps57
  go_wp2_with (first
    | (go_at_call 73; refine H1.out.mono ?_; rintro e w1 ⟨v, rfl, T1, T2⟩; have T := hid (And.intro T1 T2); clear T1 T2)
    | (go_at_call 74; refine (H2.out v w1 T.out.1 T.out.2).mono ?_; rintro e w2 ⟨rfl, A2, c2, es', rfl, T3, T4, T5, T6⟩; have U := hid (And.intro T3 (And.intro T4 (And.intro T5 T6))); clear T3 T4 T5 T6))
  go_ret
  exact ⟨_, rfl, A2, c2, es', rfl, U.out.1, U.out.2.1, U.out.2.2.1, U.out.2.2.2 w T.out.2 (Nat.le_refl _)⟩

set_option maxHeartbeats 2000000 in
/-- ordered of the package match. -/
theorem ordered_any (es : List Elt) (A : Option Addr) (cap : Nat) (w : World) (hI : RdE w A es.length es) (hn : es.length < 40) (hd : es.Pairwise (fun x y => x.r.id ≠ y.r.id)) :
    Calls Tryz.prog 35 #[.slice A es.length cap, .func (.func 36) #[] #[]] w fun e w' => ∃ v, e = .returned v ∧ OrdOf es w w' v := by
  have H1 := hid (fun (W : World) => callsIn_wide.1 (sr_values_in Fence.wide 1 trivial rfl A es.length cap W))
  have H2 := hid (fun (Bs c : Nat) (W : World) (g : Gr w W) hBs hb hc => sortedStable_any es A cap Bs c w W g hBs hb hI hc hn hd)
  clear hI hn hd
  go_enter Tryz.func35, Tryz.ntmps35
  go_wp2_with (first
    | (go_at_call 58; refine (H1.out _).mono ?_; rintro e w1 ⟨rfl, rfl⟩)
    | (go_at_call 57; refine (H2.out (w.heap.size + 1) w.heap.size _ (((Gr.refl w).alloc _).alloc _) ?_ ?_ ?_).mono ?_; rotate_right; rintro e w2 ⟨v, rfl, A2, c2, es', rfl, T3, T4, T5, T6⟩; have U := hid (And.intro T3 (And.intro T4 (And.intro T5 T6))); clear T3 T4 T5 T6))
  · go_ret
    exact ⟨_, rfl, A2, c2, es', rfl, U.out.1, U.out.2.1, U.out.2.2.1, (((Gr.refl w).alloc _).alloc _).trans U.out.2.2.2⟩
  · simp
  · simp
  · simp
end Go.Proofs.YtlkjimfkapcenaaGreatDoor
