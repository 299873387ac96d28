/- ordered of the package sum: subjects by their Ids, in new memory. For lists of subjects with Ids in bounds, no two of one Id. -/
import Derived.Test.YtimhkkijoelmhaaOrd10
import Derived.Shelf.SlSortCmp.NoneTotal
namespace Go.Proofs.Ytimhkkijoelmhaa
open Go.RowKit Go.Shelf Go.Sort Go.Lib

set_option maxHeartbeats 2000000 in
theorem sortS_all (es : List Sbj) (v : Value) (w0 w : World) (hw : Gr w0 w) (base : Nat) (hb : w0.heap.size ≤ base) (hv : w.ownsRow base 60 2 v es.length (flatE es)) (hn : es.length ≤ 1000)
    (hid : ∀ s ∈ es, 0 ≤ s.id ∧ s.id ≤ 999999) (hd : es.Pairwise (fun x y => x.id ≠ y.id)) :
    Calls Try.prog 94 #[v, .func (.func 71) #[] #[]] w fun e w' => e = .returned (.tuple #[]) ∧ Ord10 es w0 w' v := by
  rcases Nat.eq_zero_or_pos es.length with h0 | h0
  · have hes : es = [] := List.length_eq_zero_iff.1 h0
    subst hes
    obtain ⟨A, c, rfl⟩ := own_slice hv
    have H := AnyF.slices_SortFunc_none sortSbj A c (.func (.func 71) #[] #[]) w
    refine H.mono ?_
    rintro e w' ⟨rfl, rfl⟩
    exact ⟨rfl, A, c, [], rfl, List.Perm.refl _, List.Pairwise.nil, Rd.nil_, hw⟩
  · exact sortS_any es v w0 w hw base hb hv hn hid hd h0

theorem collectS_any (es : List Sbj) (A : Option Addr) (cap Bs : Nat) (w0 w : World) (hw : Gr w0 w) (hBs : Bs < w.heap.size) (hc : w.cell? ⟨Bs, 0, none⟩ = some (.slice A es.length cap)) (hI : RdE w0 A es.length es) (hN : es.length ≤ 1000) :
    Calls Try.prog 93 #[.func (.func 95) #[] #[.pointer (some ⟨Bs, 0, none⟩)]] w fun e w' => ∃ v, e = .returned v ∧ w'.ownsRow w.heap.size 60 2 v es.length (flatE es) ∧ Gr w w' := by
  have HC := hid (callsIn_wide.1 (sr_appendSeq es A cap Bs w0 w hw hBs hc hI hN))
  clear hw hBs hc hI hN
  go_enter Try.func93, Try.ntmps93
  go_wp2_with (go_at_call 105; refine HC.out.mono ?_; rintro e w1 ⟨v, rfl, T1, T2⟩; have T := hid (And.intro T1 T2); clear T1 T2)
  go_ret
  exact ⟨v, rfl, T.out.1, T.out.2⟩

set_option maxHeartbeats 2000000 in
theorem sortedS_any (es : List Sbj) (A : Option Addr) (cap Bs : Nat) (w0 w : World) (hw : Gr w0 w) (hBs : Bs < w.heap.size) (hb : w.cell? ⟨Bs, 0, none⟩ = some (.slice A es.length cap)) (hI : RdE w0 A es.length es) (hn : es.length ≤ 1000)
    (hid' : ∀ s ∈ es, 0 ≤ s.id ∧ s.id ≤ 999999) (hd : es.Pairwise (fun x y => x.id ≠ y.id)) :
    Calls Try.prog 69 #[.func (.func 95) #[] #[.pointer (some ⟨Bs, 0, none⟩)], .func (.func 71) #[] #[]] w fun e w' => ∃ v, e = .returned v ∧ Ord10 es w w' v := by
  have H1 := hid (collectS_any es A cap Bs w0 w hw hBs hb hI hn)
  have H2 := hid (fun (v : Value) (W : World) (hv : W.ownsRow w.heap.size 60 2 v es.length (flatE es)) (g : Gr w W) => sortS_all es v w W g w.heap.size (Nat.le_refl _) hv hn hid' hd)
  clear hw hBs hb hI hn hid' hd
  go_enter Try.func69, Try.ntmps69
  go_wp2_with (first
    | (go_at_call 93; refine H1.out.mono ?_; rintro e w1 ⟨v, rfl, T1, T2⟩; have T := hid (And.intro T1 T2); clear T1 T2)
    | (go_at_call 94; refine (H2.out v w1 T.out.1 T.out.2).mono ?_; rintro e w2 ⟨rfl, U0⟩; have U := hid U0; clear U0))
  go_ret
  exact ⟨_, rfl, U.out⟩

set_option maxHeartbeats 2000000 in
theorem ordered10_any (es : List Sbj) (A : Option Addr) (cap : Nat) (w : World) (hI : RdE w A es.length es) (hn : es.length ≤ 1000) (hid' : ∀ s ∈ es, 0 ≤ s.id ∧ s.id ≤ 999999) (hd : es.Pairwise (fun x y => x.id ≠ y.id)) :
    Calls Try.prog 43 #[.slice A es.length cap] w fun e w' => ∃ v, e = .returned v ∧ Ord10 es w w' v := by
  have H1 := hid (fun (W : World) => callsIn_wide.1 (sr_values_in Fence.wide 1 trivial rfl A es.length cap W))
  have H2 := hid (fun (Bs : Nat) (W : World) (g : Gr w W) hBs hb => sortedS_any es A cap Bs w W g hBs hb hI hn hid' hd)
  clear hI hn hid' hd
  go_enter Try.func43, Try.ntmps43
  go_wp2_with (first
    | (go_at_call 70; refine (H1.out _).mono ?_; rintro e w1 ⟨rfl, rfl⟩)
    | (go_at_call 69; refine (H2.out w.heap.size _ ((Gr.refl w).alloc _) ?_ ?_).mono ?_; rotate_right; rintro e w2 ⟨v, rfl, A2, c2, es', rfl, T3, T4, T5, T6⟩; have U := hid (And.intro T3 (And.intro T4 (And.intro T5 T6))); clear T3 T4 T5 T6))
  · go_ret
    exact ⟨_, rfl, A2, c2, es', rfl, U.out.1, U.out.2.1, U.out.2.2.1, ((Gr.refl w).alloc _).trans U.out.2.2.2⟩
  · simp
  · simp
end Go.Proofs.Ytimhkkijoelmhaa
