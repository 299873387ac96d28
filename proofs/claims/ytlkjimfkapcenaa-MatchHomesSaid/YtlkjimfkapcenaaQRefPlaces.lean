/- How places agree, in the reference. For all valid stays. -/
import Derived.Deep.LoopGhost
import Derived.IntWalk
import Derived.WalkLawsBesides
import Derived.Test.YtlkjimfkapcenaaQEditsTop
import Derived.Test.YtlkjimfkapcenaaQRegGr
namespace Go.Proofs.Ytlkjimfkapcenaa
open Go.RowKit

/-- A stay's days are days. -/
def Rng (s : Sty) : Prop := 0 ≤ s.from_ ∧ s.from_ ≤ 100000 ∧ 0 ≤ s.to_ ∧ s.to_ ≤ 100000
/-- Whether two stays are at one place, and overlap enough. -/
def hitB (t : Int) (o s : Sty) : Bool := decide (o.place = s.place) && overB t s o
theorem places_hit {t : Int} {xs ys : List Sty} {i k : Nat} (hi : i < xs.length) (hk : k < ys.length) (h : hitB t xs[i]! ys[k]! = true) : placesN t xs ys = 3 := by
  unfold placesN
  rw [if_pos]
  rw [placesB_iff]
  simp only [hitB, Bool.and_eq_true, decide_eq_true_eq] at h
  exact ⟨_, mem_get hk, _, mem_get hi, h.1, h.2⟩
theorem places_miss {t : Int} {xs ys : List Sty} (h : ∀ i, i < xs.length → ∀ k, k < ys.length → hitB t xs[i]! ys[k]! = false) : placesN t xs ys = 1 := by
  unfold placesN
  rw [if_neg]
  rw [placesB_iff]
  rintro ⟨s, hs, o, ho, e, hv⟩
  obtain ⟨k, hk, rfl⟩ := List.getElem_of_mem hs
  obtain ⟨i, hi, rfl⟩ := List.getElem_of_mem ho
  have := h i hi k hk
  rw [getElem!_pos xs i hi, getElem!_pos ys k hk] at this
  simp [hitB, e, hv] at this

set_option maxRecDepth 100000 in
set_option maxHeartbeats 1000000 in
theorem refPlaces_any (r : Rul) (A : Option Addr) (n c : Nat) (xs : List Sty) (A' : Option Addr) (n' c' : Nat) (ys : List Sty) (w : World)
    (ha : Rd w 3 A n (xs.flatMap Sty.cells)) (hb : Rd w 3 A' n' (ys.flatMap Sty.cells)) (hn : n ≤ 1000) (hn' : n' ≤ 1000) (ht : 0 ≤ r.together ∧ r.together ≤ 1000000) (va : ∀ s ∈ xs, Rng s) (vb : ∀ s ∈ ys, Rng s) :
    Calls Try.prog 64 #[r.val, .slice A n c, .slice A' n' c'] w fun e w' => e = .returned (.int .u8 (placesN r.together xs ys)) ∧ Gr w w' := by
  have hl := ha.len
  have hl' := hb.len
  rw [flatMap_len Sty.len] at hl hl'
  have HL := hid (show xs.length = n by omega)
  have HL' := hid (show ys.length = n' by omega)
  clear hl hl'
  have in1 : (n : Int) ≤ 1000 := by omega
  have in2 : (n' : Int) ≤ 1000 := by omega
  obtain ⟨l, dg, dy, t⟩ := r
  unfold Rul.val
  dsimp only at ht ⊢
  obtain ⟨t0, t1⟩ := ht
  obtain ⟨NV, hNV⟩ : ∃ z : Int, z = placesN t xs ys := ⟨_, rfl⟩
  rw [← hNV]
  have HNV := hid hNV
  clear hNV
  have g1 : Gr w (w.alloc (.cells #[.int .i64 l, .int .i64 dg, .int .i64 dy, .int .i64 t] 23)) := (Gr.refl w).alloc _
  have E1 : (w.alloc (.cells #[.int .i64 l, .int .i64 dg, .int .i64 dy, .int .i64 t] 23)).heap[w.heap.size]? = some (.cells #[.int .i64 l, .int .i64 dg, .int .i64 dy, .int .i64 t] 23 (0, 0)) := heap_alloc_new w _
  have HG := hid g1
  have HE := hid E1
  have ha1 := ha.gr g1
  have hb1 := hb.gr g1
  clear ha hb g1 E1
  go_enter Try.func64, Try.ntmps64
  go_wp2
  go_loopg [7] n (fun gg s7 wr => ∃ i : Nat, i ≤ n ∧ n - i ≤ gg ∧ s7 = .int .i64 i ∧ Gr (w.alloc (.cells #[.int .i64 l, .int .i64 dg, .int .i64 dy, .int .i64 t] 23)) wr ∧ Hid (∀ i', i' < i → ∀ k, k < n' → hitB t xs[i']! ys[k]! = false))
  case atStart => exact ⟨0, Nat.zero_le _, by omega, rfl, Gr.refl _, hid fun i' h => absurd h (Nat.not_lt_zero _)⟩
  case round =>
    obtain ⟨i, hi, hgi, rfl, BW, HI⟩ := hrel
    by_cases hli : i < n
    case neg =>
      have hli' : (n : Int) ≤ i := by omega
      go_wp2
      go_ret
      refine ⟨?_, HG.out.trans BW⟩
      rw [HNV.out, places_miss (fun i' h1 k h2 => HI.out i' (by have := HL.out; omega) k (by have := HL'.out; omega))]
      rfl
    have hli' : (i : Int) < n := by omega
    go_wp2
    obtain ⟨wm, rfl⟩ : ∃ wm : World, wm = wr := ⟨_, rfl⟩
    go_loopg [8] n' (fun gg s8 wq => ∃ q : Nat, q ≤ n' ∧ n' - q ≤ gg ∧ s8 = .int .i64 q ∧ Gr (w.alloc (.cells #[.int .i64 l, .int .i64 dg, .int .i64 dy, .int .i64 t] 23)) wq ∧ Hid (∀ k, k < q → hitB t xs[i]! ys[k]! = false))
    case atStart => exact ⟨0, Nat.zero_le _, by omega, rfl, BW, hid fun k h => absurd h (Nat.not_lt_zero _)⟩
    case round =>
      clear BW
      obtain ⟨q, hq, hgq, rfl, BW, HJ⟩ := hrel
      by_cases hlq : q < n'
      case neg =>
        have hlq' : (n' : Int) ≤ q := by omega
        go_wp2
        go_roundg (n - (i + 1))
        case measure => omega
        case rel =>
          refine ⟨i + 1, by omega, by omega, by go_num, BW, hid fun i' h1 k h2 => ?_⟩
          by_cases e : i' = i
          · subst e; exact HJ.out k (by omega)
          · exact HI.out i' (by omega) k h2
      have hlq' : (q : Int) < n' := by omega
      have i0 : (0 : Int) ≤ i := by omega
      have q0 : (0 : Int) ≤ q := by omega
      obtain ⟨hxl, b0, o0, rfl, hb0, c0, c1, c2⟩ := (ha1.gr BW).sty hli
      obtain ⟨hyl, b1, o1, rfl, hb1', d0, d1, d2⟩ := (hb1.gr BW).sty hlq
      have rx := va xs[i]! (mem_get hxl)
      have ry := vb ys[q]! (mem_get hyl)
      unfold Rng at rx ry
      clear hxl hyl
      generalize hx : xs[i]! = x at c0 c1 c2 rx
      generalize hy : ys[q]! = y at d0 d1 d2 ry
      have HX := hid hx
      have HY := hid hy
      clear hx hy
      obtain ⟨p1, f1, u1⟩ := x
      obtain ⟨p2, f2, u2⟩ := y
      dsimp only at c0 c1 c2 d0 d1 d2 rx ry
      obtain ⟨x1, x2, x3, x4⟩ := rx
      obtain ⟨y1, y2, y3, y4⟩ := ry
      have c0 := GrW.cell c0
      have c1 := GrW.cell c1
      have c2 := GrW.cell c2
      have d0 := GrW.cell d0
      have d1 := GrW.cell d1
      have d2 := GrW.cell d2
      obtain ⟨r0, r1, r2, r3⟩ := row4 (row_gr HE.out BW)
      by_cases hp : p1 = p2
      case neg =>
        have hpb : (p1 == p2) = false := by simpa using hp
        have HH := hid (show hitB t ⟨p1, f1, u1⟩ ⟨p2, f2, u2⟩ = false by unfold hitB; rw [decide_eq_false hp]; rfl)
        go_wp2
        (refine wp_region_gr (by kernel_rfl) (by kernel_rfl) ?_; (repeat (first | go_big_quiet_step ((fail)) | quiet_step ((fail)))); refine wpQuiet_nil ?_; intro wz hw; obtain ⟨⟨_, hbwz⟩, hw⟩ := hw; subst hw; obtain ⟨hcwz, hfwz, hzwz⟩ := hbwz.rules; (try simp at hzwz))
        go_wp2
        go_roundg (n' - (q + 1))
        case measure => omega
        case rel =>
          refine ⟨q + 1, by omega, by omega, by go_num, BW.trans hbwz, hid fun k h1 => ?_⟩
          by_cases e : k = q
          · subst e
            rw [HX.out, HY.out]; exact HH.out
          · exact HJ.out k (by omega)
      subst hp
      have HO : ∀ mn mx : Int, mn = (if u2 ≤ u1 then u2 else u1) → mx = (if f2 < f1 then f1 else f2) → hitB t ⟨p1, f1, u1⟩ ⟨p1, f2, u2⟩ = decide (t ≤ mn - mx + 1) := by
        intro mn mx e1 e2
        unfold hitB overB
        dsimp only
        rw [← e1, ← e2, decide_eq_true rfl, Bool.true_and]
        rw [Bool.eq_iff_iff]
        simp only [decide_eq_true_eq]
        omega
      by_cases m1 : u1 ≤ u2
      · by_cases m2 : f1 < f2
        · have HV := hid (HO u1 f2 (by split <;> omega) (by split <;> omega))
          clear HO
          have hs : IntKind.i64.wrap (u1 - f2) = u1 - f2 := IntWalk.i64_in _ (by omega)
          have hs2 : IntKind.i64.wrap (u1 - f2 + 1) = u1 - f2 + 1 := IntWalk.i64_in _ (by omega)
          by_cases hv : t ≤ u1 - f2 + 1
          · have hv2 : decide (t ≤ u1 - f2 + 1) = true := decide_eq_true hv
            have HH := hid (show hitB t ⟨p1, f1, u1⟩ ⟨p1, f2, u2⟩ = true from HV.out.trans hv2)
            clear HV
            go_wp2
            (refine wp_region_gr (by kernel_rfl) (by kernel_rfl) ?_; (repeat (first | go_big_quiet_step ((fail)) | quiet_step ((fail)))); refine wpQuiet_nil ?_; intro wz hw; obtain ⟨⟨_, hbwz⟩, hw⟩ := hw; subst hw; obtain ⟨hcwz, hfwz, hzwz⟩ := hbwz.rules; (try simp at hzwz))
            go_wp2
            go_ret
            refine ⟨?_, HG.out.trans (BW.trans hbwz)⟩
            rw [HNV.out, places_hit (i := i) (k := q) (by have := HL.out; omega) (by have := HL'.out; omega) (by rw [HX.out, HY.out]; exact HH.out)]
            rfl
          · have hv2 : decide (t ≤ u1 - f2 + 1) = false := decide_eq_false hv
            have HH := hid (show hitB t ⟨p1, f1, u1⟩ ⟨p1, f2, u2⟩ = false from HV.out.trans hv2)
            clear HV
            go_wp2
            (refine wp_region_gr (by kernel_rfl) (by kernel_rfl) ?_; (repeat (first | go_big_quiet_step ((fail)) | quiet_step ((fail)))); refine wpQuiet_nil ?_; intro wz hw; obtain ⟨⟨_, hbwz⟩, hw⟩ := hw; subst hw; obtain ⟨hcwz, hfwz, hzwz⟩ := hbwz.rules; (try simp at hzwz))
            go_wp2
            go_roundg (n' - (q + 1))
            case measure => omega
            case rel =>
              refine ⟨q + 1, by omega, by omega, by go_num, BW.trans hbwz, hid fun k h1 => ?_⟩
              by_cases e : k = q
              · subst e
                rw [HX.out, HY.out]; exact HH.out
              · exact HJ.out k (by omega)
        · have HV := hid (HO u1 f1 (by split <;> omega) (by split <;> omega))
          clear HO
          have hs : IntKind.i64.wrap (u1 - f1) = u1 - f1 := IntWalk.i64_in _ (by omega)
          have hs2 : IntKind.i64.wrap (u1 - f1 + 1) = u1 - f1 + 1 := IntWalk.i64_in _ (by omega)
          by_cases hv : t ≤ u1 - f1 + 1
          · have hv2 : decide (t ≤ u1 - f1 + 1) = true := decide_eq_true hv
            have HH := hid (show hitB t ⟨p1, f1, u1⟩ ⟨p1, f2, u2⟩ = true from HV.out.trans hv2)
            clear HV
            go_wp2
            (refine wp_region_gr (by kernel_rfl) (by kernel_rfl) ?_; (repeat (first | go_big_quiet_step ((fail)) | quiet_step ((fail)))); refine wpQuiet_nil ?_; intro wz hw; obtain ⟨⟨_, hbwz⟩, hw⟩ := hw; subst hw; obtain ⟨hcwz, hfwz, hzwz⟩ := hbwz.rules; (try simp at hzwz))
            go_wp2
            go_ret
            refine ⟨?_, HG.out.trans (BW.trans hbwz)⟩
            rw [HNV.out, places_hit (i := i) (k := q) (by have := HL.out; omega) (by have := HL'.out; omega) (by rw [HX.out, HY.out]; exact HH.out)]
            rfl
          · have hv2 : decide (t ≤ u1 - f1 + 1) = false := decide_eq_false hv
            have HH := hid (show hitB t ⟨p1, f1, u1⟩ ⟨p1, f2, u2⟩ = false from HV.out.trans hv2)
            clear HV
            go_wp2
            (refine wp_region_gr (by kernel_rfl) (by kernel_rfl) ?_; (repeat (first | go_big_quiet_step ((fail)) | quiet_step ((fail)))); refine wpQuiet_nil ?_; intro wz hw; obtain ⟨⟨_, hbwz⟩, hw⟩ := hw; subst hw; obtain ⟨hcwz, hfwz, hzwz⟩ := hbwz.rules; (try simp at hzwz))
            go_wp2
            go_roundg (n' - (q + 1))
            case measure => omega
            case rel =>
              refine ⟨q + 1, by omega, by omega, by go_num, BW.trans hbwz, hid fun k h1 => ?_⟩
              by_cases e : k = q
              · subst e
                rw [HX.out, HY.out]; exact HH.out
              · exact HJ.out k (by omega)
      · by_cases m2 : f1 < f2
        · have HV := hid (HO u2 f2 (by split <;> omega) (by split <;> omega))
          clear HO
          have hs : IntKind.i64.wrap (u2 - f2) = u2 - f2 := IntWalk.i64_in _ (by omega)
          have hs2 : IntKind.i64.wrap (u2 - f2 + 1) = u2 - f2 + 1 := IntWalk.i64_in _ (by omega)
          by_cases hv : t ≤ u2 - f2 + 1
          · have hv2 : decide (t ≤ u2 - f2 + 1) = true := decide_eq_true hv
            have HH := hid (show hitB t ⟨p1, f1, u1⟩ ⟨p1, f2, u2⟩ = true from HV.out.trans hv2)
            clear HV
            go_wp2
            (refine wp_region_gr (by kernel_rfl) (by kernel_rfl) ?_; (repeat (first | go_big_quiet_step ((fail)) | quiet_step ((fail)))); refine wpQuiet_nil ?_; intro wz hw; obtain ⟨⟨_, hbwz⟩, hw⟩ := hw; subst hw; obtain ⟨hcwz, hfwz, hzwz⟩ := hbwz.rules; (try simp at hzwz))
            go_wp2
            go_ret
            refine ⟨?_, HG.out.trans (BW.trans hbwz)⟩
            rw [HNV.out, places_hit (i := i) (k := q) (by have := HL.out; omega) (by have := HL'.out; omega) (by rw [HX.out, HY.out]; exact HH.out)]
            rfl
          · have hv2 : decide (t ≤ u2 - f2 + 1) = false := decide_eq_false hv
            have HH := hid (show hitB t ⟨p1, f1, u1⟩ ⟨p1, f2, u2⟩ = false from HV.out.trans hv2)
            clear HV
            go_wp2
            (refine wp_region_gr (by kernel_rfl) (by kernel_rfl) ?_; (repeat (first | go_big_quiet_step ((fail)) | quiet_step ((fail)))); refine wpQuiet_nil ?_; intro wz hw; obtain ⟨⟨_, hbwz⟩, hw⟩ := hw; subst hw; obtain ⟨hcwz, hfwz, hzwz⟩ := hbwz.rules; (try simp at hzwz))
            go_wp2
            go_roundg (n' - (q + 1))
            case measure => omega
            case rel =>
              refine ⟨q + 1, by omega, by omega, by go_num, BW.trans hbwz, hid fun k h1 => ?_⟩
              by_cases e : k = q
              · subst e
                rw [HX.out, HY.out]; exact HH.out
              · exact HJ.out k (by omega)
        · have HV := hid (HO u2 f1 (by split <;> omega) (by split <;> omega))
          clear HO
          have hs : IntKind.i64.wrap (u2 - f1) = u2 - f1 := IntWalk.i64_in _ (by omega)
          have hs2 : IntKind.i64.wrap (u2 - f1 + 1) = u2 - f1 + 1 := IntWalk.i64_in _ (by omega)
          by_cases hv : t ≤ u2 - f1 + 1
          · have hv2 : decide (t ≤ u2 - f1 + 1) = true := decide_eq_true hv
            have HH := hid (show hitB t ⟨p1, f1, u1⟩ ⟨p1, f2, u2⟩ = true from HV.out.trans hv2)
            clear HV
            go_wp2
            (refine wp_region_gr (by kernel_rfl) (by kernel_rfl) ?_; (repeat (first | go_big_quiet_step ((fail)) | quiet_step ((fail)))); refine wpQuiet_nil ?_; intro wz hw; obtain ⟨⟨_, hbwz⟩, hw⟩ := hw; subst hw; obtain ⟨hcwz, hfwz, hzwz⟩ := hbwz.rules; (try simp at hzwz))
            go_wp2
            go_ret
            refine ⟨?_, HG.out.trans (BW.trans hbwz)⟩
            rw [HNV.out, places_hit (i := i) (k := q) (by have := HL.out; omega) (by have := HL'.out; omega) (by rw [HX.out, HY.out]; exact HH.out)]
            rfl
          · have hv2 : decide (t ≤ u2 - f1 + 1) = false := decide_eq_false hv
            have HH := hid (show hitB t ⟨p1, f1, u1⟩ ⟨p1, f2, u2⟩ = false from HV.out.trans hv2)
            clear HV
            go_wp2
            (refine wp_region_gr (by kernel_rfl) (by kernel_rfl) ?_; (repeat (first | go_big_quiet_step ((fail)) | quiet_step ((fail)))); refine wpQuiet_nil ?_; intro wz hw; obtain ⟨⟨_, hbwz⟩, hw⟩ := hw; subst hw; obtain ⟨hcwz, hfwz, hzwz⟩ := hbwz.rules; (try simp at hzwz))
            go_wp2
            go_roundg (n' - (q + 1))
            case measure => omega
            case rel =>
              refine ⟨q + 1, by omega, by omega, by go_num, BW.trans hbwz, hid fun k h1 => ?_⟩
              by_cases e : k = q
              · subst e
                rw [HX.out, HY.out]; exact HH.out
              · exact HJ.out k (by omega)
end Go.Proofs.Ytlkjimfkapcenaa
