/- Inquiry, Inquiries and Licensed of the reference of layer 9. For all inquiries and gates. -/
import Derived.Deep.LoopGhost
import Derived.Test.YtliehlefpodhaaaDoorQOrder
import Derived.Test.YtliehlefpodhaaaDoorQRegGr
import Derived.Test.YtliehlefpodhaaaDoorQGate
import Derived.Test.YtliehlefpodhaaaDoorQAmong9
import Derived.Test.YtliehlefpodhaaaDoorQAsk
import Derived.Test.YtliehlefpodhaaaDoorQTraces
namespace Go.Proofs.YtliehlefpodhaaaDoor
open Go.RowKit Go.Shelf

theorem inqB_ref (q : Inq) : inqB q = (inB 0 999999 q.id && inB 0 999999 q.who && inB 0 999999 q.file && inB 0 100000 q.day && inB 1 6 q.purpose) := by
  unfold inqB
  simp only [Bool.and_assoc]

set_option maxRecDepth 100000 in
set_option maxHeartbeats 4000000 in
theorem refInquiry_any (q : Inq) (w : World) (hu : 0 ≤ q.purpose ∧ q.purpose ≤ 255) :
    Calls Tryd.prog 36 #[q.val] w fun e w' => e = .returned (.bool (inqB q)) ∧ Gr w w' := by
  rw [inqB_ref]
  obtain ⟨x0, x1, x2, x3, x4, x5⟩ := q
  unfold Inq.val
  dsimp only at *
  obtain ⟨u1, u2⟩ := hu
  obtain ⟨b1, h1⟩ : ∃ b, inB 0 999999 x0 = b := ⟨_, rfl⟩
  obtain ⟨b2, h2⟩ : ∃ b, inB 0 999999 x2 = b := ⟨_, rfl⟩
  obtain ⟨b3, h3⟩ : ∃ b, inB 0 999999 x3 = b := ⟨_, rfl⟩
  obtain ⟨b4, h4⟩ : ∃ b, inB 0 100000 x1 = b := ⟨_, rfl⟩
  obtain ⟨b5, h5⟩ : ∃ b, inB 1 6 x4 = b := ⟨_, rfl⟩
  rw [h1, h2, h3, h4, h5]
  have H1 := hid h1
  have H2 := hid h2
  have H3 := hid h3
  have H4 := hid h4
  have H5 := hid h5
  clear h1 h2 h3 h4 h5
  cases b1
  case' true => cases b2
  case' true.true => cases b3
  case' true.true.true => cases b4
  all_goals
    go_enter Tryd.func36, Tryd.ntmps36
    go_wp2_with (first
      | (go_at_call 49; (with_reducible refine (refWithin_any x0 0 999999 _ H1.out _).mono ?_); rotate_right; rintro e w' ⟨rfl, rfl⟩)
      | (go_at_call 49; (with_reducible refine (refWithin_any x2 0 999999 _ H2.out _).mono ?_); rotate_right; rintro e w' ⟨rfl, rfl⟩)
      | (go_at_call 49; (with_reducible refine (refWithin_any x3 0 999999 _ H3.out _).mono ?_); rotate_right; rintro e w' ⟨rfl, rfl⟩)
      | (go_at_call 49; (with_reducible refine (refWithin_any x1 0 100000 _ H4.out _).mono ?_); rotate_right; rintro e w' ⟨rfl, rfl⟩)
      | (go_at_call 49; (with_reducible refine (refWithin_any x4 1 6 _ H5.out _).mono ?_); rotate_right; rintro e w' ⟨rfl, rfl⟩))
    go_ret
    exact ⟨by rfl, by (repeat (first | with_reducible exact Gr.refl _ | with_reducible refine Gr.alloc ?_ _ | with_reducible refine Gr.setCell ?_ (by simp) _ | with_reducible refine Gr.setCell ?_ (by simp; omega) _ | with_reducible refine Gr.drew ?_ | with_reducible refine Gr.drewN ?_ _))⟩

theorem licB_none {ls : List Lic} {p : Lic → Bool} (h : ∀ j, j < ls.length → p ls[j]! = false) : ls.any p = false := by
  rw [List.any_eq_false]
  intro x hx
  obtain ⟨j, hj, rfl⟩ := List.getElem_of_mem hx
  have := h j hj
  rw [getElem!_pos ls j hj] at this
  simp [this]
theorem licB_some {ls : List Lic} {p : Lic → Bool} {k : Nat} (hk : k < ls.length) (h : p ls[k]! = true) : ls.any p = true := List.any_eq_true.2 ⟨ls[k]!, mem_get hk, h⟩

set_option maxRecDepth 100000 in
set_option maxHeartbeats 4000000 in
theorem refLicensed_any (g : Gat) (ls : List Lic) (ss : List Sig) (q : Inq) (w : World) (hg : GatIn w g ls ss) :
    Calls Tryd.prog 35 #[g.val, q.val] w fun e w' => e = .returned (.bool (licensedB ls q)) ∧ Gr w w' := by
  have hl := hg.lics
  clear hg
  obtain ⟨la, ln, lc, sa, sn, sc⟩ := g
  unfold Gat.val
  dsimp only at hl ⊢
  by_cases h5 : q.purpose = 5
  · have HN : Hid (licensedB ls q = (q.who == q.file)) := by show licensedB ls q = _; unfold licensedB; rw [if_pos h5]
    clear hl
    obtain ⟨q0, q1, q2, q3, q4, q5⟩ := q
    unfold Inq.val
    dsimp only at *
    subst h5
    go_enter Tryd.func35, Tryd.ntmps35
    go_wp2
    go_ret
    exact ⟨by rw [HN.out]; rfl, by (repeat (first | with_reducible exact Gr.refl _ | with_reducible refine Gr.alloc ?_ _ | with_reducible refine Gr.setCell ?_ (by simp) _ | with_reducible refine Gr.setCell ?_ (by simp; omega) _ | with_reducible refine Gr.drew ?_ | with_reducible refine Gr.drewN ?_ _))⟩
  · have HN := hid (licensedB_neg ls q h5)
    have HL := hid hl
    have HLen := hid hl.rd.lic_len
    have hbig := hl.big
    have hbig' : (ln : Int) ≤ 9223372036854775807 := by omega
    clear hl
    obtain ⟨q0, q1, q2, q3, q4, q5⟩ := q
    have h5' : (q4 == 5) = false := by simpa using h5
    unfold Inq.val
    dsimp only at *
    clear h5
    go_enter Tryd.func35, Tryd.ntmps35
    go_wp2
    have HR2 := hid (rows2 w (.cells #[.slice la ln lc, .slice sa sn sc] 25) (.cells #[.int .i64 q0, .int .i64 q1, .int .i64 q2, .int .i64 q3, .int .u8 q4, .bool q5] 27))
    have G2 : Hid (Gr w ((w.alloc (.cells #[.slice la ln lc, .slice sa sn sc] 25)).alloc (.cells #[.int .i64 q0, .int .i64 q1, .int .i64 q2, .int .i64 q3, .int .u8 q4, .bool q5] 27))) := ((Gr.refl w).alloc _).alloc _
    generalize (w.alloc (.cells #[.slice la ln lc, .slice sa sn sc] 25)).alloc (.cells #[.int .i64 q0, .int .i64 q1, .int .i64 q2, .int .i64 q3, .int .u8 q4, .bool q5] 27) = w1 at HR2 G2 ⊢
    go_loopg [5] ln (fun gg s5 wr => ∃ kk : Nat, kk ≤ ln ∧ ln - kk ≤ gg ∧ s5 = .int .i64 kk ∧ Gr w1 wr ∧ Hid (∀ j, j < kk → (ls[j]!.who == q2 && ls[j]!.purpose == q4 && inB ls[j]!.lo ls[j]!.hi q1) = false))
    case atStart => exact ⟨0, Nat.zero_le _, by omega, rfl, Gr.refl w1, fun j hj => absurd hj (Nat.not_lt_zero _)⟩
    case round =>
      obtain ⟨kk, hkk, hg, rfl, BW, HA⟩ := hrel
      have s0 := row_cell_at (v := .slice la ln lc) (row_gr HR2.out.1 BW) 0 rfl
      obtain ⟨t0, t1, t2, t3, t4, t5⟩ := cellsat6 (row_gr HR2.out.2 BW)
      have z0 : w.heap.size < wr.heap.size := block_lt_of_cell s0
      have z1 : w.heap.size + 1 < wr.heap.size := block_lt_of_cell t0
      by_cases hlt : kk < ln
      · obtain ⟨hk', b', off', rfl, hb', c0, c1, c2, c3⟩ := (HL.out.gr (G2.out.trans BW)).rd.lic hlt
        have HK := hid hk'
        clear hk'
        obtain ⟨x, hx⟩ : ∃ x, ls[kk]! = x := ⟨_, rfl⟩
        have HP : Hid ((ls[kk]!.who == q2 && ls[kk]!.purpose == q4 && inB ls[kk]!.lo ls[kk]!.hi q1) = (x.who == q2 && x.purpose == q4 && inB x.lo x.hi q1)) := by
          show (ls[kk]!.who == q2 && ls[kk]!.purpose == q4 && inB ls[kk]!.lo ls[kk]!.hi q1) = _
          rw [hx]
        rw [hx] at c0 c1 c2 c3
        clear hx
        have hkn : (kk : Int) < (ln : Int) := by omega
        obtain ⟨x0, x1, x2, x3⟩ := x
        dsimp only at *
        obtain ⟨e1, k1⟩ : ∃ e, (x0 == q2) = e := ⟨_, rfl⟩
        obtain ⟨e2, k2⟩ : ∃ e, (x1 == q4) = e := ⟨_, rfl⟩
        obtain ⟨e3, k3⟩ : ∃ e, inB x2 x3 q1 = e := ⟨_, rfl⟩
        rw [k1, k2, k3] at HP
        have H3 := hid k3
        clear k3
        cases e1
        case' true => cases e2
        case' true.true => cases e3
        case' true.true.true =>
          have HE : Hid (licensedB ls ⟨q0, q1, q2, q3, q4, q5⟩ = true) := by
            show licensedB ls _ = true
            rw [HN.out]
            exact licB_some (p := fun x => x.who == q2 && x.purpose == q4 && inB x.lo x.hi q1) HK.out HP.out
          go_wp2_with (first
            | (go_at_call 49; (with_reducible refine (refWithin_any q1 x2 x3 _ H3.out _).mono ?_); rotate_right; rintro e w' ⟨rfl, rfl⟩))
          go_ret
          exact ⟨by rw [HE.out]; rfl, G2.out.trans (BW.trans (by (repeat (first | with_reducible exact Gr.refl _ | with_reducible refine Gr.alloc ?_ _ | with_reducible refine Gr.setCell ?_ (by simp) _ | with_reducible refine Gr.setCell ?_ (by simp; omega) _ | with_reducible refine Gr.drew ?_ | with_reducible refine Gr.drewN ?_ _))))⟩
        all_goals
          have HP' := hid HP.out
          go_wp2_with (first
            | (go_at_call 49; (with_reducible refine (refWithin_any q1 x2 x3 _ H3.out _).mono ?_); rotate_right; rintro e w' ⟨rfl, rfl⟩))
          go_roundg (ln - (kk + 1))
          case measure => omega
          case rel =>
            refine ⟨kk + 1, by omega, by omega, by go_num, BW.trans (by (repeat (first | with_reducible exact Gr.refl _ | with_reducible refine Gr.alloc ?_ _ | with_reducible refine Gr.setCell ?_ (by simp) _ | with_reducible refine Gr.setCell ?_ (by simp; omega) _ | with_reducible refine Gr.drew ?_ | with_reducible refine Gr.drewN ?_ _))), hid fun j' hj' => ?_⟩
            by_cases e : j' = kk
            · subst e; exact HP'.out.trans (by simp)
            · exact HA.out j' (by omega)
      · have hltz : ¬ (kk : Int) < (ln : Int) := by omega
        have HE : Hid (licensedB ls ⟨q0, q1, q2, q3, q4, q5⟩ = false) := by
          show licensedB ls _ = false
          rw [HN.out]
          exact licB_none (p := fun x => x.who == q2 && x.purpose == q4 && inB x.lo x.hi q1) (fun j hj => HA.out j (by have := HLen.out; omega))
        go_wp2
        go_ret
        exact ⟨by rw [HE.out]; rfl, G2.out.trans BW⟩
end Go.Proofs.YtliehlefpodhaaaDoor
