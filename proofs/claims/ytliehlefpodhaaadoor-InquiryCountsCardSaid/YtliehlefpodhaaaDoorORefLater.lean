/- later and latest of the reference of layer 9. For all signals. latest of the reference of layer 9: where the latest signal of two kinds lies. For every slice of signals. (Printed by gen_reflatest.py.) state of the reference of layer 9. For every slice of signals. Signals of the reference of layer 9. For every slice of signals. -/
import Derived.Deep.LoopGhost
import Derived.Test.YtliehlefpodhaaaDoorOBase
import Derived.Test.YtliehlefpodhaaaDoorOIn
import Derived.Test.YtliehlefpodhaaaDoorOUntil
import Derived.Test.YtliehlefpodhaaaDoorORegGr
import Derived.Test.YtliehlefpodhaaaDoorOOrder
import Derived.Test.YtliehlefpodhaaaDoorOAmong9
import Derived.Test.YtliehlefpodhaaaDoorOState
namespace Go.Proofs.YtliehlefpodhaaaDoor
open Go.RowKit

set_option maxHeartbeats 2000000 in
theorem refLater_any (x y : Sig) (w : World) :
    Calls Tryd.prog 79 #[x.val, y.val] w fun e w' => e = .returned (.bool (laterB x y)) ∧ Gr w w' := by
  obtain ⟨x0, x1, x2, x3, x4, x5⟩ := x
  obtain ⟨y0, y1, y2, y3, y4, y5⟩ := y
  unfold Sig.val laterB
  dsimp only
  obtain ⟨r, hr⟩ : ∃ r, decide (x3 > y3 ∨ (x3 = y3 ∧ (x0 > y0 ∨ (x0 = y0 ∧ x1 > y1)))) = r := ⟨_, rfl⟩
  rw [hr]
  have HR := hid hr
  clear hr
  rcases Int.lt_trichotomy x3 y3 with h | h | h
  · have e : r = false := by rw [← HR.out]; simp; omega
    subst e
    have n1 : ¬ y3 < x3 := by omega
    have n2 : (x3 == y3) = false := by simp; omega
    go_enter Tryd.func79, Tryd.ntmps79
    go_wp2
    go_ret
    exact ⟨rfl, by (repeat (first | with_reducible exact Gr.refl _ | with_reducible refine Gr.alloc ?_ _ | with_reducible refine Gr.setCell ?_ (by simp) _ | with_reducible refine Gr.setCell ?_ (by simp; omega) _ | with_reducible refine Gr.drew ?_ | with_reducible refine Gr.drewN ?_ _))⟩
  · subst h
    have n1 : ¬ x3 < x3 := by omega
    rcases Int.lt_trichotomy x0 y0 with h | h | h
    · have e : r = false := by rw [← HR.out]; simp; omega
      subst e
      have n3 : ¬ y0 < x0 := by omega
      have n4 : (x0 == y0) = false := by simp; omega
      go_enter Tryd.func79, Tryd.ntmps79
      go_wp2
      go_ret
      exact ⟨rfl, by (repeat (first | with_reducible exact Gr.refl _ | with_reducible refine Gr.alloc ?_ _ | with_reducible refine Gr.setCell ?_ (by simp) _ | with_reducible refine Gr.setCell ?_ (by simp; omega) _ | with_reducible refine Gr.drew ?_ | with_reducible refine Gr.drewN ?_ _))⟩
    · subst h
      have n3 : ¬ x0 < x0 := by omega
      have e : r = decide (y1 < x1) := by rw [← HR.out, Bool.eq_iff_iff]; simp
      subst e
      clear HR
      go_enter Tryd.func79, Tryd.ntmps79
      go_wp2
      all_goals
        go_ret
        exact ⟨by first | rfl | simp_all, by (repeat (first | with_reducible exact Gr.refl _ | with_reducible refine Gr.alloc ?_ _ | with_reducible refine Gr.setCell ?_ (by simp) _ | with_reducible refine Gr.setCell ?_ (by simp; omega) _ | with_reducible refine Gr.drew ?_ | with_reducible refine Gr.drewN ?_ _))⟩
    · have e : r = true := by rw [← HR.out]; simp; omega
      subst e
      go_enter Tryd.func79, Tryd.ntmps79
      go_wp2
      go_ret
      exact ⟨rfl, by (repeat (first | with_reducible exact Gr.refl _ | with_reducible refine Gr.alloc ?_ _ | with_reducible refine Gr.setCell ?_ (by simp) _ | with_reducible refine Gr.setCell ?_ (by simp; omega) _ | with_reducible refine Gr.drew ?_ | with_reducible refine Gr.drewN ?_ _))⟩
  · have e : r = true := by rw [← HR.out]; simp; omega
    subst e
    go_enter Tryd.func79, Tryd.ntmps79
    go_wp2
    go_ret
    exact ⟨rfl, by (repeat (first | with_reducible exact Gr.refl _ | with_reducible refine Gr.alloc ?_ _ | with_reducible refine Gr.setCell ?_ (by simp) _ | with_reducible refine Gr.setCell ?_ (by simp; omega) _ | with_reducible refine Gr.drew ?_ | with_reducible refine Gr.drewN ?_ _))⟩
end Go.Proofs.YtliehlefpodhaaaDoor
namespace Go.Proofs.YtliehlefpodhaaaDoor
open Go.RowKit Go.Shelf

/-- Where the latest one of those up to a place lies. -/
def LatI (zs : List Sig) (file day a b : Int) (k : Nat) (best : Int) : Prop :=
  (best = -1 ∧ latestS ((zs.take k).filter (ofB file day a b)) = none) ∨ ∃ j : Nat, j < k ∧ best = j ∧ latestS ((zs.take k).filter (ofB file day a b)) = some zs[j]!
theorem ofB_take {zs : List Sig} {file day a b : Int} {k : Nat} (hk : k < zs.length) : (zs.take (k + 1)).filter (ofB file day a b) = (zs.take k).filter (ofB file day a b) ++ (if ofB file day a b zs[k]! then [zs[k]!] else []) := by
  rw [List.take_succ_eq_append_getElem hk, List.filter_append, ← getElem!_pos zs k hk, List.filter_cons, List.filter_nil]
theorem LatI.start (zs : List Sig) (file day a b : Int) : LatI zs file day a b 0 (-1) := .inl ⟨rfl, rfl⟩
theorem LatI.skip {zs : List Sig} {file day a b : Int} {k : Nat} {best : Int} (h : LatI zs file day a b k best) (hk : k < zs.length) (ho : ofB file day a b zs[k]! = false) : LatI zs file day a b (k + 1) best := by
  unfold LatI at *
  rw [ofB_take hk, ho]
  simp only [Bool.false_eq_true, if_false, List.append_nil]
  exact h.imp id fun ⟨j, h1, h2, h3⟩ => ⟨j, by omega, h2, h3⟩
theorem LatI.first {zs : List Sig} {file day a b : Int} {k : Nat} {best : Int} (h : LatI zs file day a b k best) (hk : k < zs.length) (ho : ofB file day a b zs[k]! = true) (hb : best < 0) : LatI zs file day a b (k + 1) k := by
  unfold LatI at *
  rw [ofB_take hk, ho, if_pos rfl]
  rcases h with ⟨_, h2⟩ | ⟨j, _, h2, _⟩
  · exact .inr ⟨k, by omega, rfl, by rw [latestS_snoc, h2]; rfl⟩
  · omega
theorem LatI.more {zs : List Sig} {file day a b : Int} {k j : Nat} (h : LatI zs file day a b k j) (hk : k < zs.length) (ho : ofB file day a b zs[k]! = true) (hl : laterB zs[k]! zs[j]! = true) : LatI zs file day a b (k + 1) k := by
  unfold LatI at *
  rw [ofB_take hk, ho, if_pos rfl]
  rcases h with ⟨h1, _⟩ | ⟨i, _, h2, h3⟩
  · omega
  · obtain rfl : j = i := by omega
    exact .inr ⟨k, by omega, rfl, by rw [latestS_snoc, h3]; unfold laterS; simp only; rw [if_pos hl]⟩
theorem LatI.stay {zs : List Sig} {file day a b : Int} {k j : Nat} (h : LatI zs file day a b k j) (hk : k < zs.length) (ho : ofB file day a b zs[k]! = true) (hl : laterB zs[k]! zs[j]! = false) : LatI zs file day a b (k + 1) j := by
  unfold LatI at *
  rw [ofB_take hk, ho, if_pos rfl]
  rcases h with ⟨h1, _⟩ | ⟨i, h1, h2, h3⟩
  · omega
  · obtain rfl : j = i := by omega
    exact .inr ⟨j, by omega, rfl, by rw [latestS_snoc, h3]; unfold laterS; simp only; rw [if_neg (by rw [hl]; simp)]⟩
theorem LatI.all {zs : List Sig} {file day a b : Int} {best : Int} (h : LatI zs file day a b zs.length best) : (best = -1 ∧ latestOf zs file day a b = none) ∨ ∃ j : Nat, j < zs.length ∧ best = j ∧ latestOf zs file day a b = some zs[j]! := by
  unfold LatI at h
  rw [List.take_length] at h
  exact h

set_option maxRecDepth 100000 in
set_option maxHeartbeats 8000000 in
theorem refLatest_any (A : Option Addr) (n c : Nat) (zs : List Sig) (file day a b : Int) (w : World) (hi : SigsIn w A n zs) :
    Calls Tryd.prog 78 #[.slice A n c, .int .i64 file, .int .i64 day, .int .u8 a, .int .u8 b] w fun e w' => ∃ best, e = .returned (.int .i64 best) ∧ (LatI zs file day a b zs.length best ∧ Gr w w') := by
  have HI := hid hi
  have HL := hid hi.rd.sig_len
  have hbig := hi.big
  have hbig' : (n : Int) ≤ 9223372036854775807 := by omega
  clear hi
  go_enter Tryd.func78, Tryd.ntmps78
  go_wp2
  go_loopg [11, 12] n (fun gg s11 s12 wr => ∃ (kk : Nat) (best : Int), kk ≤ n ∧ n - kk ≤ gg ∧ s12 = .int .i64 kk ∧ s11 = .int .i64 best ∧ Gr w wr ∧ Hid (LatI zs file day a b kk best))
  case atStart => exact ⟨0, -1, Nat.zero_le _, by omega, rfl, rfl, Gr.refl w, LatI.start _ _ _ _ _⟩
  case round =>
    obtain ⟨kk, best, hkk, hg, rfl, rfl, BW, HB⟩ := hrel
    by_cases hlt : kk < n
    · obtain ⟨hk', b', off', rfl, hb', c0, c1, c2, c3, c4, c5⟩ := (HI.out.gr BW).rd.sig hlt
      have HK := hid hk'
      clear hk'
      obtain ⟨x, hx⟩ : ∃ x, zs[kk]! = x := ⟨_, rfl⟩
      have HO : Hid (ofB file day a b zs[kk]! = (x.file == file && decide (x.day ≤ day) && (x.kind == a || x.kind == b))) := by show ofB file day a b zs[kk]! = _; rw [hx]; rfl
      have HX := hid hx
      rw [hx] at c0 c1 c2 c3 c4 c5
      clear hx
      have hkn : (kk : Int) < (n : Int) := by omega
      have hk0 : (0 : Int) ≤ (kk : Int) := by omega
      have HRow := hid (heap_alloc_new wr (.cells x.cells.toArray 67))
      obtain ⟨e1, k1⟩ : ∃ e, (x.file == file) = e := ⟨_, rfl⟩
      obtain ⟨e2, k2⟩ : ∃ e, decide (x.day ≤ day) = e := ⟨_, rfl⟩
      obtain ⟨e3, k3⟩ : ∃ e, (x.kind == a) = e := ⟨_, rfl⟩
      obtain ⟨e4, k4⟩ : ∃ e, (x.kind == b) = e := ⟨_, rfl⟩
      rw [k1, k2, k3, k4] at HO
      by_cases hsel : (e1 && e2 && (e3 || e4)) = true
      case neg =>
        have HP : Hid (LatI zs file day a b (kk + 1) best) := HB.out.skip HK.out (by rw [HO.out]; simpa using hsel)
        clear HO
        obtain ⟨x0, x1, x2, x3, x4, x5⟩ := x
        unfold Sig.cells at HRow
        dsimp only at *
        obtain ⟨r0, r1, r2, r3, r4, r5⟩ := row6 HRow.out
        cases e1
        case' true => cases e2
        case' true.true => cases e3
        case' true.true.false => cases e4
        case' true.true.false.true => exact absurd rfl hsel
        case' true.true.true => exact absurd rfl hsel
        all_goals
          clear hsel
          go_wp2
          (refine wp_region_gr (by kernel_rfl) (by kernel_rfl) ?_; (repeat (first | go_big_quiet_step ((fail)) | quiet_step ((fail)))); refine wpQuiet_nil ?_; intro wa hw; obtain ⟨⟨_, hbwa⟩, hw⟩ := hw; subst hw; obtain ⟨hcwa, hfwa, hzwa⟩ := hbwa.rules; (try simp at hzwa))
          go_wp2
          go_roundg (n - (kk + 1))
          case measure => omega
          case rel => exact ⟨kk + 1, best, by omega, by omega, by go_num, rfl, BW.trans (((Gr.refl wr).alloc _).trans hbwa), HP.out⟩
      case pos =>
        have HSel : Hid (ofB file day a b zs[kk]! = true) := by show ofB file day a b zs[kk]! = true; rw [HO.out]; exact hsel
        clear HO
        simp only [Bool.and_eq_true] at hsel
        obtain ⟨⟨rfl, rfl⟩, hsel⟩ := hsel
        by_cases hneg : best < 0
        · have HP : Hid (LatI zs file day a b (kk + 1) kk) := HB.out.first HK.out HSel.out hneg
          obtain ⟨x0, x1, x2, x3, x4, x5⟩ := x
          unfold Sig.cells at HRow
          dsimp only at *
          obtain ⟨r0, r1, r2, r3, r4, r5⟩ := row6 HRow.out
          cases e3
          case' false => cases e4
          case' false.false => exact absurd hsel (by simp)
          all_goals
            clear hsel
            go_wp2
            (refine wp_region_gr (by kernel_rfl) (by kernel_rfl) ?_; (repeat (first | go_big_quiet_step ((fail)) | quiet_step ((fail)))); refine wpQuiet_nil ?_; intro wa hw; obtain ⟨⟨_, hbwa⟩, hw⟩ := hw; subst hw; obtain ⟨hcwa, hfwa, hzwa⟩ := hbwa.rules; (try simp at hzwa))
            go_wp2
            go_roundg (n - (kk + 1))
            case measure => omega
            case rel => exact ⟨kk + 1, kk, by omega, by omega, by go_num, rfl, BW.trans (((Gr.refl wr).alloc _).trans hbwa), HP.out⟩
        · obtain ⟨j, hj, rfl⟩ : ∃ j : Nat, j < kk ∧ best = j := by
            rcases HB.out with ⟨h, _⟩ | ⟨j, h1, h2, _⟩
            · omega
            · exact ⟨j, h1, h2⟩
          clear hneg
          obtain ⟨_, b2, off2, hA2, _, d0, d1, d2, d3, d4, d5⟩ := (HI.out.gr BW).rd.sig (k := j) (by omega)
          cases hA2
          obtain ⟨y, hy⟩ : ∃ y, zs[j]! = y := ⟨_, rfl⟩
          rw [hy] at d0 d1 d2 d3 d4 d5
          have HS := hid (fun W => refLater_any x y W)
          have HLt : Hid (laterB zs[kk]! zs[j]! = laterB x y) := by show laterB zs[kk]! zs[j]! = _; rw [HX.out, hy]
          have hj0 : ¬ (j : Int) < 0 := by omega
          have hj1 : (0 : Int) ≤ (j : Int) := by omega
          have hjn : (j : Int) < (n : Int) := by omega
          clear hy
          obtain ⟨lt, hlt'⟩ : ∃ e, laterB x y = e := ⟨_, rfl⟩
          rw [hlt'] at HS HLt
          clear hlt'
          have HP : Hid (lt = true → LatI zs file day a b (kk + 1) kk) := fun h => HB.out.more HK.out HSel.out (by rw [HLt.out]; exact h)
          have HP2 : Hid (lt = false → LatI zs file day a b (kk + 1) j) := fun h => HB.out.stay HK.out HSel.out (by rw [HLt.out]; exact h)
          have Q0 := GrW.cell (row_cell d0 ((Gr.refl wr).alloc (.cells x.cells.toArray 67)))
          have Q1 := GrW.cell (row_cell d1 ((Gr.refl wr).alloc (.cells x.cells.toArray 67)))
          have Q2 := GrW.cell (row_cell d2 ((Gr.refl wr).alloc (.cells x.cells.toArray 67)))
          have Q3 := GrW.cell (row_cell d3 ((Gr.refl wr).alloc (.cells x.cells.toArray 67)))
          have Q4 := GrW.cell (row_cell d4 ((Gr.refl wr).alloc (.cells x.cells.toArray 67)))
          have Q5 := GrW.cell (row_cell d5 ((Gr.refl wr).alloc (.cells x.cells.toArray 67)))
          clear d0 d1 d2 d3 d4 d5
          obtain ⟨x0, x1, x2, x3, x4, x5⟩ := x
          obtain ⟨y0, y1, y2, y3, y4, y5⟩ := y
          unfold Sig.cells at HRow Q0 Q1 Q2 Q3 Q4 Q5
          unfold Sig.val at HS
          dsimp only at *
          obtain ⟨r0, r1, r2, r3, r4, r5⟩ := row6 HRow.out
          cases e3
          case' false => cases e4
          case' false.false => exact absurd hsel (by simp)
          all_goals cases lt
          all_goals
            clear hsel
            go_wp2
            (refine wp_region_gr (by kernel_rfl) (by kernel_rfl) ?_; (repeat (first | go_big_quiet_step ((first | (go_at_call 79; exact calls_gr (HS.out _)))) | quiet_step ((first | (go_at_call 79; exact calls_gr (HS.out _)))))); refine wpQuiet_nil ?_; intro wa hw; obtain ⟨⟨_, hbwa⟩, hw⟩ := hw; subst hw; obtain ⟨hcwa, hfwa, hzwa⟩ := hbwa.rules; (try simp at hzwa))
            go_wp2
            go_roundg (n - (kk + 1))
            case measure => omega
            case rel => first
              | exact ⟨kk + 1, kk, by omega, by omega, by go_num, rfl, BW.trans (((Gr.refl wr).alloc _).trans hbwa), HP.out (by simp)⟩
              | exact ⟨kk + 1, j, by omega, by omega, by go_num, rfl, BW.trans (((Gr.refl wr).alloc _).trans hbwa), HP2.out (by simp)⟩
    · have hltz : ¬ (kk : Int) < (n : Int) := by omega
      have hkz : kk = zs.length := by have := HL.out; omega
      go_wp2
      go_ret
      exact ⟨best, rfl, by rw [← hkz]; exact HB.out, BW⟩
end Go.Proofs.YtliehlefpodhaaaDoor
namespace Go.Proofs.YtliehlefpodhaaaDoor
open Go.RowKit Go.Shelf

theorem lift_take {zs : List Sig} {k : Nat} (hk : k < zs.length) (p : Sig → Bool) : (zs.take (k + 1)).any p = ((zs.take k).any p || p zs[k]!) := by
  rw [List.take_succ_eq_append_getElem hk, List.any_append, ← getElem!_pos zs k hk]
  simp

set_option maxRecDepth 100000 in
set_option maxHeartbeats 8000000 in
theorem refState_any (A : Option Addr) (n c : Nat) (zs : List Sig) (file now : Int) (w : World) (hi : SigsIn w A n zs) :
    Calls Tryd.prog 63 #[.slice A n c, .int .i64 file, .int .i64 now] w fun e w' => e = .returned (.tuple #[.bool (frozenB zs file now), .bool (alertB zs file now)]) ∧ Gr w w' := by
  have HT := hid (fun W (k : Gr w W) => refLatest_any A n c zs file now 1 2 W (hi.gr k))
  have HT2 := hid (fun W (k : Gr w W) => refLatest_any A n c zs file now 4 5 W (hi.gr k))
  have HI := hid hi
  have HL := hid hi.rd.sig_len
  have hbig := hi.big
  have hbig' : (n : Int) ≤ 9223372036854775807 := by omega
  clear hi
  go_enter Tryd.func63, Tryd.ntmps63
  go_wp2_with (first
    | (go_at_call 78; (with_reducible refine (HT.out _ (Gr.refl w)).mono ?_); rintro e w1 ⟨fi, rfl, hl1, hg1⟩; have G1 := hid hg1; have HL1 := hid hl1.all; clear hl1 hg1)
    | (go_at_call 78; (with_reducible refine (HT2.out _ G1.out).mono ?_); rintro e w2 ⟨ai, rfl, hl2, hg2⟩; have G2 := hid (G1.out.trans hg2); have HL2 := hid hl2.all; clear hl2 hg2; rcases HL1.out with ⟨rfl, h1⟩ | ⟨j, hj, rfl, h1⟩; (case' inl => (have HF : Hid (frozenB zs file now = false) := (by show frozenB zs file now = false; unfold frozenB; rw [h1]); clear h1)); (case' inr => (have hjn : j < n := (by have := HL.out; omega); obtain ⟨_, b, off, hAe, hb, c0, c1, c2, c3, c4, c5⟩ := (HI.out.gr G2.out).rd.sig (k := j) hjn; subst hAe; obtain ⟨y, hy⟩ : ∃ y, zs[j]! = y := ⟨_, rfl⟩; have HF : Hid (frozenB zs file now = (y.kind == 1 && !zs.any (liftB file now y))) := (by show frozenB zs file now = _; unfold frozenB; rw [h1, hy]); rw [hy] at c0 c1 c2 c3 c4 c5; have HY := hid hy; have hj0 : (0 : Int) ≤ (j : Int) := (by omega); have hji : (j : Int) < (n : Int) := (by omega); clear h1 hy))))
  · have HST : Hid ((y.kind == 1) = (y.kind == 1 && !(zs.take 0).any (liftB file now y))) := by show (y.kind == 1) = _; simp
    have HWH : Hid ((zs.take n).any (liftB file now y) = zs.any (liftB file now y)) := by show (zs.take n).any _ = _; rw [← HL.out, List.take_length]
    have HCk := hid (fun k (hk : k < zs.length) => lift_take hk (liftB file now y))
    have HSy := hid (fun x W => refLater_any x y W)
    have HLb : Hid (∀ x, liftB file now y x = (x.kind == 3 && x.file == file && laterB x y && decide (x.day ≤ now) && decide (now ≤ x.till))) := fun _ => rfl
    obtain ⟨y0, y1, y2, y3, y4, y5⟩ := y
    have hrd := hid (And.intro c0 (And.intro c1 (And.intro c2 (And.intro c3 (And.intro c4 c5)))))
    dsimp only at HST HF hrd
    go_loopg [10, 11] n (fun gg s10 s11 wr => ∃ kk : Nat, kk ≤ n ∧ n - kk ≤ gg ∧ s11 = .int .i64 kk ∧ s10 = .bool (y4 == 1 && !(zs.take kk).any (liftB file now ⟨y0, y1, y2, y3, y4, y5⟩)) ∧ Gr w2 wr)
    case atStart => exact ⟨0, Nat.zero_le _, by omega, rfl, congrArg Value.bool HST.out, Gr.refl w2⟩
    case round =>
      obtain ⟨kk, hkk, hg, rfl, rfl, BW⟩ := hrel
      by_cases hlt : kk < n
      · obtain ⟨hk', b', off', hA', hb', g0, g1, g2, g3, g4, g5⟩ := (HI.out.gr (G2.out.trans BW)).rd.sig hlt
        cases hA'
        have HNx := hid (HCk.out kk hk')
        obtain ⟨x, hx⟩ : ∃ x, zs[kk]! = x := ⟨_, rfl⟩
        rw [hx] at g0 g1 g2 g3 g4 g5 HNx
        have HLx := hid (HLb.out x)
        have HS := hid (HSy.out x)
        clear hx hk' c0 c1 c2 c3 c4 c5
        have hkn : (kk : Int) < (n : Int) := by omega
        have hk0 : (0 : Int) ≤ (kk : Int) := by omega
        have HRow := hid (heap_alloc_new wr (.cells x.cells.toArray 67))
        obtain ⟨c0, c1, c2, c3, c4, c5⟩ := hrd.out
        have Q0 := GrW.cell (row_cell (row_cell c0 BW) ((Gr.refl wr).alloc (.cells x.cells.toArray 67)))
        have Q1 := GrW.cell (row_cell (row_cell c1 BW) ((Gr.refl wr).alloc (.cells x.cells.toArray 67)))
        have Q2 := GrW.cell (row_cell (row_cell c2 BW) ((Gr.refl wr).alloc (.cells x.cells.toArray 67)))
        have Q3 := GrW.cell (row_cell (row_cell c3 BW) ((Gr.refl wr).alloc (.cells x.cells.toArray 67)))
        have Q4 := GrW.cell (row_cell (row_cell c4 BW) ((Gr.refl wr).alloc (.cells x.cells.toArray 67)))
        have Q5 := GrW.cell (row_cell (row_cell c5 BW) ((Gr.refl wr).alloc (.cells x.cells.toArray 67)))
        clear c0 c1 c2 c3 c4 c5
        obtain ⟨e1, k1⟩ : ∃ e, (x.kind == 3) = e := ⟨_, rfl⟩
        obtain ⟨e2, k2⟩ : ∃ e, (x.file == file) = e := ⟨_, rfl⟩
        obtain ⟨lt, k3⟩ : ∃ e, laterB x ⟨y0, y1, y2, y3, y4, y5⟩ = e := ⟨_, rfl⟩
        obtain ⟨e3, k4⟩ : ∃ e, decide (x.day ≤ now) = e := ⟨_, rfl⟩
        obtain ⟨e4, k5⟩ : ∃ e, decide (now ≤ x.till) = e := ⟨_, rfl⟩
        rw [k1, k2, k3, k4, k5] at HLx
        rw [k3] at HS
        rw [HLx.out] at HNx
        clear HLx k3
        obtain ⟨r, hr⟩ : ∃ r, (y4 == 1 && !(zs.take kk).any (liftB file now ⟨y0, y1, y2, y3, y4, y5⟩)) = r := ⟨_, rfl⟩
        have HRn : Hid ((y4 == 1 && !(zs.take (kk + 1)).any (liftB file now ⟨y0, y1, y2, y3, y4, y5⟩)) = (r && !((((e1 && e2) && lt) && e3) && e4))) := by
          show (y4 == 1 && !(zs.take (kk + 1)).any (liftB file now ⟨y0, y1, y2, y3, y4, y5⟩)) = _
          rw [HNx.out, Bool.not_or, ← Bool.and_assoc, hr]
        rw [hr]
        clear hr HNx
        obtain ⟨x0, x1, x2, x3, x4, x5⟩ := x
        unfold Sig.cells at HRow Q0 Q1 Q2 Q3 Q4 Q5
        unfold Sig.val at HS
        dsimp only at *
        obtain ⟨r0, r1, r2, r3, r4, r5⟩ := row6 HRow.out
        cases r
        case' true => cases e1
        case' true.true => cases e2
        case' true.true.true => cases lt
        case' true.true.true.true => cases e3
        case' true.true.true.true.true => cases e4
        all_goals
          go_wp2
          (refine wp_region_gr (by kernel_rfl) (by kernel_rfl) ?_; (repeat (first | go_big_quiet_step ((first | (go_at_call 79; exact calls_gr (HS.out _)))) | quiet_step ((first | (go_at_call 79; exact calls_gr (HS.out _)))))); refine wpQuiet_nil ?_; intro wa hw; obtain ⟨⟨_, hbwa⟩, hw⟩ := hw; subst hw; obtain ⟨hcwa, hfwa, hzwa⟩ := hbwa.rules; (try simp at hzwa))
          go_wp2
          go_roundg (n - (kk + 1))
          case measure => omega
          case rel => exact ⟨kk + 1, by omega, by omega, by go_num, by rw [HRn.out]; first | rfl | simp, BW.trans (((Gr.refl wr).alloc _).trans hbwa)⟩
      · have hltz : ¬ (kk : Int) < (n : Int) := by omega
        have hkz : kk = n := by omega
        have HFin : Hid (frozenB zs file now = (y4 == 1 && !(zs.take kk).any (liftB file now ⟨y0, y1, y2, y3, y4, y5⟩))) := by
          show frozenB zs file now = _
          rw [HF.out, hkz, HWH.out]
        generalize (y4 == 1 && !(zs.take kk).any (liftB file now ⟨y0, y1, y2, y3, y4, y5⟩)) = fv at HFin ⊢
        clear c0 c1 c2 c3 c4 c5 hrd
        rcases HL2.out with ⟨rfl, h2⟩ | ⟨j2, hj2, rfl, h2⟩
        · have HAl : Hid (alertB zs file now = false) := by show alertB zs file now = false; unfold alertB; rw [h2]
          clear h2
          go_wp2
          (refine wp_region_gr (by kernel_rfl) (by kernel_rfl) ?_; (repeat (first | go_big_quiet_step ((fail)) | quiet_step ((fail)))); refine wpQuiet_nil ?_; intro wa hw; obtain ⟨⟨_, hbwa⟩, hw⟩ := hw; subst hw; obtain ⟨hcwa, hfwa, hzwa⟩ := hbwa.rules; (try simp at hzwa))
          go_wp2
          go_ret2
          exact ⟨by rw [HFin.out, HAl.out]; rfl, G2.out.trans (BW.trans hbwa)⟩
        · have hj2n : j2 < n := by have := HL.out; omega
          obtain ⟨_, b3, off3, hA3, _, m0, m1, m2, m3, m4, m5⟩ := (HI.out.gr (G2.out.trans BW)).rd.sig (k := j2) hj2n
          cases hA3
          obtain ⟨z, hz⟩ : ∃ z, zs[j2]! = z := ⟨_, rfl⟩
          have HAl : Hid (alertB zs file now = (z.kind == 4 && decide (now ≤ z.till))) := by show alertB zs file now = _; unfold alertB; rw [h2, hz]
          rw [hz] at m0 m1 m2 m3 m4 m5
          have hk0 : (0 : Int) ≤ (j2 : Int) := by omega
          have hki : (j2 : Int) < (n : Int) := by omega
          clear h2 hz
          obtain ⟨z0, z1, z2, z3, z4, z5⟩ := z
          dsimp only at *
          have p4 := GrW.cell m4
          have p5 := GrW.cell m5
          clear m0 m1 m2 m3 m4 m5
          obtain ⟨e4, k4⟩ : ∃ e, (z4 == 4) = e := ⟨_, rfl⟩
          rw [k4] at HAl
          cases e4
          all_goals
            go_wp2
            (refine wp_region_gr (by kernel_rfl) (by kernel_rfl) ?_; (repeat (first | go_big_quiet_step ((fail)) | quiet_step ((fail)))); refine wpQuiet_nil ?_; intro wa hw; obtain ⟨⟨_, hbwa⟩, hw⟩ := hw; subst hw; obtain ⟨hcwa, hfwa, hzwa⟩ := hbwa.rules; (try simp at hzwa))
            go_wp2
            go_ret2
            exact ⟨by rw [HFin.out, HAl.out]; rfl, G2.out.trans (BW.trans hbwa)⟩
  · go_loopg [10, 11] n (fun gg s10 s11 wr => ∃ kk : Nat, kk ≤ n ∧ n - kk ≤ gg ∧ s11 = .int .i64 kk ∧ s10 = .bool false ∧ Gr w2 wr)
    case atStart => exact ⟨0, Nat.zero_le _, by omega, rfl, rfl, Gr.refl w2⟩
    case round =>
      obtain ⟨kk, hkk, hg, rfl, rfl, BW⟩ := hrel
      by_cases hlt : kk < n
      · obtain ⟨hk', b', off', rfl, hb', c0, c1, c2, c3, c4, c5⟩ := (HI.out.gr (G2.out.trans BW)).rd.sig hlt
        obtain ⟨x, hx⟩ : ∃ x, zs[kk]! = x := ⟨_, rfl⟩
        rw [hx] at c0 c1 c2 c3 c4 c5
        clear hx hk'
        have hkn : (kk : Int) < (n : Int) := by omega
        have hk0 : (0 : Int) ≤ (kk : Int) := by omega
        obtain ⟨x0, x1, x2, x3, x4, x5⟩ := x
        dsimp only at *
        go_wp2
        (refine wp_region_gr (by kernel_rfl) (by kernel_rfl) ?_; (repeat (first | go_big_quiet_step ((fail)) | quiet_step ((fail)))); refine wpQuiet_nil ?_; intro wa hw; obtain ⟨⟨_, hbwa⟩, hw⟩ := hw; subst hw; obtain ⟨hcwa, hfwa, hzwa⟩ := hbwa.rules; (try simp at hzwa))
        go_wp2
        go_roundg (n - (kk + 1))
        case measure => omega
        case rel => exact ⟨kk + 1, by omega, by omega, by go_num, rfl, BW.trans (((Gr.refl wr).alloc _).trans hbwa)⟩
      · have hltz : ¬ (kk : Int) < (n : Int) := by omega
        have HFin := hid HF.out
        rcases HL2.out with ⟨rfl, h2⟩ | ⟨j2, hj2, rfl, h2⟩
        · have HAl : Hid (alertB zs file now = false) := by show alertB zs file now = false; unfold alertB; rw [h2]
          clear h2
          go_wp2
          (refine wp_region_gr (by kernel_rfl) (by kernel_rfl) ?_; (repeat (first | go_big_quiet_step ((fail)) | quiet_step ((fail)))); refine wpQuiet_nil ?_; intro wa hw; obtain ⟨⟨_, hbwa⟩, hw⟩ := hw; subst hw; obtain ⟨hcwa, hfwa, hzwa⟩ := hbwa.rules; (try simp at hzwa))
          go_wp2
          go_ret2
          exact ⟨by rw [HFin.out, HAl.out]; rfl, G2.out.trans (BW.trans hbwa)⟩
        · have hj2n : j2 < n := by have := HL.out; omega
          obtain ⟨_, b3, off3, hA3, _, m0, m1, m2, m3, m4, m5⟩ := (HI.out.gr (G2.out.trans BW)).rd.sig (k := j2) hj2n
          subst hA3
          obtain ⟨z, hz⟩ : ∃ z, zs[j2]! = z := ⟨_, rfl⟩
          have HAl : Hid (alertB zs file now = (z.kind == 4 && decide (now ≤ z.till))) := by show alertB zs file now = _; unfold alertB; rw [h2, hz]
          rw [hz] at m0 m1 m2 m3 m4 m5
          have hk0 : (0 : Int) ≤ (j2 : Int) := by omega
          have hki : (j2 : Int) < (n : Int) := by omega
          clear h2 hz
          obtain ⟨z0, z1, z2, z3, z4, z5⟩ := z
          dsimp only at *
          have p4 := GrW.cell m4
          have p5 := GrW.cell m5
          clear m0 m1 m2 m3 m4 m5
          obtain ⟨e4, k4⟩ : ∃ e, (z4 == 4) = e := ⟨_, rfl⟩
          rw [k4] at HAl
          cases e4
          all_goals
            go_wp2
            (refine wp_region_gr (by kernel_rfl) (by kernel_rfl) ?_; (repeat (first | go_big_quiet_step ((fail)) | quiet_step ((fail)))); refine wpQuiet_nil ?_; intro wa hw; obtain ⟨⟨_, hbwa⟩, hw⟩ := hw; subst hw; obtain ⟨hcwa, hfwa, hzwa⟩ := hbwa.rules; (try simp at hzwa))
            go_wp2
            go_ret2
            exact ⟨by rw [HFin.out, HAl.out]; rfl, G2.out.trans (BW.trans hbwa)⟩
end Go.Proofs.YtliehlefpodhaaaDoor
namespace Go.Proofs.YtliehlefpodhaaaDoor
open Go.RowKit

theorem sigBad_two (zs : List Sig) (k : Nat) (x : Sig) (hx : zs[k]! = x) : sigBad zs k = (!sigB x || (decide (0 < k) && !befB zs[k - 1]! x)) := by
  unfold sigBad; rw [hx]
theorem refSigsB_bad {zs : List Sig} {k : Nat} (hk : k < zs.length) (h : sigBad zs k = true) : sigsB zs = false := by
  unfold sigsB
  rw [show (List.range zs.length).any (sigBad zs) = true from List.any_eq_true.2 ⟨k, by simpa using hk, h⟩]
  simp
theorem refSigsB_good {zs : List Sig} (h : ∀ j, j < zs.length → sigBad zs j = false) : sigsB zs = decide (zs.length ≤ 40) := by
  unfold sigsB
  rw [show (List.range zs.length).any (sigBad zs) = false from List.any_eq_false.2 (fun j hj => by simpa using h j (by simpa using hj))]
  simp

set_option maxRecDepth 100000 in
set_option maxHeartbeats 4000000 in
theorem refSignals_any (A : Option Addr) (n c : Nat) (zs : List Sig) (w : World) (hi : SigsIn w A n zs) :
    Calls Tryd.prog 60 #[.slice A n c] w fun e w' => e = .returned (.bool (sigsB zs)) ∧ Gr w w' := by
  have HU := hid hi.u8
  have hr := hi.rd
  have hbig := hi.big
  clear hi
  have HL := hid hr.sig_len
  have HR := hid hr
  clear hr
  by_cases h40 : n ≤ 40
  case neg =>
    have HE : Hid (sigsB zs = false) := by
      show sigsB zs = false
      unfold sigsB
      rw [show decide (zs.length ≤ 40) = false by have := HL.out; simp; omega]
      rfl
    have h40' : (40 : Int) < n := by omega
    clear h40
    go_enter Tryd.func60, Tryd.ntmps60
    go_wp2
    go_ret
    exact ⟨by rw [HE.out]; rfl, Gr.refl w⟩
  have h40' : (n : Int) ≤ 40 := by omega
  go_enter Tryd.func60, Tryd.ntmps60
  go_wp2
  go_loopg [3] n (fun gg s3 wr => ∃ kk : Nat, kk ≤ n ∧ n - kk ≤ gg ∧ s3 = .int .i64 kk ∧ Gr w wr ∧ Hid (∀ j, j < kk → sigBad zs j = false))
  case atStart => exact ⟨0, Nat.zero_le _, by omega, rfl, Gr.refl w, fun j hj => absurd hj (Nat.not_lt_zero _)⟩
  case round =>
    obtain ⟨kk, hkk, hg, rfl, BW, HA⟩ := hrel
    by_cases hlt : kk < n
    · obtain ⟨hk', b, off, rfl, hb, c0, c1, c2, c3, c4, c5⟩ := (HR.out.gr BW).sig hlt
      have HK := hid hk'
      clear hk'
      obtain ⟨x, hx⟩ : ∃ x, zs[kk]! = x := ⟨_, rfl⟩
      have hu : 0 ≤ x.kind ∧ x.kind ≤ 255 := hx ▸ HU.out _ (mem_get HK.out)
      have HS := hid (fun W => refSignal_any x W hu)
      have HP := hid (sigBad_two zs kk x hx)
      rw [hx] at c0 c1 c2 c3 c4 c5
      clear hx hu
      obtain ⟨bs, hbs⟩ : ∃ bs, sigB x = bs := ⟨_, rfl⟩
      rw [hbs] at HS HP
      clear hbs
      have hkn : (kk : Int) < (n : Int) := by omega
      have hk0 : (0 : Int) ≤ (kk : Int) := by omega
      cases bs with
      | false =>
        obtain ⟨x0, x1, x2, x3, x4, x5⟩ := x
        unfold Sig.val at HS
        dsimp only at *
        have p0 := GrW.cell c0
        have p1 := GrW.cell c1
        have p2 := GrW.cell c2
        have p3 := GrW.cell c3
        have p4 := GrW.cell c4
        have p5 := GrW.cell c5
        clear c0 c1 c2 c3 c4 c5
        go_wp2
        (refine wp_region_gr (by kernel_rfl) (by kernel_rfl) ?_; (repeat (first | go_big_quiet_step ((first | (go_at_call 74; exact calls_gr (HS.out _)))) | quiet_step ((first | (go_at_call 74; exact calls_gr (HS.out _)))))); refine wpQuiet_nil ?_; intro wa hw; obtain ⟨⟨_, hbwa⟩, hw⟩ := hw; subst hw; obtain ⟨hcwa, hfwa, hzwa⟩ := hbwa.rules; (try simp at hzwa))
        go_wp2
        go_ret
        refine ⟨?_, BW.trans hbwa⟩
        rw [refSigsB_bad HK.out (by rw [HP.out]; rfl)]
        rfl
      | true =>
        by_cases h0 : kk = 0
        · subst h0
          simp only [Nat.zero_mul, Nat.add_zero] at c0 c1 c2 c3 c4 c5
          obtain ⟨x0, x1, x2, x3, x4, x5⟩ := x
          unfold Sig.val at HS
          dsimp only at *
          have p0 := GrW.cell c0
          have p1 := GrW.cell c1
          have p2 := GrW.cell c2
          have p3 := GrW.cell c3
          have p4 := GrW.cell c4
          have p5 := GrW.cell c5
          clear c0 c1 c2 c3 c4 c5
          go_wp2
          (refine wp_region_gr (by kernel_rfl) (by kernel_rfl) ?_; (repeat (first | go_big_quiet_step ((first | (go_at_call 74; exact calls_gr (HS.out _)))) | quiet_step ((first | (go_at_call 74; exact calls_gr (HS.out _)))))); refine wpQuiet_nil ?_; intro wa hw; obtain ⟨⟨_, hbwa⟩, hw⟩ := hw; subst hw; obtain ⟨hcwa, hfwa, hzwa⟩ := hbwa.rules; (try simp at hzwa))
          go_wp2
          go_roundg (n - (0 + 1))
          case measure => omega
          case rel =>
            refine ⟨0 + 1, by omega, by omega, by go_num, BW.trans hbwa, hid fun j' hj' => ?_⟩
            by_cases e : j' = 0
            · subst e; rw [HP.out]; rfl
            · exact HA.out j' (by omega)
        · obtain ⟨j, rfl⟩ : ∃ j, kk = j + 1 := ⟨kk - 1, by omega⟩
          clear h0
          obtain ⟨_, b', off', hA', _, d0, d1, d2, d3, d4, d5⟩ := (HR.out.gr BW).sig (k := j) (by omega)
          cases hA'
          have hjn : (j : Int) < (n : Int) := by omega
          have hj0 : (0 : Int) ≤ (j : Int) := by omega
          obtain ⟨y, hy⟩ : ∃ y, zs[j]! = y := ⟨_, rfl⟩
          rw [hy] at d0 d1 d2 d3 d4 d5
          have HB := hid (fun W => refBefore_any y x W)
          have HP2 : Hid (sigBad zs (j + 1) = !befB y x) := by
            show sigBad zs (j + 1) = _
            rw [HP.out, Nat.add_sub_cancel, hy]; simp
          obtain ⟨bb, hbb⟩ : ∃ bb, befB y x = bb := ⟨_, rfl⟩
          rw [hbb] at HB HP2
          clear hbb hy HP
          obtain ⟨x0, x1, x2, x3, x4, x5⟩ := x
          obtain ⟨y0, y1, y2, y3, y4, y5⟩ := y
          unfold Sig.val at HS HB
          dsimp only at *
          have p0 := GrW.cell c0
          have p1 := GrW.cell c1
          have p2 := GrW.cell c2
          have p3 := GrW.cell c3
          have p4 := GrW.cell c4
          have p5 := GrW.cell c5
          have s0 := GrW.cell d0
          have s1 := GrW.cell d1
          have s2 := GrW.cell d2
          have s3 := GrW.cell d3
          have s4 := GrW.cell d4
          have s5 := GrW.cell d5
          clear c0 c1 c2 c3 c4 c5 d0 d1 d2 d3 d4 d5
          cases bb with
          | true =>
            go_wp2
            (refine wp_region_gr (by kernel_rfl) (by kernel_rfl) ?_; (repeat (first | go_big_quiet_step ((first | (go_at_call 74; exact calls_gr (HS.out _)) | (go_at_call 61; exact calls_gr (HB.out _)))) | quiet_step ((first | (go_at_call 74; exact calls_gr (HS.out _)) | (go_at_call 61; exact calls_gr (HB.out _)))))); refine wpQuiet_nil ?_; intro wa hw; obtain ⟨⟨_, hbwa⟩, hw⟩ := hw; subst hw; obtain ⟨hcwa, hfwa, hzwa⟩ := hbwa.rules; (try simp at hzwa))
            go_wp2
            go_roundg (n - (j + 1 + 1))
            case measure => omega
            case rel =>
              refine ⟨j + 1 + 1, by omega, by omega, by go_num, BW.trans hbwa, hid fun j' hj' => ?_⟩
              by_cases e : j' = j + 1
              · subst e; rw [HP2.out]; rfl
              · exact HA.out j' (by omega)
          | false =>
            go_wp2
            (refine wp_region_gr (by kernel_rfl) (by kernel_rfl) ?_; (repeat (first | go_big_quiet_step ((first | (go_at_call 74; exact calls_gr (HS.out _)) | (go_at_call 61; exact calls_gr (HB.out _)))) | quiet_step ((first | (go_at_call 74; exact calls_gr (HS.out _)) | (go_at_call 61; exact calls_gr (HB.out _)))))); refine wpQuiet_nil ?_; intro wa hw; obtain ⟨⟨_, hbwa⟩, hw⟩ := hw; subst hw; obtain ⟨hcwa, hfwa, hzwa⟩ := hbwa.rules; (try simp at hzwa))
            go_wp2
            go_ret
            refine ⟨?_, BW.trans hbwa⟩
            rw [refSigsB_bad HK.out (by rw [HP2.out]; rfl)]
            rfl
    · have hltz : ¬ (kk : Int) < (n : Int) := by omega
      have HE : Hid (sigsB zs = true) := by
        show sigsB zs = _
        rw [refSigsB_good (fun j hj => HA.out j (by have := HL.out; omega)), HL.out]
        simpa using h40
      go_wp2
      go_ret
      refine ⟨by rw [HE.out]; rfl, BW⟩
end Go.Proofs.YtliehlefpodhaaaDoor
