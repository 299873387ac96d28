/- latest of the reference of layer 9: where the latest signal of two kinds lies. For every slice of signals. (Printed by gen_reflatest.py.) -/
import Derived.Deep.LoopGhost
import Derived.Test.YtliehlefpodhaaaDoorQRegGr
import Derived.Test.YtliehlefpodhaaaDoorQUntil
import Derived.Test.YtliehlefpodhaaaDoorQAmong9
import Derived.Test.YtliehlefpodhaaaDoorQRefLater
namespace Go.Proofs.YtliehlefpodhaaaDoor
open Go.RowKit Go.Shelf

/-- Where the latest one of those up to a place lies. -/
def LatI (zs : List Sig) (file day a b : Int) (k : Nat) (best : Int) : Prop :=
  (best = -1 ∧ latestS ((zs.take k).filter (ofB file day a b)) = none) ∨ ∃ j : Nat, j < k ∧ best = j ∧ latestS ((zs.take k).filter (ofB file day a b)) = some zs[j]!
theorem ofB_take {zs : List Sig} {file day a b : Int} {k : Nat} (hk : k < zs.length) : (zs.take (k + 1)).filter (ofB file day a b) = (zs.take k).filter (ofB file day a b) ++ (if ofB file day a b zs[k]! then [zs[k]!] else []) := by
  rw [List.take_succ_eq_append_getElem hk, List.filter_append, ← getElem!_pos zs k hk, List.filter_cons, List.filter_nil]
theorem LatI.start (zs : List Sig) (file day a b : Int) : LatI zs file day a b 0 (-1) := .inl ⟨rfl, rfl⟩
theorem LatI.skip {zs : List Sig} {file day a b : Int} {k : Nat} {best : Int} (h : LatI zs file day a b k best) (hk : k < zs.length) (ho : ofB file day a b zs[k]! = false) : LatI zs file day a b (k + 1) best := by
  unfold LatI at *
  rw [ofB_take hk, ho]
  simp only [Bool.false_eq_true, if_false, List.append_nil]
  exact h.imp id fun ⟨j, h1, h2, h3⟩ => ⟨j, by omega, h2, h3⟩
theorem LatI.first {zs : List Sig} {file day a b : Int} {k : Nat} {best : Int} (h : LatI zs file day a b k best) (hk : k < zs.length) (ho : ofB file day a b zs[k]! = true) (hb : best < 0) : LatI zs file day a b (k + 1) k := by
  unfold LatI at *
  rw [ofB_take hk, ho, if_pos rfl]
  rcases h with ⟨_, h2⟩ | ⟨j, _, h2, _⟩
  · exact .inr ⟨k, by omega, rfl, by rw [latestS_snoc, h2]; rfl⟩
  · omega
theorem LatI.more {zs : List Sig} {file day a b : Int} {k j : Nat} (h : LatI zs file day a b k j) (hk : k < zs.length) (ho : ofB file day a b zs[k]! = true) (hl : laterB zs[k]! zs[j]! = true) : LatI zs file day a b (k + 1) k := by
  unfold LatI at *
  rw [ofB_take hk, ho, if_pos rfl]
  rcases h with ⟨h1, _⟩ | ⟨i, _, h2, h3⟩
  · omega
  · obtain rfl : j = i := by omega
    exact .inr ⟨k, by omega, rfl, by rw [latestS_snoc, h3]; unfold laterS; simp only; rw [if_pos hl]⟩
theorem LatI.stay {zs : List Sig} {file day a b : Int} {k j : Nat} (h : LatI zs file day a b k j) (hk : k < zs.length) (ho : ofB file day a b zs[k]! = true) (hl : laterB zs[k]! zs[j]! = false) : LatI zs file day a b (k + 1) j := by
  unfold LatI at *
  rw [ofB_take hk, ho, if_pos rfl]
  rcases h with ⟨h1, _⟩ | ⟨i, h1, h2, h3⟩
  · omega
  · obtain rfl : j = i := by omega
    exact .inr ⟨j, by omega, rfl, by rw [latestS_snoc, h3]; unfold laterS; simp only; rw [if_neg (by rw [hl]; simp)]⟩
theorem LatI.all {zs : List Sig} {file day a b : Int} {best : Int} (h : LatI zs file day a b zs.length best) : (best = -1 ∧ latestOf zs file day a b = none) ∨ ∃ j : Nat, j < zs.length ∧ best = j ∧ latestOf zs file day a b = some zs[j]! := by
  unfold LatI at h
  rw [List.take_length] at h
  exact h

set_option maxRecDepth 100000 in
set_option maxHeartbeats 8000000 in
theorem refLatest_any (A : Option Addr) (n c : Nat) (zs : List Sig) (file day a b : Int) (w : World) (hi : SigsIn w A n zs) :
    Calls Tryd.prog 78 #[.slice A n c, .int .i64 file, .int .i64 day, .int .u8 a, .int .u8 b] w fun e w' => ∃ best, e = .returned (.int .i64 best) ∧ (LatI zs file day a b zs.length best ∧ Gr w w') := by
  have HI := hid hi
  have HL := hid hi.rd.sig_len
  have hbig := hi.big
  have hbig' : (n : Int) ≤ 9223372036854775807 := by omega
  clear hi
  go_enter Tryd.func78, Tryd.ntmps78
  go_wp2
  go_loopg [11, 12] n (fun gg s11 s12 wr => ∃ (kk : Nat) (best : Int), kk ≤ n ∧ n - kk ≤ gg ∧ s12 = .int .i64 kk ∧ s11 = .int .i64 best ∧ Gr w wr ∧ Hid (LatI zs file day a b kk best))
  case atStart => exact ⟨0, -1, Nat.zero_le _, by omega, rfl, rfl, Gr.refl w, LatI.start _ _ _ _ _⟩
  case round =>
    obtain ⟨kk, best, hkk, hg, rfl, rfl, BW, HB⟩ := hrel
    by_cases hlt : kk < n
    · obtain ⟨hk', b', off', rfl, hb', c0, c1, c2, c3, c4, c5⟩ := (HI.out.gr BW).rd.sig hlt
      have HK := hid hk'
      clear hk'
      obtain ⟨x, hx⟩ : ∃ x, zs[kk]! = x := ⟨_, rfl⟩
      have HO : Hid (ofB file day a b zs[kk]! = (x.file == file && decide (x.day ≤ day) && (x.kind == a || x.kind == b))) := by show ofB file day a b zs[kk]! = _; rw [hx]; rfl
      have HX := hid hx
      rw [hx] at c0 c1 c2 c3 c4 c5
      clear hx
      have hkn : (kk : Int) < (n : Int) := by omega
      have hk0 : (0 : Int) ≤ (kk : Int) := by omega
      have HRow := hid (heap_alloc_new wr (.cells x.cells.toArray 67))
      obtain ⟨e1, k1⟩ : ∃ e, (x.file == file) = e := ⟨_, rfl⟩
      obtain ⟨e2, k2⟩ : ∃ e, decide (x.day ≤ day) = e := ⟨_, rfl⟩
      obtain ⟨e3, k3⟩ : ∃ e, (x.kind == a) = e := ⟨_, rfl⟩
      obtain ⟨e4, k4⟩ : ∃ e, (x.kind == b) = e := ⟨_, rfl⟩
      rw [k1, k2, k3, k4] at HO
      by_cases hsel : (e1 && e2 && (e3 || e4)) = true
      case neg =>
        have HP : Hid (LatI zs file day a b (kk + 1) best) := HB.out.skip HK.out (by rw [HO.out]; simpa using hsel)
        clear HO
        obtain ⟨x0, x1, x2, x3, x4, x5⟩ := x
        unfold Sig.cells at HRow
        dsimp only at *
        obtain ⟨r0, r1, r2, r3, r4, r5⟩ := row6 HRow.out
        cases e1
        case' true => cases e2
        case' true.true => cases e3
        case' true.true.false => cases e4
        case' true.true.false.true => exact absurd rfl hsel
        case' true.true.true => exact absurd rfl hsel
        all_goals
          clear hsel
          go_wp2
          (refine wp_region_gr (by kernel_rfl) (by kernel_rfl) ?_; (repeat (first | go_big_quiet_step ((fail)) | quiet_step ((fail)))); refine wpQuiet_nil ?_; intro wa hw; obtain ⟨⟨_, hbwa⟩, hw⟩ := hw; subst hw; obtain ⟨hcwa, hfwa, hzwa⟩ := hbwa.rules; (try simp at hzwa))
          go_wp2
          go_roundg (n - (kk + 1))
          case measure => omega
          case rel => exact ⟨kk + 1, best, by omega, by omega, by go_num, rfl, BW.trans (((Gr.refl wr).alloc _).trans hbwa), HP.out⟩
      case pos =>
        have HSel : Hid (ofB file day a b zs[kk]! = true) := by show ofB file day a b zs[kk]! = true; rw [HO.out]; exact hsel
        clear HO
        simp only [Bool.and_eq_true] at hsel
        obtain ⟨⟨rfl, rfl⟩, hsel⟩ := hsel
        by_cases hneg : best < 0
        · have HP : Hid (LatI zs file day a b (kk + 1) kk) := HB.out.first HK.out HSel.out hneg
          obtain ⟨x0, x1, x2, x3, x4, x5⟩ := x
          unfold Sig.cells at HRow
          dsimp only at *
          obtain ⟨r0, r1, r2, r3, r4, r5⟩ := row6 HRow.out
          cases e3
          case' false => cases e4
          case' false.false => exact absurd hsel (by simp)
          all_goals
            clear hsel
            go_wp2
            (refine wp_region_gr (by kernel_rfl) (by kernel_rfl) ?_; (repeat (first | go_big_quiet_step ((fail)) | quiet_step ((fail)))); refine wpQuiet_nil ?_; intro wa hw; obtain ⟨⟨_, hbwa⟩, hw⟩ := hw; subst hw; obtain ⟨hcwa, hfwa, hzwa⟩ := hbwa.rules; (try simp at hzwa))
            go_wp2
            go_roundg (n - (kk + 1))
            case measure => omega
            case rel => exact ⟨kk + 1, kk, by omega, by omega, by go_num, rfl, BW.trans (((Gr.refl wr).alloc _).trans hbwa), HP.out⟩
        · obtain ⟨j, hj, rfl⟩ : ∃ j : Nat, j < kk ∧ best = j := by
            rcases HB.out with ⟨h, _⟩ | ⟨j, h1, h2, _⟩
            · omega
            · exact ⟨j, h1, h2⟩
          clear hneg
          obtain ⟨_, b2, off2, hA2, _, d0, d1, d2, d3, d4, d5⟩ := (HI.out.gr BW).rd.sig (k := j) (by omega)
          cases hA2
          obtain ⟨y, hy⟩ : ∃ y, zs[j]! = y := ⟨_, rfl⟩
          rw [hy] at d0 d1 d2 d3 d4 d5
          have HS := hid (fun W => refLater_any x y W)
          have HLt : Hid (laterB zs[kk]! zs[j]! = laterB x y) := by show laterB zs[kk]! zs[j]! = _; rw [HX.out, hy]
          have hj0 : ¬ (j : Int) < 0 := by omega
          have hj1 : (0 : Int) ≤ (j : Int) := by omega
          have hjn : (j : Int) < (n : Int) := by omega
          clear hy
          obtain ⟨lt, hlt'⟩ : ∃ e, laterB x y = e := ⟨_, rfl⟩
          rw [hlt'] at HS HLt
          clear hlt'
          have HP : Hid (lt = true → LatI zs file day a b (kk + 1) kk) := fun h => HB.out.more HK.out HSel.out (by rw [HLt.out]; exact h)
          have HP2 : Hid (lt = false → LatI zs file day a b (kk + 1) j) := fun h => HB.out.stay HK.out HSel.out (by rw [HLt.out]; exact h)
          have Q0 := GrW.cell (row_cell d0 ((Gr.refl wr).alloc (.cells x.cells.toArray 67)))
          have Q1 := GrW.cell (row_cell d1 ((Gr.refl wr).alloc (.cells x.cells.toArray 67)))
          have Q2 := GrW.cell (row_cell d2 ((Gr.refl wr).alloc (.cells x.cells.toArray 67)))
          have Q3 := GrW.cell (row_cell d3 ((Gr.refl wr).alloc (.cells x.cells.toArray 67)))
          have Q4 := GrW.cell (row_cell d4 ((Gr.refl wr).alloc (.cells x.cells.toArray 67)))
          have Q5 := GrW.cell (row_cell d5 ((Gr.refl wr).alloc (.cells x.cells.toArray 67)))
          clear d0 d1 d2 d3 d4 d5
          obtain ⟨x0, x1, x2, x3, x4, x5⟩ := x
          obtain ⟨y0, y1, y2, y3, y4, y5⟩ := y
          unfold Sig.cells at HRow Q0 Q1 Q2 Q3 Q4 Q5
          unfold Sig.val at HS
          dsimp only at *
          obtain ⟨r0, r1, r2, r3, r4, r5⟩ := row6 HRow.out
          cases e3
          case' false => cases e4
          case' false.false => exact absurd hsel (by simp)
          all_goals cases lt
          all_goals
            clear hsel
            go_wp2
            (refine wp_region_gr (by kernel_rfl) (by kernel_rfl) ?_; (repeat (first | go_big_quiet_step ((first | (go_at_call 79; exact calls_gr (HS.out _)))) | quiet_step ((first | (go_at_call 79; exact calls_gr (HS.out _)))))); refine wpQuiet_nil ?_; intro wa hw; obtain ⟨⟨_, hbwa⟩, hw⟩ := hw; subst hw; obtain ⟨hcwa, hfwa, hzwa⟩ := hbwa.rules; (try simp at hzwa))
            go_wp2
            go_roundg (n - (kk + 1))
            case measure => omega
            case rel => first
              | exact ⟨kk + 1, kk, by omega, by omega, by go_num, rfl, BW.trans (((Gr.refl wr).alloc _).trans hbwa), HP.out (by simp)⟩
              | exact ⟨kk + 1, j, by omega, by omega, by go_num, rfl, BW.trans (((Gr.refl wr).alloc _).trans hbwa), HP2.out (by simp)⟩
    · have hltz : ¬ (kk : Int) < (n : Int) := by omega
      have hkz : kk = zs.length := by have := HL.out; omega
      go_wp2
      go_ret
      exact ⟨best, rfl, by rw [← hkz]; exact HB.out, BW⟩
end Go.Proofs.YtliehlefpodhaaaDoor
