/- told of the laws of match: the contract. For valid rules and records, and numbers. -/
import Derived.Test.YtlkjimfkapcenaaQToldSpec
import Derived.Test.YtlkjimfkapcenaaQPairSpec
import Derived.BigQuiet
import Derived.Deep.QuietTactic
import Derived.Deep.RegionHeld3
import Derived.Deep.RegionWith
import Derived.StillTailTactics
namespace Go.Proofs.Ytlkjimfkapcenaa
open Go.RowKit

set_option maxRecDepth 100000 in
set_option maxHeartbeats 8000000 in
theorem told_any (r : Rul) (a : Rcd) (A : Option Addr) (n c : Nat) (B : Option Addr) (m d : Nat) (xs : List Int) (C : Option Addr) (k e : Nat) (i : Int) (w : World) (ha : a.In w A n B m) (hro : r.ok = true) (hao : a.ok = true)
    (hx : Rd w 1 C k (xs.map (Value.int .u32))) (hk : k ≤ 9223372036854775807) (hxr : ∀ x ∈ xs, 0 ≤ x ∧ x ≤ 4294967295) (hi : 0 ≤ i ∧ i ≤ 100) :
    Calls Try.prog 23 #[r.val, a.val A n c B m d, .slice C k e, .int .i64 i] w fun ex w' => ∃ x A9 c9 B9 d9, ex = .returned (x.val A9 n c9 B9 m d9) ∧ Told r a x ∧ (∀ V : World, (∀ k, w.heap.size ≤ k → k < w'.heap.size → V.heap[k]? = w'.heap[k]?) → x.In V A9 n B9 m) ∧ (n ≤ c9 ∧ c9 ≤ 9223372036854775807) ∧ (m ≤ d9 ∧ d9 ≤ 9223372036854775807) ∧ Gr w w' := by
  have hnl := ha.nlen
  have hml := ha.mlen
  have hnm : n ≤ 5 ∧ m ≤ 6 ∧ 1 ≤ n := by
    unfold Rcd.ok inB at hao
    simp only [Bool.and_eq_true, decide_eq_true_eq] at hao
    omega
  have MK : ∀ z : Int, 0 ≤ z → z ≤ 1000000 → ∃ y : Nat, y ≤ 4294967295 ∧ Hid (∀ W, Gr w W → Calls Try.prog 24 #[.slice C k e, .int .i64 z] W fun e w' => e = .returned (.int .u32 (y : Int)) ∧ w' = W) := fun z h0 h1 => by
    have hr := atV_range hxr z.toNat
    refine ⟨(atV xs z.toNat).toNat, by omega, fun W g => ?_⟩
    have h := at_any xs C k e z W (hx.gr g) hk ⟨h0, h1⟩
    rwa [← Int.toNat_of_nonneg hr.1] at h
  have MKK := hid MK
  clear MK
  obtain ⟨⟨l0, l5⟩, ⟨g0, g5⟩, ⟨y0, y1⟩, _⟩ := rul_parts hro
  obtain ⟨D2, hD2, hD3⟩ : ∃ D2 : Nat, r.digits / 2 = (D2 : Int) ∧ 2 * (D2 : Int) ≤ r.digits := ⟨(r.digits / 2).toNat, by omega, by omega⟩
  obtain ⟨Y2, hY2, hY3⟩ : ∃ Y2 : Nat, r.days / 2 = (Y2 : Int) ∧ 2 * (Y2 : Int) ≤ r.days := ⟨(r.days / 2).toNat, by omega, by omega⟩
  obtain ⟨⟨b0, b1, b2⟩, b3, b4⟩ := ok_parts hao
  have HT : Hid (∀ W, Gr w W → Calls Try.prog 12 #[a.val A n c B m d] W fun e w' => ∃ A' c' B' d' mid, e = .returned (a.val A' n c' B' m d') ∧ W.heap.size ≤ mid ∧ (w'.ownsRow (W.heap.size + 1 + 1) 9 1 (.slice A' n c') n (a.names.map Value.string) ∧ w'.ownsRow mid 75 3 (.slice B' m d') m (a.stays.flatMap Sty.cells) ∧ (∀ a, A' = some a → a.block < mid) ∧ mid ≤ w'.heap.size) ∧ Gr W w') := fun W g => by
    refine (twin_own a A n c B m d W (ha.gr g) (by omega) (by omega)).mono ?_
    rintro e w' ⟨A', c', B', d', mid, k1, k2, k3, k4, k5, k6, k7⟩
    exact ⟨A', c', B', d', mid, k1, k5, ⟨k2, k3, k4, k6⟩, k7⟩
  obtain ⟨L2, hL2, hL3⟩ : ∃ L2 : Nat, r.letters / 2 = (L2 : Int) ∧ 2 * (L2 : Int) ≤ r.letters := ⟨(r.letters / 2).toNat, by omega, by omega⟩
  have HWR : Hid (∀ u z W, wordB u = true → 0 ≤ z ∧ z ≤ 1000 → Gr w W → Calls Try.prog 43 #[.string u, .int .i64 L2, .slice C k e, .int .i64 z] W fun e w' => ∃ v, e = .returned (.string v) ∧ (wordB v = true ∧ levW u v ≤ L2) ∧ Gr W w') := fun u z W hu hz g =>
    wrong_any u L2 xs C k e z W (hx.gr g) hk hxr hz (by omega) hu
  have HIN := hid ha
  have HOK := hid hao
  clear ha hx hxr hao hro
  obtain ⟨l, dg, dy, t⟩ := r
  obtain ⟨id, names, suf, lo, hi, num, tw, stays⟩ := a
  unfold Rcd.val Rul.val at *
  dsimp only at *
  go_enter Try.func23, Try.ntmps23
  go_upto_region 2 with (first
    | (go_at_call 12; (with_reducible refine (HT.out _ ?_).mono ?_); rotate_right; rintro e6 w6 ⟨A9, c9, B9, d9, mid, rfl, hmid, q, hbw6⟩; have HQ := hid q; clear q; obtain ⟨hcw6, hfw6, hzw6⟩ := hbw6.rules; (try simp at hzw6); have z0 : w.heap.size < w6.heap.size := (by omega); have z1 : w.heap.size + 1 < w6.heap.size := (by omega); have z2 : w.heap.size + 1 + 1 < w6.heap.size := (by omega)))
  · have G3 : Gr w (((w.alloc (.cells #[.int .i64 l, .int .i64 dg, .int .i64 dy, .int .i64 t] 23)).alloc (.cells #[.int .i64 id, .slice A n c, .int .u8 suf, .int .i64 lo, .int .i64 hi, .string num, .bool tw, .slice B m d] 29)).alloc (.cells #[.int .i64 0, .slice none 0 0, .int .u8 0, .int .i64 0, .int .i64 0, .string ByteArray.empty, .bool false, .slice none 0 0] 29)) := (((Gr.refl w).alloc _).alloc _).alloc _
    obtain ⟨E1, E2, E3⟩ := rows3 w (.cells #[.int .i64 l, .int .i64 dg, .int .i64 dy, .int .i64 t] 23) (.cells #[.int .i64 id, .slice A n c, .int .u8 suf, .int .i64 lo, .int .i64 hi, .string num, .bool tw, .slice B m d] 29) (.cells #[.int .i64 0, .slice none 0 0, .int .u8 0, .int .i64 0, .int .i64 0, .string ByteArray.empty, .bool false, .slice none 0 0] 29)
    obtain ⟨q1, q2, q3, q4⟩ := HQ.out
    obtain ⟨gA, rfl⟩ := own_at q1 (by omega)
    have hT : TW w (w6.alloc (.cells #[.int .i64 id, .slice (some ⟨gA, 0, none⟩) n c9, .int .u8 suf, .int .i64 lo, .int .i64 hi, .string num, .bool tw, .slice B9 m d9] 29)) w6.heap.size #[.int .i64 l, .int .i64 dg, .int .i64 dy, .int .i64 t] #[.int .i64 id, .slice A n c, .int .u8 suf, .int .i64 lo, .int .i64 hi, .string num, .bool tw, .slice B m d] ⟨id, names, suf, lo, hi, num, tw, stays⟩ (some ⟨gA, 0, none⟩) n c9 B9 m d9 mid := by
      have K := Gr.alloc hbw6 (.cells #[.int .i64 id, .slice (some ⟨gA, 0, none⟩) n c9, .int .u8 suf, .int .i64 lo, .int .i64 hi, .string num, .bool tw, .slice B9 m d9] 29)
      have Kn : Gr w6 (w6.alloc (.cells #[.int .i64 id, .slice (some ⟨gA, 0, none⟩) n c9, .int .u8 suf, .int .i64 lo, .int .i64 hi, .string num, .bool tw, .slice B9 m d9] 29)) := (Gr.refl w6).alloc _
      simp at hmid
      exact ⟨G3.trans K, row_gr E1 K, row_gr E2 K, row_gr E3 K, heap_alloc_new w6 _, own_keep q1 (by simp) (fun _ _ h2 => Kn.heap h2), own_grk q2 Kn, q3, by omega, q4, own_lt q2⟩
    have HCAP := hid (own_cap q1)
    have HCAP2 := hid (own_cap q2)
    obtain ⟨gb, hgb⟩ : ∃ gb, gb = w6.heap.size := ⟨_, rfl⟩
    rw [← hgb] at hT ⊢
    generalize w6.alloc (.cells #[.int .i64 id, .slice (some ⟨gA, 0, none⟩) n c9, .int .u8 suf, .int .i64 lo, .int .i64 hi, .string num, .bool tw, .slice B9 m d9] 29) = W at hT ⊢
    obtain ⟨o0, o1, o2, o3, o4, o5, o6, o7⟩ := cellsat8 hT.out
    have lgb := hT.gbl
    have HTW := hid hT
    clear hT E1 E2 E3 q1 q2 q3 q4 HQ hbw6 hcw6 hfw6 hzw6 z0 z1 z2 hmid hgb G3 HT HIN
    go_wp2
    clear o0 o1 o2 o3 o4 o5 o6 o7 lgb
    go_loopg [20] n (fun gg s20 wr => ∃ j : Nat, j ≤ n ∧ n - j ≤ gg ∧ s20 = .int .i64 j ∧ Hid (∃ zs : List ByteArray, zs.length = n ∧ TW w wr gb #[.int .i64 l, .int .i64 dg, .int .i64 dy, .int .i64 t] #[.int .i64 id, .slice A n c, .int .u8 suf, .int .i64 lo, .int .i64 hi, .string num, .bool tw, .slice B m d] ⟨id, zs, suf, lo, hi, num, tw, stays⟩ (some ⟨gA, 0, none⟩) n c9 B9 m d9 mid ∧ (∀ q, q < j → wordB zs[q]! = true ∧ levW names[q]! zs[q]! ≤ L2) ∧ (∀ q, j ≤ q → zs[q]! = names[q]!)))
    case atStart => exact ⟨0, by omega, by omega, rfl, names, hnl, HTW.out, fun q hq => absurd hq (by omega), fun q _ => rfl⟩
    case round =>
      clear HTW
      obtain ⟨j, hj, hg, rfl, zs, hzl, T, p1, p2⟩ := hrel
      by_cases hlt : j < n
      · have HP := hid (And.intro p1 p2)
        clear p1 p2
        have hw : wordB names[j]! = true := by
          have h := HOK.out
          unfold Rcd.ok at h
          simp only [Bool.and_eq_true, List.all_eq_true] at h
          exact h.1.1.1.1.1.1.2 _ (mem_get (by omega))
        have e1 := HP.out.2 j (Nat.le_refl _)
        obtain ⟨o0, o1, o2, o3, o4, o5, o6, o7⟩ := cellsat8 T.out
        obtain ⟨r0, r1, r2, r3⟩ := cellsat4 T.rules
        have f1 := T.names.frozenAt j
        have c1 : wr.cell? ⟨gA, j, none⟩ = some (.string zs[j]!) := by
          have h := (Rd.of_own T.names).at_ (by omega)
          obtain ⟨b', off', h1, h2, h3⟩ := h
          injection h1 with h1
          injection h1 with h1a h1b
          subst h1a; subst h1b
          have := h3 j _ (Rd.get (enc := Value.string) (by omega : j < zs.length))
          rwa [Nat.zero_add] at this
        rw [e1] at c1
        have HC := HWR.out names[j]! (i + 20 * (j : Int)) wr.drew hw (by omega) T.gr.drew
        have HV : Hid (∀ v, wordB v = true ∧ levW names[j]! v ≤ L2 → (zs.set j v).length = n ∧ (∀ q, q < j + 1 → wordB (zs.set j v)[q]! = true ∧ levW names[q]! (zs.set j v)[q]! ≤ L2) ∧ (∀ q, j + 1 ≤ q → (zs.set j v)[q]! = names[q]!)) := fun v hv => names_step hzl hlt HP.out hv
        generalize names[j]! = u at c1 HC HV
        have HHC := hid HC
        have HTW := hid T
        have lgb := T.gbl
        have lgA : gA < wr.heap.size := (T.names.lt gA rfl).2
        have ld : w.heap.size < wr.heap.size := (Array.getElem?_eq_some_iff.1 T.rules).1
        have ng : gA ≠ gb := by have h1 := T.apart _ rfl; have h2 := T.midgb; dsimp only at h1; omega
        have nw : gA ≠ w.heap.size := by have h1 := (T.names.lt gA rfl).1; omega
        have hq1 : Int.tdiv l 2 = (L2 : Int) := by rw [Int.tdiv_eq_ediv_of_nonneg (by omega)]; exact hL2
        have hq3 : IntKind.i64.wrap (Int.tdiv l 2) = (L2 : Int) := by rw [hq1]; exact IntWalk.i64_in _ (by omega)
        have hq4 : IntKind.i64.wrap (L2 : Int) = (L2 : Int) := IntWalk.i64_in _ (by omega)
        have i1 : (j : Int) < (n : Int) := by omega
        have i2 : (0 : Int) ≤ (j : Int) := by omega
        have i3 : (j : Int) ≤ 5 := by omega
        have s1 : IntKind.i64.wrap (20 * (j : Int)) = 20 * (j : Int) := IntWalk.i64_in _ (by omega)
        have s2 : IntKind.i64.wrap (i + 20 * (j : Int)) = i + 20 * (j : Int) := IntWalk.i64_in _ (by omega)
        clear HC T e1 hw HP o0 o2 o3 o4 o5 o6 o7 r1 r2 r3
        go_wp2
        go_region_with (first
            | (go_at_call 43; (with_reducible refine HHC.out.mono ?_); rintro e7 w7 ⟨v, rfl, hv, hbw7⟩; have HVV := hid hv; clear hv; obtain ⟨hcw7, hfw7, hzw7⟩ := hbw7.rules; (try simp at hzw7); have z7 : gA < w7.heap.size := (by omega); have z8 : gb < w7.heap.size := (by omega); have Q7 : w7.cell? ⟨gA, j, none⟩ = some (.string u) := row_cell (show wr.drew.cell? ⟨gA, j, none⟩ = _ from c1) hbw7; have F7 : w7.frozen? ⟨gA, j, none⟩ = false := (hbw7.frozen (show gA < wr.drew.heap.size from lgA)).trans f1; have B7 : w7.cell? ⟨gb, 1, none⟩ = some (.slice (some ⟨gA, 0, none⟩) n c9) := row_cell (show wr.drew.cell? ⟨gb, 1, none⟩ = _ from o1) hbw7))
        all_goals
          go_wp2
          go_roundg (n - (j + 1))
          case measure => omega
          case rel => exact ⟨j + 1, by omega, by omega, by go_num, zs.set j v, (HV.out v HVV.out).1, TW.name (HTW.out.to ((Gr.refl wr).drew.trans hbw7)) j v, (HV.out v HVV.out).2.1, (HV.out v HVV.out).2.2⟩
      · obtain rfl : n = j := by omega
        clear p2 HWR
        have HP := hid p1
        have HHL := hid hzl
        obtain ⟨o0, o1, o2, o3, o4, o5, o6, o7⟩ := cellsat8 T.out
        have lgb := T.gbl
        have HTW := hid T
        have hconv := run_bytes_of_string (P := Try.prog) wr 9 53 5 num Try.underlying9 Try.underlying53 Try.underlying5
        have HNW := hid (fun lo hi h => DB.new wr num (grownCap wr num.size 0 5) lo hi h)
        have HLE := hid (bytesRow_le num (grownCap wr num.size 0 5))
        have HRD : Hid (madeB num 48 57 = true) := by
          have h := HOK.out
          unfold Rcd.ok at h
          simp only [Bool.and_eq_true] at h
          exact h.2
        generalize bytesRow num (grownCap wr num.size 0 5) = CS at hconv HNW HLE
        generalize grownCap wr num.size 0 5 = cap at hconv HNW HLE
        obtain ⟨sz, hsz⟩ : ∃ sz, sz = num.size := ⟨_, rfl⟩
        rw [← hsz] at hconv
        have HSZ := hid hsz
        rw [← hsz] at b3
        clear hsz o0 o1 o2 o3 o4 o6 o7 p1 hzl T
        go_upto_region 7 with fail
        go_cut [11] (fun s11 wx => ∃ gd cap, s11 = .slice (some ⟨gd, 0, none⟩) sz cap ∧ Hid (gb < gd ∧ TW w wx gb #[.int .i64 l, .int .i64 dg, .int .i64 dy, .int .i64 t] #[.int .i64 id, .slice A n c, .int .u8 suf, .int .i64 lo, .int .i64 hi, .string num, .bool tw, .slice B m d] ⟨id, zs, suf, lo, hi, num, tw, stays⟩ (some ⟨gA, 0, none⟩) n c9 B9 m d9 mid ∧ DB wx gd num.data.toList))
        case first => as_aux_lemma =>
          go_wp2
          go_meet
          exact ⟨wr.heap.size, cap, rfl, lgb, HTW.out.to (by (repeat (first | with_reducible exact Gr.refl _ | with_reducible refine Gr.alloc ?_ _ | with_reducible refine Gr.setCell ?_ (by simp) _ | with_reducible refine Gr.setCell ?_ (by simp; omega) _ | with_reducible refine Gr.drew ?_ | with_reducible refine Gr.drewN ?_ _))), (HNW.out _ _ HLE.out).gr (by (repeat (first | with_reducible exact Gr.refl _ | with_reducible refine Gr.alloc ?_ _ | with_reducible refine Gr.setCell ?_ (by simp) _ | with_reducible refine Gr.setCell ?_ (by simp; omega) _ | with_reducible refine Gr.drew ?_ | with_reducible refine Gr.drewN ?_ _)))⟩
        case rest =>
          obtain ⟨gd, cap9, rfl, HDB⟩ := hcut
          clear HTW hconv HNW HLE o5 lgb
          obtain ⟨W2, rfl⟩ : ∃ W2 : World, W2 = wc := ⟨_, rfl⟩
          obtain ⟨r0, r1, r2, r3⟩ := cellsat4 HDB.out.2.1.rules
          have hq1 : Int.tdiv dg 2 = (D2 : Int) := by rw [Int.tdiv_eq_ediv_of_nonneg (by omega)]; exact hD2
          have hq4 : IntKind.i64.wrap (D2 : Int) = (D2 : Int) := IntWalk.i64_in _ (by omega)
          have hgd := HDB.out.1
          go_wp2
          clear r0 r1 r2 r3 hq1 hq4
          go_loopg [48] D2 (fun gg s48 wq => ∃ q : Nat, q ≤ D2 ∧ D2 - q ≤ gg ∧ s48 = .int .i64 q ∧ Hid (∃ ds : List UInt8, TW w wq gb #[.int .i64 l, .int .i64 dg, .int .i64 dy, .int .i64 t] #[.int .i64 id, .slice A n c, .int .u8 suf, .int .i64 lo, .int .i64 hi, .string num, .bool tw, .slice B m d] ⟨id, zs, suf, lo, hi, num, tw, stays⟩ (some ⟨gA, 0, none⟩) n c9 B9 m d9 mid ∧ DB wq gd ds ∧ ds.length = sz ∧ Digits ds ∧ offN num ⟨ds.toArray⟩ 9 ≤ q))
          case atStart => exact ⟨0, by omega, by omega, rfl, num.data.toList, HDB.out.2.1, HDB.out.2.2, by rw [HSZ.out]; simp, made_digits HRD.out, by rw [bytes_back, offN_refl]; exact Nat.le_refl _⟩
          case round =>
            clear HDB
            obtain ⟨wq, rfl⟩ : ∃ wq : World, wq = wr := ⟨_, rfl⟩
            obtain ⟨q, hq, hg, rfl, ds, T, TD, hdl, hdg, hoff⟩ := hrel
            by_cases hlt : q < D2
            · have T9 := T
              have i1 : (q : Int) < (D2 : Int) := by omega
              have lgb := T.gbl
              have hgdl : gd < wq.heap.size := by obtain ⟨cs, lo', hi', e1, _⟩ := TD; exact (Array.getElem?_eq_some_iff.1 e1).1
              rcases b3 with rfl | rfl
              · go_wp2
                go_roundg (D2 - (q + 1))
                case measure => omega
                case rel => exact ⟨q + 1, by omega, by omega, by go_num, ds, T9, TD, hdl, hdg, by omega⟩
              · have i2 : (0 : Int) ≤ (q : Int) := by omega
                have i3 : (q : Int) ≤ 5 := by omega
                obtain ⟨ya, hya, Hya⟩ := MKK.out (i + 100 + (q : Int)) (by omega) (by omega)
                obtain ⟨yb, hyb, Hyb⟩ := MKK.out (i + 110 + (q : Int)) (by omega) (by omega)
                have HA1 : Hid (Calls Try.prog 24 #[.slice C k e, .int .i64 (i + 100 + (q : Int))] wq.drew fun e w' => e = .returned (.int .u32 (ya : Int)) ∧ w' = wq.drew) := Hya.out _ T.gr.drew
                have HA2 : Hid (Calls Try.prog 24 #[.slice C k e, .int .i64 (i + 110 + (q : Int))] wq.drew fun e w' => e = .returned (.int .u32 (yb : Int)) ∧ w' = wq.drew) := Hyb.out _ T.gr.drew
                have wa : IntKind.i64.wrap (ya : Int) = ya := IntWalk.i64_in _ (by omega)
                have w1 : IntKind.i64.wrap (i + 100) = i + 100 := IntWalk.i64_in _ (by omega)
                have w2 : IntKind.i64.wrap (i + 110) = i + 110 := IntWalk.i64_in _ (by omega)
                have w3 : IntKind.i64.wrap (i + 100 + (q : Int)) = i + 100 + (q : Int) := IntWalk.i64_in _ (by omega)
                have w4 : IntKind.i64.wrap (i + 110 + (q : Int)) = i + 110 + (q : Int) := IntWalk.i64_in _ (by omega)
                have ra1 : Int.tmod (ya : Int) 9 = ((ya % 9 : Nat) : Int) := by rw [Int.tmod_eq_emod_of_nonneg (by omega)]; omega
                have ra2 : (ya : Int) % 9 = ((ya % 9 : Nat) : Int) := by omega
                have ra3 : ya % 9 < 9 := by omega
                have ra4 : IntKind.i64.wrap (Int.tmod (ya : Int) 9) = ((ya % 9 : Nat) : Int) := by rw [ra1]; exact IntWalk.i64_in _ (by omega)
                generalize ya % 9 = p at ra1 ra2 ra3 ra4
                have rb1 : Int.tmod (yb : Int) 10 = ((yb % 10 : Nat) : Int) := by rw [Int.tmod_eq_emod_of_nonneg (by omega)]; omega
                have rb2 : (yb : Int) % 10 = ((yb % 10 : Nat) : Int) := by omega
                have rb3 : yb % 10 < 10 := by omega
                have rb4 : IntKind.u32.wrap (Int.tmod (yb : Int) 10) = ((yb % 10 : Nat) : Int) := by rw [rb1]; exact IntWalk.u32_in _ (by omega)
                generalize yb % 10 = v at rb1 rb2 rb3 rb4
                have w5 : IntKind.u32.wrap (48 + (v : Int)) = 48 + (v : Int) := IntWalk.u32_in _ (by omega)
                have w6 : IntKind.u8.wrap (48 + (v : Int)) = 48 + (v : Int) := IntWalk.u8_in _ (by omega)
                have w7 : IntKind.i64.wrap (p : Int) = (p : Int) := IntWalk.i64_in _ (by omega)
                have w8 : IntKind.u32.wrap (v : Int) = (v : Int) := IntWalk.u32_in _ (by omega)
                have p1 : (0 : Int) ≤ (p : Int) := by omega
                have p2 : (p : Int) < 9 := by omega
                have HT9 := hid T9
                have HTD := hid TD
                have HREL := hid (And.intro hdl (And.intro hdg hoff))
                clear T T9 TD hdl hdg hoff
                go_wp2
                refine wp_region_still_tail 21 (by kernel_rfl) (by kernel_rfl) ?_
                simp only [List.take_succ_cons, List.take_zero, List.drop_succ_cons, List.drop_zero]
                repeat still_step
                still_call HA1.out
                repeat still_step
                still_call HA2.out
                repeat still_step
                refine wpStill_nil ?_
                change wpList _ _ _ _ _ wq.drew
                have HT6 := hid (show TW w wq.drew gb #[.int .i64 l, .int .i64 dg, .int .i64 dy, .int .i64 t] #[.int .i64 id, .slice A n c, .int .u8 suf, .int .i64 lo, .int .i64 hi, .string num, .bool tw, .slice B m d] ⟨id, zs, suf, lo, hi, num, tw, stays⟩ (some ⟨gA, 0, none⟩) n c9 B9 m d9 mid from HT9.out.to (Gr.refl wq).drew)
                have HTD6 := hid (show DB wq.drew gd ds from HTD.out.gr (Gr.refl wq).drew)
                generalize wq.drew = W6 at HT6 HTD6 ⊢
                have c6 := HTD6.out.cell (show p < ds.length by rw [HREL.out.1]; omega)
                have f6 := HTD6.out.frozen (show p < ds.length by rw [HREL.out.1]; omega)
                go_wp2
                go_roundg (D2 - (q + 1))
                case measure => omega
                case rel =>
                  have hb : ((UInt8.ofNat (48 + v)).toNat : Int) = 48 + (v : Int) := by simp; omega
                  exact ⟨q + 1, by omega, by omega, by go_num, ds.set p (UInt8.ofNat (48 + v)), HT6.out.far hgd p _, HTD6.out.set_ p _ _ hb.symm, by simpa using HREL.out.1, digits_set HREL.out.2.1 (by omega), off_set HREL.out.2.2⟩
            · obtain rfl : D2 = q := by omega
              have hbk := TD.back (cap := cap9)
              rw [hdl] at hbk
              have HNW : Hid ((⟨ds.toArray⟩ : ByteArray).size = sz ∧ madeB ⟨ds.toArray⟩ 48 57 = true ∧ offN num ⟨ds.toArray⟩ 9 ≤ D2) := ⟨by rw [← hdl]; show ds.toArray.size = ds.length; simp, digits_made hdg, hoff⟩
              generalize (⟨ds.toArray⟩ : ByteArray) = nw at hbk HNW
              obtain ⟨o0, o1, o2, o3, o4, o5, o6, o7⟩ := cellsat8 T.out
              have f5 := frozen_of_row wq gb 5 _ _ T.out
              have HT0 := hid T
              clear T TD hdl hdg hoff
              go_upto_region 15 with fail
              have HT3 : Hid (TW w (wq.setCell ⟨gb, 5, none⟩ (.string nw)) gb #[.int .i64 l, .int .i64 dg, .int .i64 dy, .int .i64 t] #[.int .i64 id, .slice A n c, .int .u8 suf, .int .i64 lo, .int .i64 hi, .string num, .bool tw, .slice B m d] ⟨id, zs, suf, lo, hi, nw, tw, stays⟩ (some ⟨gA, 0, none⟩) n c9 B9 m d9 mid) := TW.field HT0.out 5 (.string nw) rfl rfl rfl
              generalize wq.setCell ⟨gb, 5, none⟩ (.string nw) = W3 at HT3 ⊢
              clear o0 o1 o2 o3 o4 o5 o6 o7 f5 hbk HT0 hgd
              obtain ⟨r0, r1, r2, r3⟩ := cellsat4 HT3.out.rules
              obtain ⟨ya, hya, Hya⟩ := MKK.out (i + 120) (by omega) (by omega)
              obtain ⟨yb, hyb, Hyb⟩ := MKK.out (i + 121) (by omega) (by omega)
              have HG3 := hid HT3.out.gr
              have wa : IntKind.i64.wrap ((ya : Int)) = (ya : Int) := IntWalk.i64_in _ (by omega)
              have wb : IntKind.i64.wrap ((yb : Int)) = (yb : Int) := IntWalk.i64_in _ (by omega)
              have w1 : IntKind.i64.wrap (i + 120) = i + 120 := IntWalk.i64_in _ (by omega)
              have w2 : IntKind.i64.wrap (i + 121) = i + 121 := IntWalk.i64_in _ (by omega)
              have hq1 : Int.tdiv dy 2 = (Y2 : Int) := by rw [Int.tdiv_eq_ediv_of_nonneg (by omega)]; exact hY2
              have hq4 : IntKind.i64.wrap ((Y2 : Int)) = (Y2 : Int) := IntWalk.i64_in _ (by omega)
              have hq5 : IntKind.i64.wrap ((Y2 : Int) + 1) = (Y2 : Int) + 1 := IntWalk.i64_in _ (by omega)
              have hnz : ¬ ((Y2 : Int) + 1 = 0) := by omega
              have ra1 : Int.tmod (ya : Int) ((Y2 : Int) + 1) = ((ya % (Y2 + 1) : Nat) : Int) := by rw [Int.tmod_eq_emod_of_nonneg (by omega)]; simp
              have ra2 : (ya : Int) % ((Y2 : Int) + 1) = ((ya % (Y2 + 1) : Nat) : Int) := by simp
              have ra3 : ya % (Y2 + 1) ≤ Y2 := Nat.lt_succ_iff.1 (Nat.mod_lt _ (by omega))
              have ra4 : IntKind.i64.wrap (Int.tmod (ya : Int) ((Y2 : Int) + 1)) = ((ya % (Y2 + 1) : Nat) : Int) := by rw [ra1]; generalize ya % (Y2 + 1) = z at ra3 ⊢; exact IntWalk.i64_in _ (by omega)
              generalize ya % (Y2 + 1) = pa at ra1 ra2 ra3 ra4
              have rb1 : Int.tmod (yb : Int) ((Y2 : Int) + 1) = ((yb % (Y2 + 1) : Nat) : Int) := by rw [Int.tmod_eq_emod_of_nonneg (by omega)]; simp
              have rb2 : (yb : Int) % ((Y2 : Int) + 1) = ((yb % (Y2 + 1) : Nat) : Int) := by simp
              have rb3 : yb % (Y2 + 1) ≤ Y2 := Nat.lt_succ_iff.1 (Nat.mod_lt _ (by omega))
              have rb4 : IntKind.i64.wrap (Int.tmod (yb : Int) ((Y2 : Int) + 1)) = ((yb % (Y2 + 1) : Nat) : Int) := by rw [rb1]; generalize yb % (Y2 + 1) = z at rb3 ⊢; exact IntWalk.i64_in _ (by omega)
              generalize yb % (Y2 + 1) = pb at rb1 rb2 rb3 rb4
              have w3 : IntKind.i64.wrap ((pa : Int)) = (pa : Int) := IntWalk.i64_in _ (by omega)
              have w4 : IntKind.i64.wrap ((pb : Int)) = (pb : Int) := IntWalk.i64_in _ (by omega)
              have w5 : IntKind.i64.wrap ((pa : Int) - (pb : Int)) = (pa : Int) - (pb : Int) := IntWalk.i64_in _ (by omega)
              go_cut [13] (fun s13 wx => s13 = .int .i64 ((pa : Int) - (pb : Int)) ∧ Hid (TW w wx gb #[.int .i64 l, .int .i64 dg, .int .i64 dy, .int .i64 t] #[.int .i64 id, .slice A n c, .int .u8 suf, .int .i64 lo, .int .i64 hi, .string num, .bool tw, .slice B m d] ⟨id, zs, suf, lo, hi, nw, tw, stays⟩ (some ⟨gA, 0, none⟩) n c9 B9 m d9 mid))
              case first => as_aux_lemma =>
                go_quiet (first | (go_at_call 24; with_reducible exact Calls.quiet_of_same (Hya.out _ (HG3.out.drewN _))) | (go_at_call 24; with_reducible exact Calls.quiet_of_same (Hyb.out _ (HG3.out.drewN _))))
                go_wp2
                go_meet
                exact ⟨rfl, HT3.out.to ((Gr.refl W3).drewN _)⟩
              case rest =>
                obtain ⟨rfl, HT4⟩ := hcut
                obtain ⟨W4, rfl⟩ : ∃ W4 : World, W4 = wc := ⟨_, rfl⟩
                clear HT3 r0 r1 r2 r3 wa wb w1 w2 hq1 hq4 hq5 hnz ra1 ra2 ra4 rb1 rb2 rb4 w3 w4 w5 Hya Hyb HG3
                obtain ⟨a0, a1, a2, a3, a4, a5, a6, a7⟩ := cellsat8 HT4.out.given
                have w1 : IntKind.i64.wrap (lo + ((pa : Int) - (pb : Int))) = lo + ((pa : Int) - (pb : Int)) := IntWalk.i64_in _ (by omega)
                go_upto_region 16 with fail
                go_cut [14] (fun s14 wx => ∃ day : Int, s14 = .int .i64 day ∧ 0 ≤ day ∧ day ≤ 100000 ∧ day - lo ≤ Y2 ∧ lo - day ≤ Y2 ∧ Hid (TW w wx gb #[.int .i64 l, .int .i64 dg, .int .i64 dy, .int .i64 t] #[.int .i64 id, .slice A n c, .int .u8 suf, .int .i64 lo, .int .i64 hi, .string num, .bool tw, .slice B m d] ⟨id, zs, suf, lo, hi, nw, tw, stays⟩ (some ⟨gA, 0, none⟩) n c9 B9 m d9 mid))
                case first => as_aux_lemma =>
                  go_wp2
                  go_meet
                  exact ⟨_, rfl, by omega, by omega, by omega, by omega, HT4⟩
                case rest =>
                  obtain ⟨day, rfl, k1, k2, k3, k4, HT5⟩ := hcut
                  obtain ⟨W5, rfl⟩ : ∃ W5 : World, W5 = wc := ⟨_, rfl⟩
                  clear HT4 a0 a1 a2 a3 a4 a5 a6 a7 w1
                  obtain ⟨ya, hya, Hya⟩ := MKK.out (i + 122) (by omega) (by omega)
                  obtain ⟨yb, hyb, Hyb⟩ := MKK.out (i + 123) (by omega) (by omega)
                  have HG5 := hid HT5.out.gr
                  have w1 : IntKind.i64.wrap (i + 122) = i + 122 := IntWalk.i64_in _ (by omega)
                  have w2 : IntKind.i64.wrap (i + 123) = i + 123 := IntWalk.i64_in _ (by omega)
                  have ra1 : Int.tmod (ya : Int) 40 = ((ya % 40 : Nat) : Int) := by rw [Int.tmod_eq_emod_of_nonneg (by omega)]; omega
                  have ra2 : (ya : Int) % 40 = ((ya % 40 : Nat) : Int) := by omega
                  have ra3 : ya % 40 < 40 := by omega
                  have ra4 : IntKind.u32.wrap (Int.tmod (ya : Int) 40) = ((ya % 40 : Nat) : Int) := by rw [ra1]; exact IntWalk.u32_in _ (by omega)
                  generalize ya % 40 = ca at ra1 ra2 ra3 ra4
                  have rb1 : Int.tmod (yb : Int) 40 = ((yb % 40 : Nat) : Int) := by rw [Int.tmod_eq_emod_of_nonneg (by omega)]; omega
                  have rb2 : (yb : Int) % 40 = ((yb % 40 : Nat) : Int) := by omega
                  have rb3 : yb % 40 < 40 := by omega
                  have rb4 : IntKind.u32.wrap (Int.tmod (yb : Int) 40) = ((yb % 40 : Nat) : Int) := by rw [rb1]; exact IntWalk.u32_in _ (by omega)
                  generalize yb % 40 = cb at rb1 rb2 rb3 rb4
                  have w3 : IntKind.u32.wrap ((ca : Int)) = (ca : Int) := IntWalk.u32_in _ (by omega)
                  have w4 : IntKind.u32.wrap ((cb : Int)) = (cb : Int) := IntWalk.u32_in _ (by omega)
                  have w5 : IntKind.i64.wrap ((ca : Int)) = (ca : Int) := IntWalk.i64_in _ (by omega)
                  have w6 : IntKind.i64.wrap ((cb : Int)) = (cb : Int) := IntWalk.i64_in _ (by omega)
                  have w7 : IntKind.i64.wrap (day - (ca : Int)) = day - (ca : Int) := IntWalk.i64_in _ (by omega)
                  have w8 : IntKind.i64.wrap (day + (cb : Int)) = day + (cb : Int) := IntWalk.i64_in _ (by omega)
                  obtain ⟨o0, o1, o2, o3, o4, o5, o6, o7⟩ := cellsat8 HT5.out.out
                  have f3 := frozen_of_row W5 gb 3 _ _ HT5.out.out
                  have f4 := frozen_of_row W5 gb 4 _ _ HT5.out.out
                  have lgb := HT5.out.gbl
                  go_upto_region 17 with fail
                  go_cut [13] (fun s13 wx => s13 = .int .i64 ((pa : Int) - (pb : Int)) ∧ ∃ lo9 hi9 : Int, 0 ≤ lo9 ∧ lo9 ≤ day ∧ day ≤ hi9 ∧ hi9 ≤ 100000 ∧ Hid (TW w wx gb #[.int .i64 l, .int .i64 dg, .int .i64 dy, .int .i64 t] #[.int .i64 id, .slice A n c, .int .u8 suf, .int .i64 lo, .int .i64 hi, .string num, .bool tw, .slice B m d] ⟨id, zs, suf, lo9, hi9, nw, tw, stays⟩ (some ⟨gA, 0, none⟩) n c9 B9 m d9 mid))
                  case first => as_aux_lemma =>
                    go_wp2_with (first | (go_at_call 24; (with_reducible refine (Hya.out _ HG5.out).mono ?_); rotate_right; rintro e w' ⟨rfl, rfl⟩) | (go_at_call 24; (with_reducible refine (Hyb.out _ HG5.out).mono ?_); rotate_right; rintro e w' ⟨rfl, rfl⟩) | (go_at_call 44; (with_reducible refine (span_any _ _ _).mono ?_); rintro e w' ⟨rfl, rfl⟩))
                    go_meet
                    exact ⟨rfl, _, _, by omega, by omega, by omega, by omega, ((HT5.out.field 3 (.int .i64 (max 0 (day - (ca : Int)))) (y := ⟨id, zs, suf, max 0 (day - (ca : Int)), hi, nw, tw, stays⟩) rfl rfl rfl).field 4 (.int .i64 (min 100000 (day + (cb : Int)))) (y := ⟨id, zs, suf, max 0 (day - (ca : Int)), min 100000 (day + (cb : Int)), nw, tw, stays⟩) rfl rfl rfl).to ((Gr.refl _).alloc _)⟩
                  case rest =>
                    obtain ⟨rfl, lo9, hi9, k5, k6, k7, k8, HT6⟩ := hcut
                    obtain ⟨W6, rfl⟩ : ∃ W6 : World, W6 = wc := ⟨_, rfl⟩
                    clear HT5 o0 o1 o2 o3 o4 o5 o6 o7 f3 f4 lgb w1 w2 w3 w4 w5 w6 w7 w8 ra1 ra2 ra3 ra4 rb1 rb2 rb3 rb4 Hya Hyb HG5
                    have HTOLD : Hid (∀ (suf9 : Int) (nw9 : ByteArray), (suf9 = suf ∨ suf9 = 0) → (nw9 = nw ∨ nw9.size = 0) → Told ⟨l, dg, dy, t⟩ ⟨id, names, suf, lo, hi, num, tw, stays⟩ ⟨id, zs, suf9, lo9, hi9, nw9, tw, stays⟩) := fun suf9 nw9 h1 h2 => by
                      refine ⟨rfl, by rw [HHL.out]; exact hnl.symm, fun q' hq' => ?_, h1, ⟨day, k6, k7, ?_, ?_⟩, ⟨k5, k8⟩, ?_, rfl, rfl⟩
                      · have h := HP.out q' (by rw [← hnl]; exact hq')
                        exact ⟨h.1, by have := h.2; dsimp only; omega⟩
                      · dsimp only; omega
                      · dsimp only; omega
                      · rcases h2 with rfl | h2
                        · exact .inr ⟨by rw [HNW.out.1, HSZ.out], HNW.out.2.1, by have := HNW.out.2.2; dsimp only; omega⟩
                        · exact .inl h2
                    have HWD : Hid (∀ s ∈ zs, s.size ≤ maxLen) := fun s hs => by
                      obtain ⟨q', hq', rfl⟩ := List.getElem_of_mem hs
                      have h := (HP.out q' (by rw [← HHL.out]; exact hq')).1
                      rw [getElem!_pos zs q' hq'] at h
                      have := ((wordB_iff _).1 h).1
                      unfold maxLen; omega
                    have HNL : Hid (∀ nw9 : ByteArray, (nw9 = nw ∨ nw9.size = 0) → nw9.size ≤ maxLen) := fun nw9 h2 => by
                      have := HNW.out.1
                      rcases h2 with rfl | h2
                      · unfold maxLen; omega
                      · unfold maxLen; omega
                    obtain ⟨yc, hyc, Hyc⟩ := MKK.out (i + 124) (by omega) (by omega)
                    obtain ⟨yd, hyd, Hyd⟩ := MKK.out (i + 125) (by omega) (by omega)
                    have w1 : IntKind.i64.wrap (i + 124) = i + 124 := IntWalk.i64_in _ (by omega)
                    have w2 : IntKind.i64.wrap (i + 125) = i + 125 := IntWalk.i64_in _ (by omega)
                    have rc1 : Int.tmod (yc : Int) 3 = ((yc % 3 : Nat) : Int) := by rw [Int.tmod_eq_emod_of_nonneg (by omega)]; omega
                    have rc2 : (yc : Int) % 3 = ((yc % 3 : Nat) : Int) := by omega
                    have rc3 : yc % 3 < 3 := by omega
                    have rc4 : IntKind.u32.wrap (Int.tmod (yc : Int) 3) = ((yc % 3 : Nat) : Int) := by rw [rc1]; exact IntWalk.u32_in _ (by omega)
                    generalize yc % 3 = vc at rc1 rc2 rc3 rc4
                    have rd1 : Int.tmod (yd : Int) 4 = ((yd % 4 : Nat) : Int) := by rw [Int.tmod_eq_emod_of_nonneg (by omega)]; omega
                    have rd2 : (yd : Int) % 4 = ((yd % 4 : Nat) : Int) := by omega
                    have rd3 : yd % 4 < 4 := by omega
                    have rd4 : IntKind.u32.wrap (Int.tmod (yd : Int) 4) = ((yd % 4 : Nat) : Int) := by rw [rd1]; exact IntWalk.u32_in _ (by omega)
                    generalize yd % 4 = vd at rd1 rd2 rd3 rd4
                    have w3 : IntKind.u32.wrap ((vc : Int)) = (vc : Int) := IntWalk.u32_in _ (by omega)
                    have w4 : IntKind.u32.wrap ((vd : Int)) = (vd : Int) := IntWalk.u32_in _ (by omega)
                    have HG6 := hid HT6.out.gr
                    obtain ⟨o0, o1, o2, o3, o4, o5, o6, o7⟩ := cellsat8 HT6.out.out
                    have f2 := frozen_of_row W6 gb 2 _ _ HT6.out.out
                    go_upto_region 18 with fail
                    by_cases hc : vc = 0
                    · subst hc
                      go_upto_region 20 with (first | (go_at_call 24; (with_reducible refine (Hyc.out _ HG6.out).mono ?_); rotate_right; rintro e w9 ⟨rfl, hw9⟩; obtain rfl := hw9.symm))
                      have HT7 : Hid (TW w (W6.setCell ⟨gb, 2, none⟩ (.int .u8 0)) gb #[.int .i64 l, .int .i64 dg, .int .i64 dy, .int .i64 t] #[.int .i64 id, .slice A n c, .int .u8 suf, .int .i64 lo, .int .i64 hi, .string num, .bool tw, .slice B m d] ⟨id, zs, 0, lo9, hi9, nw, tw, stays⟩ (some ⟨gA, 0, none⟩) n c9 B9 m d9 mid) := TW.field HT6.out 2 (.int .u8 0) rfl rfl rfl
                      generalize W6.setCell ⟨gb, 2, none⟩ (.int .u8 0) = W7 at HT7 ⊢
                      clear o0 o1 o2 o3 o4 o5 o6 o7 f2
                      have HG7 := hid HT7.out.gr
                      obtain ⟨o0, o1, o2, o3, o4, o5, o6, o7⟩ := cellsat8 HT7.out.out
                      have f5 := frozen_of_row W7 gb 5 _ _ HT7.out.out
                      by_cases hd : vd = 0
                      · subst hd
                        go_upto_region 22 with (first | (go_at_call 24; (with_reducible refine (Hyd.out _ HG7.out).mono ?_); rotate_right; rintro e w9 ⟨rfl, hw9⟩; obtain rfl := hw9.symm))
                        have HT8 : Hid (TW w (W7.setCell ⟨gb, 5, none⟩ (.string ByteArray.empty)) gb #[.int .i64 l, .int .i64 dg, .int .i64 dy, .int .i64 t] #[.int .i64 id, .slice A n c, .int .u8 suf, .int .i64 lo, .int .i64 hi, .string num, .bool tw, .slice B m d] ⟨id, zs, 0, lo9, hi9, ByteArray.empty, tw, stays⟩ (some ⟨gA, 0, none⟩) n c9 B9 m d9 mid) := TW.field HT7.out 5 (.string ByteArray.empty) rfl rfl rfl
                        change Code.wp _ _ _ _ (W7.setCell ⟨gb, 5, none⟩ (.string ByteArray.empty))
                        generalize W7.setCell ⟨gb, 5, none⟩ (.string ByteArray.empty) = W8 at HT8 ⊢
                        clear o0 o1 o2 o3 o4 o5 o6 o7 f5 HT7
                        obtain ⟨o0, o1, o2, o3, o4, o5, o6, o7⟩ := cellsat8 HT8.out.out
                        obtain ⟨e0, e1, e2, e3, e4, e5, e6, e7⟩ := cellsat8 HT8.out.res
                        have g0 := frozen_of_row W8 (w.heap.size + 1 + 1) 0 _ _ HT8.out.res
                        have g1 := frozen_of_row W8 (w.heap.size + 1 + 1) 1 _ _ HT8.out.res
                        have g2 := frozen_of_row W8 (w.heap.size + 1 + 1) 2 _ _ HT8.out.res
                        have g3 := frozen_of_row W8 (w.heap.size + 1 + 1) 3 _ _ HT8.out.res
                        have g4 := frozen_of_row W8 (w.heap.size + 1 + 1) 4 _ _ HT8.out.res
                        have g5 := frozen_of_row W8 (w.heap.size + 1 + 1) 5 _ _ HT8.out.res
                        have g6 := frozen_of_row W8 (w.heap.size + 1 + 1) 6 _ _ HT8.out.res
                        have g7 := frozen_of_row W8 (w.heap.size + 1 + 1) 7 _ _ HT8.out.res
                        go_wp2
                        change bodyPost _ _ _ _ _ (set8 W8 (w.heap.size + 1 + 1) (.int .i64 id) (.slice (some ⟨gA, 0, none⟩) n c9) (.int .u8 0) (.int .i64 lo9) (.int .i64 hi9) (.string ByteArray.empty) (.bool tw) (.slice B9 m d9))
                        refine bodyPost_ret (v := .agg #[.int .i64 id, .slice (some ⟨gA, 0, none⟩) n c9, .int .u8 0, .int .i64 lo9, .int .i64 hi9, .string ByteArray.empty, .bool tw, .slice B9 m d9]) ?_ ?_ ?_
                        · exact results_cell_row (p := 8) (ty := 29) Try.results23 _ _ (w.heap.size + 1 + 1) 29 _ (0, 0) _ rfl (set8_row HT8.out.res) Try.underlying29 rfl (by kernel_rfl)
                        · rfl
                        exact ⟨⟨id, zs, 0, lo9, hi9, ByteArray.empty, tw, stays⟩, _, c9, B9, d9, rfl, HTOLD.out _ _ (.inr rfl) (.inr rfl), (fun V hV => HT8.out.ins (fun k h1 h2 => (hV k (by omega) (by rw [set8_size]; exact h2)).trans (set8_far _ _ _ _ _ _ _ _ _ _ (by omega))) HWD.out (HNL.out _ (.inr rfl)) (by omega) (by omega)), HCAP.out, HCAP2.out, set8_gr HT8.out.gr (by omega) _ _ _ _ _ _ _ _⟩
                      · have hd2 : ((vd : Int) == 0) = false := by simpa using hd
                        have hd3 : ¬ (vd : Int) = 0 := by omega
                        go_upto_region 22 with (first | (go_at_call 24; (with_reducible refine (Hyd.out _ HG7.out).mono ?_); rotate_right; rintro e w9 ⟨rfl, hw9⟩; obtain rfl := hw9.symm))
                        clear o0 o1 o2 o3 o4 o5 o6 o7 f5
                        have HT8 := HT7
                        obtain ⟨o0, o1, o2, o3, o4, o5, o6, o7⟩ := cellsat8 HT8.out.out
                        obtain ⟨e0, e1, e2, e3, e4, e5, e6, e7⟩ := cellsat8 HT8.out.res
                        have g0 := frozen_of_row W7 (w.heap.size + 1 + 1) 0 _ _ HT8.out.res
                        have g1 := frozen_of_row W7 (w.heap.size + 1 + 1) 1 _ _ HT8.out.res
                        have g2 := frozen_of_row W7 (w.heap.size + 1 + 1) 2 _ _ HT8.out.res
                        have g3 := frozen_of_row W7 (w.heap.size + 1 + 1) 3 _ _ HT8.out.res
                        have g4 := frozen_of_row W7 (w.heap.size + 1 + 1) 4 _ _ HT8.out.res
                        have g5 := frozen_of_row W7 (w.heap.size + 1 + 1) 5 _ _ HT8.out.res
                        have g6 := frozen_of_row W7 (w.heap.size + 1 + 1) 6 _ _ HT8.out.res
                        have g7 := frozen_of_row W7 (w.heap.size + 1 + 1) 7 _ _ HT8.out.res
                        go_wp2
                        change bodyPost _ _ _ _ _ (set8 W7 (w.heap.size + 1 + 1) (.int .i64 id) (.slice (some ⟨gA, 0, none⟩) n c9) (.int .u8 0) (.int .i64 lo9) (.int .i64 hi9) (.string nw) (.bool tw) (.slice B9 m d9))
                        refine bodyPost_ret (v := .agg #[.int .i64 id, .slice (some ⟨gA, 0, none⟩) n c9, .int .u8 0, .int .i64 lo9, .int .i64 hi9, .string nw, .bool tw, .slice B9 m d9]) ?_ ?_ ?_
                        · exact results_cell_row (p := 8) (ty := 29) Try.results23 _ _ (w.heap.size + 1 + 1) 29 _ (0, 0) _ rfl (set8_row HT8.out.res) Try.underlying29 rfl (by kernel_rfl)
                        · rfl
                        exact ⟨⟨id, zs, 0, lo9, hi9, nw, tw, stays⟩, _, c9, B9, d9, rfl, HTOLD.out _ _ (.inr rfl) (.inl rfl), (fun V hV => HT8.out.ins (fun k h1 h2 => (hV k (by omega) (by rw [set8_size]; exact h2)).trans (set8_far _ _ _ _ _ _ _ _ _ _ (by omega))) HWD.out (HNL.out _ (.inl rfl)) (by omega) (by omega)), HCAP.out, HCAP2.out, set8_gr HT8.out.gr (by omega) _ _ _ _ _ _ _ _⟩
                    · have hc2 : ((vc : Int) == 0) = false := by simpa using hc
                      have hc3 : ¬ (vc : Int) = 0 := by omega
                      go_upto_region 20 with (first | (go_at_call 24; (with_reducible refine (Hyc.out _ HG6.out).mono ?_); rotate_right; rintro e w9 ⟨rfl, hw9⟩; obtain rfl := hw9.symm))
                      have HT7 := HT6
                      clear o0 o1 o2 o3 o4 o5 o6 o7 f2
                      have HG7 := hid HT7.out.gr
                      obtain ⟨o0, o1, o2, o3, o4, o5, o6, o7⟩ := cellsat8 HT7.out.out
                      have f5 := frozen_of_row W6 gb 5 _ _ HT7.out.out
                      by_cases hd : vd = 0
                      · subst hd
                        go_upto_region 22 with (first | (go_at_call 24; (with_reducible refine (Hyd.out _ HG7.out).mono ?_); rotate_right; rintro e w9 ⟨rfl, hw9⟩; obtain rfl := hw9.symm))
                        have HT8 : Hid (TW w (W6.setCell ⟨gb, 5, none⟩ (.string ByteArray.empty)) gb #[.int .i64 l, .int .i64 dg, .int .i64 dy, .int .i64 t] #[.int .i64 id, .slice A n c, .int .u8 suf, .int .i64 lo, .int .i64 hi, .string num, .bool tw, .slice B m d] ⟨id, zs, suf, lo9, hi9, ByteArray.empty, tw, stays⟩ (some ⟨gA, 0, none⟩) n c9 B9 m d9 mid) := TW.field HT7.out 5 (.string ByteArray.empty) rfl rfl rfl
                        change Code.wp _ _ _ _ (W6.setCell ⟨gb, 5, none⟩ (.string ByteArray.empty))
                        generalize W6.setCell ⟨gb, 5, none⟩ (.string ByteArray.empty) = W8 at HT8 ⊢
                        clear o0 o1 o2 o3 o4 o5 o6 o7 f5 HT7
                        obtain ⟨o0, o1, o2, o3, o4, o5, o6, o7⟩ := cellsat8 HT8.out.out
                        obtain ⟨e0, e1, e2, e3, e4, e5, e6, e7⟩ := cellsat8 HT8.out.res
                        have g0 := frozen_of_row W8 (w.heap.size + 1 + 1) 0 _ _ HT8.out.res
                        have g1 := frozen_of_row W8 (w.heap.size + 1 + 1) 1 _ _ HT8.out.res
                        have g2 := frozen_of_row W8 (w.heap.size + 1 + 1) 2 _ _ HT8.out.res
                        have g3 := frozen_of_row W8 (w.heap.size + 1 + 1) 3 _ _ HT8.out.res
                        have g4 := frozen_of_row W8 (w.heap.size + 1 + 1) 4 _ _ HT8.out.res
                        have g5 := frozen_of_row W8 (w.heap.size + 1 + 1) 5 _ _ HT8.out.res
                        have g6 := frozen_of_row W8 (w.heap.size + 1 + 1) 6 _ _ HT8.out.res
                        have g7 := frozen_of_row W8 (w.heap.size + 1 + 1) 7 _ _ HT8.out.res
                        go_wp2
                        change bodyPost _ _ _ _ _ (set8 W8 (w.heap.size + 1 + 1) (.int .i64 id) (.slice (some ⟨gA, 0, none⟩) n c9) (.int .u8 suf) (.int .i64 lo9) (.int .i64 hi9) (.string ByteArray.empty) (.bool tw) (.slice B9 m d9))
                        refine bodyPost_ret (v := .agg #[.int .i64 id, .slice (some ⟨gA, 0, none⟩) n c9, .int .u8 suf, .int .i64 lo9, .int .i64 hi9, .string ByteArray.empty, .bool tw, .slice B9 m d9]) ?_ ?_ ?_
                        · exact results_cell_row (p := 8) (ty := 29) Try.results23 _ _ (w.heap.size + 1 + 1) 29 _ (0, 0) _ rfl (set8_row HT8.out.res) Try.underlying29 rfl (by kernel_rfl)
                        · rfl
                        exact ⟨⟨id, zs, suf, lo9, hi9, ByteArray.empty, tw, stays⟩, _, c9, B9, d9, rfl, HTOLD.out _ _ (.inl rfl) (.inr rfl), (fun V hV => HT8.out.ins (fun k h1 h2 => (hV k (by omega) (by rw [set8_size]; exact h2)).trans (set8_far _ _ _ _ _ _ _ _ _ _ (by omega))) HWD.out (HNL.out _ (.inr rfl)) (by omega) (by omega)), HCAP.out, HCAP2.out, set8_gr HT8.out.gr (by omega) _ _ _ _ _ _ _ _⟩
                      · have hd2 : ((vd : Int) == 0) = false := by simpa using hd
                        have hd3 : ¬ (vd : Int) = 0 := by omega
                        go_upto_region 22 with (first | (go_at_call 24; (with_reducible refine (Hyd.out _ HG7.out).mono ?_); rotate_right; rintro e w9 ⟨rfl, hw9⟩; obtain rfl := hw9.symm))
                        clear o0 o1 o2 o3 o4 o5 o6 o7 f5
                        have HT8 := HT7
                        obtain ⟨o0, o1, o2, o3, o4, o5, o6, o7⟩ := cellsat8 HT8.out.out
                        obtain ⟨e0, e1, e2, e3, e4, e5, e6, e7⟩ := cellsat8 HT8.out.res
                        have g0 := frozen_of_row W6 (w.heap.size + 1 + 1) 0 _ _ HT8.out.res
                        have g1 := frozen_of_row W6 (w.heap.size + 1 + 1) 1 _ _ HT8.out.res
                        have g2 := frozen_of_row W6 (w.heap.size + 1 + 1) 2 _ _ HT8.out.res
                        have g3 := frozen_of_row W6 (w.heap.size + 1 + 1) 3 _ _ HT8.out.res
                        have g4 := frozen_of_row W6 (w.heap.size + 1 + 1) 4 _ _ HT8.out.res
                        have g5 := frozen_of_row W6 (w.heap.size + 1 + 1) 5 _ _ HT8.out.res
                        have g6 := frozen_of_row W6 (w.heap.size + 1 + 1) 6 _ _ HT8.out.res
                        have g7 := frozen_of_row W6 (w.heap.size + 1 + 1) 7 _ _ HT8.out.res
                        go_wp2
                        change bodyPost _ _ _ _ _ (set8 W6 (w.heap.size + 1 + 1) (.int .i64 id) (.slice (some ⟨gA, 0, none⟩) n c9) (.int .u8 suf) (.int .i64 lo9) (.int .i64 hi9) (.string nw) (.bool tw) (.slice B9 m d9))
                        refine bodyPost_ret (v := .agg #[.int .i64 id, .slice (some ⟨gA, 0, none⟩) n c9, .int .u8 suf, .int .i64 lo9, .int .i64 hi9, .string nw, .bool tw, .slice B9 m d9]) ?_ ?_ ?_
                        · exact results_cell_row (p := 8) (ty := 29) Try.results23 _ _ (w.heap.size + 1 + 1) 29 _ (0, 0) _ rfl (set8_row HT8.out.res) Try.underlying29 rfl (by kernel_rfl)
                        · rfl
                        exact ⟨⟨id, zs, suf, lo9, hi9, nw, tw, stays⟩, _, c9, B9, d9, rfl, HTOLD.out _ _ (.inl rfl) (.inl rfl), (fun V hV => HT8.out.ins (fun k h1 h2 => (hV k (by omega) (by rw [set8_size]; exact h2)).trans (set8_far _ _ _ _ _ _ _ _ _ _ (by omega))) HWD.out (HNL.out _ (.inl rfl)) (by omega) (by omega)), HCAP.out, HCAP2.out, set8_gr HT8.out.gr (by omega) _ _ _ _ _ _ _ _⟩
  · (repeat (first | with_reducible exact Gr.refl _ | with_reducible refine Gr.alloc ?_ _ | with_reducible refine Gr.setCell ?_ (by simp) _ | with_reducible refine Gr.setCell ?_ (by simp; omega) _ | with_reducible refine Gr.drew ?_ | with_reducible refine Gr.drewN ?_ _))
end Go.Proofs.Ytlkjimfkapcenaa
