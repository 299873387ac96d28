/- compare of the package match: how much two valid records agree. compare of the reference: how much two valid records agree. Compare of the package match and of its reference: how much two records agree, or the error. For all records. -/
import Derived.Deep.CutRange
import Derived.Deep.DeepCutAuto
import Derived.Deep.RegionHeld3
import Derived.Test.YtlkjimfkapcenaaGreatDoorQWithin
import Derived.Test.YtlkjimfkapcenaaGreatDoorQBirths
import Derived.Test.YtlkjimfkapcenaaGreatDoorQAmong
import Derived.Test.YtlkjimfkapcenaaGreatDoorQRefPlaces
import Derived.Test.YtlkjimfkapcenaaGreatDoorQPlaces
import Derived.Test.YtlkjimfkapcenaaGreatDoorQVerdictsList
namespace Go.Proofs.YtlkjimfkapcenaaGreatDoor
open Go.RowKit

/-- What compare asks of a record. -/
structure Good (a : Rcd) (w : World) (A : Option Addr) (n c : Nat) (B : Option Addr) (m : Nat) : Prop where
  at_ : a.In w A n B m
  fine : Fine a n c
  few : m ≤ 1000
  sfx : 0 ≤ a.suffix ∧ a.suffix ≤ 2
  num : a.number.size = 0 ∨ a.number.size = 9
  lo : 0 ≤ a.lo ∧ a.lo ≤ 100000
  hi : 0 ≤ a.hi ∧ a.hi ≤ 100000
  ord : a.lo ≤ a.hi
  stays : ∀ s ∈ a.stays, Rng s ∧ 0 ≤ s.place ∧ s.place ≤ 99999
theorem Good.gr {a : Rcd} {w w' : World} {A : Option Addr} {n c : Nat} {B : Option Addr} {m : Nat} (h : Good a w A n c B m) (g : Gr w w') : Good a w' A n c B m :=
  ⟨h.at_.gr g, h.fine, h.few, h.sfx, h.num, h.lo, h.hi, h.ord, h.stays⟩

set_option maxRecDepth 100000 in
set_option maxHeartbeats 6000000 in
theorem compare_any (r : Rul) (a b : Rcd) (A : Option Addr) (n c : Nat) (B : Option Addr) (m d : Nat) (A' : Option Addr) (n' c' : Nat) (B' : Option Addr) (m' d' : Nat) (w : World)
    (ha : Good a w A n c B m) (hb : Good b w A' n' c' B' m') (hr : r.ok = true) :
    Calls Tryz.prog 19 #[r.val, a.val A n c B m d, b.val A' n' c' B' m' d'] w fun e w' => e = .returned (cmpN r a b).val ∧ Gr w w' := by
  have hr1 : (0 ≤ r.days) ∧ (0 ≤ r.together ∧ r.together ≤ 1000000) := by
    unfold Rul.ok inB at hr
    simp only [Bool.and_eq_true, decide_eq_true_eq] at hr
    omega
  have HN := hid (fun W (g : Gr w W) => names_any r a b A n c B m d A' n' c' B' m' d' W (ha.at_.gr g) (hb.at_.gr g) ha.fine hb.fine)
  have HU := hid (fun W => numbers_any r a b A n c B m d A' n' c' B' m' d' W ha.num hb.num)
  have HI := hid (fun W => births_any r a b A n c B m d A' n' c' B' m' d' W ha.lo ha.hi ha.ord hb.lo hb.hi hb.ord hr1.1)
  have HP := hid (fun W (g : Gr w W) => places_any r a b A n c B m d A' n' c' B' m' d' W (ha.at_.stays.gr g) (hb.at_.stays.gr g) ha.few hb.few hr1.2 ha.stays hb.stays)
  have HT := hid (fun (x : Cmp) g W hc k hk => verd_at a b x g A n c B m d A' n' c' B' m' d' W hc ha.sfx hb.sfx k hk)
  clear ha hb hr hr1
  unfold cmpN Cmp.val
  dsimp only
  generalize namesN r.letters a.names b.names = nm at HN ⊢
  generalize numN r.digits a.number b.number = nu at HU ⊢
  generalize birN r.days a.lo a.hi b.lo b.hi = bi at HI ⊢
  generalize placesN r.together a.stays b.stays = pl at HP ⊢
  have HVH := hid (fun k hk h hb => verdN_hit (a := a) (b := b) (nm := nm) (nu := nu) (bi := bi) (pl := pl) (k := k) hk h hb)
  have HVM := hid (fun hb => verdN_miss (a := a) (b := b) (nm := nm) (nu := nu) (bi := bi) (pl := pl) hb)
  have HT := hid (fun g W hc k hk => HT.out ⟨nm, nu, bi, pl, 1⟩ g W hc k hk)
  generalize verdN a b nm nu bi pl = vd at HVH HVM ⊢
  generalize vtest a b nm nu bi pl = vt at HVH HVM HT
  obtain ⟨l, dg, dy, t⟩ := r
  obtain ⟨id, names, suf, l1, h1, p, tw, xs⟩ := a
  obtain ⟨id', names', suf', l2, h2, q, tw', ys⟩ := b
  unfold Cmp.val at HT
  unfold Rcd.val at HT HN HU HI HP
  unfold Rul.val at HN HU HI HP
  dsimp only at HT HN HU HI HP
  unfold Rcd.val Rul.val
  dsimp only
  go_enter Tryz.func19, Tryz.ntmps19
  go_upto_region 1 with fail
  obtain ⟨E1, E2, E3⟩ := rows3 w (.cells #[.int .i64 l, .int .i64 dg, .int .i64 dy, .int .i64 t] 34) (.cells #[.int .i64 id, .slice A n c, .int .u8 suf, .int .i64 l1, .int .i64 h1, .string p, .bool tw, .slice B m d] 41) (.cells #[.int .i64 id', .slice A' n' c', .int .u8 suf', .int .i64 l2, .int .i64 h2, .string q, .bool tw', .slice B' m' d'] 41)
  have G4 : Gr w ((((w.alloc (.cells #[.int .i64 l, .int .i64 dg, .int .i64 dy, .int .i64 t] 34)).alloc (.cells #[.int .i64 id, .slice A n c, .int .u8 suf, .int .i64 l1, .int .i64 h1, .string p, .bool tw, .slice B m d] 41)).alloc (.cells #[.int .i64 id', .slice A' n' c', .int .u8 suf', .int .i64 l2, .int .i64 h2, .string q, .bool tw', .slice B' m' d'] 41)).alloc (.cells #[.int .u8 0, .int .u8 0, .int .u8 0, .int .u8 0, .int .u8 0] 30)) := ((((Gr.refl w).alloc _).alloc _).alloc _).alloc _
  have gz : Gr (((w.alloc (.cells #[.int .i64 l, .int .i64 dg, .int .i64 dy, .int .i64 t] 34)).alloc (.cells #[.int .i64 id, .slice A n c, .int .u8 suf, .int .i64 l1, .int .i64 h1, .string p, .bool tw, .slice B m d] 41)).alloc (.cells #[.int .i64 id', .slice A' n' c', .int .u8 suf', .int .i64 l2, .int .i64 h2, .string q, .bool tw', .slice B' m' d'] 41)) ((((w.alloc (.cells #[.int .i64 l, .int .i64 dg, .int .i64 dy, .int .i64 t] 34)).alloc (.cells #[.int .i64 id, .slice A n c, .int .u8 suf, .int .i64 l1, .int .i64 h1, .string p, .bool tw, .slice B m d] 41)).alloc (.cells #[.int .i64 id', .slice A' n' c', .int .u8 suf', .int .i64 l2, .int .i64 h2, .string q, .bool tw', .slice B' m' d'] 41)).alloc (.cells #[.int .u8 0, .int .u8 0, .int .u8 0, .int .u8 0, .int .u8 0] 30)) := (Gr.refl _).alloc _
  have hz4 : ((((w.alloc (.cells #[.int .i64 l, .int .i64 dg, .int .i64 dy, .int .i64 t] 34)).alloc (.cells #[.int .i64 id, .slice A n c, .int .u8 suf, .int .i64 l1, .int .i64 h1, .string p, .bool tw, .slice B m d] 41)).alloc (.cells #[.int .i64 id', .slice A' n' c', .int .u8 suf', .int .i64 l2, .int .i64 h2, .string q, .bool tw', .slice B' m' d'] 41)).alloc (.cells #[.int .u8 0, .int .u8 0, .int .u8 0, .int .u8 0, .int .u8 0] 30)).heap.size = w.heap.size + 1 + 1 + 1 + 1 := by simp
  have E4 : ((((w.alloc (.cells #[.int .i64 l, .int .i64 dg, .int .i64 dy, .int .i64 t] 34)).alloc (.cells #[.int .i64 id, .slice A n c, .int .u8 suf, .int .i64 l1, .int .i64 h1, .string p, .bool tw, .slice B m d] 41)).alloc (.cells #[.int .i64 id', .slice A' n' c', .int .u8 suf', .int .i64 l2, .int .i64 h2, .string q, .bool tw', .slice B' m' d'] 41)).alloc (.cells #[.int .u8 0, .int .u8 0, .int .u8 0, .int .u8 0, .int .u8 0] 30)).heap[w.heap.size + 1 + 1 + 1]? = some (.cells #[.int .u8 0, .int .u8 0, .int .u8 0, .int .u8 0, .int .u8 0] 30 (0, 0)) := by
    have h := heap_alloc_new (((w.alloc (.cells #[.int .i64 l, .int .i64 dg, .int .i64 dy, .int .i64 t] 34)).alloc (.cells #[.int .i64 id, .slice A n c, .int .u8 suf, .int .i64 l1, .int .i64 h1, .string p, .bool tw, .slice B m d] 41)).alloc (.cells #[.int .i64 id', .slice A' n' c', .int .u8 suf', .int .i64 l2, .int .i64 h2, .string q, .bool tw', .slice B' m' d'] 41)) (.cells #[.int .u8 0, .int .u8 0, .int .u8 0, .int .u8 0, .int .u8 0] 30)
    rw [show (((w.alloc (.cells #[.int .i64 l, .int .i64 dg, .int .i64 dy, .int .i64 t] 34)).alloc (.cells #[.int .i64 id, .slice A n c, .int .u8 suf, .int .i64 l1, .int .i64 h1, .string p, .bool tw, .slice B m d] 41)).alloc (.cells #[.int .i64 id', .slice A' n' c', .int .u8 suf', .int .i64 l2, .int .i64 h2, .string q, .bool tw', .slice B' m' d'] 41)).heap.size = w.heap.size + 1 + 1 + 1 by simp] at h
    exact h
  have HE1 := hid (row_gr E1 gz)
  have HE2 := hid (row_gr E2 gz)
  have HE3 := hid (show ((((w.alloc (.cells #[.int .i64 l, .int .i64 dg, .int .i64 dy, .int .i64 t] 34)).alloc (.cells #[.int .i64 id, .slice A n c, .int .u8 suf, .int .i64 l1, .int .i64 h1, .string p, .bool tw, .slice B m d] 41)).alloc (.cells #[.int .i64 id', .slice A' n' c', .int .u8 suf', .int .i64 l2, .int .i64 h2, .string q, .bool tw', .slice B' m' d'] 41)).alloc (.cells #[.int .u8 0, .int .u8 0, .int .u8 0, .int .u8 0, .int .u8 0] 30)).heap[w.heap.size + 1 + 1]? = some (.cells #[.int .i64 id', .slice A' n' c', .int .u8 suf', .int .i64 l2, .int .i64 h2, .string q, .bool tw', .slice B' m' d'] 41 (0, 0)) from row_gr E3 gz)
  have HE4 := hid E4
  have HG4 := hid G4
  have HZ4 := hid hz4
  clear E1 E2 E3 E4 G4 hz4 gz
  generalize (((w.alloc (.cells #[.int .i64 l, .int .i64 dg, .int .i64 dy, .int .i64 t] 34)).alloc (.cells #[.int .i64 id, .slice A n c, .int .u8 suf, .int .i64 l1, .int .i64 h1, .string p, .bool tw, .slice B m d] 41)).alloc (.cells #[.int .i64 id', .slice A' n' c', .int .u8 suf', .int .i64 l2, .int .i64 h2, .string q, .bool tw', .slice B' m' d'] 41)).alloc (.cells #[.int .u8 0, .int .u8 0, .int .u8 0, .int .u8 0, .int .u8 0] 30) = W4 at HE1 HE2 HE3 HE4 HG4 HZ4 ⊢
  have S0 := And.intro (cellsat8 HE2.out) (cellsat8 HE3.out)
  go_cut [7, 8] (fun s7 s8 wx => ∃ gp gq : Nat, s7 = .pointer (some ⟨gp, 0, none⟩) ∧ s8 = .pointer (some ⟨gq, 0, none⟩) ∧ Gr W4 wx ∧ wx.heap[gp]? = some (.cells #[.int .i64 id, .slice A n c, .int .u8 suf, .int .i64 l1, .int .i64 h1, .string p, .bool tw, .slice B m d] 75 (0, 0)) ∧ wx.heap[gq]? = some (.cells #[.int .i64 id', .slice A' n' c', .int .u8 suf', .int .i64 l2, .int .i64 h2, .string q, .bool tw', .slice B' m' d'] 75 (0, 0)))
  case first =>
    go_region_held3 (fun W => (W.cell? ⟨w.heap.size + 1, 0, none⟩ = some (.int .i64 id) ∧ W.cell? ⟨w.heap.size + 1, 1, none⟩ = some (.slice A n c) ∧ W.cell? ⟨w.heap.size + 1, 2, none⟩ = some (.int .u8 suf) ∧ W.cell? ⟨w.heap.size + 1, 3, none⟩ = some (.int .i64 l1) ∧ W.cell? ⟨w.heap.size + 1, 4, none⟩ = some (.int .i64 h1) ∧ W.cell? ⟨w.heap.size + 1, 5, none⟩ = some (.string p) ∧ W.cell? ⟨w.heap.size + 1, 6, none⟩ = some (.bool tw) ∧ W.cell? ⟨w.heap.size + 1, 7, none⟩ = some (.slice B m d)) ∧ (W.cell? ⟨w.heap.size + 1 + 1, 0, none⟩ = some (.int .i64 id') ∧ W.cell? ⟨w.heap.size + 1 + 1, 1, none⟩ = some (.slice A' n' c') ∧ W.cell? ⟨w.heap.size + 1 + 1, 2, none⟩ = some (.int .u8 suf') ∧ W.cell? ⟨w.heap.size + 1 + 1, 3, none⟩ = some (.int .i64 l2) ∧ W.cell? ⟨w.heap.size + 1 + 1, 4, none⟩ = some (.int .i64 h2) ∧ W.cell? ⟨w.heap.size + 1 + 1, 5, none⟩ = some (.string q) ∧ W.cell? ⟨w.heap.size + 1 + 1, 6, none⟩ = some (.bool tw') ∧ W.cell? ⟨w.heap.size + 1 + 1, 7, none⟩ = some (.slice B' m' d')))
      (first | exact ⟨keepc8 S0.1 (by (repeat (first | with_reducible exact Gr.refl _ | with_reducible refine Gr.alloc ?_ _ | with_reducible refine Gr.setCell ?_ (by simp) _ | with_reducible refine Gr.setCell ?_ (by simp; omega) _ | with_reducible refine Gr.drew ?_ | with_reducible refine Gr.drewN ?_ _))), keepc8 S0.2 (by (repeat (first | with_reducible exact Gr.refl _ | with_reducible refine Gr.alloc ?_ _ | with_reducible refine Gr.setCell ?_ (by simp) _ | with_reducible refine Gr.setCell ?_ (by simp; omega) _ | with_reducible refine Gr.drew ?_ | with_reducible refine Gr.drewN ?_ _)))⟩) (fail)
    · go_wp2
      go_meet
      obtain ⟨F1, F2⟩ := rows2 W4 (.cells #[.int .i64 id, .slice A n c, .int .u8 suf, .int .i64 l1, .int .i64 h1, .string p, .bool tw, .slice B m d] 75) (.cells #[.int .i64 id', .slice A' n' c', .int .u8 suf', .int .i64 l2, .int .i64 h2, .string q, .bool tw', .slice B' m' d'] 75)
      exact ⟨_, _, rfl, rfl, (((Gr.refl W4).alloc _).alloc _).drew, F1, F2⟩
    · go_wp2
      go_meet
      obtain ⟨F1, F2⟩ := rows2 W4 (.cells #[.int .i64 id', .slice A' n' c', .int .u8 suf', .int .i64 l2, .int .i64 h2, .string q, .bool tw', .slice B' m' d'] 75) (.cells #[.int .i64 id, .slice A n c, .int .u8 suf, .int .i64 l1, .int .i64 h1, .string p, .bool tw, .slice B m d] 75)
      exact ⟨_, _, rfl, rfl, (((Gr.refl W4).alloc _).alloc _).drew, F2, F1⟩
  case rest =>
    obtain ⟨gp, gq, rfl, rfl, GW, FP, FQ⟩ := hcut
    obtain ⟨W6, rfl⟩ : ∃ W6 : World, W6 = wc := ⟨_, rfl⟩
    have GW6 := hid (HG4.out.trans GW)
    have HR6 := hid (row_gr HE1.out GW)
    have HZ6 := hid (show W6.heap[w.heap.size + 1 + 1 + 1]? = _ from row_gr HE4.out GW)
    have HFP := hid FP
    have HFQ := hid FQ
    have S1 := And.intro (cellsat4 HR6.out) (And.intro (cellsat8 FP) (cellsat8 FQ))
    clear GW FP FQ S0
    go_upto_region 2 with fail
    go_cut [9] (fun s9 wx => ∃ gm : Nat, s9 = .pointer (some ⟨gm, 0, none⟩) ∧ Gr W6 wx ∧ wx.heap[gm]? = some (.cells #[.int .u8 nm, .int .u8 nu, .int .u8 bi, .int .u8 pl, .int .u8 1] 30 (0, 0)) ∧ W6.heap.size ≤ gm)
    case first =>
      have KS : ∀ W, Gr W6 W → (W.cell? ⟨w.heap.size, 0, none⟩ = some (.int .i64 l) ∧ W.cell? ⟨w.heap.size, 1, none⟩ = some (.int .i64 dg) ∧ W.cell? ⟨w.heap.size, 2, none⟩ = some (.int .i64 dy) ∧ W.cell? ⟨w.heap.size, 3, none⟩ = some (.int .i64 t)) ∧ (W.cell? ⟨gp, 0, none⟩ = some (.int .i64 id) ∧ W.cell? ⟨gp, 1, none⟩ = some (.slice A n c) ∧ W.cell? ⟨gp, 2, none⟩ = some (.int .u8 suf) ∧ W.cell? ⟨gp, 3, none⟩ = some (.int .i64 l1) ∧ W.cell? ⟨gp, 4, none⟩ = some (.int .i64 h1) ∧ W.cell? ⟨gp, 5, none⟩ = some (.string p) ∧ W.cell? ⟨gp, 6, none⟩ = some (.bool tw) ∧ W.cell? ⟨gp, 7, none⟩ = some (.slice B m d)) ∧ (W.cell? ⟨gq, 0, none⟩ = some (.int .i64 id') ∧ W.cell? ⟨gq, 1, none⟩ = some (.slice A' n' c') ∧ W.cell? ⟨gq, 2, none⟩ = some (.int .u8 suf') ∧ W.cell? ⟨gq, 3, none⟩ = some (.int .i64 l2) ∧ W.cell? ⟨gq, 4, none⟩ = some (.int .i64 h2) ∧ W.cell? ⟨gq, 5, none⟩ = some (.string q) ∧ W.cell? ⟨gq, 6, none⟩ = some (.bool tw') ∧ W.cell? ⟨gq, 7, none⟩ = some (.slice B' m' d')) := fun W g => ⟨keepc4 S1.1 g, keepc8 S1.2.1 g, keepc8 S1.2.2 g⟩
      go_region_held3? (fun W => (W.cell? ⟨w.heap.size, 0, none⟩ = some (.int .i64 l) ∧ W.cell? ⟨w.heap.size, 1, none⟩ = some (.int .i64 dg) ∧ W.cell? ⟨w.heap.size, 2, none⟩ = some (.int .i64 dy) ∧ W.cell? ⟨w.heap.size, 3, none⟩ = some (.int .i64 t)) ∧ (W.cell? ⟨gp, 0, none⟩ = some (.int .i64 id) ∧ W.cell? ⟨gp, 1, none⟩ = some (.slice A n c) ∧ W.cell? ⟨gp, 2, none⟩ = some (.int .u8 suf) ∧ W.cell? ⟨gp, 3, none⟩ = some (.int .i64 l1) ∧ W.cell? ⟨gp, 4, none⟩ = some (.int .i64 h1) ∧ W.cell? ⟨gp, 5, none⟩ = some (.string p) ∧ W.cell? ⟨gp, 6, none⟩ = some (.bool tw) ∧ W.cell? ⟨gp, 7, none⟩ = some (.slice B m d)) ∧ (W.cell? ⟨gq, 0, none⟩ = some (.int .i64 id') ∧ W.cell? ⟨gq, 1, none⟩ = some (.slice A' n' c') ∧ W.cell? ⟨gq, 2, none⟩ = some (.int .u8 suf') ∧ W.cell? ⟨gq, 3, none⟩ = some (.int .i64 l2) ∧ W.cell? ⟨gq, 4, none⟩ = some (.int .i64 h2) ∧ W.cell? ⟨gq, 5, none⟩ = some (.string q) ∧ W.cell? ⟨gq, 6, none⟩ = some (.bool tw') ∧ W.cell? ⟨gq, 7, none⟩ = some (.slice B' m' d')))
        (((with_reducible refine KS _ ?_); first | with_reducible exact q4 | with_reducible exact q3 | with_reducible exact q2 | with_reducible exact q1 | with_reducible exact Gr.drew (Gr.refl _) | with_reducible exact Gr.drew (Gr.alloc (Gr.refl _) _) | with_reducible exact Gr.alloc q1 _ | with_reducible exact Gr.alloc q2 _ | with_reducible exact Gr.alloc q3 _ | with_reducible exact Gr.alloc q4 _ | ((with_reducible refine set5_gr q4 ?_ _ _ _ _ _); first | exact q3.size | exact q2.size | exact q1.size | exact Nat.le_refl _)))
        (first
          | (go_at_call 30; refine (HN.out _ (GW6.out.trans (by first | with_reducible exact Gr.drew (Gr.refl _) | with_reducible exact Gr.drew (Gr.alloc (Gr.refl _) _) | with_reducible exact Gr.alloc (Gr.drew (Gr.refl _)) _))).mono ?_; rintro e w1 ⟨rfl, hk1⟩; have q1 : Gr W6 w1 := Gr.trans (by first | with_reducible exact Gr.drew (Gr.refl _) | with_reducible exact Gr.drew (Gr.alloc (Gr.refl _) _) | with_reducible exact Gr.alloc (Gr.drew (Gr.refl _)) _) hk1; obtain ⟨hc1, hf1, hz1⟩ := hk1.rules; (try simp at hz1); (try have y01 : W6.heap.size < w1.heap.size := by omega))
          | (go_at_call 31; refine (HU.out _).mono ?_; rintro e w2 ⟨rfl, hk2⟩; have q2 : Gr W6 w2 := Gr.trans (by first | with_reducible exact q1 | with_reducible exact Gr.alloc q1 _) hk2; obtain ⟨hc2, hf2, hz2⟩ := hk2.rules; (try simp at hz2); (try have y02 : W6.heap.size < w2.heap.size := by omega); (try have y12 : w1.heap.size < w2.heap.size := by omega))
          | (go_at_call 32; refine (HI.out _).mono ?_; rintro e w3 ⟨rfl, hk3⟩; have q3 : Gr W6 w3 := Gr.trans (by first | with_reducible exact q2 | with_reducible exact Gr.alloc q2 _) hk3; obtain ⟨hc3, hf3, hz3⟩ := hk3.rules; (try simp at hz3); (try have y03 : W6.heap.size < w3.heap.size := by omega); (try have y13 : w1.heap.size < w3.heap.size := by omega); (try have y23 : w2.heap.size < w3.heap.size := by omega))
          | (go_at_call 33; refine (HP.out _ (GW6.out.trans (by first | with_reducible exact q3 | with_reducible exact Gr.alloc q3 _))).mono ?_; rintro e w4 ⟨rfl, hk4⟩; have q4 : Gr W6 w4 := Gr.trans (by first | with_reducible exact q3 | with_reducible exact Gr.alloc q3 _) hk4; obtain ⟨hc4, hf4, hz4⟩ := hk4.rules; (try simp at hz4); (try have y04 : W6.heap.size < w4.heap.size := by omega); (try have y14 : w1.heap.size < w4.heap.size := by omega); (try have y24 : w2.heap.size < w4.heap.size := by omega); (try have y34 : w3.heap.size < w4.heap.size := by omega)))
      · go_wp2_with fail
        go_meet
        exact ⟨_, rfl, Gr.alloc q4 _, heap_alloc_new _ _, q4.size⟩
      · go_wp2_with fail
        go_meet
        exact ⟨_, rfl, set5_gr q4 q3.size _ _ _ _ _, set5_row (row_gr (heap_alloc_new w3 _) hk4), q3.size⟩
      · go_wp2_with fail
        go_meet
        exact ⟨_, rfl, set5_gr q4 q2.size _ _ _ _ _, set5_row (row_gr (row_gr (heap_alloc_new w2 _) hk3) hk4), q2.size⟩
      · go_wp2_with fail
        go_meet
        exact ⟨_, rfl, set5_gr q4 q1.size _ _ _ _ _, set5_row (row_gr (row_gr (row_gr (heap_alloc_new w1 _) hk2) hk3) hk4), q1.size⟩
      · go_wp2_with fail
        go_meet
        exact ⟨_, rfl, set5_gr q4 (Nat.le_refl _) _ _ _ _ _, set5_row (row_gr (row_gr (row_gr (row_gr (show (W6.alloc _).drew.heap[W6.heap.size]? = _ from heap_alloc_new W6 _) hk1) hk2) hk3) hk4), Nat.le_refl _⟩
    case rest =>
      obtain ⟨gm, rfl, GC, FM, hgm⟩ := hcut
      obtain ⟨W8, rfl⟩ : ∃ W8 : World, W8 = wc := ⟨_, rfl⟩
      have hz6 : w.heap.size + 1 + 1 + 1 < W6.heap.size := (Array.getElem?_eq_some_iff.1 HZ6.out).1
      have HC6 := hid GC
      have HM8 := hid FM
      have HZ8 := hid (row_gr HZ6.out GC)
      have HP8 := hid (row_gr HFP.out GC)
      have HQ8 := hid (row_gr HFQ.out GC)
      clear GC FM S1
      go_wp2_with (go_at_call 34; refine (verdicts_any _).mono ?_; rintro e w' ⟨rfl, T1, T2, rfl⟩)
      obtain ⟨R1, R2⟩ := rows2 W8 (.cells #[.func (.func 49) #[] #[]] T1) (.cells (verdCells W8.heap.size) T2)
      have GV : Gr W8 ((W8.alloc (.cells #[.func (.func 49) #[] #[]] T1)).alloc (.cells (verdCells W8.heap.size) T2)) := ((Gr.refl W8).alloc _).alloc _
      generalize (W8.alloc (.cells #[.func (.func 49) #[] #[]] T1)).alloc (.cells (verdCells W8.heap.size) T2) = WV at R1 R2 GV ⊢
      have HT2 := hid (fun k hk => HT.out W8.heap.size WV (row_cell_at R1 0 rfl) k hk)
      have HR2 := hid R2
      have HGV := hid GV
      clear R1 R2 GV HT
      go_loopg [35] 7 (fun gg s35 wr => ∃ k : Nat, k ≤ 7 ∧ 7 - k ≤ gg ∧ s35 = .int .i64 k ∧ Gr WV wr ∧ Hid (∀ j, j < k → vt j = false))
      case atStart => exact ⟨0, Nat.zero_le _, by omega, rfl, Gr.refl _, hid fun j h => absurd h (Nat.not_lt_zero _)⟩
      case round =>
        obtain ⟨k, hk, hgk, rfl, BW, HJ⟩ := hrel
        have GW8 := hid (HGV.out.trans BW)
        by_cases hlk : k < 7
        · have hlk' : (k : Int) < 7 := by omega
          have k0 : (0 : Int) ≤ k := by omega
          obtain ⟨f, lb, v0, v1, ef, HC0⟩ := HT2.out k hlk
          have HC := hid (fun W (g : Gr wr W) => HC0 W (BW.trans g))
          clear HC0
          have c0 : wr.cell? ⟨W8.heap.size + 1, k * 2, none⟩ = some (.func (.func f) #[] lb) := row_cell_at (row_gr HR2.out BW) _ v0
          have c1 : wr.cell? ⟨W8.heap.size + 1, k * 2 + 1, none⟩ = some (.int .u8 (vis k)) := row_cell_at (row_gr HR2.out BW) _ v1
          obtain ⟨m0, m1, m2, m3, m4⟩ := cellsat5 (row_gr HM8.out GW8.out)
          obtain ⟨p0, p1, p2, p3, p4, p5, p6, p7⟩ := cellsat8 (row_gr HP8.out GW8.out)
          obtain ⟨q0, q1, q2, q3, q4, q5, q6, q7⟩ := cellsat8 (row_gr HQ8.out GW8.out)
          have HVI := hid (fun h => HVH.out k hlk h HJ.out)
          have HMR := hid (row_gr HM8.out GW8.out)
          have HZR := hid (row_gr HZ8.out GW8.out)
          have HGW := hid (GW6.out.trans (HC6.out.trans GW8.out))
          have hzw : W6.heap.size ≤ wr.heap.size := Nat.le_trans HC6.out.size GW8.out.size
          have hzm : gm < wr.heap.size := (Array.getElem?_eq_some_iff.1 HMR.out).1
          have nez : gm ≠ w.heap.size + 1 + 1 + 1 := by omega
          generalize vis k = iv at c1 HVI
          generalize hvt : vt k = tb at HC HVI
          have HVT := hid hvt
          have HW0 := hid (Nat.le_trans GW6.out.size hzw)
          clear v0 v1 hvt
          have fm4 : wr.frozen? ⟨gm, 4, none⟩ = false := frozen_of_row wr gm 4 _ _ HMR.out
          have bp1 := block_lt_of_cell p0
          have bq1 := block_lt_of_cell q0
          cases tb
          · go_wp2_with (go_at_fn f; refine (HC.out _ (Gr.alloc (Gr.refl _) _)).mono ?_; rintro e w1 ⟨rfl, hb1⟩)
            go_roundg (7 - (k + 1))
            case measure => omega
            case rel =>
              refine ⟨k + 1, by omega, by omega, by go_num, BW.trans (Gr.trans (Gr.alloc (Gr.refl _) _) hb1), hid fun j h => ?_⟩
              by_cases e : j = k
              · subst e; exact HVT.out
              · exact HJ.out j (by omega)
          · have HV := hid (HVI.out rfl)
            clear HVI
            go_wp2_with (go_at_fn f; refine (HC.out _ (Gr.alloc (Gr.refl _) _)).mono ?_; rintro e w1 ⟨rfl, hb1⟩; have G1 := hid (show Gr wr w1 from Gr.trans (Gr.alloc (Gr.refl _) _) hb1); have e0 := cellsat5 (row_gr HMR.out G1.out); have e1 := cellsat5 (row_gr HZR.out G1.out); obtain ⟨m0', m1', m2', m3', m4'⟩ := e0; obtain ⟨z0', z1', z2', z3', z4'⟩ := e1; have fm : ∀ j, w1.frozen? ⟨gm, j, none⟩ = false := fun j => frozen_of_row w1 gm j _ _ (row_gr HMR.out G1.out); have fz : ∀ j, w1.frozen? ⟨w.heap.size + 1 + 1 + 1, j, none⟩ = false := fun j => frozen_of_row w1 _ j _ _ (row_gr HZR.out G1.out); obtain ⟨hc1, hf1, hz1⟩ := hb1.rules; (try simp at hz1))
            refine bodyPost_ret (v := .agg #[.int .u8 nm, .int .u8 nu, .int .u8 bi, .int .u8 pl, .int .u8 iv]) ?_ rfl ?_
            · exact results_cell_row (p := 6) (ty := 30) Tryz.results19 _ _ (w.heap.size + 1 + 1 + 1) 30 _ (0, 0) _ rfl
                (set5_row ((Below.heap_setCell _ _ _ _ (by show w.heap.size + 1 + 1 + 1 ≠ gm; omega)).trans (row_gr HZR.out G1.out))) Tryz.underlying30 rfl (by kernel_rfl)
            · refine ⟨by rw [HV.out], set5_gr (Gr.setCell (HGW.out.trans G1.out) (p := ⟨gm, 4, none⟩) (by show w.heap.size ≤ gm; omega) _) (by omega) _ _ _ _ _⟩
        · have hk7 : k = 7 := by omega
          have hlk' : (7 : Int) ≤ k := by omega
          obtain ⟨m0, m1, m2, m3, m4⟩ := cellsat5 (row_gr HM8.out GW8.out)
          have HZR := hid (row_gr HZ8.out GW8.out)
          have HGW := hid (GW6.out.trans (HC6.out.trans GW8.out))
          obtain ⟨z0, z1, z2, z3, z4⟩ := cellsat5 HZR.out
          have fz0 : wr.frozen? ⟨w.heap.size + 1 + 1 + 1, 0, none⟩ = false := frozen_of_row wr _ 0 _ _ HZR.out
          have fz1 : wr.frozen? ⟨w.heap.size + 1 + 1 + 1, 1, none⟩ = false := frozen_of_row wr _ 1 _ _ HZR.out
          have fz2 : wr.frozen? ⟨w.heap.size + 1 + 1 + 1, 2, none⟩ = false := frozen_of_row wr _ 2 _ _ HZR.out
          have fz3 : wr.frozen? ⟨w.heap.size + 1 + 1 + 1, 3, none⟩ = false := frozen_of_row wr _ 3 _ _ HZR.out
          have fz4 : wr.frozen? ⟨w.heap.size + 1 + 1 + 1, 4, none⟩ = false := frozen_of_row wr _ 4 _ _ HZR.out
          have HV := hid (HVM.out (fun j h => HJ.out j (by omega)))
          clear hk7
          go_wp2
          refine bodyPost_ret (v := .agg #[.int .u8 nm, .int .u8 nu, .int .u8 bi, .int .u8 pl, .int .u8 1]) ?_ rfl ?_
          · exact results_cell_row (p := 6) (ty := 30) Tryz.results19 _ _ (w.heap.size + 1 + 1 + 1) 30 _ (0, 0) _ rfl (set5_row HZR.out) Tryz.underlying30 rfl (by kernel_rfl)
          · exact ⟨by rw [HV.out], set5_gr HGW.out (by omega) _ _ _ _ _⟩
end Go.Proofs.YtlkjimfkapcenaaGreatDoor
namespace Go.Proofs.YtlkjimfkapcenaaGreatDoor
open Go.RowKit

/-- What excludes, and what makes sure. -/
def badB (a b : Rcd) (nm nu bi pl : Int) : Bool := bi == 0 || decide (a.suffix ≠ 0 ∧ b.suffix ≠ 0 ∧ a.suffix ≠ b.suffix) || (nm == 0 && nu != 3) || (nu == 0 && pl != 3) || ((a.twin || b.twin) && nu != 3 && nm != 3)
def yesB (a b : Rcd) (nm nu bi pl : Int) : Bool := (nu == 3 && decide (2 ≤ nm)) || (nm == 3 && bi == 3 && pl == 3 && !a.twin && !b.twin)
theorem verdN_bad (a b : Rcd) (nm nu bi pl : Int) : verdN a b nm nu bi pl = if badB a b nm nu bi pl then 0 else if yesB a b nm nu bi pl then 2 else 1 := by
  have e1 : badB a b nm nu bi pl = (vtest a b nm nu bi pl 0 || vtest a b nm nu bi pl 1 || vtest a b nm nu bi pl 2 || vtest a b nm nu bi pl 3 || vtest a b nm nu bi pl 4) := rfl
  have e2 : yesB a b nm nu bi pl = (vtest a b nm nu bi pl 5 || vtest a b nm nu bi pl 6) := by
    unfold yesB vtest
    cases a.twin <;> cases b.twin <;> simp
  rw [verdN_iff, e1, e2]
  cases vtest a b nm nu bi pl 0 <;> cases vtest a b nm nu bi pl 1 <;> cases vtest a b nm nu bi pl 2 <;> cases vtest a b nm nu bi pl 3 <;> cases vtest a b nm nu bi pl 4 <;> cases vtest a b nm nu bi pl 5 <;> cases vtest a b nm nu bi pl 6 <;> rfl

end Go.Proofs.YtlkjimfkapcenaaGreatDoor
namespace Go.Proofs.YtlkjimfkapcenaaGreatDoor
open Go.RowKit

/-- The result of Compare: the match, and the error. -/
def cmpE (r : Rul) (a b : Rcd) : Int := if r.ok then (if a.ok && b.ok then 0 else 11) else 10
def cmpV (r : Rul) (a b : Rcd) : Cmp := if r.ok && a.ok && b.ok then cmpN r a b else ⟨0, 0, 0, 0, 0⟩
theorem cmpE_symm (r : Rul) (a b : Rcd) : cmpE r a b = cmpE r b a := by unfold cmpE; rw [Bool.and_comm]
theorem cmpV_symm (r : Rul) (a b : Rcd) : cmpV r a b = cmpV r b a := by
  unfold cmpV
  rw [cmpN_symm, Bool.and_assoc, Bool.and_assoc, Bool.and_comm a.ok]
/-- A valid record has what compare asks. -/
theorem good_of {a : Rcd} {w : World} {A : Option Addr} {n c : Nat} {B : Option Addr} {m : Nat} (h : a.In w A n B m) (hc : n ≤ c) (hb : c ≤ 9223372036854775807) (hs : 0 ≤ a.suffix) (ok : a.ok = true) : Good a w A n c B m := by
  unfold Rcd.ok inB at ok
  simp only [Bool.and_eq_true, decide_eq_true_eq, Bool.or_eq_true, List.all_eq_true] at ok
  obtain ⟨⟨⟨⟨⟨⟨⟨⟨_, o2⟩, o3⟩, o4⟩, o5⟩, o6⟩, o7⟩, o8⟩, _⟩ := ok
  have hn := h.nlen
  have hm := h.mlen
  refine ⟨h, ⟨by omega, by omega, hc, hb, fun s hs => ?_⟩, by omega, ⟨hs, o4⟩, o8, o5.1.1, o5.1.2, o5.2, fun s hs => ?_⟩
  · have := o3 s hs
    unfold wordB inB at this
    simp only [Bool.and_eq_true, decide_eq_true_eq] at this
    omega
  · have := o7 s hs
    unfold Sty.ok inB at this
    simp only [Bool.and_eq_true, decide_eq_true_eq] at this
    unfold Rng
    omega
theorem results_cell_tmp {P : Program} {fn : Func} {p q : Tmp} {ty : TypeId} (h : fn.results = #[.cell p ty, .tmp q]) (tmps : Array Value) (w : World) (g : Nat) (t : TypeId) (cs : Array Value) (fr : Nat × Nat) (d : TypeDesc) (v : Value)
    (hp : tmps.getD p undef = .pointer (some ⟨g, 0, none⟩)) (hq : tmps.getD q undef = v) (hg : w.heap[g]? = some (.cells cs t fr))
    (hu : P.underlying ty = some d) (hd : (match d with | .struct _ | .array _ _ => true | _ => false) = true) (hi : (P.info? ty).map (·.size) = some cs.size) :
    (results fn tmps).run P w = .ok (.tuple #[.agg cs, v]) w := by
  have hp' : tmps[p]?.getD undef = .pointer (some ⟨g, 0, none⟩) := by simpa using hp
  have hq' : tmps[q]?.getD undef = v := by simpa using hq
  simp [results, h, hp', hq', asAddr, run_loadVar_row w g t ty cs fr d hg hu hd hi]
/-- The boxes of rules, two records and a match. -/
theorem boxes4 (w : World) (o1 o2 o3 o4 : Obj) : ((((w.alloc o1).alloc o2).alloc o3).alloc o4).heap[w.heap.size]? = some o1 ∧ ((((w.alloc o1).alloc o2).alloc o3).alloc o4).heap[w.heap.size + 1]? = some o2 ∧
    ((((w.alloc o1).alloc o2).alloc o3).alloc o4).heap[w.heap.size + 1 + 1]? = some o3 ∧ ((((w.alloc o1).alloc o2).alloc o3).alloc o4).heap[w.heap.size + 1 + 1 + 1]? = some o4 := by
  obtain ⟨a, b, c⟩ := rows3 w o1 o2 o3
  have e : (((w.alloc o1).alloc o2).alloc o3).heap.size = w.heap.size + 1 + 1 + 1 := by simp
  refine ⟨?_, ?_, ?_, ?_⟩
  · rw [Below.heap_alloc _ _ _ (by omega)]; exact a
  · rw [Below.heap_alloc _ _ _ (by omega)]; exact b
  · rw [Below.heap_alloc _ _ _ (by omega)]; exact c
  · rw [← e]; exact heap_alloc_new _ _

end Go.Proofs.YtlkjimfkapcenaaGreatDoor
