/- SumBound of the statements on sums: the walk: whatever the input, it answers true. -/
import Derived.Test.YtimhkkijoelmhaaQAsks10
import Derived.Test.YtimhkkijoelmhaaQAlive10
import Derived.Test.YtimhkkijoelmhaaQRefSum10
namespace Go.Proofs.Ytimhkkijoelmhaa
open Go.RowKit

theorem flat_take2 {α : Type} {g : α → List Value} (hg : ∀ x, (g x).length = 2) (l : List α) (k : Nat) : (l.flatMap g).take (k * 2) = (l.take k).flatMap g := by
  induction l generalizing k with
  | nil => simp
  | cons a l ih =>
    cases k with
    | zero => simp
    | succ k =>
      rw [List.take_succ_cons, List.flatMap_cons, List.flatMap_cons, ← ih, show (k + 1) * 2 = (g a).length + k * 2 by rw [hg]; omega, List.take_length_add_append]
theorem flat_drop2 {α : Type} {g : α → List Value} (hg : ∀ x, (g x).length = 2) (l : List α) (k : Nat) : (l.flatMap g).drop (k * 2) = (l.drop k).flatMap g := by
  induction l generalizing k with
  | nil => simp
  | cons a l ih =>
    cases k with
    | zero => simp
    | succ k =>
      rw [List.drop_succ_cons, List.flatMap_cons, ← ih, show (k + 1) * 2 = (g a).length + k * 2 by rw [hg]; omega, List.drop_length_add_append]
theorem SbjsIn.sub {w w' : World} {A A' : Option Addr} {n n' : Nat} {zs es : List Sbj} (h : SbjsIn w A n zs) (g : Gr w w') (p : ∀ s ∈ es, s ∈ zs) (hr : Rd w' 2 A' n' (es.flatMap Sbj.cells)) (hb : n' ≤ 9223372036854775807) : SbjsIn w' A' n' es :=
  ⟨hr, hb, fun s hs => ⟨(h.vals s (p s hs)).1.gr g, (h.vals s (p s hs)).2⟩, fun s hs => h.wf s (p s hs)⟩
theorem asks_parts {columns : Int} {n : Nat} {zs : List Sbj} {q : Qst} (h : asksB columns n zs q = true) : tableB columns zs = true ∧ qstB columns q = true := by
  unfold asksB at h
  simp only [Bool.and_eq_true] at h
  exact h.2
theorem ask_ok {columns : Int} {zs : List Sbj} {q : Qst} (ht : tableB columns zs = true) (hq : qstB columns q = true) : askN10 columns zs q = 0 := by
  unfold askN10
  rw [if_pos ht, if_pos hq]
theorem take_drop_sub {α : Type} (l : List α) (k : Nat) : (l.take k ++ l.drop (k + 1)).Sublist l := by
  have h := (List.Sublist.refl (l.take k)).append (List.drop_sublist 1 (l.drop k))
  rw [List.drop_drop, List.take_append_drop] at h
  rwa [show k + 1 = k + 1 from rfl]

set_option maxRecDepth 100000 in
set_option maxHeartbeats 4000000 in
theorem sumBound_any (columns : Int) (A : Option Addr) (n c : Nat) (zs : List Sbj) (q : Qst) (x : Int) (w : World) (hi : SbjsIn w A n zs) (hcap : n ≤ c ∧ c ≤ 9223372036854775807) (hq : QstIn w q) (hx : 0 ≤ x ∧ x ≤ 255) :
    Calls Try.prog 7 #[.int .i64 columns, .slice A n c, q.val, .int .u8 x] w fun e w' => e = .returned (.bool true) ∧ Gr w w' := by
  have HI := hid hi
  have HQ := hid hq
  have hln := hi.len
  have HAl := hid (fun W => alive10_any W)
  have HAk := hid (fun W (g : Gr w W) => asks_any columns A n c zs q W (hi.gr g) (hq.gr g))
  have HX0 := hid (heap_alloc_new w (.cells #[.slice q.a q.n q.c, .int .i64 q.col, .int .i64 q.clip, .int .i64 q.step] 25))
  have G0 := hid (show Gr w (w.alloc (.cells #[.slice q.a q.n q.c, .int .i64 q.col, .int .i64 q.clip, .int .i64 q.step] 25)) from (Gr.refl w).alloc _)
  obtain ⟨hx0, hx1⟩ := hx
  obtain ⟨B, hB⟩ : ∃ B, asksB columns n zs q = B := ⟨_, rfl⟩
  rw [hB] at HAk
  by_cases h0 : B = true ∧ 0 < n
  case neg =>
    have hcase : B = false ∨ n = 0 := by
      cases B
      · exact .inl rfl
      · right
        rcases Nat.eq_zero_or_pos n with h | h
        · exact h
        · exact absurd ⟨rfl, h⟩ h0
    clear hi hq hB h0 HI HQ
    unfold Qst.val at *
    cases B with
    | false =>
      clear hcase
      go_enter Try.func7, Try.ntmps7
      go_wp2_with (first
        | (go_at_call 31; (with_reducible refine (HAl.out _).mono ?_); rintro e w1 ⟨rfl, hb1⟩; obtain ⟨d0, d1, d2, d3⟩ := cellsat4 (row_gr HX0.out hb1))
        | (go_at_call 35; (with_reducible refine (HAk.out _ (G0.out.trans hb1)).mono ?_); rintro e w2 ⟨rfl, hb2⟩))
      go_ret
      exact ⟨rfl, (G0.out.trans hb1).trans hb2⟩
    | true =>
      obtain rfl : n = 0 := by simpa using hcase
      clear hcase
      go_enter Try.func7, Try.ntmps7
      go_wp2_with (first
        | (go_at_call 31; (with_reducible refine (HAl.out _).mono ?_); rintro e w1 ⟨rfl, hb1⟩; obtain ⟨d0, d1, d2, d3⟩ := cellsat4 (row_gr HX0.out hb1))
        | (go_at_call 35; (with_reducible refine (HAk.out _ (G0.out.trans hb1)).mono ?_); rintro e w2 ⟨rfl, hb2⟩))
      go_ret
      exact ⟨rfl, (G0.out.trans hb1).trans hb2⟩
  case pos =>
    obtain ⟨rfl, hn0⟩ := h0
    obtain ⟨ht, hqb⟩ := asks_parts hB
    obtain ⟨hqc, hqs, hqw⟩ := qst_parts hqb
    obtain ⟨hl16, hmem⟩ := table_mem ht
    obtain ⟨x, rfl⟩ := Int.eq_ofNat_of_zero_le hx0
    obtain ⟨k, hk⟩ : ∃ k, x % n = k := ⟨_, rfl⟩
    have hkn : k < n := by rw [← hk]; exact Nat.mod_lt _ hn0
    have hn16 : n ≤ 16 := by omega
    obtain ⟨few, hfew⟩ : ∃ few, zs.take k ++ zs.drop (k + 1) = few := ⟨_, rfl⟩
    have hsub : few.Sublist zs := by rw [← hfew]; exact take_drop_sub zs k
    have htf := table_sub ht hsub
    have htn : tableB columns [] = true := table_sub ht (List.nil_sublist zs)
    have hraw := raw_split q (l := zs) (k := k) (by omega)
    rw [hfew] at hraw
    have hca := cntA_in ht hqb (s := zs[k]!) (by rw [getElem!_pos zs k (by omega)]; exact List.getElem_mem _)
    have hr1 := raw_in ht hqb zs.length (Nat.le_refl _)
    have hr2 := raw_in htf hqb few.length (Nat.le_refl _)
    rw [List.take_length] at hr1 hr2
    have hst : 0 < q.step := by omega
    have hclip : 0 ≤ q.clip ∧ q.clip ≤ 1000000 := by rcases hqc with ⟨_, h⟩ | ⟨_, _, _, h⟩ <;> omega
    obtain ⟨l1, l2, l3⟩ := print_laws (n := rawN zs q) hst
    obtain ⟨b1, b2, b3⟩ := bound_laws (clip := q.clip) hst
    have hp0 := print_nonneg (n := rawN zs q) hst hr1.1
    have hmo := print_mono (a := rawN zs q) (b := rawN few q) hst (by omega)
    have hdf := print_diff (a := rawN zs q) (b := rawN few q) (clip := q.clip) hst (by omega)
    have HS1 := hid (fun W (g : Gr w W) => by have h := sum10_any columns A n c zs q W (hi.gr g) (hq.gr g); unfold sumP sumBd at h; rw [ask_ok ht hqb] at h; simp only [if_true] at h; exact h)
    have HS2 := hid (fun F m d W (g : Gr w W) (hF : SbjsIn W F m few) => by have h := sum10_any columns F m d few q W hF (hq.gr g); unfold sumP sumBd at h; rw [ask_ok htf hqb] at h; simp only [if_true] at h; exact h)
    have HS3 := hid (fun W (g : Gr w W) => by have h := sum10_any columns none 0 0 [] q W ⟨Rd.nil_, by omega, fun s hs => by simp at hs, fun s hs => by simp at hs⟩ (hq.gr g); unfold sumP sumBd at h; rw [ask_ok htn hqb] at h; simp only [if_true] at h; exact h)
    have HAs := hid (fun s (hs : s ∈ zs) W (g : Gr w W) => refAsked_any s q W ((hi.vals s hs).1.gr g) (hq.gr g) (fun x hx => by have h1 := hqw x hx; have h2 := (hmem s hs).2.1; have h3 := (hi.vals s hs).1.len; simp at h3; omega) (hi.vals s hs).2)
    have HCt := hid (fun s (hs : s ∈ zs) W (g : Gr w W) => refCounts_any s q W ((hi.vals s hs).1.gr g) (fun hne => by have h2 := (hmem s hs).2.1; have h3 := (hi.vals s hs).1.len; simp at h3; rcases hqc with ⟨h, _⟩ | ⟨_, h4, h5, _⟩; exact absurd h hne; omega) (hi.vals s hs).2)
    have HRw := hid (fun j (hj : j ≤ zs.length) => raw_in ht hqb j hj)
    have HSn := hid (fun j (hj : j < zs.length) => (by rw [List.take_succ_eq_append_getElem hj, rawN_snoc, ← getElem!_pos zs j hj] : rawN (zs.take (j + 1)) q = if askedB zs[j]! q = true then rawN (zs.take j) q + cntN zs[j]! q else rawN (zs.take j) q))
    have HCn := hid (fun s (hs : s ∈ zs) => cnt_in ht hqb hs)
    have hRall : rawN (zs.take n) q = rawN zs q := by rw [← hln, List.take_length]
    have HFe := hid hfew
    clear hi hq hB ht hqb htf htn hqw hmem hqc hfew hraw hca hr2
    have hm1 : Int.tmod (x : Int) (n : Int) = (k : Int) := by rw [Int.tmod_eq_emod_of_nonneg (by omega)]; omega
    have hm2 : IntKind.i64.wrap (Int.tmod (x : Int) (n : Int)) = (k : Int) := by rw [hm1, IntKind.wrap_i64]; omega
    have hm3 : ¬ (n : Int) = 0 := by omega
    have hk0 : (0 : Int) ≤ (k : Int) := by omega
    have hk1 : IntKind.i64.wrap ((k : Int) + 1) = (k : Int) + 1 := by rw [IntKind.wrap_i64]; omega
    obtain ⟨i0, hi0', hz0, hs0, hy0⟩ := info_parts info_sbj
    have HI0 := hid hi0'
    have HZ0 := hid hz0
    have HS0 := hid hs0
    have HY0 := hid hy0
    clear hi0' hz0 hs0 hy0
    obtain ⟨qa, qn, qc, whs, col, clip, st⟩ := q
    unfold Qst.val at *
    dsimp only at *
    generalize rawN zs ⟨qa, qn, qc, whs, col, clip, st⟩ = N1 at *
    generalize rawN few ⟨qa, qn, qc, whs, col, clip, st⟩ = N2 at *
    generalize printN N1 st = P1 at *
    generalize printN N2 st = P2 at *
    generalize boundN clip st = BD at *
    go_enter Try.func7, Try.ntmps7
    go_upto_region 7 with (first
      | (go_at_call 31; (with_reducible refine (HAl.out _).mono ?_); rintro e w1 ⟨rfl, hb1⟩; obtain ⟨d0, d1, d2, d3⟩ := cellsat4 (row_gr HX0.out hb1))
      | (go_at_call 35; (with_reducible refine (HAk.out _ (G0.out.trans hb1)).mono ?_); rintro e w2 ⟨rfl, hb2⟩))
    have G2 := hid ((G0.out.trans hb1).trans hb2)
    have HX2 := hid (row_gr (row_gr HX0.out hb1) hb2)
    clear hb1 hb2 d0 d1 d2 d3 HX0
    refine wp_region_ord (C := fun w' => ∃ p : GrW w2, w' = p.W) [(1, false), (2, false), (3, false), (5, false), (6, false), (7, false), (8, false), (0, true), (4, true), (9, true), (10, false)] (by rfl) (by kernel_rfl) (by kernel_rfl) ⟨⟨_, (Gr.refl w2).drew⟩, rfl⟩ ?_
    (iterate 2 (first | ((refine ord_read0 rfl rfl rfl (fun K hK => ?_)); go_big_quiet_op; (with_reducible refine hK _ ?_); clear hK K) | ((refine ord_skipG rfl rfl rfl rfl rfl ?_); simp only [Act.put, List.setIfInBounds_toArray, List.set_cons_zero, List.set_cons_succ]) | ((refine ord_readG rfl rfl rfl rfl rfl rfl (fun K hK => ?_)); go_big_quiet_op; (with_reducible refine hK _ ?_); clear hK K) | ((refine ord_nilc rfl rfl rfl rfl ?_); simp only [Act.put, List.setIfInBounds_toArray, List.set_cons_zero, List.set_cons_succ])))
    refine ord_slice_to rfl rfl 22 60 (.tmp 44) (.tmp 45) rfl i0 Try.underlying22 HI0.out A n c k _ rfl rfl (by omega) (by omega) ?_
    simp only [Act.put, List.setIfInBounds_toArray, List.set_cons_zero, List.set_cons_succ]
    (iterate 3 (first | ((refine ord_read0 rfl rfl rfl (fun K hK => ?_)); go_big_quiet_op; (with_reducible refine hK _ ?_); clear hK K) | ((refine ord_skipG rfl rfl rfl rfl rfl ?_); simp only [Act.put, List.setIfInBounds_toArray, List.set_cons_zero, List.set_cons_succ]) | ((refine ord_readG rfl rfl rfl rfl rfl rfl (fun K hK => ?_)); go_big_quiet_op; (with_reducible refine hK _ ?_); clear hK K) | ((refine ord_nilc rfl rfl rfl rfl ?_); simp only [Act.put, List.setIfInBounds_toArray, List.set_cons_zero, List.set_cons_succ])))
    refine ord_slice_from rfl rfl 22 60 (.tmp 48) (.tmp 50) rfl i0 2 Try.underlying22 HI0.out HS0.out A n c (k + 1) _ _ rfl rfl (by omega) (by omega) (by omega) ?_
    intro KZ hKZ
    simp only [Act.put, List.setIfInBounds_toArray, List.set_cons_zero, List.set_cons_succ]
    have HKZ := hid hKZ
    clear hKZ
    (first | (refine ord_mem0 rfl rfl (fun K hK => ?_)) | (refine ord_memG rfl rfl rfl rfl rfl (fun K hK => ?_)))
    go_simp
    have Ga := hid (show Gr w2 (w2.drew.alloc (.cells #[] 60)) from (Gr.refl w2).drew.alloc _)
    have HOa := hid (own_new w2.drew w2.drew.heap.size 60 2 rfl)
    refine hK.out _ _ ⟨⟨_, Ga.out⟩, rfl⟩ ?_
    clear hK K
    have HRa : Hid (Rd (w2.drew.alloc (.cells #[] 60)) 2 A k ((zs.take k).flatMap Sbj.cells)) := by
      have h := Rd.first ((HI.out.gr (G2.out.trans Ga.out)).rd) (k := k) (by omega)
      rw [flat_take2 Sbj.len] at h
      exact h
    (first | (refine ord_mem0 rfl rfl (fun K hK => ?_)) | (refine ord_memG rfl rfl rfl rfl rfl (fun K hK => ?_)))
    refine wp_append_rd (.tmp 43) (.tmp 46) 22 rfl w2.drew.heap.size 60 i0 (.agg #[.int .i64 0, .slice none 0 0]) 2 32 Try.underlying22 HI0.out HZ0.out HS0.out HY0.out rfl (by decide) _ _ _ rfl HOa.out A k c ((zs.take k).flatMap Sbj.cells) rfl HRa.out (flatE_one (zs.take k)) (by have : maxLen = 9223372036854775807 := rfl; omega) (by omega) (by simp) ?_
    intro A3 c3 w3 hown hgrow hbel
    rw [Nat.zero_add, List.nil_append] at hown
    have HB3 := hid (show Gr w2 w3 from Below.trans (show Below w2.heap.size w2 (w2.drew.alloc (.cells #[] 60)) from Ga.out) hbel)
    have HO3 := hid hown
    refine hK.out _ _ ⟨⟨w3, HB3.out⟩, rfl⟩ ?_
    clear hK K hown hgrow hbel
    simp only [Act.put, List.setIfInBounds_toArray, List.set_cons_zero, List.set_cons_succ]
    have HRb : Hid (Rd w3 2 KZ (n - (k + 1)) ((zs.drop (k + 1)).flatMap Sbj.cells)) := by
      have h := HKZ.out _ _ ((HI.out.gr (G2.out.trans HB3.out)).rd)
      rw [flat_drop2 Sbj.len] at h
      exact h
    have hfl : k + (n - (k + 1)) = n - 1 := by omega
    (first | (refine ord_mem0 rfl rfl (fun K hK => ?_)) | (refine ord_memG rfl rfl rfl rfl rfl (fun K hK => ?_)))
    refine wp_append_rd (.tmp 47) (.tmp 51) 22 rfl w2.drew.heap.size 60 i0 (.agg #[.int .i64 0, .slice none 0 0]) 2 32 Try.underlying22 HI0.out HZ0.out HS0.out HY0.out rfl (by decide) _ _ _ (by rw [Nat.zero_add]; rfl) HO3.out KZ (n - (k + 1)) (c - (k + 1)) ((zs.drop (k + 1)).flatMap Sbj.cells) rfl HRb.out (flatE_one (zs.drop (k + 1))) (by have : maxLen = 9223372036854775807 := rfl; omega) (by omega) (by have h1 := HB3.out.size; exact h1) ?_
    intro A4 c4 w4 hown hgrow hbel
    rw [hfl, ← List.flatMap_append, HFe.out] at hown
    rw [hfl]
    have HB4 := hid (show Gr w2 w4 from Below.trans (show Below w2.heap.size w2 w3 from HB3.out) hbel)
    have HF4 : Hid (SbjsIn w4 A4 (n - 1) few) := HI.out.sub (G2.out.trans HB4.out) (fun s hs => hsub.subset hs) (Rd.of_own hown) (by omega)
    refine hK.out _ _ ⟨⟨w4, HB4.out⟩, rfl⟩ ?_
    clear hK K hown hgrow hbel HRa HRb HO3 HOa HB3 hfl HKZ
    simp only [Act.put, List.setIfInBounds_toArray, List.set_cons_zero, List.set_cons_succ]
    (repeat (first | ((refine ord_read0 rfl rfl rfl (fun K hK => ?_)); go_big_quiet_op; (with_reducible refine hK _ ?_); clear hK K) | ((refine ord_skipG rfl rfl rfl rfl rfl ?_); simp only [Act.put, List.setIfInBounds_toArray, List.set_cons_zero, List.set_cons_succ]) | ((refine ord_readG rfl rfl rfl rfl rfl rfl (fun K hK => ?_)); go_big_quiet_op; (with_reducible refine hK _ ?_); clear hK K) | ((refine ord_nilc rfl rfl rfl rfl ?_); simp only [Act.put, List.setIfInBounds_toArray, List.set_cons_zero, List.set_cons_succ])))
    (with_reducible refine ord_nil ?_)
    have G4 := hid (G2.out.trans HB4.out)
    have HX4 := hid (row_gr HX2.out HB4.out)
    obtain ⟨d0, d1, d2, d3⟩ := cellsat4 HX4.out
    have hX4 : w.heap.size < w4.heap.size := block_lt_of_cell d0
    go_upto_region 11 with (first
      | (go_at_call 18; (with_reducible refine (HS1.out _ G4.out).mono ?_); rintro e w5 ⟨rfl, hb⟩; have G5 := hid (G4.out.trans hb); have HF5 := hid (HF4.out.gr hb); have HX5 := hid (row_gr HX4.out hb); replace d0 := row_cell d0 hb; replace d1 := row_cell d1 hb; replace d2 := row_cell d2 hb; replace d3 := row_cell d3 hb; have hX5 : w.heap.size < w5.heap.size := block_lt_of_cell d0; clear hb)
      | (go_at_call 18; (with_reducible refine (HS2.out _ _ _ _ G5.out HF5.out).mono ?_); rintro e w6 ⟨rfl, hb⟩; have G6 := hid (G5.out.trans hb); have HX6 := hid (row_gr HX5.out hb); replace d0 := row_cell d0 hb; replace d1 := row_cell d1 hb; replace d2 := row_cell d2 hb; replace d3 := row_cell d3 hb; have hX6 : w.heap.size < w6.heap.size := block_lt_of_cell d0; clear hb)
      | (go_at_call 18; (with_reducible refine (HS3.out _ G6.out).mono ?_); rintro e w7 ⟨rfl, hb⟩; have G7 := hid (G6.out.trans hb); have HX7 := hid (row_gr HX6.out hb); replace d0 := row_cell d0 hb; replace d1 := row_cell d1 hb; replace d2 := row_cell d2 hb; replace d3 := row_cell d3 hb; have hX7 : w.heap.size < w7.heap.size := block_lt_of_cell d0; clear hb))
    have hB1 : Int.tmod BD st = 0 := by rw [Int.tmod_eq_emod_of_nonneg (by omega)]; exact b1
    have hB2 : IntKind.i64.wrap (Int.tmod BD st) = 0 := by rw [hB1]; rfl
    have hB3 : ¬ st = 0 := by omega
    have hB4 : ¬ BD < clip := by omega
    have hB5 : IntKind.i64.wrap (BD - st) = BD - st := by rw [IntKind.wrap_i64]; omega
    have hB6 : ¬ clip ≤ BD - st := by omega
    go_wp2_with fail
    have G7' := hid G7.out
    have HX7' := hid HX7.out
    clear d0 d1 d2 d3 hX4 hX5 hX6 hX7 HX4 HX5 HX6 HX7 HX2 HF4 HF5 G4 G5 G6 G7 HB4 HS1 HS2 HS3 HAk HAl
    go_loopg [21, 120] n (fun gg s21 s120 wr => ∃ j : Nat, j ≤ n ∧ n - j ≤ gg ∧ s21 = .int .i64 (rawN (zs.take j) ⟨qa, qn, qc, whs, col, clip, st⟩) ∧ s120 = .int .i64 j ∧ Gr w wr ∧ Hid (wr.heap[w.heap.size]? = some (.cells #[.slice qa qn qc, .int .i64 col, .int .i64 clip, .int .i64 st] 25 (0, 0))))
    case atStart => exact ⟨0, Nat.zero_le _, by omega, rfl, rfl, G7'.out, HX7'⟩
    case round =>
      obtain ⟨j, hj, hgj, rfl, rfl, BW, HXr⟩ := hrel
      obtain ⟨d0, d1, d2, d3⟩ := cellsat4 HXr.out
      have hXr : w.heap.size < wr.heap.size := block_lt_of_cell d0
      by_cases hjl : j < n
      · have hjn : (j : Int) < (n : Int) := by omega
        have hjz : (0 : Int) ≤ (j : Int) := by omega
        obtain ⟨hj', b, off, hAe, hbl, c0, c1⟩ := (HI.out.gr BW).rd.sbj hjl
        subst hAe
        have hsm : zs[j]! ∈ zs := by rw [getElem!_pos zs j hj']; exact List.getElem_mem hj'
        have HA := hid (fun W (g : Gr w W) => HAs.out zs[j]! hsm W g)
        have HC := hid (fun W (g : Gr w W) => HCt.out zs[j]! hsm W g)
        have hcn := HCn.out _ hsm
        have hrw := HRw.out j (by omega)
        have HSj := hid (HSn.out j hj')
        clear hsm
        generalize rawN (zs.take j) ⟨qa, qn, qc, whs, col, clip, st⟩ = o at *
        generalize zs[j]! = s at *
        obtain ⟨idn, sa, vn, vc, vals⟩ := s
        unfold Sbj.val at HA HC
        dsimp only at *
        generalize askedB ⟨idn, sa, vn, vc, vals⟩ ⟨qa, qn, qc, whs, col, clip, st⟩ = r at *
        generalize cntN ⟨idn, sa, vn, vc, vals⟩ ⟨qa, qn, qc, whs, col, clip, st⟩ = cn at *
        have GA : Gr w (wr.alloc (.cells #[.int .i64 idn, .slice sa vn vc] 60)) := BW.alloc _
        have hws : IntKind.i64.wrap (o + cn) = o + cn := by rw [IntKind.wrap_i64]; omega
        cases r with
        | true =>
          simp only [if_true] at HSj
          go_wp2_with (first
            | (go_at_call 36; (with_reducible refine (HA.out _ GA).mono ?_); rotate_right; rintro e w8 ⟨rfl, hbw8⟩; obtain ⟨hcw8, hfw8, hzw8⟩ := hbw8.rules; (try simp at hzw8); have hzw8_0 : wr.heap.size < w8.heap.size := (by omega); have hyw8_0 : wr.heap.size ≤ w8.heap.size := (by omega))
            | (go_at_call 37; (with_reducible refine (HC.out _ (GA.trans hbw8)).mono ?_); rotate_right; rintro e w9 ⟨rfl, hbw9⟩; obtain ⟨hcw9, hfw9, hzw9⟩ := hbw9.rules; (try simp at hzw9)))
          go_roundg (n - (j + 1))
          case measure => omega
          case rel => exact ⟨j + 1, by omega, by omega, by rw [HSj.out], by go_num, (GA.trans hbw8).trans hbw9, row_gr HXr.out ((((Gr.refl wr).alloc _).trans hbw8).trans hbw9)⟩
        | false =>
          simp only [Bool.false_eq_true, if_false] at HSj
          go_wp2_with (first
            | (go_at_call 36; (with_reducible refine (HA.out _ GA).mono ?_); rotate_right; rintro e w8 ⟨rfl, hbw8⟩; obtain ⟨hcw8, hfw8, hzw8⟩ := hbw8.rules; (try simp at hzw8); have hzw8_0 : wr.heap.size < w8.heap.size := (by omega); have hyw8_0 : wr.heap.size ≤ w8.heap.size := (by omega)))
          go_roundg (n - (j + 1))
          case measure => omega
          case rel => exact ⟨j + 1, by omega, by omega, by rw [HSj.out], by go_num, GA.trans hbw8, row_gr HXr.out (((Gr.refl wr).alloc _).trans hbw8)⟩
      · have hjn : ¬ (j : Int) < (n : Int) := by omega
        have hje : j = n := by omega
        rw [hje, hRall]
        have hL1 : P2 ≤ P1 := hmo
        have hL2 : IntKind.i64.wrap (P1 - P2) = P1 - P2 := by rw [IntKind.wrap_i64]; omega
        have hL3 : P1 - P2 ≤ BD := hdf
        have hL4 : Int.tmod P1 st = 0 := by rw [Int.tmod_eq_emod_of_nonneg (by omega)]; exact l1
        have hL5 : IntKind.i64.wrap (Int.tmod P1 st) = 0 := by rw [hL4]; rfl
        have hL6 : IntKind.i64.wrap (P1 - N1) = P1 - N1 := by rw [IntKind.wrap_i64]; omega
        have hL7 : IntKind.i64.wrap (2 * (P1 - N1)) = 2 * (P1 - N1) := by rw [IntKind.wrap_i64]; omega
        have hL8 : IntKind.i64.wrap (N1 - P1) = N1 - P1 := by rw [IntKind.wrap_i64]; omega
        have hL9 : IntKind.i64.wrap (2 * (N1 - P1)) = 2 * (N1 - P1) := by rw [IntKind.wrap_i64]; omega
        have hLa : 2 * (P1 - N1) ≤ st := l2
        have hLb : 2 * (N1 - P1) < st := l3
        go_wp2
        go_ret
        exact ⟨by first | rfl | simp, BW⟩
end Go.Proofs.Ytimhkkijoelmhaa
