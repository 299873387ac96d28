/- SumApart of the statements on sums: the walk: whatever the input, it answers true. -/
import Derived.Test.YtimhkkijoelmhaaQApartPure10
import Derived.Test.YtimhkkijoelmhaaQLawBound10
import Derived.Test.YtimhkkijoelmhaaQSameInts10
namespace Go.Proofs.Ytimhkkijoelmhaa
open Go.RowKit

set_option maxRecDepth 100000 in
set_option maxHeartbeats 4000000 in
theorem sumApart_any (columns : Int) (A : Option Addr) (n c : Nat) (zs : List Sbj) (q : Qst) (x : Int) (w : World) (hi : SbjsIn w A n zs) (hq : QstIn w q) (hx : 0 ≤ x ∧ x ≤ 255) :
    Calls Try.prog 8 #[.int .i64 columns, .slice A n c, q.val, .int .u8 x] w fun e w' => e = .returned (.bool true) ∧ Gr w w' := by
  have HI := hid hi
  have HQ := hid hq
  have hln := hi.len
  have HAl := hid (fun W => alive10_any W)
  have HAk := hid (fun W (g : Gr w W) => asks_any columns A n c zs q W (hi.gr g) (hq.gr g))
  have HX0 := hid (heap_alloc_new w (.cells #[.slice q.a q.n q.c, .int .i64 q.col, .int .i64 q.clip, .int .i64 q.step] 25))
  have G0 := hid (show Gr w (w.alloc (.cells #[.slice q.a q.n q.c, .int .i64 q.col, .int .i64 q.clip, .int .i64 q.step] 25)) from (Gr.refl w).alloc _)
  obtain ⟨hx0, hx1⟩ := hx
  obtain ⟨B, hB⟩ : ∃ B, asksB columns n zs q = B := ⟨_, rfl⟩
  rw [hB] at HAk
  by_cases h0 : B = true ∧ 0 < n
  case neg =>
    have hcase : B = false ∨ n = 0 := by
      cases B
      · exact .inl rfl
      · right
        rcases Nat.eq_zero_or_pos n with h | h
        · exact h
        · exact absurd ⟨rfl, h⟩ h0
    clear hi hq hB h0 HI HQ
    unfold Qst.val at *
    cases B with
    | false =>
      clear hcase
      go_enter Try.func8, Try.ntmps8
      go_wp2_with (first
        | (go_at_call 31; (with_reducible refine (HAl.out _).mono ?_); rintro e w1 ⟨rfl, hb1⟩; obtain ⟨d0, d1, d2, d3⟩ := cellsat4 (row_gr HX0.out hb1))
        | (go_at_call 35; (with_reducible refine (HAk.out _ (G0.out.trans hb1)).mono ?_); rintro e w2 ⟨rfl, hb2⟩))
      go_ret
      exact ⟨rfl, (G0.out.trans hb1).trans hb2⟩
    | true =>
      obtain rfl : n = 0 := by simpa using hcase
      clear hcase
      go_enter Try.func8, Try.ntmps8
      go_wp2_with (first
        | (go_at_call 31; (with_reducible refine (HAl.out _).mono ?_); rintro e w1 ⟨rfl, hb1⟩; obtain ⟨d0, d1, d2, d3⟩ := cellsat4 (row_gr HX0.out hb1))
        | (go_at_call 35; (with_reducible refine (HAk.out _ (G0.out.trans hb1)).mono ?_); rintro e w2 ⟨rfl, hb2⟩))
      go_ret
      exact ⟨rfl, (G0.out.trans hb1).trans hb2⟩
  case pos =>
    obtain ⟨rfl, hn0⟩ := h0
    obtain ⟨ht, hqb⟩ := asks_parts hB
    obtain ⟨hqc, hqs, hqw⟩ := qst_parts hqb
    obtain ⟨hl16, hmem⟩ := table_mem ht
    obtain ⟨x, rfl⟩ := Int.eq_ofNat_of_zero_le hx0
    obtain ⟨k, hk⟩ : ∃ k, x % n = k := ⟨_, rfl⟩
    have hkn : k < n := by rw [← hk]; exact Nat.mod_lt _ hn0
    have hn16 : n ≤ 16 := by omega
    have hts := some_table (k := k) (q := q) ht
    have hrw := some_raw zs k q
    obtain ⟨hme, hml⟩ := some_meets (k := k) (q := q) ht
    have hsm := some_mem (zs := zs) (k := k) (q := q)
    have HGet := hid (fun j (hj : j < n) => rot_get (zs := zs) (k := k) hln hkn hj)
    have hrl := rot_len zs k
    have HS1 := hid (fun W (g : Gr w W) => by have h := sum10_any columns A n c zs q W (hi.gr g) (hq.gr g); unfold sumP sumBd at h; rw [ask_ok ht hqb] at h; simp only [if_true] at h; exact h)
    have HS2 := hid (fun S m d W (g : Gr w W) (hF : SbjsIn W S m (someS zs k q)) => by have h := sum10_any columns S m d (someS zs k q) q W hF (hq.gr g); unfold sumP sumBd at h; rw [ask_ok hts hqb, hrw] at h; simp only [if_true] at h; exact h)
    have HM1 := hid (fun W (g : Gr w W) => by have h := meets10_any columns A n c zs q W (hi.gr g) (hq.gr g); unfold meetsT at h; rw [ask_ok ht hqb] at h; simp only [if_true] at h; exact h)
    have HM2 := hid (fun S m d W (g : Gr w W) (hF : SbjsIn W S m (someS zs k q)) => by have h := meets10_any columns S m d (someS zs k q) q W hF (hq.gr g); unfold meetsT at h; rw [ask_ok hts hqb, hme] at h; simp only [if_true] at h; exact h)
    have HAs := hid (fun s (hs : s ∈ zs) W (g : Gr w W) => refAsked_any s q W ((hi.vals s hs).1.gr g) (hq.gr g) (fun x hx => by have h1 := hqw x hx; have h2 := (hmem s hs).2.1; have h3 := (hi.vals s hs).1.len; simp at h3; omega) (hi.vals s hs).2)
    obtain ⟨rs, hrs⟩ : ∃ rs, rotS zs k = rs := ⟨_, rfl⟩
    have hse : someS zs k q = rs.filter (fun s => askedB s q) := by rw [← hrs]; rfl
    rw [hrs] at HGet hrl
    have HSe := hid hse
    have HSn := hid (fun j (hj : j < rs.length) => filt_flat (p := fun s => askedB s q) hj)
    have HLn := hid (fun j (hj : j < rs.length) => filt_len (p := fun s => askedB s q) hj)
    have HLe := hid (fun j => (Nat.le_trans (List.length_filter_le _ _) (List.length_take_le j rs) : ((rs.take j).filter fun s => askedB s q).length ≤ j))
    have HSm := hid hsm
    generalize hso : someS zs k q = so at *
    clear hi hq hB ht hqb hts hqw hmem hqc hrw hme hsm hse hrs
    have hm1 : Int.tmod (x : Int) (n : Int) = (k : Int) := by rw [Int.tmod_eq_emod_of_nonneg (by omega)]; omega
    have hm2 : IntKind.i64.wrap (Int.tmod (x : Int) (n : Int)) = (k : Int) := by rw [hm1, IntKind.wrap_i64]; omega
    have hm3 : ¬ (n : Int) = 0 := by omega
    have hm4 : ((n : Int) == 0) = false := by simpa using hm3
    have hk0 : (0 : Int) ≤ (k : Int) := by omega
    obtain ⟨i0, hi0', hz0, hs0, hy0⟩ := info_parts info_sbj
    have HI0 := hid hi0'
    have HZ0 := hid hz0
    have HS0 := hid hs0
    have HY0 := hid hy0
    clear hi0' hz0 hs0 hy0
    unfold MeetsRet at HM1 HM2
    obtain ⟨M, hM⟩ : ∃ M, meetsL zs q = M := ⟨_, rfl⟩
    rw [hM] at HM1 HM2 hml
    clear hM
    obtain ⟨qa, qn, qc, whs, col, clip, st⟩ := q
    unfold Qst.val at *
    dsimp only at *
    generalize printN (rawN zs ⟨qa, qn, qc, whs, col, clip, st⟩) st = P1 at *
    generalize boundN clip st = BD at *
    go_enter Try.func8, Try.ntmps8
    go_upto_region 8 with (first
      | (go_at_call 31; (with_reducible refine (HAl.out _).mono ?_); rintro e w1 ⟨rfl, hb1⟩; obtain ⟨d0, d1, d2, d3⟩ := cellsat4 (row_gr HX0.out hb1))
      | (go_at_call 35; (with_reducible refine (HAk.out _ (G0.out.trans hb1)).mono ?_); rintro e w2 ⟨rfl, hb2⟩))
    have G2 := hid ((G0.out.trans hb1).trans hb2)
    have HX2 := hid (row_gr (row_gr HX0.out hb1) hb2)
    clear hb1 hb2 d0 d1 d2 d3 HX0 HAk HAl
    go_wp2_with fail
    go_loopg [11, 45] n (fun gg s11 s45 wr => ∃ (j : Nat) (v11 : Value), j ≤ n ∧ n - j ≤ gg ∧ s11 = v11 ∧ s45 = .int .i64 j ∧ Gr w2 wr ∧ Hid (wr.ownsRow w2.heap.size 60 2 v11 ((rs.take j).filter fun s => askedB s ⟨qa, qn, qc, whs, col, clip, st⟩).length (((rs.take j).filter fun s => askedB s ⟨qa, qn, qc, whs, col, clip, st⟩).flatMap Sbj.cells)))
    case atStart => exact ⟨0, _, Nat.zero_le _, by omega, rfl, rfl, Gr.refl w2, ⟨rfl, .inl ⟨rfl, rfl⟩⟩⟩
    case round =>
      obtain ⟨j, v11, hj, hgj, rfl, rfl, BW, HOw⟩ := hrel
      obtain ⟨d0, d1, d2, d3⟩ := cellsat4 (row_gr HX2.out BW)
      have hXr : w.heap.size < wr.heap.size := block_lt_of_cell d0
      obtain ⟨OA, oc, hov⟩ := own_slice HOw.out
      subst hov
      by_cases hjl : j < n
      · have hjn : (j : Int) < (n : Int) := by omega
        have hjz : (0 : Int) ≤ (j : Int) := by omega
        obtain ⟨m, hm⟩ : ∃ m, (j + k) % n = m := ⟨_, rfl⟩
        have hmn : m < n := by rw [← hm]; exact Nat.mod_lt _ hn0
        have hg := HGet.out j hjl
        rw [hm] at hg
        have hj1 : IntKind.i64.wrap ((j : Int) + (k : Int)) = (j : Int) + (k : Int) := by rw [IntKind.wrap_i64]; omega
        have hj2 : Int.tmod ((j : Int) + (k : Int)) (n : Int) = (m : Int) := by rw [Int.tmod_eq_emod_of_nonneg (by omega), ← hm, Int.natCast_emod, Int.natCast_add]
        have hj3 : IntKind.i64.wrap (Int.tmod ((j : Int) + (k : Int)) (n : Int)) = (m : Int) := by rw [hj2, IntKind.wrap_i64]; omega
        have hmz : (0 : Int) ≤ (m : Int) := by omega
        have hmnz : (m : Int) < (n : Int) := by omega
        obtain ⟨hj', b, off, hAe, hbl, c0, c1⟩ := (HI.out.gr (G2.out.trans BW)).rd.sbj hmn
        subst hAe
        have hsm2 : zs[m]! ∈ zs := by rw [getElem!_pos zs m hj']; exact List.getElem_mem hj'
        have HA := hid (fun W (g : Gr w W) => HAs.out zs[m]! hsm2 W g)
        have HSj := hid (HSn.out j (by omega))
        have HLj := hid (HLn.out j (by omega))
        have hle := HLe.out j
        rw [hg] at HSj HLj
        clear hsm2 hg
        generalize zs[m]! = s at *
        generalize ((rs.take j).filter fun s => askedB s ⟨qa, qn, qc, whs, col, clip, st⟩).flatMap Sbj.cells = o at *
        generalize ((rs.take j).filter fun s => askedB s ⟨qa, qn, qc, whs, col, clip, st⟩).length = ol at *
        obtain ⟨idn, sa, vn, vc, vals⟩ := s
        unfold Sbj.val at HA
        rw [show (⟨idn, sa, vn, vc, vals⟩ : Sbj).cells = [.int .i64 idn, .slice sa vn vc] from rfl] at HSj
        dsimp only at *
        generalize askedB ⟨idn, sa, vn, vc, vals⟩ ⟨qa, qn, qc, whs, col, clip, st⟩ = r at *
        have GA : Gr w2 (wr.alloc (.cells #[.int .i64 idn, .slice sa vn vc] 60)) := BW.alloc _
        clear hm
        cases r with
        | true =>
          simp only [if_true] at HSj HLj
          go_wp2_with (first
            | (go_at_call 36; (with_reducible refine (HA.out _ (G2.out.trans GA)).mono ?_); rotate_right; rintro e w8 ⟨rfl, hbw8⟩; obtain ⟨hcw8, hfw8, hzw8⟩ := hbw8.rules; (try simp at hzw8); have hzw8_0 : wr.heap.size < w8.heap.size := (by omega); have hyw8_0 : wr.heap.size ≤ w8.heap.size := (by omega))
            | ((with_reducible show wpList _ _ _ (⟨some 63, _, _, _, _, _⟩ :: _) _ _); refine wpList_append_rd _ rfl (.tmp 60) (.tmp 62) 22 rfl w2.heap.size 60 i0 (.agg #[.int .i64 0, .slice none 0 0]) 2 32 Try.underlying22 HI0.out HZ0.out HS0.out HY0.out rfl (by decide) _ _ _ rfl (ownT_gf HOw.out ((((Gr.refl wr).alloc _).trans hbw8).alloc _)) (some ⟨w8.heap.size, 0, none⟩) 1 1 [.int .i64 idn, .slice sa vn vc] rfl (rd_row10 (heap_alloc_new w8 _) 2 1 rfl) (by intro u hu; simp at hu; rcases hu with rfl | rfl <;> rfl) (by have : maxLen = 9223372036854775807 := rfl; omega) (by omega) (by have h1 := GA.size; have h2 := hbw8.size; simp at h1 h2 ⊢; omega) ?_; intro A' c' w9 hown' hbel; have HW9 := hid hown'; have HB9 := hid (show Gr w2 w9 from Below.trans ((GA.trans hbw8).alloc _) hbel); clear hown' hbel))
          go_roundg (n - (j + 1))
          case measure => omega
          case rel => exact ⟨j + 1, _, by omega, by omega, rfl, by go_num, HB9.out, by unfold Hid; rw [HSj.out, HLj.out]; exact HW9.out⟩
        | false =>
          simp only [Bool.false_eq_true, if_false, List.append_nil, Nat.add_zero] at HSj HLj
          go_wp2_with (first
            | (go_at_call 36; (with_reducible refine (HA.out _ (G2.out.trans GA)).mono ?_); rotate_right; rintro e w8 ⟨rfl, hbw8⟩; obtain ⟨hcw8, hfw8, hzw8⟩ := hbw8.rules; (try simp at hzw8); have hzw8_0 : wr.heap.size < w8.heap.size := (by omega); have hyw8_0 : wr.heap.size ≤ w8.heap.size := (by omega)))
          go_roundg (n - (j + 1))
          case measure => omega
          case rel => exact ⟨j + 1, _, by omega, by omega, rfl, by go_num, GA.trans hbw8, by unfold Hid; rw [HSj.out, HLj.out]; exact ownT_gf HOw.out (((Gr.refl wr).alloc _).trans hbw8)⟩
      · have hjn : ¬ (j : Int) < (n : Int) := by omega
        have hje : j = n := by omega
        have hOw := HOw.out
        rw [hje, show rs.take n = rs from List.take_of_length_le (by omega), ← HSe.out] at hOw
        rw [hje, show rs.take n = rs from List.take_of_length_le (by omega), ← HSe.out]
        have hsl := HLe.out n
        rw [show rs.take n = rs from List.take_of_length_le (by omega), ← HSe.out] at hsl
        have Gr0 := hid (G2.out.trans BW)
        have HF : Hid (SbjsIn wr OA so.length so) := HI.out.sub Gr0.out HSm.out (Rd.of_own hOw) (by omega)
        have HXq := hid (row_gr HX2.out BW)
        obtain ⟨sl, hsle⟩ : ∃ sl, so.length = sl := ⟨_, rfl⟩
        rw [hsle] at HF hml hsl ⊢
        clear hsle
        subst hml
        have HSI := hid (fun B1 k1 B2 k2 W (h1 : Rd W 1 B1 M.length (M.map (Value.int .i64))) (h2 : Rd W 1 B2 M.length (M.map (Value.int .i64))) => sameInts_any M M.length B1 k1 B2 k2 W h1 h2 (by omega))
        generalize hMl : M.length = ml at *
        clear HOw hOw HX2 G2
        go_wp2_with (first
          | (go_at_call 18; (with_reducible refine (HS1.out _ Gr0.out).mono ?_); rintro e w5 ⟨rfl, hb⟩; have G5 := hid (Gr0.out.trans hb); have HF5 := hid (HF.out.gr hb); replace d0 := row_cell d0 hb; replace d1 := row_cell d1 hb; replace d2 := row_cell d2 hb; replace d3 := row_cell d3 hb; have hX5 : w.heap.size < w5.heap.size := block_lt_of_cell d0; clear hb)
          | (go_at_call 18; (with_reducible refine (HS2.out _ _ _ _ G5.out HF5.out).mono ?_); rintro e w6 ⟨rfl, hb⟩; have G6 := hid (G5.out.trans hb); have HF6 := hid (HF5.out.gr hb); replace d0 := row_cell d0 hb; replace d1 := row_cell d1 hb; replace d2 := row_cell d2 hb; replace d3 := row_cell d3 hb; have hX6 : w.heap.size < w6.heap.size := block_lt_of_cell d0; clear hb)
          | (go_at_call 16; (with_reducible refine (HM1.out _ G6.out).mono ?_); rintro e w7 ⟨A7, n7, c7, rfl, hb, hr7, b7⟩; have G7 := hid (G6.out.trans hb); have HF7 := hid (HF6.out.gr hb); have R7 := hid hr7; replace d0 := row_cell d0 hb; replace d1 := row_cell d1 hb; replace d2 := row_cell d2 hb; replace d3 := row_cell d3 hb; have hX7 : w.heap.size < w7.heap.size := block_lt_of_cell d0; obtain rfl : ml = n7 := (by have h := hr7.len; simp at h; omega); clear hb hr7)
          | (go_at_call 16; (with_reducible refine (HM2.out _ _ _ _ G7.out HF7.out).mono ?_); rintro e w8 ⟨A8, n8, c8, rfl, hb, hr8, b8⟩; have G8 := hid (G7.out.trans hb); have R8 := hid hr8; have R7' := hid (R7.out.gr hb); clear hb; obtain rfl : ml = n8 := (by have h := hr8.len; simp at h; omega); clear hr8)
          | (go_at_call 22; (with_reducible refine (HSI.out _ _ _ _ _ R7'.out R8.out).mono ?_); rintro e w9 ⟨rfl, hb⟩; have G9 := hid (G8.out.trans hb); clear hb))
        go_ret
        exact ⟨by first | rfl | simp, G9.out⟩
end Go.Proofs.Ytimhkkijoelmhaa
