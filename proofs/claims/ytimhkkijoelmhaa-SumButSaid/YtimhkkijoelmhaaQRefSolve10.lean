/- solve of the reference: the rows of an audit. -/
import Derived.Test.YtimhkkijoelmhaaQWithin10
import Derived.Test.YtimhkkijoelmhaaQLow10
import Derived.Test.YtimhkkijoelmhaaQSolveKit10
import Derived.Test.YtimhkkijoelmhaaQFresh10
namespace Go.Proofs.Ytimhkkijoelmhaa
open Go.RowKit

set_option maxRecDepth 100000 in
set_option maxHeartbeats 16000000 in
theorem solve_any (A : Option Addr) (n c : Nat) (es : List Sbj) (QA : Option Addr) (m qc : Nat) (qs : List Qst) (w : World) (hi : SbjsIn w A n es) (hq : QstsIn w QA m qs) (hn : n ≤ 16) (hm : m ≤ 8)
    (hx : ∀ s ∈ es, ∀ q ∈ qs, ∀ x ∈ q.whs, 0 ≤ x.col ∧ x.col < s.n) :
    Calls Try.prog 54 #[.slice A n c, .slice QA m qc] w fun e w' => ∃ A' r c' vs, e = .returned (.slice A' r c') ∧ (Gr w w' ∧ RowsIn w' A' r (n + m) vs ∧ vs.map RwV.rw_ = solveR n m (asksF es qs) m ∧ r ≤ 1000) := by
  have HI := hid hi
  have HQ := hid hq
  have hel := hi.len
  have hql := hq.len
  have hnz : (n : Int) ≤ 16 := by omega
  have hmz : (m : Int) ≤ 8 := by omega
  have HAs := hid (fun s (hs : s ∈ es) q (hq' : q ∈ qs) W (g : Gr w W) => refAsked_any s q W ((hi.vals s hs).1.gr g) ((hq.whs q hq').gr g) (hx s hs q hq') (hi.vals s hs).2)
  obtain ⟨i0, hi0, hz0, hs0, hy0⟩ := info_parts info_rf10
  have HI0 := hid hi0
  have HZ0 := hid hz0
  have HS0 := hid hs0
  have HY0 := hid hy0
  obtain ⟨j0, hj0, hjz, hjs, hjy⟩ := info_parts info_rw10
  have HJ0 := hid hj0
  have HJZ := hid hjz
  have HJS := hid hjs
  have HJY := hid hjy
  clear hi hq hx hi0 hz0 hs0 hy0 hj0 hjz hjs hjy
  go_enter Try.func54, Try.ntmps54
  go_wp2_with fail
  go_loopg [7, 8] m (fun gg s7 s8 wr => ∃ (k : Nat) (vs : List RwV), k ≤ m ∧ m - k ≤ gg ∧ s8 = .int .i64 k ∧ Gr w wr ∧ Hid (vs.map RwV.rw_ = solveR n m (asksF es qs) k) ∧ Hid (SvIn w.heap.size wr (n + m) s7 vs))
  case atStart => exact ⟨0, [], Nat.zero_le _, by omega, rfl, Gr.refl w, rfl, SvIn.nil _ _ _⟩
  case round =>
    obtain ⟨k, vs, hk, hgk, rfl, BW, HVs, HSv⟩ := hrel
    by_cases hkm : k < m
    · have hkn : (k : Int) < (m : Int) := by omega
      have hk0 : (0 : Int) ≤ (k : Int) := by omega
      have hkq : k < qs.length := by omega
      have hqm : qs[k]! ∈ qs := by rw [getElem!_pos qs k hkq]; exact List.getElem_mem hkq
      have HAk := hid (fun s (hs : s ∈ es) W (g : Gr w W) => HAs.out s hs _ hqm W g)
      obtain ⟨x0, hx0⟩ : ∃ x0, newR n m (asksF es qs k) k = x0 := ⟨_, rfl⟩
      have hxl : x0.length = n + m := by rw [← hx0, newR_len]
      have HX1 := hid (fun i (hi : i < n) => show x0[i]! = bitR (askedB es[i]! qs[k]!) by rw [← hx0]; exact newR_left hi)
      have HX2 := hid (fun i (hi : i < m) => show x0[n + i]! = bitR (i == k) by rw [← hx0]; exact newR_right hi)
      have HXe := hid hx0
      clear hx0
      have BWr := hid BW
      go_wp2_with fail
      have hrow := heap_alloc_new wr (.cells #[.int .i64 (-1), .slice none 0 0] 99)
      have g1 : Gr wr (wr.alloc (.cells #[.int .i64 (-1), .slice none 0 0] 99)) := (Gr.refl wr).alloc _
      obtain ⟨X, hX⟩ : ∃ X, wr.heap.size = X := ⟨_, rfl⟩
      obtain ⟨wk, hwk⟩ : ∃ wk, wk = wr := ⟨_, rfl⟩
      rw [hX] at hrow ⊢
      have hXk : wk.heap.size = X := by rw [hwk]; exact hX
      clear hX
      go_loopg [10] n (fun gg s10 wq => ∃ (j : Nat) (v : Value), j ≤ n ∧ n - j ≤ gg ∧ s10 = .int .i64 j ∧ Gr wk wq ∧ Hid (PR X (-1) v j (x0.take j) wq))
      case atStart => exact ⟨0, .slice none 0 0, Nat.zero_le _, by omega, rfl, by rw [hwk]; exact g1, hrow, ⟨rfl, .inl ⟨rfl, rfl⟩⟩⟩
      case round =>
        obtain ⟨j, v, hj, hgj, rfl, BW2, HP⟩ := hrel
        by_cases hjl : j < n
        · have hjn : (j : Int) < (n : Int) := by omega
          have hj0 : (0 : Int) ≤ (j : Int) := by omega
          obtain ⟨AA, ac, hav⟩ := own_slice HP.out.own
          subst hav
          have BWj := hid BW2
          have gw : Gr w wr := Gr.trans (hwk ▸ BWr.out) BW2
          obtain ⟨hje, b, off, rfl, hbl, c0, c1⟩ := (HI.out.gr gw).rd.sbj hjl
          obtain ⟨_, b', off', rfl, _, d0, d1, d2, d3⟩ := (HQ.out.gr gw).rd.qst hkm
          have hsm : es[j]! ∈ es := by rw [getElem!_pos es j hje]; exact List.getElem_mem hje
          have HA := hid (fun W (g : Gr wr W) => HAk.out es[j]! hsm W (gw.trans g))
          have hxj := HX1.out j hjl
          have HXn := hid (take_fr (xs := x0) (j := j) (by omega) hxj)
          have hXl : X < wr.heap.size := block_lt_of_cell (row_cell_at (v := .int .i64 (-1)) HP.out.row 0 rfl)
          clear hxj hsm
          generalize askedB es[j]! qs[k]! = r at *
          generalize es[j]! = sj at *
          generalize qs[k]! = qk at *
          obtain ⟨idn, sa, vn, vc, vals⟩ := sj
          obtain ⟨qa, qn, qcc, whs, col, clip, step⟩ := qk
          unfold Sbj.val Qst.val at HA
          dsimp only at *
          have p0 := GrW.cell c0
          have p1 := GrW.cell c1
          have q0 := GrW.cell d0
          have q1 := GrW.cell d1
          have q2 := GrW.cell d2
          have q3 := GrW.cell d3
          clear c0 c1 d0 d1 d2 d3
          go_upto_region 10 with fail
          refine wp_region_ord (C := fun w' => ∃ p : GrW wr, w' = p.W) [(0, false), (1, false), (2, false), (3, false), (4, false), (5, false), (6, false), (7, false), (8, true)] (by rfl) (by kernel_rfl) (by kernel_rfl) ⟨⟨_, (Gr.refl wr).drew⟩, rfl⟩ ?_
          (repeat (first | ((refine ord_read0 rfl rfl rfl (fun K hK => ?_)); go_big_quiet_op; (with_reducible refine hK _ ?_); clear hK K) | ((refine ord_skipG rfl rfl rfl rfl rfl ?_); simp only [Act.put, List.setIfInBounds_toArray, List.set_cons_zero, List.set_cons_succ]) | ((refine ord_readG rfl rfl rfl rfl rfl rfl (fun K hK => ?_)); go_big_quiet_op; (with_reducible refine hK _ ?_); clear hK K) | ((refine ord_nilc rfl rfl rfl rfl ?_); simp only [Act.put, List.setIfInBounds_toArray, List.set_cons_zero, List.set_cons_succ])))
          (first | (refine ord_mem0 rfl rfl (fun K hK => ?_)) | (refine ord_memG rfl rfl rfl rfl rfl (fun K hK => ?_)))
          go_simp
          refine (HA.out _ (Gr.refl wr).drew).mono ?_
          rintro e w5 ⟨rfl, hb5⟩
          have G5 := hid (show Gr wr w5 from (Gr.refl wr).drew.trans hb5)
          refine hK.out _ _ ⟨⟨w5, G5.out⟩, rfl⟩ ?_
          clear hK K hb5 p0 p1 q0 q1 q2 q3
          (with_reducible refine ord_nil ?_)
          have HP5 := hid (HP.out.gr G5.out)
          have hX5 : X < w5.heap.size := Nat.lt_of_lt_of_le hXl G5.out.size
          have v5 := row_cell_at (v := .slice AA j ac) HP5.out.row 1 rfl
          cases r with
          | true =>
            go_wp2_with (first | ((with_reducible show wpList _ _ _ (⟨some 45, _, _, _, _, _⟩ :: _) _ _); refine wpList_append_rd _ rfl (.tmp 42) (.tmp 44) 97 rfl (X + 1) 110 i0 (.agg #[.int .i64 0, .int .i64 0]) 2 16 Try.underlying97 HI0.out HZ0.out HS0.out HY0.out rfl (by decide) _ _ _ rfl (ownT_gf HP5.out.own ((Gr.refl w5).alloc _)) (some ⟨w5.heap.size, 0, none⟩) 1 1 [.int .i64 1, .int .i64 1] rfl (rd_row10 (heap_alloc_new w5 _) 2 1 rfl) (by intro u hu; simp at hu; first | (rcases hu with rfl | rfl <;> rfl) | (subst hu; rfl)) (by have : maxLen = 9223372036854775807 := rfl; omega) (by omega) (by simp; omega) ?_; intro A' c' w9 hown' hbel; have HO9 := hid hown'; have HB9 := hid hbel; have HR9 : Hid (w9.heap[X]? = some (.cells #[.int .i64 (-1), .slice AA j ac] 99 (0, 0))) := (hbel.block X (by omega)).trans (row_gr HP5.out.row ((Gr.refl w5).alloc _)); have v9 := row_cell_at (v := .slice AA j ac) HR9.out 1 rfl; have fz := frozen_of_row w9 X 1 _ _ HR9.out; clear hown' hbel))
            go_roundg (n - (j + 1))
            case measure => omega
            case rel =>
              refine ⟨j + 1, .slice A' (j + 1) c', by omega, by omega, by go_num, ?_, ?_⟩
              · exact Gr.setCell (Below.trans ((BWj.out.trans G5.out).alloc _) (Below.mono HB9.out (by omega))) (Nat.le_of_eq hXk) _
              · unfold Hid
                refine PR.store HR9.out ?_
                rw [HXn.out]
                exact HO9.out
          | false =>
            go_wp2_with (first | ((with_reducible show wpList _ _ _ (⟨some 51, _, _, _, _, _⟩ :: _) _ _); refine wpList_append_rd _ rfl (.tmp 48) (.tmp 50) 97 rfl (X + 1) 110 i0 (.agg #[.int .i64 0, .int .i64 0]) 2 16 Try.underlying97 HI0.out HZ0.out HS0.out HY0.out rfl (by decide) _ _ _ rfl (ownT_gf HP5.out.own ((Gr.refl w5).alloc _)) (some ⟨w5.heap.size, 0, none⟩) 1 1 [.int .i64 0, .int .i64 1] rfl (rd_row10 (heap_alloc_new w5 _) 2 1 rfl) (by intro u hu; simp at hu; first | (rcases hu with rfl | rfl <;> rfl) | (subst hu; rfl)) (by have : maxLen = 9223372036854775807 := rfl; omega) (by omega) (by simp; omega) ?_; intro A' c' w9 hown' hbel; have HO9 := hid hown'; have HB9 := hid hbel; have HR9 : Hid (w9.heap[X]? = some (.cells #[.int .i64 (-1), .slice AA j ac] 99 (0, 0))) := (hbel.block X (by omega)).trans (row_gr HP5.out.row ((Gr.refl w5).alloc _)); have v9 := row_cell_at (v := .slice AA j ac) HR9.out 1 rfl; have fz := frozen_of_row w9 X 1 _ _ HR9.out; clear hown' hbel))
            go_roundg (n - (j + 1))
            case measure => omega
            case rel =>
              refine ⟨j + 1, .slice A' (j + 1) c', by omega, by omega, by go_num, ?_, ?_⟩
              · exact Gr.setCell (Below.trans ((BWj.out.trans G5.out).alloc _) (Below.mono HB9.out (by omega))) (Nat.le_of_eq hXk) _
              · unfold Hid
                refine PR.store HR9.out ?_
                rw [HXn.out]
                exact HO9.out
        · have hjn : ¬ (j : Int) < (n : Int) := by omega
          have hjn2 : j = n := by omega
          subst hjn2
          have BWj2 := hid BW2
          clear hgj hj hjl
          go_wp2_with fail
          go_loopg [11] m (fun gg s11 wq => ∃ (i : Nat) (v : Value), i ≤ m ∧ m - i ≤ gg ∧ s11 = .int .i64 i ∧ Gr wk wq ∧ Hid (PR X (-1) v (j + i) (x0.take (j + i)) wq))
          case atStart => exact ⟨0, v, Nat.zero_le _, by omega, rfl, BWj2.out, HP⟩
          case round =>
            obtain ⟨i, v, hi, hgi, rfl, BW3, HP3⟩ := hrel
            by_cases hil : i < m
            · have hin : (i : Int) < (m : Int) := by omega
              have hi0 : (0 : Int) ≤ (i : Int) := by omega
              obtain ⟨AA, ac, hav⟩ := own_slice HP3.out.own
              subst hav
              have BWj := hid BW3
              have hxj := HX2.out i hil
              have HXn := hid (take_fr (xs := x0) (j := j + i) (by omega) hxj)
              have hXl : X < wr.heap.size := block_lt_of_cell (row_cell_at (v := .int .i64 (-1)) HP3.out.row 0 rfl)
              clear hxj
              have HP5 := hid HP3.out
              have v5 := row_cell_at (v := .slice AA (j + i) ac) HP5.out.row 1 rfl
              by_cases hik : i = k
              · subst hik
                rw [show (i == i) = true by simp] at HXn
                go_wp2_with (first | ((with_reducible show wpList _ _ _ (⟨some 65, _, _, _, _, _⟩ :: _) _ _); refine wpList_append_rd _ rfl (.tmp 62) (.tmp 64) 97 rfl (X + 1) 110 i0 (.agg #[.int .i64 0, .int .i64 0]) 2 16 Try.underlying97 HI0.out HZ0.out HS0.out HY0.out rfl (by decide) _ _ _ rfl (ownT_gf HP5.out.own ((Gr.refl wr).alloc _)) (some ⟨wr.heap.size, 0, none⟩) 1 1 [.int .i64 1, .int .i64 1] rfl (rd_row10 (heap_alloc_new wr _) 2 1 rfl) (by intro u hu; simp at hu; first | (rcases hu with rfl | rfl <;> rfl) | (subst hu; rfl)) (by have : maxLen = 9223372036854775807 := rfl; omega) (by omega) (by simp; omega) ?_; intro A' c' w9 hown' hbel; have HO9 := hid hown'; have HB9 := hid hbel; have HR9 : Hid (w9.heap[X]? = some (.cells #[.int .i64 (-1), .slice AA (j + i) ac] 99 (0, 0))) := (hbel.block X (by omega)).trans (row_gr HP5.out.row ((Gr.refl wr).alloc _)); have v9 := row_cell_at (v := .slice AA (j + i) ac) HR9.out 1 rfl; have fz := frozen_of_row w9 X 1 _ _ HR9.out; clear hown' hbel))
                go_roundg (m - (i + 1))
                case measure => omega
                case rel =>
                  refine ⟨i + 1, .slice A' (j + i + 1) c', by omega, by omega, by go_num, ?_, ?_⟩
                  · exact Gr.setCell (Below.trans (BWj.out.alloc _) (Below.mono HB9.out (by omega))) (Nat.le_of_eq hXk) _
                  · unfold Hid
                    refine PR.store HR9.out ?_
                    rw [show j + (i + 1) = j + i + 1 by omega, HXn.out]
                    exact HO9.out
              · have hik' : ¬ (i : Int) = (k : Int) := by omega
                rw [show (i == k) = false by simpa using hik] at HXn
                go_wp2_with (first | ((with_reducible show wpList _ _ _ (⟨some 71, _, _, _, _, _⟩ :: _) _ _); refine wpList_append_rd _ rfl (.tmp 68) (.tmp 70) 97 rfl (X + 1) 110 i0 (.agg #[.int .i64 0, .int .i64 0]) 2 16 Try.underlying97 HI0.out HZ0.out HS0.out HY0.out rfl (by decide) _ _ _ rfl (ownT_gf HP5.out.own ((Gr.refl wr).alloc _)) (some ⟨wr.heap.size, 0, none⟩) 1 1 [.int .i64 0, .int .i64 1] rfl (rd_row10 (heap_alloc_new wr _) 2 1 rfl) (by intro u hu; simp at hu; first | (rcases hu with rfl | rfl <;> rfl) | (subst hu; rfl)) (by have : maxLen = 9223372036854775807 := rfl; omega) (by omega) (by simp; omega) ?_; intro A' c' w9 hown' hbel; have HO9 := hid hown'; have HB9 := hid hbel; have HR9 : Hid (w9.heap[X]? = some (.cells #[.int .i64 (-1), .slice AA (j + i) ac] 99 (0, 0))) := (hbel.block X (by omega)).trans (row_gr HP5.out.row ((Gr.refl wr).alloc _)); have v9 := row_cell_at (v := .slice AA (j + i) ac) HR9.out 1 rfl; have fz := frozen_of_row w9 X 1 _ _ HR9.out; clear hown' hbel))
                go_roundg (m - (i + 1))
                case measure => omega
                case rel =>
                  refine ⟨i + 1, .slice A' (j + i + 1) c', by omega, by omega, by go_num, ?_, ?_⟩
                  · exact Gr.setCell (Below.trans (BWj.out.alloc _) (Below.mono HB9.out (by omega))) (Nat.le_of_eq hXk) _
                  · unfold Hid
                    refine PR.store HR9.out ?_
                    rw [show j + (i + 1) = j + i + 1 by omega, HXn.out]
                    exact HO9.out
            · have hin : ¬ (i : Int) < (m : Int) := by omega
              have him : i = m := by omega
              subst him
              rw [show x0.take (j + i) = x0 by rw [← hxl, List.take_length]] at HP3
              have BWl := hid BW3
              have HSk := hid (hwk ▸ HSv.out : SvIn w.heap.size wk (j + i) _ vs)
              obtain ⟨A7, c7, hv7⟩ := own_slice HSk.out.own
              subst hv7
              have hvl := congrArg List.length HVs.out
              obtain ⟨dq, hbk, hbl⟩ := solveR_bk j i (asksF es qs) k
              rw [← HVs.out] at hbk hbl
              rw [List.length_map] at hbl
              have h01 : ∀ l, cv x0 l = 0 ∨ cv x0 l = 1 := by intro l; rw [← HXe.out]; exact newR_bit _ _ _ _ _
              have HSm := hid (fun l => hbk.sm_take (by simp; omega) hxl h01 l)
              have HLn := hid (fun l => hbk.len_take hxl h01 l)
              have HSr := hid (fun r hr => hbk.sm (by simp; omega) (r := r) hr)
              have HLd := hid hbk.lead
              have hNz : ((j + i : Nat) : Int) ≤ 24 := by omega
              have hrz : (vs.length : Int) ≤ 8 := by omega
              have HRw := hid HSk.out.rows
              clear hgi hi hil
              go_wp2_with fail
              go_loopg [12] vs.length (fun gg s12 wq => ∃ (l : Nat) (v : Value), l ≤ vs.length ∧ vs.length - l ≤ gg ∧ s12 = .int .i64 l ∧ Gr wk wq ∧ Hid (PR X (-1) v (j + i) (awayR ((vs.map RwV.rw_).take l) x0) wq))
              case atStart => exact ⟨0, v, Nat.zero_le _, by omega, rfl, BWl.out, HP3⟩
              case round =>
                obtain ⟨l, v, hl, hgl, rfl, BW4, HP4⟩ := hrel
                by_cases hll : l < vs.length
                · have hln : (l : Int) < (vs.length : Int) := by omega
                  have hl0 : (0 : Int) ≤ (l : Int) := by omega
                  obtain ⟨AA, ac, hav⟩ := own_slice HP4.out.own
                  subst hav
                  have BWj := hid BW4
                  obtain ⟨hl', b, off, hAe, hb, c0, c1⟩ := (HRw.out.gr BW4).at_ hll
                  subst hAe
                  have hrm : vs[l]! ∈ vs := by rw [getElem!_pos vs l hll]; exact List.getElem_mem hll
                  have hrw : (vs.map RwV.rw_)[l]'(by simpa using hll) = vs[l]!.rw_ := by rw [List.getElem_map, getElem!_pos vs l hll]
                  have hmm : vs[l]!.rw_ ∈ vs.map RwV.rw_ := List.mem_map.2 ⟨_, hrm, rfl⟩
                  have hsucc : awayR ((vs.map RwV.rw_).take (l + 1)) x0 = subR (awayR ((vs.map RwV.rw_).take l) x0) vs[l]!.x (cv (awayR ((vs.map RwV.rw_).take l) x0) vs[l]!.i) := by
                    have h := away_succ (rows := vs.map RwV.rw_) (i := l) (by simpa using hll) x0
                    rw [hrw] at h
                    exact h
                  have hld : vs[l]!.i < j := HLd.out _ hmm
                  have hsy : ∀ z ∈ vs[l]!.x, Sm 40320 z := HSr.out _ hmm
                  have hsx := HSm.out l
                  have hlx := HLn.out l
                  obtain ⟨hry1, hry2, hry3⟩ := (HRw.out.gr BW4).each _ hrm
                  obtain ⟨xs, hxs⟩ : ∃ xs, awayR ((vs.map RwV.rw_).take l) x0 = xs := ⟨_, rfl⟩
                  rw [hxs] at hsucc hsx hlx HP4
                  have HSc := hid hsucc
                  clear hxs hsucc hrw hmm hrm
                  generalize vs[l]! = rv at *
                  obtain ⟨ri, ra, rc, rx⟩ := rv
                  dsimp only at *
                  obtain ⟨_, bx, ox, hAx, hbx, e0, e1⟩ := (Rd.of_own HP4.out.own).fr (k := ri) (by omega)
                  subst hAx
                  have hcv : cv xs ri = xs[ri]! := by rw [cv_lt (by omega), getElem!_pos xs ri (by omega)]
                  have hfm : xs[ri]! ∈ xs := by rw [getElem!_pos xs ri (by omega)]; exact List.getElem_mem _
                  have hsf := hsx _ hfm
                  rw [hcv] at HSc
                  have HLess := hid (fun W (g : Gr wr W) => refless_any (j + i) _ (-1) xs _ (ri : Int) rx xs[ri]! W ((RwIn.of_own (-1) HP4.out.own).gr g) ((show RwIn wr (j + i) (.agg #[.int .i64 ri, .slice ra (j + i) rc]) (ri : Int) rx from ⟨ra, rc, rfl, hry1, hry2, hry3⟩).gr g) 40320 40320 40320 hsx hsy hsf (by omega) (by omega) (by omega))
                  unfold frV at HLess
                  generalize xs[ri]! = f at *
                  clear hsx hsy hsf hfm hcv hry1
                  have hXl : X < wr.heap.size := block_lt_of_cell (row_cell_at (v := .int .i64 (-1)) HP4.out.row 0 rfl)
                  have p0 := GrW.cell c0
                  have p1 := GrW.cell c1
                  have p2 := GrW.cell e0
                  have p3 := GrW.cell e1
                  have p4 := GrW.cell (row_cell_at (v := .int .i64 (-1)) HP4.out.row 0 rfl)
                  have p5 := GrW.cell (row_cell_at (v := .slice (some ⟨bx, ox, none⟩) (j + i) ac) HP4.out.row 1 rfl)
                  have hri0 : (0 : Int) ≤ (ri : Int) := by omega
                  have hriN : (ri : Int) < ((j + i : Nat) : Int) := by omega
                  have hriN2 : (ri : Int) < (j : Int) + (i : Int) := by omega
                  clear c0 c1 e0 e1
                  go_upto_region 22 with fail
                  refine wp_region_ordAt (C := fun w' => ∃ p : GrW wr, w' = p.W) 15 [(0, false), (1, false), (2, false), (3, false), (4, false), (5, false), (6, false), (7, false), (8, false), (9, false), (10, false), (11, false), (12, false), (13, false), (14, true)] _ (by rfl) (by rfl) (by kernel_rfl) (by kernel_rfl) (by kernel_rfl) ⟨⟨wr.drew, (Gr.refl wr).drew⟩, rfl⟩ ?_
                  simp only [List.take_succ_cons, List.take_zero]
                  (repeat (first | ((refine ord_read0 rfl rfl rfl (fun K hK => ?_)); go_big_quiet_op; (with_reducible refine hK _ ?_); clear hK K) | ((refine ord_skipG rfl rfl rfl rfl rfl ?_); simp only [Act.put, List.setIfInBounds_toArray, List.set_cons_zero, List.set_cons_succ]) | ((refine ord_readG rfl rfl rfl rfl rfl rfl (fun K hK => ?_)); go_big_quiet_op; (with_reducible refine hK _ ?_); clear hK K) | ((refine ord_nilc rfl rfl rfl rfl ?_); simp only [Act.put, List.setIfInBounds_toArray, List.set_cons_zero, List.set_cons_succ])))
                  (first | (refine ord_mem0 rfl rfl (fun K hK => ?_)) | (refine ord_memG rfl rfl rfl rfl rfl (fun K hK => ?_)))
                  go_simp
                  refine (HLess.out _ (Gr.refl wr).drew).mono ?_
                  rintro e w5 ⟨A', c', rfl, hb5, ho5⟩
                  have G5 := hid (show Gr wr w5 from (Gr.refl wr).drew.trans hb5)
                  refine hK.out _ _ ⟨⟨w5, G5.out⟩, rfl⟩ ?_
                  clear hK K p0 p1 p2 p3 p4 p5 hb5
                  have HO5 := hid (own_mono10 ho5 (show X + 1 ≤ wr.drew.heap.size from hXl))
                  clear ho5
                  have HR5 := hid (row_gr HP4.out.row G5.out)
                  have v0 := row_cell_at (v := .int .i64 (-1)) HR5.out 0 rfl
                  have v1 := row_cell_at (v := .slice (some ⟨bx, ox, none⟩) (j + i) ac) HR5.out 1 rfl
                  have z0 := frozen_of_row w5 X 0 _ _ HR5.out
                  have z1 := frozen_of_row w5 X 1 _ _ HR5.out
                  (with_reducible refine ordAt_nil ?_)
                  intro K hK
                  go_simp
                  refine hK _ _ ?_
                  clear hK K v0 v1 z0 z1
                  go_wp2
                  go_roundg (vs.length - (l + 1))
                  case measure => omega
                  case rel =>
                    refine ⟨l + 1, .slice A' (j + i) c', by omega, by omega, by go_num, ?_, ?_⟩
                    · exact Gr.setCell (Gr.setCell (BWj.out.trans G5.out) (Nat.le_of_eq hXk) _) (Nat.le_of_eq hXk) _
                    · unfold Hid
                      rw [HSc.out]
                      exact ⟨set2_row HR5.out, ownsRow_setCell_below (ownsRow_setCell_below HO5.out (show X < X + 1 by omega) _) (show X < X + 1 by omega) _⟩
                · have hln : ¬ (l : Int) < (vs.length : Int) := by omega
                  have hll2 : l = vs.length := by omega
                  rw [show (vs.map RwV.rw_).take l = vs.map RwV.rw_ from List.take_of_length_le (by rw [List.length_map]; omega)] at HP4
                  have BWl4 := hid BW4
                  obtain ⟨xs, hxs⟩ : ∃ xs, awayR (vs.map RwV.rw_) x0 = xs := ⟨_, rfl⟩
                  rw [hxs] at HP4
                  have HXs := hid hxs
                  have hsx := HSm.out vs.length
                  have hlx := HLn.out vs.length
                  rw [show (vs.map RwV.rw_).take vs.length = vs.map RwV.rw_ from List.take_of_length_le (by rw [List.length_map]; omega), hxs] at hsx hlx
                  clear hxs
                  subst hll2
                  obtain ⟨AA, ac, hav⟩ := own_slice HP4.out.own
                  subst hav
                  have hsubn : IntKind.i64.wrap ((j : Int) - 1) = (j : Int) - 1 := by rw [IntKind.wrap_i64]; omega
                  go_wp2_with fail
                  go_loopg [13] (j + 1) (fun gg s13 wq => ∃ (d : Nat), d ≤ j ∧ j - d ≤ gg ∧ s13 = .int .i64 ((j : Int) - d - 1) ∧ Gr wk wq ∧ Hid (PR X (atI (fromTop xs j d)) (.slice AA (j + i) ac) (j + i) xs wq))
                  case atStart => exact ⟨0, Nat.zero_le _, by omega, by simp, BWl4.out, HP4⟩
                  case round =>
                    obtain ⟨d, hd, hgd, rfl, BW5, HP5⟩ := hrel
                    by_cases hdj : d < j
                    · obtain ⟨t, ht⟩ : ∃ t, j - (d + 1) = t := ⟨_, rfl⟩
                      have htI : (j : Int) - d - 1 = (t : Int) := by omega
                      have ht0 : (0 : Int) ≤ (t : Int) := by omega
                      have htN : (t : Int) < (j : Int) + (i : Int) := by omega
                      have htN2 : (t : Int) < ((j + i : Nat) : Int) := by omega
                      obtain ⟨_, bx, ox, hAx, hbx, e0, e1⟩ := (Rd.of_own HP5.out.own).fr (k := t) (by omega)
                      subst hAx
                      have hcv : cv xs t = xs[t]! := by rw [cv_lt (by omega), getElem!_pos xs t (by omega)]
                      have a0 := row_cell_at (v := .int .i64 (atI (fromTop xs j d))) HP5.out.row 0 rfl
                      have a1 := row_cell_at (v := .slice (some ⟨bx, ox, none⟩) (j + i) ac) HP5.out.row 1 rfl
                      have z0 := frozen_of_row wr X 0 _ _ HP5.out.row
                      have hdec : IntKind.i64.wrap ((t : Int) - 1) = (t : Int) - 1 := by rw [IntKind.wrap_i64]; omega
                      have BWj := hid BW5
                      rw [htI]
                      by_cases hz : xs[t]!.num = 0
                      · have HT : Hid (fromTop xs j (d + 1) = fromTop xs j d) := by
                          show _ = _
                          rw [fromTop, ht, hcv, if_pos (Rat.num_eq_zero.1 hz)]
                        rw [hz] at e0
                        clear hcv
                        go_wp2_with fail
                        go_roundg (j - (d + 1))
                        case measure => omega
                        case rel => exact ⟨d + 1, by omega, by omega, by congr 1; omega, BWj.out, by rw [HT.out]; exact HP5⟩
                      · have HT : Hid (fromTop xs j (d + 1) = some t) := by
                          show _ = _
                          rw [fromTop, ht, hcv, if_neg (fun h => hz (Rat.num_eq_zero.2 h))]
                        clear hcv
                        generalize xs[t]!.num = z at *
                        go_wp2_with fail
                        go_roundg (j - (d + 1))
                        case measure => omega
                        case rel =>
                          refine ⟨d + 1, by omega, by omega, by congr 1; omega, Gr.setCell BWj.out (Nat.le_of_eq hXk) _, ?_⟩
                          rw [HT.out]
                          exact ⟨heap_setCell_same wr X 0 _ _ _ HP5.out.row, ownsRow_setCell_below HP5.out.own (show X < X + 1 by omega) _⟩
                    · have hdj2 : d = j := by omega
                      have hneg : ¬ (0 : Int) ≤ (j : Int) - d - 1 := by omega
                      rw [hdj2, fromTop_all] at HP5
                      have BW6 := hid BW5
                      have gw6 : Gr w wr := Gr.trans (show Gr w wk from hwk ▸ BWr.out) BW5
                      have GW6 := hid gw6
                      clear gw6
                      cases hfr : firstR j xs with
                      | none =>
                        rw [hfr] at HP5
                        have a0 := row_cell_at (v := .int .i64 (-1)) HP5.out.row 0 rfl
                        have hst : vs.map RwV.rw_ = solveR j i (asksF es qs) (k + 1) := by
                          show _ = stepR j (solveR j i (asksF es qs) k) (newR j i (asksF es qs k) k)
                          rw [HXe.out, ← HVs.out]
                          unfold stepR
                          rw [HXs.out, hfr]
                        have HSt := hid hst
                        clear hst hfr
                        go_wp2_with fail
                        go_roundg (i - (k + 1))
                        case measure => omega
                        case rel => exact ⟨k + 1, vs, by omega, by omega, by go_num, GW6.out, HSt, HSk.out.gr BW6.out⟩
                      | some t =>
                        rw [hfr] at HP5
                        replace HP5 : Hid (PR X (t : Int) (.slice AA (j + i) ac) (j + i) xs wr) := HP5
                        obtain ⟨htj, hne⟩ := firstR_some hfr
                        have ht0 : (0 : Int) ≤ (t : Int) := by omega
                        have htn : ¬ (t : Int) < 0 := by omega
                        have htN : (t : Int) < (j : Int) + (i : Int) := by omega
                        have htN2 : (t : Int) < ((j + i : Nat) : Int) := by omega
                        obtain ⟨_, bx, ox, hAx, hbx, e0, e1⟩ := (Rd.of_own HP5.out.own).fr (k := t) (by omega)
                        subst hAx
                        have hcv : cv xs t = xs[t]! := by rw [cv_lt (by omega), getElem!_pos xs t (by omega)]
                        rw [hcv] at hne
                        have a0 := row_cell_at (v := .int .i64 t) HP5.out.row 0 rfl
                        have a1 := row_cell_at (v := .slice (some ⟨bx, ox, none⟩) (j + i) ac) HP5.out.row 1 rfl
                        obtain ⟨f, hf⟩ : ∃ f, xs[t]! = f := ⟨_, rfl⟩
                        rw [hf] at hne hcv e0 e1
                        have HFr := hid hfr
                        have HCv := hid hcv
                        clear hfr hcv
                        obtain rfl : ox = 0 := own_off HP5.out.own
                        rw [Nat.zero_add] at e0 e1
                        go_wp2_with fail
                        have hrF := heap_alloc_new wr (.cells #[.int .i64 f.num, .int .i64 f.den] 110)
                        have gF : Gr wr (wr.alloc (.cells #[.int .i64 f.num, .int .i64 f.den] 110)) := (Gr.refl wr).alloc _
                        have HP6 := hid (HP5.out.gr gF)
                        have BW7 := hid (BW6.out.trans gF)
                        have GW7 := hid (GW6.out.trans gF)
                        have hXb : X < bx := (HP5.out.own.lt bx rfl).1
                        have hwX : w.heap.size ≤ X := by rw [← hXk, hwk]; exact BWr.out.size
                        obtain ⟨F, hF⟩ : ∃ F, wr.heap.size = F := ⟨_, rfl⟩
                        rw [hF] at hrF hbx ⊢
                        generalize wr.alloc (.cells #[.int .i64 f.num, .int .i64 f.den] 110) = wf at *
                        have HRF := hid hrF
                        clear gF hrF hF BW6 GW6 HP5 e0 e1 a0 a1
                        have hwN : IntKind.i64.wrap ((j : Int) + (i : Int)) = (j : Int) + (i : Int) := by rw [IntKind.wrap_i64]; omega
                        have HSf : Hid (∀ z ∈ xs, Sm 40320 z) := hsx
                        have hsf : Sm 40320 f := by rw [← hf, getElem!_pos xs t (by omega)]; exact hsx _ (List.getElem_mem _)
                        have HDv := hid (fun (y : Rat) (hy : y ∈ xs) W => divide_any y f 40320 40320 W (hsx y hy) hsf hne (by omega))
                        clear hsx hsf
                        go_loopg [15] (j + i) (fun gg s15 wq => ∃ (p : Nat), p ≤ j + i ∧ j + i - p ≤ gg ∧ s15 = .int .i64 p ∧ Gr wk wq ∧ Gr w wq ∧ Hid (wq.heap[F]? = some (.cells #[.int .i64 f.num, .int .i64 f.den] 110 (0, 0))) ∧ Hid (PR X t (.slice (some ⟨bx, 0, none⟩) (j + i) ac) (j + i) (mapTo (· / f) p xs) wq))
                        case atStart => exact ⟨0, Nat.zero_le _, by omega, rfl, BW7.out, GW7.out, HRF, by rw [mapTo_zero]; exact HP6⟩
                        case round =>
                          obtain ⟨p, hp, hgp, rfl, BW8, GW8, HRf, HP7⟩ := hrel
                          by_cases hpl : p < j + i
                          · have hpn : (p : Int) < (j : Int) + (i : Int) := by omega
                            have hpn2 : (p : Int) < ((j + i : Nat) : Int) := by omega
                            have hp0 : (0 : Int) ≤ (p : Int) := by omega
                            obtain ⟨hpm, bx', ox', hAx', hbx', c0, c1⟩ := (Rd.of_own HP7.out.own).fr hpl
                            simp only [Option.some.injEq, Addr.mk.injEq, and_true] at hAx'
                            obtain ⟨rfl, rfl⟩ := hAx'
                            rw [Nat.zero_add] at c0 c1
                            rw [mapTo_get] at c0 c1
                            have hpx : xs[p]! ∈ xs := by rw [getElem!_pos xs p (by omega)]; exact List.getElem_mem _
                            have HDp := hid (fun W => HDv.out xs[p]! hpx W)
                            have HSet := hid (fun (W : World) (h : PR X t (.slice (some ⟨bx, 0, none⟩) (j + i) ac) (j + i) (mapTo (· / f) p xs) W) => (PR.set (y := xs[p]! / f) h hpm).2)
                            rw [show (mapTo (· / f) p xs).set p (xs[p]! / f) = mapTo (· / f) (p + 1) xs from mapTo_set (g := (· / f)) (by omega)] at HSet
                            have BWr := hid BW8
                            have GWr := hid GW8
                            obtain ⟨y, hy⟩ : ∃ y, xs[p]! / f = y := ⟨_, rfl⟩
                            rw [hy] at HDp HSet
                            generalize xs[p]! = z at *
                            unfold frV at HDp
                            clear hy hpx
                            have hXl : X < wr.heap.size := block_lt_of_cell (row_cell_at (v := .int .i64 t) HP7.out.row 0 rfl)
                            have p0 := GrW.cell c0
                            have p1 := GrW.cell c1
                            have p2 := GrW.cell (row_cell_at (v := .int .i64 t) HP7.out.row 0 rfl)
                            have p3 := GrW.cell (row_cell_at (v := .slice (some ⟨bx, 0, none⟩) (j + i) ac) HP7.out.row 1 rfl)
                            have p4 := GrW.cell (row_cell_at (v := .int .i64 f.num) HRf.out 0 rfl)
                            have p5 := GrW.cell (row_cell_at (v := .int .i64 f.den) HRf.out 1 rfl)
                            clear c0 c1
                            go_upto_region 33 with fail
                            refine wp_region_ordAt (C := fun w' => ∃ p : GrW wr, w' = p.W) 11 [(0, false), (1, false), (2, false), (3, false), (4, false), (5, false), (6, false), (7, false), (8, false), (9, true), (10, false)] _ (by rfl) (by rfl) (by kernel_rfl) (by kernel_rfl) (by kernel_rfl) ⟨⟨wr.drew, (Gr.refl wr).drew⟩, rfl⟩ ?_
                            simp only [List.take_succ_cons, List.take_zero]
                            (repeat (first | ((refine ord_read0 rfl rfl rfl (fun K hK => ?_)); go_big_quiet_op; (with_reducible refine hK _ ?_); clear hK K) | ((refine ord_skipG rfl rfl rfl rfl rfl ?_); simp only [Act.put, List.setIfInBounds_toArray, List.set_cons_zero, List.set_cons_succ]) | ((refine ord_readG rfl rfl rfl rfl rfl rfl (fun K hK => ?_)); go_big_quiet_op; (with_reducible refine hK _ ?_); clear hK K) | ((refine ord_nilc rfl rfl rfl rfl ?_); simp only [Act.put, List.setIfInBounds_toArray, List.set_cons_zero, List.set_cons_succ])))
                            (first | (refine ord_mem0 rfl rfl (fun K hK => ?_)) | (refine ord_memG rfl rfl rfl rfl rfl (fun K hK => ?_)))
                            go_simp
                            refine (HDp.out _).mono ?_
                            rintro e w5 ⟨rfl, hb5⟩
                            have G5 := hid (show Gr wr w5 from (Gr.refl wr).drew.trans hb5)
                            refine hK.out _ _ ⟨⟨w5, G5.out⟩, rfl⟩ ?_
                            clear hK K hb5
                            have v0 := p0 ⟨w5, G5.out⟩
                            have v1 := p1 ⟨w5, G5.out⟩
                            (repeat (first | ((refine ord_read0 rfl rfl rfl (fun K hK => ?_)); go_big_quiet_op; (with_reducible refine hK _ ?_); clear hK K) | ((refine ord_skipG rfl rfl rfl rfl rfl ?_); simp only [Act.put, List.setIfInBounds_toArray, List.set_cons_zero, List.set_cons_succ]) | ((refine ord_readG rfl rfl rfl rfl rfl rfl (fun K hK => ?_)); go_big_quiet_op; (with_reducible refine hK _ ?_); clear hK K) | ((refine ord_nilc rfl rfl rfl rfl ?_); simp only [Act.put, List.setIfInBounds_toArray, List.set_cons_zero, List.set_cons_succ])))
                            clear p0 p1 p2 p3 p4 p5
                            have HP8 := hid (HP7.out.gr G5.out)
                            have z0 := World.ownsRow.frozenAt HP8.out.own (p * 2)
                            have z1 := World.ownsRow.frozenAt HP8.out.own (p * 2 + 1)
                            (with_reducible refine ordAt_nil ?_)
                            intro K hK
                            go_simp
                            refine hK _ _ ?_
                            clear hK K v0 v1 z0 z1
                            go_wp2
                            go_roundg (j + i - (p + 1))
                            case measure => omega
                            case rel =>
                              refine ⟨p + 1, by omega, by omega, by go_num, ?_, ?_, ?_, HSet.out _ HP8.out⟩
                              · exact Gr.setCell (Gr.setCell (BWr.out.trans G5.out) (by show wk.heap.size ≤ bx; omega) _) (by show wk.heap.size ≤ bx; omega) _
                              · exact Gr.setCell (Gr.setCell (GWr.out.trans G5.out) (by show w.heap.size ≤ bx; omega) _) (by show w.heap.size ≤ bx; omega) _
                              · unfold Hid
                                rw [heap_setCell_other _ _ _ _ (by show F ≠ bx; omega), heap_setCell_other _ _ _ _ (by show F ≠ bx; omega)]
                                exact row_gr HRf.out G5.out
                          · have hpn : ¬ (p : Int) < (j : Int) + (i : Int) := by omega
                            rw [mapTo_all (by omega)] at HP7
                            replace HP7 : Hid (PR X t (.slice (some ⟨bx, 0, none⟩) (j + i) ac) (j + i) (divR xs f) wr) := HP7
                            have hst : solveR j i (asksF es qs) (k + 1) = putR (vs.map RwV.rw_) t (divR xs f) := by
                              show stepR j (solveR j i (asksF es qs) k) (newR j i (asksF es qs k) k) = _
                              rw [HXe.out, ← HVs.out]
                              unfold stepR
                              rw [HXs.out, HFr.out]
                              show putR _ t (divR xs (cv xs t)) = _
                              rw [HCv.out]
                            obtain ⟨dq', hbk', hbl'⟩ := solveR_bk j i (asksF es qs) (k + 1)
                            have hin' : ((t, divR xs f) : Rw) ∈ solveR j i (asksF es qs) (k + 1) := by rw [hst]; unfold putR; simp
                            have HSy : Hid (∀ z ∈ divR xs f, Sm 40320 z) := hbk'.sm (by omega) hin'
                            have hyl : (divR xs f).length = j + i := by unfold divR; rw [List.length_map]; exact hlx
                            have HSt := hid hst
                            generalize divR xs f = ys at *
                            clear hst hin' hbk' hbl' HDv HFr HCv HRf HSf
                            have HS7 := hid (HSk.out.gr BW8)
                            have GWl := hid GW8
                            go_wp2_with fail
                            go_loopg [16] vs.length (fun gg s16 wq => ∃ (l : Nat) (us : List RwV), l ≤ vs.length ∧ vs.length - l ≤ gg ∧ s16 = .int .i64 l ∧ us.length = vs.length ∧ Gr w wq ∧ Hid (us.map RwV.rw_ = mapTo (fun row : Rw => ((row.1, subR row.2 ys (cv row.2 t)) : Rw)) l (vs.map RwV.rw_)) ∧ Hid (SvIn w.heap.size wq (j + i) (.slice A7 vs.length c7) us) ∧ Hid (PR X t (.slice (some ⟨bx, 0, none⟩) (j + i) ac) (j + i) ys wq))
                            case atStart => exact ⟨0, vs, Nat.zero_le _, by omega, rfl, rfl, GWl.out, by rw [mapTo_zero]; rfl, HS7, HP7⟩
                            case round =>
                              obtain ⟨l, us, hl, hgl, rfl, hul, GW9, HUs, HSu, HP9⟩ := hrel
                              by_cases hll : l < vs.length
                              · have hln : (l : Int) < (vs.length : Int) := by omega
                                have hl0 : (0 : Int) ≤ (l : Int) := by omega
                                have HRl := hid (show RowsIn wr A7 vs.length (j + i) us from by rw [← hul]; exact SvIn.rows (c := c7) (by rw [hul]; exact HSu.out))
                                obtain ⟨hlu, g, off, hAe, hb, c0, c1⟩ := HRl.out.at_ hll
                                subst hAe
                                obtain rfl : off = 0 := own_off HSu.out.own
                                rw [Nat.zero_add] at c0 c1
                                have hgX : g < X := by
                                  have := (HSk.out.own.lt g rfl).2
                                  omega
                                have hgw : w.heap.size ≤ g := (HSk.out.own.lt g rfl).1
                                have hrm : us[l]! ∈ us := by rw [getElem!_pos us l hlu]; exact List.getElem_mem hlu
                                have hvl' : l < (vs.map RwV.rw_).length := by rw [List.length_map]; exact hll
                                have hrw : us[l]!.rw_ = (vs.map RwV.rw_)[l]! := by
                                  have h1 : us[l]!.rw_ = (us.map RwV.rw_)[l]! := by
                                    rw [getElem!_pos (us.map RwV.rw_) l (by simpa using hlu), List.getElem_map, getElem!_pos us l hlu]
                                  rw [h1, HUs.out, mapTo_get]
                                have hmm : us[l]!.rw_ ∈ vs.map RwV.rw_ := by rw [hrw, getElem!_pos _ l hvl']; exact List.getElem_mem hvl'
                                have hsy : ∀ z ∈ us[l]!.x, Sm 40320 z := HSr.out _ hmm
                                obtain ⟨hry1, hry2, hry3⟩ := HRl.out.each _ hrm
                                have HMs := hid (mapTo_set (g := fun row : Rw => ((row.1, subR row.2 ys (cv row.2 t)) : Rw)) hvl')
                                rw [← hrw] at HMs
                                clear hrw hmm hrm hvl'
                                have HSet := hid (fun (W : World) (h : SvIn w.heap.size W (j + i) (.slice (some ⟨g, 0, none⟩) vs.length c7) us) (r : RwV) => SvIn.set (r := r) h hul hlu)
                                generalize us[l]! = rv at *
                                obtain ⟨ri, ra, rc, rx⟩ := rv
                                dsimp only [RwV.rw_] at *
                                obtain ⟨_, bz, oz, hAz, hbz, e0, e1⟩ := hry1.fr (k := t) (by omega)
                                subst hAz
                                have hcv : cv rx t = rx[t]! := by rw [cv_lt (by omega), getElem!_pos rx t (by omega)]
                                have hfm : rx[t]! ∈ rx := by rw [getElem!_pos rx t (by omega)]; exact List.getElem_mem _
                                have hsf := hsy _ hfm
                                rw [hcv] at HMs
                                have HLess := hid (fun W (g : Gr wr W) => refless_any (j + i) _ (ri : Int) rx _ (t : Int) ys rx[t]! W ((show RwIn wr (j + i) (.agg #[.int .i64 ri, .slice (some ⟨bz, oz, none⟩) (j + i) rc]) (ri : Int) rx from ⟨_, rc, rfl, hry1, hry2, hry3⟩).gr g) ((RwIn.of_own (t : Int) HP9.out.own).gr g) 40320 40320 40320 hsy HSy.out hsf (by omega) (by omega) (by omega))
                                unfold frV at HLess
                                generalize rx[t]! = fz at *
                                clear hsy hsf hfm hcv hry1
                                have p0 := GrW.cell c0
                                have p1 := GrW.cell c1
                                have p2 := GrW.cell e0
                                have p3 := GrW.cell e1
                                have p4 := GrW.cell (row_cell_at (v := .int .i64 t) HP9.out.row 0 rfl)
                                have p5 := GrW.cell (row_cell_at (v := .slice (some ⟨bx, 0, none⟩) (j + i) ac) HP9.out.row 1 rfl)
                                clear c0 c1 e0 e1
                                go_upto_region 37 with fail
                                refine wp_region_ordAt (C := fun w' => ∃ p : GrW wr, w' = p.W) 18 [(0, false), (1, false), (2, false), (3, false), (4, false), (5, false), (6, false), (7, false), (8, false), (9, false), (10, false), (11, false), (12, false), (13, false), (14, false), (15, false), (16, true), (17, false)] _ (by rfl) (by rfl) (by kernel_rfl) (by kernel_rfl) (by kernel_rfl) ⟨⟨wr.drew, (Gr.refl wr).drew⟩, rfl⟩ ?_
                                simp only [List.take_succ_cons, List.take_zero]
                                (repeat (first | ((refine ord_read0 rfl rfl rfl (fun K hK => ?_)); go_big_quiet_op; (with_reducible refine hK _ ?_); clear hK K) | ((refine ord_skipG rfl rfl rfl rfl rfl ?_); simp only [Act.put, List.setIfInBounds_toArray, List.set_cons_zero, List.set_cons_succ]) | ((refine ord_readG rfl rfl rfl rfl rfl rfl (fun K hK => ?_)); go_big_quiet_op; (with_reducible refine hK _ ?_); clear hK K) | ((refine ord_nilc rfl rfl rfl rfl ?_); simp only [Act.put, List.setIfInBounds_toArray, List.set_cons_zero, List.set_cons_succ])))
                                (first | (refine ord_mem0 rfl rfl (fun K hK => ?_)) | (refine ord_memG rfl rfl rfl rfl rfl (fun K hK => ?_)))
                                go_simp
                                refine (HLess.out _ (Gr.refl wr).drew).mono ?_
                                rintro e w5 ⟨A', c', rfl, hb5, ho5⟩
                                have G5 := hid (show Gr wr w5 from (Gr.refl wr).drew.trans hb5)
                                refine hK.out _ _ ⟨⟨w5, G5.out⟩, rfl⟩ ?_
                                clear hK K hb5
                                have HO5 := hid (own_mono10 ho5 (show wr.heap.size ≤ wr.drew.heap.size from Nat.le_refl _))
                                clear ho5
                                have HS5 := hid (HSu.out.gr G5.out)
                                have HP5 := hid (HP9.out.gr G5.out)
                                have v0 := p0 ⟨w5, G5.out⟩
                                have v1 := p1 ⟨w5, G5.out⟩
                                have z0 := own_fz HS5.out.own (l * 2)
                                have z1 := own_fz HS5.out.own (l * 2 + 1)
                                (repeat (first | ((refine ord_read0 rfl rfl rfl (fun K hK => ?_)); go_big_quiet_op; (with_reducible refine hK _ ?_); clear hK K) | ((refine ord_skipG rfl rfl rfl rfl rfl ?_); simp only [Act.put, List.setIfInBounds_toArray, List.set_cons_zero, List.set_cons_succ]) | ((refine ord_readG rfl rfl rfl rfl rfl rfl (fun K hK => ?_)); go_big_quiet_op; (with_reducible refine hK _ ?_); clear hK K) | ((refine ord_nilc rfl rfl rfl rfl ?_); simp only [Act.put, List.setIfInBounds_toArray, List.set_cons_zero, List.set_cons_succ])))
                                clear p0 p1 p2 p3 p4 p5
                                (with_reducible refine ordAt_nil ?_)
                                intro K hK
                                go_simp
                                refine hK _ _ ?_
                                clear hK K v0 v1 z0 z1
                                go_wp2
                                go_roundg (vs.length - (l + 1))
                                case measure => omega
                                case rel =>
                                  have hgr : g < wr.heap.size := hb
                                  have hown : ∀ q, (Value.slice A' (j + i) c').ownBlock = some q → wr.heap.size ≤ q := fun q e => (HO5.out.lt q e).1
                                  refine ⟨l + 1, us.set l ⟨ri, A', c', subR rx ys fz⟩, by omega, by omega, by go_num, by rw [List.length_set]; exact hul, ?_, ?_, ?_, ?_⟩
                                  · exact Gr.setCell (Gr.setCell (Gr.trans GW9 G5.out) hgw _) hgw _
                                  · show _ = _
                                    rw [← HMs.out, ← HUs.out, List.map_set]
                                    rfl
                                  · exact HSet.out w5 HS5.out ⟨ri, A', c', subR rx ys fz⟩ (own_mono10 HO5.out (by omega)) (fun e => by have := hown g e; omega)
                                  · refine ⟨?_, ownsRow_setCell_below (ownsRow_setCell_below HP5.out.own (show g < X + 1 by omega) _) (show g < X + 1 by omega) _⟩
                                    rw [heap_setCell_other _ _ _ _ (by show X ≠ g; omega), heap_setCell_other _ _ _ _ (by show X ≠ g; omega)]
                                    exact HP5.out.row
                              · have hln : ¬ (l : Int) < (vs.length : Int) := by omega
                                rw [mapTo_all (by rw [List.length_map]; omega)] at HUs
                                have a0 := row_cell_at (v := .int .i64 t) HP9.out.row 0 rfl
                                have a1 := row_cell_at (v := .slice (some ⟨bx, 0, none⟩) (j + i) ac) HP9.out.row 1 rfl
                                have hsz := GW9.size
                                go_wp2_with (first | ((with_reducible show wpList _ _ _ (⟨some 163, _, _, _, _, _⟩ :: _) _ _); refine wpList_append_own_at _ rfl (.tmp 160) (.tmp 162) 93 rfl w.heap.size 99 j0 (.agg #[.int .i64 0, .slice none 0 0]) 2 32 Try.underlying93 HJ0.out HJZ.out HJS.out HJY.out rfl (by decide) _ _ _ rfl (ownT_gf HSu.out.own ((Gr.refl wr).alloc _)) ⟨wr.heap.size, 0, none⟩ 1 1 [.int .i64 t, .slice (some ⟨bx, 0, none⟩) (j + i) ac] rfl rfl (cells_new wr _ _ _ rfl) (by intro u hu; simp at hu; rcases hu with rfl | rfl <;> rfl) (by have : maxLen = 9223372036854775807 := rfl; omega) (by omega) (by simp; omega) ?_; intro v9 w9 hown hgrow hnil hat; have HO9 := hid hown; have HG9 := hid hgrow; have HA9 := hid hat; clear hown hgrow hnil hat))
                                go_roundg (i - (k + 1))
                                case measure => omega
                                case rel =>
                                  refine ⟨k + 1, us ++ [⟨t, some ⟨bx, 0, none⟩, ac, ys⟩], by omega, by omega, by go_num, ?_, ?_, ?_⟩
                                  · exact Below.grown (GW9.alloc _) HG9.out (by simp; omega) (fun q e1 => (HSu.out.own.lt q e1).1)
                                  · show _ = _
                                    rw [HSt.out, List.map_append, HUs.out]
                                    rfl
                                  · refine SvIn.push (r := ⟨t, some ⟨bx, 0, none⟩, ac, ys⟩) (HSu.out.gr ((Gr.refl wr).alloc _)) rfl (ownT_gf (own_mono10 HP9.out.own (by omega)) ((Gr.refl wr).alloc _)) ?_ HO9.out HG9.out HA9.out
                                    refine .inr fun e1 => ?_
                                    have := (HSk.out.own.lt bx e1.symm).2
                                    omega
    · have hkn : ¬ (k : Int) < (m : Int) := by omega
      have hkm2 : k = m := by omega
      obtain ⟨A7, c7, hv7⟩ := own_slice HSv.out.own
      subst hv7
      have HRw := hid HSv.out.rows
      have HV := hid HVs.out
      obtain ⟨dq, _, hbl⟩ := solveR_bk n m (asksF es qs) k
      rw [← HVs.out, List.length_map] at hbl
      rw [hkm2] at HV
      clear HSv HVs
      go_wp2
      go_ret
      exact ⟨A7, vs.length, ⟨c7, rfl⟩, BW, vs, HRw.out, HV.out, by omega⟩
end Go.Proofs.Ytimhkkijoelmhaa
