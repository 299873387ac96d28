/- Hide of the package sum: how everybody could count otherwise with the same answers. -/
import Derived.Test.YtimhkkijoelmhaaQHidePure10
import Derived.Test.YtimhkkijoelmhaaQSolveKit10
import Derived.Deep.DeepCutAuto
import Derived.Deep.CutRange
namespace Go.Proofs.Ytimhkkijoelmhaa
open Go.RowKit Go.Maps

theorem frV_zero : frV (0 : Rat) = .agg #[.int .i64 0, .int .i64 1] := rfl
theorem intsC_set {l : List Int} {k : Nat} {z : Int} : (intsC l).set k (.int .i64 z) = intsC (l.set k z) := by
  unfold intsC
  rw [List.map_set]
theorem own_int_at {w : World} {base : Nat} {t : TypeId} {g n c : Nat} {l : List Int} (h : w.ownsRow base t 1 (.slice (some ⟨g, 0, none⟩) n c) n (intsC l)) {k : Nat} (hk : k < n) : k < l.length ∧ w.cell? ⟨g, k, none⟩ = some (.int .i64 l[k]!) := by
  have hl := h.1
  unfold intsC at hl
  rw [List.length_map, Nat.mul_one] at hl
  refine ⟨by omega, ?_⟩
  rw [World.ownsRow.cellAt h k (by omega)]
  unfold intsC
  rw [List.getElem?_map, List.getElem?_eq_getElem (by omega), getElem!_pos l k (by omega)]
  rfl
theorem free_or {zs : List Sbj} {qs : List Qst} {n : Nat} (hn : zs.length = n) {i : Nat} (hi : i < n) :
    (lookR (rowsR zs qs) i = none ∧ freeR n (rowsR zs qs) i = some i) ∨
    (∃ x, lookR (rowsR zs qs) i = some x ∧ someN n x = 1 ∧ freeR n (rowsR zs qs) i = none) ∨
    ∃ x f k, lookR (rowsR zs qs) i = some x ∧ someN n x ≠ 1 ∧ freeR n (rowsR zs qs) i = some f ∧ f = i + 1 + k ∧ f < n ∧ otherR n i x = some f ∧ fidx (fun g => !decide (g = 0)) ((x.take n).drop (i + 1)) = (k : Int) := by
  obtain ⟨q, hb⟩ := rows_bk zs qs
  rw [hn] at hb
  cases hl : lookR (rowsR zs qs) i with
  | none => exact .inl ⟨rfl, by unfold freeR; rw [hl]⟩
  | some x =>
    have hm := lookR_some hl
    have h1 : x.length = n + qs.length := hb.len _ hm
    have h3 := hb.delta _ hm _ hm
    simp only [if_true] at h3
    have hx : cv x i ≠ 0 := by rw [show cv x i = 1 from h3]; decide
    by_cases h : someN n x = 1
    · exact .inr (.inl ⟨x, rfl, h, by unfold freeR; rw [hl]; exact other_one (by omega) hi hx h⟩)
    · obtain ⟨f, a1, a2, a3, _, a5⟩ := other_more (by omega) hi hx (rowsR_low zs qs _ hm) h
      exact .inr (.inr ⟨x, f, f - (i + 1), rfl, h, by unfold freeR; rw [hl]; exact a1, by omega, a3, a1, a5⟩)

set_option maxRecDepth 100000 in
set_option maxHeartbeats 16000000 in
theorem hide_any (columns : Int) (A : Option Addr) (n c : Nat) (zs : List Sbj) (QA : Option Addr) (qn qc : Nat) (qs : List Qst) (idn : Int) (w : World) (hi : SbjsIn w A n zs) (hq : QstsIn w QA qn qs) (hid' : -9223372036854775808 ≤ idn ∧ idn ≤ 9223372036854775807) :
    Calls Try.prog 29 #[.int .i64 columns, .slice A n c, .slice QA qn qc, .int .i64 idn] w (MeetsRet (hideT columns zs qs idn).1 (hideT columns zs qs idn).2 w) := by
  have HOp := hid (fun W (k : Gr w W) => open_any columns A n c zs QA qn qc qs W (hi.gr k) (hq.gr k))
  have hln := hi.len
  have hqn := hq.len
  unfold hideT
  by_cases hE : auditN columns zs qs = 0
  · rw [if_pos hE]
    unfold OpenRet at HOp
    simp only [if_pos hE] at HOp
    obtain ⟨h16, h8⟩ := audit_16 hE
    obtain ⟨D, hD0, hD1, hD2⟩ := solve_com zs.length qs.length (asksF (ordI zs) qs) h8
    have hrr : solveR zs.length qs.length (asksF (ordI zs) qs) qs.length = rowsR zs qs := rfl
    rw [hrr] at HOp hD2
    clear hrr
    have hfo := fun i (h : i < n) => free_or (qs := qs) hln h
    obtain ⟨q0, hbk⟩ := rows_bk zs qs
    rw [hln, hqn] at hbk
    have HBk0 := hid hbk
    generalize rowsR zs qs = rows at *
    rw [hln] at HOp h16 ⊢
    rw [hqn] at HOp h8
    generalize hes : ordI zs = es at *
    have hel : es.length = n := by rw [← hes, ← hln]; exact (ordI_perm zs).length_eq
    have hnz : (n : Int) ≤ 16 := by omega
    have HBy := hid (fun bk W (h : BookIn W bk n qn es rows) => by_any bk n qn es rows idn W h hid' (by omega) hel)
    unfold ByRet at HBy
    have hkey := key_id10 hid'
    have HD2 := hid hD2
    clear hi hq hE hes hid' hbk hD2
    cases hfi : es.findIdx? (fun s => s.id == idn) with
    | none =>
      have hb : byR n es rows idn = none := by unfold byR; rw [hfi]; rfl
      have hix : idxF es idn = none := by unfold idxF; rw [hfi]; rfl
      simp only [hb] at HBy
      unfold MeetsRet
      dsimp only
      clear hfi hb hfo
      go_enter Try.func29, Try.ntmps29
      go_wp2_with (first
        | (go_at_call 51; (with_reducible refine (HOp.out _ (Gr.refl w)).mono ?_); rintro e w2 ⟨bk, rfl, hb2, HBk⟩; have HBk2 := hid HBk; obtain ⟨BQA, bqc, BA, bc, ma, ml, hb, hS, hma, hml⟩ := HBk; have b2 := row_cell_at (v := .map (some ma)) hb.row 2 rfl)
        | ((with_reducible show wpList _ _ _ (⟨some 42, _, _, _, _, _⟩ :: _) _ _); refine wpList_lookup_is_ok (E := 3) (Value.int .i64) _ rfl (.tmp 40) (.tmp 41) 84 rfl keyed_int10 int_inj Try.underlying84 ma _ rfl hma idn _ _ rfl hkey (zero_int _) ?_; simp only [hix, Option.getD_none, Option.isSome_none])
        | (go_at_call 57; (with_reducible refine (HBy.out _ _ HBk2.out).mono ?_); rintro e w3 hret; rcases hret with ⟨_, _, _, _, _, _, x, hx, _⟩ | ⟨YA, yn, yc, YB, ym, yd, rfl, hb3, _⟩; (cases hx)))
      go_ret2
      exact ⟨none, 0, 0, rfl, (hb2.trans hb3).alloc _, Rd.nil_, by omega⟩
    | some i =>
      have hil : i < n := by
        have := (List.findIdx?_eq_some_iff_getElem.1 hfi).1
        omega
      have hix : idxF es idn = some (.int .i64 (i : Int)) := by unfold idxF; rw [hfi]; rfl
      have hbr : byR n es rows idn = (lookR rows i).bind fun x => if someN n x = 1 then some x else none := by unfold byR; rw [hfi]; rfl
      dsimp only
      clear hfi
      have hi0 : (0 : Int) ≤ (i : Int) := by omega
      have hin : (i : Int) < (n : Int) := by omega
      by_cases hno : freeR n rows i = none
      · have hb : ∃ x, byR n es rows idn = some x := by
          rcases hfo i hil with ⟨_, h2⟩ | ⟨x, h1, h2, _⟩ | ⟨x, f, k, _, _, h3, _⟩
          · rw [h2] at hno; cases hno
          · exact ⟨x, by rw [hbr, h1]; simp [h2]⟩
          · rw [h3] at hno; cases hno
        obtain ⟨x, hb⟩ := hb
        rw [hno]
        simp only [hb] at HBy
        unfold MeetsRet
        dsimp only
        clear hbr hb hfo hno
        go_enter Try.func29, Try.ntmps29
        go_wp2_with (first
          | (go_at_call 51; (with_reducible refine (HOp.out _ (Gr.refl w)).mono ?_); rintro e w2 ⟨bk, rfl, hb2, HBk⟩; have HBk2 := hid HBk; obtain ⟨BQA, bqc, BA, bc, ma, ml, hb, hS, hma, hml⟩ := HBk; have b2 := row_cell_at (v := .map (some ma)) hb.row 2 rfl)
          | ((with_reducible show wpList _ _ _ (⟨some 42, _, _, _, _, _⟩ :: _) _ _); refine wpList_lookup_is_ok (E := 3) (Value.int .i64) _ rfl (.tmp 40) (.tmp 41) 84 rfl keyed_int10 int_inj Try.underlying84 ma _ rfl hma idn _ _ rfl hkey (zero_int _) ?_; simp only [hix, Option.getD_some, Option.isSome_some])
          | (go_at_call 57; (with_reducible refine (HBy.out _ _ HBk2.out).mono ?_); rintro e w3 hret; rcases hret with ⟨KA, kc, KB, kd, rfl, hb3, x', hx', hL⟩ | ⟨YA, yn, yc, YB, ym, yd, rfl, hb3, hx'⟩; rotate_left; (cases hx')))
        go_ret2
        exact ⟨none, 0, 0, rfl, (hb2.trans hb3).alloc _, Rd.nil_, by omega⟩
      · have hfr : ∃ f, freeR n rows i = some f ∧ f < n ∧ byR n es rows idn = none ∧ ((lookR rows i = none ∧ f = i) ∨ ∃ x k, lookR rows i = some x ∧ f = i + 1 + k ∧ fidx (fun g => !decide (g = 0)) ((x.take n).drop (i + 1)) = (k : Int)) := by
          rcases hfo i hil with ⟨h1, h2⟩ | ⟨x, h1, h2, h3⟩ | ⟨x, f, k, h1, h2, h3, h4, h5, h6, h7⟩
          · exact ⟨i, h2, hil, by rw [hbr, h1]; rfl, .inl ⟨h1, rfl⟩⟩
          · exact absurd h3 hno
          · exact ⟨f, h3, h5, by rw [hbr, h1]; simp [h2], .inr ⟨x, k, h1, h4, h7⟩⟩
        obtain ⟨f, hff, hfn, hb, hway⟩ := hfr
        rw [hff]
        dsimp only
        simp only [hb] at HBy
        have hcl := changeR_len n rows f
        have hcs := change_sm HD2.out f (n := n)
        obtain ⟨ch, hch⟩ : ∃ ch, changeR n rows f = ch := ⟨_, rfl⟩
        rw [hch] at hcl hcs ⊢
        have HCh := hid hch
        have HWh := hid (fun A c W h => whole_any A n c D ch W h hcl (by omega) (fun x hx => (hcs x hx).1) hD0 (by omega) (fun x hx => Nat.le_trans (hcs x hx).2 (by omega)))
        have hwl := wholeR_len ch
        have hwle := wholeR_le (fun x hx => (hcs x hx).1) hD0 (fun x hx => (hcs x hx).2)
        rw [hcl] at hwl
        generalize wholeR ch = ws at *
        have HWz : Hid (∀ z ∈ ws, -1700000000 ≤ z ∧ z ≤ 1700000000) := by
          intro z hz
          have h1 := hwle z hz
          have h2 : D * 40320 ≤ 40320 * 40320 := Nat.mul_le_mul_right _ hD1
          omega
        clear hcs hch hwle hno hbr hff hfo
        unfold MeetsRet
        have HSg := hid (show signI i ws = if ws[i]! < 0 then ws.map (fun z => -z) else ws from rfl)
        generalize signI i ws = out at *
        go_enter Try.func29, Try.ntmps29
        go_upto_region 9 with (first
          | (go_at_call 51; (with_reducible refine (HOp.out _ (Gr.refl w)).mono ?_); rintro e w2 ⟨bk, rfl, hb2, HBk⟩; have HBk2 := hid HBk; obtain ⟨BQA, bqc, BA, bc, ma, ml, hb, hS, hma, hml⟩ := HBk; have b2 := row_cell_at (v := .map (some ma)) hb.row 2 rfl; have b1 := row_cell_at (v := .slice BA n bc) hb.row 1 rfl; have b3 := row_cell_at (v := .map (some ml)) hb.row 3 rfl)
          | ((with_reducible show wpList _ _ _ (⟨some 42, _, _, _, _, _⟩ :: _) _ _); refine wpList_lookup_is_ok (E := 3) (Value.int .i64) _ rfl (.tmp 40) (.tmp 41) 84 rfl keyed_int10 int_inj Try.underlying84 ma _ rfl hma idn _ _ rfl hkey (zero_int _) ?_; simp only [hix, Option.getD_some, Option.isSome_some])
          | (go_at_call 57; (with_reducible refine (HBy.out _ _ HBk2.out).mono ?_); rintro e w3 hret; rcases hret with ⟨_, _, _, _, _, _, x, hx, _⟩ | ⟨YA, yn, yc, YB, ym, yd, rfl, hb3, _⟩; (cases hx)))
        obtain ⟨BF, hm1, hm2, hm3⟩ := hml
        have G3 : Hid (Gr w2 w3) := hb3
        have G2 := hid hb2
        have HEl := hid hS.len
        have HM3 := hid (hm1.gr hb3)
        have HLg := hid (fun i => lines_get hm2 hm3 i)
        replace b1 := row_cell b1 hb3
        replace b3 := row_cell b3 hb3
        have g4 : Gr w3 (w3.alloc (.cells #[.slice YA yn yc, .slice YB ym yd] 101)) := (Gr.refl w3).alloc _
        generalize w3.alloc (.cells #[.slice YA yn yc, .slice YB ym yd] 101) = w4 at *
        have G4 : Hid (Gr w w4) := (hb2.trans hb3).trans g4
        have GB4 : Hid (Gr w2 w4) := hb3.trans g4
        have HM4 := hid (HM3.out.gr g4)
        replace b1 := row_cell b1 g4
        replace b3 := row_cell b3 g4
        have B1 := hid b1
        have B3 := hid b3
        obtain ⟨i0, hi0', hz0, hs0, hy0⟩ := info_parts info_fr10
        have HI0 := hid hi0'
        have HZ0 := hid hz0
        have HS0 := hid hs0
        have HY0 := hid hy0
        have hlb := HLg.out i
        have hfz : (f : Int) < (n : Int) := by omega
        have hf0 : (0 : Int) ≤ (f : Int) := by omega
        clear hm1 hm2 hm3 hma hS hb hb2 hb3 g4 HBk2 HOp HBy b2 hi0' hz0 hs0 hy0 HM3 G3
        rcases hway with ⟨hlk, hfi⟩ | ⟨x, k, hlk, hfk, hfd⟩
        · obtain rfl := hfi
          rcases hlb with ⟨hr, hf⟩ | ⟨xr, v, hr, hf, hv⟩
          rotate_left
          · rw [hlk] at hr; cases hr
          · go_upto_region 13 with (first
              | ((with_reducible show wpList _ _ _ (⟨some 63, _, _, _, _, _⟩ :: _) _ _); refine wpList_lookup_is_ok (E := 90) (Value.int .i64) _ rfl (.tmp 61) (.tmp 62) 85 rfl keyed_int10 int_inj Try.underlying85 ml BF rfl (HM4.out) (f : Int) _ _ rfl (key_id10 (by omega)) (zero_line _) ?_; simp only [hf, Option.getD_none, Option.isSome_none]))
            have Gc : Hid (Gr w4 (w4.alloc (.cells #[.slice none 0 0, .slice none 0 0] 90))) := (Gr.refl w4).alloc _
            generalize w4.alloc (.cells #[.slice none 0 0, .slice none 0 0] 90) = wc at *
            clear hf hr hlk
            have b1c := row_cell B1.out Gc.out
            have hbkc : bk < wc.heap.size := block_lt_of_cell b1c
            have B3c := hid (row_cell B3.out Gc.out)
            have HMc := hid (HM4.out.gr Gc.out)
            go_wp2_with fail
            go_loopg [20, 82] n (fun gg s20 s82 wr => ∃ (q : Nat) (v20 : Value), q ≤ n ∧ n - q ≤ gg ∧ s20 = v20 ∧ s82 = .int .i64 q ∧ Gr wc wr ∧ Hid (wr.ownsRow wc.heap.size 107 2 v20 q ((changeR q rows f).flatMap frC)))
            case atStart => exact ⟨0, _, Nat.zero_le _, by omega, rfl, rfl, Gr.refl wc, ⟨rfl, .inl ⟨rfl, rfl⟩⟩⟩
            case round =>
              obtain ⟨q, v20, hq, hgq, rfl, rfl, BW, HOw⟩ := hrel
              obtain ⟨OA, oc, hov⟩ := own_slice HOw.out
              subst hov
              by_cases hql : q < n
              · have hqn' : (q : Int) < (n : Int) := by omega
                have hqz : (0 : Int) ≤ (q : Int) := by omega
                have HSn : Hid ((changeR (q + 1) rows f).flatMap frC = (changeR q rows f).flatMap frC ++ frC (changeX rows f q)) := by
                  show _ = _
                  rw [changeR_succ, List.flatMap_append]; simp
                have hlg := HLg.out q
                have b3r : wr.cell? ⟨bk, 3, none⟩ = some (.map (some ml)) := row_cell B3c.out BW
                have hbkr : bk < wr.heap.size := block_lt_of_cell b3r
                have HMr := hid (HMc.out.gr BW)
                generalize (changeR q rows f).flatMap frC = o at *
                unfold changeX at HSn
                rcases hlg with ⟨hr, hf⟩ | ⟨xr, v, hr, hf, hv⟩
                · have gq : Gr wr (wr.alloc (.cells #[.slice none 0 0, .slice none 0 0] 90)) := (Gr.refl wr).alloc _
                  have hAl : ∀ o : Obj, ((wr.alloc (.cells #[.slice none 0 0, .slice none 0 0] 90)).alloc o).heap[wr.heap.size + 1]? = some o := fun o => by have h := heap_alloc_new (wr.alloc (.cells #[.slice none 0 0, .slice none 0 0] 90)) o; rw [show (wr.alloc (.cells #[.slice none 0 0, .slice none 0 0] 90)).heap.size = wr.heap.size + 1 by simp] at h; exact h
                  rw [hr] at HSn
                  by_cases hqf : q = f
                  · rw [if_pos hqf] at HSn
                    subst hqf
                    go_wp2_with (first
                      | ((with_reducible show wpList _ _ _ (⟨some 91, _, _, _, _, _⟩ :: _) _ _); refine wpList_lookup_is_ok (E := 90) (Value.int .i64) _ rfl (.tmp 89) (.tmp 90) 85 rfl keyed_int10 int_inj Try.underlying85 ml BF rfl (HMr.out) (q : Int) _ _ rfl (key_id10 (by omega)) (zero_line _) ?_; simp only [hf, Option.getD_none, Option.isSome_none])
                      | ((with_reducible show wpList _ _ _ (⟨some 105, _, _, _, _, _⟩ :: _) _ _); refine wpList_append_rd _ rfl (.tmp 102) (.tmp 104) 88 rfl wc.heap.size 107 i0 (.agg #[.int .i64 0, .int .i64 0]) 2 16 Try.underlying88 HI0.out HZ0.out HS0.out HY0.out rfl (by decide) _ _ _ rfl (ownT_gf HOw.out ((gq).alloc _)) (some ⟨wr.heap.size + 1, 0, none⟩) 1 1 [.int .i64 1, .int .i64 1] rfl (rd_row10 (hAl _) 2 1 rfl) (by intro u hu; simp at hu; first | (rcases hu with rfl | rfl <;> rfl) | (subst hu; rfl)) (by have : maxLen = 9223372036854775807 := rfl; omega) (by omega) (by have h1 := BW.size; have h2 := (gq).size; simp at h1 h2 ⊢; omega) ?_; intro A' c' w9 hown' hbel; have HW9 := hid hown'; have HB9 := hid (show Gr wc w9 from Below.trans ((BW.trans (gq)).alloc _) hbel); clear hown' hbel))
                    go_roundg (n - (q + 1))
                    case measure => omega
                    case rel => exact ⟨q + 1, .slice A' (q + 1) c', by omega, by omega, rfl, by go_num, HB9.out, by unfold Hid; rw [HSn.out]; exact HW9.out⟩
                  · have hqfz : ¬ (q : Int) = (f : Int) := by omega
                    rw [if_neg hqf] at HSn
                    go_wp2_with (first
                      | ((with_reducible show wpList _ _ _ (⟨some 91, _, _, _, _, _⟩ :: _) _ _); refine wpList_lookup_is_ok (E := 90) (Value.int .i64) _ rfl (.tmp 89) (.tmp 90) 85 rfl keyed_int10 int_inj Try.underlying85 ml BF rfl (HMr.out) (q : Int) _ _ rfl (key_id10 (by omega)) (zero_line _) ?_; simp only [hf, Option.getD_none, Option.isSome_none])
                      | ((with_reducible show wpList _ _ _ (⟨some 97, _, _, _, _, _⟩ :: _) _ _); refine wpList_append_rd _ rfl (.tmp 94) (.tmp 96) 88 rfl wc.heap.size 107 i0 (.agg #[.int .i64 0, .int .i64 0]) 2 16 Try.underlying88 HI0.out HZ0.out HS0.out HY0.out rfl (by decide) _ _ _ rfl (ownT_gf HOw.out ((gq).alloc _)) (some ⟨wr.heap.size + 1, 0, none⟩) 1 1 [.int .i64 0, .int .i64 1] rfl (rd_row10 (hAl _) 2 1 rfl) (by intro u hu; simp at hu; first | (rcases hu with rfl | rfl <;> rfl) | (subst hu; rfl)) (by have : maxLen = 9223372036854775807 := rfl; omega) (by omega) (by have h1 := BW.size; have h2 := (gq).size; simp at h1 h2 ⊢; omega) ?_; intro A' c' w9 hown' hbel; have HW9 := hid hown'; have HB9 := hid (show Gr wc w9 from Below.trans ((BW.trans (gq)).alloc _) hbel); clear hown' hbel))
                    go_roundg (n - (q + 1))
                    case measure => omega
                    case rel => exact ⟨q + 1, .slice A' (q + 1) c', by omega, by omega, rfl, by go_num, HB9.out, by unfold Hid; rw [HSn.out]; exact HW9.out⟩
                · obtain ⟨KA, kc, KB, kd, rfl, hka, _, hkc, hkd, hxl⟩ := (hv.gr ((GB4.out.trans Gc.out).trans BW) : LnIn wr n qn _ xr)
                  have gq : Gr wr (wr.alloc (.cells #[.slice KA n kc, .slice KB qn kd] 90)) := (Gr.refl wr).alloc _
                  have hAl : ∀ o : Obj, ((wr.alloc (.cells #[.slice KA n kc, .slice KB qn kd] 90)).alloc o).heap[wr.heap.size + 1]? = some o := fun o => by have h := heap_alloc_new (wr.alloc (.cells #[.slice KA n kc, .slice KB qn kd] 90)) o; rw [show (wr.alloc (.cells #[.slice KA n kc, .slice KB qn kd] 90)).heap.size = wr.heap.size + 1 by simp] at h; exact h
                  rw [hr] at HSn
                  dsimp only at HSn
                  by_cases hqf : q = f
                  · rw [if_pos hqf] at HSn
                    subst hqf
                    go_wp2_with (first
                      | ((with_reducible show wpList _ _ _ (⟨some 91, _, _, _, _, _⟩ :: _) _ _); refine wpList_lookup_is_ok (E := 90) (Value.int .i64) _ rfl (.tmp 89) (.tmp 90) 85 rfl keyed_int10 int_inj Try.underlying85 ml BF rfl (HMr.out) (q : Int) _ _ rfl (key_id10 (by omega)) (zero_line _) ?_; simp only [hf, Option.getD_some, Option.isSome_some])
                      | ((with_reducible show wpList _ _ _ (⟨some 105, _, _, _, _, _⟩ :: _) _ _); refine wpList_append_rd _ rfl (.tmp 102) (.tmp 104) 88 rfl wc.heap.size 107 i0 (.agg #[.int .i64 0, .int .i64 0]) 2 16 Try.underlying88 HI0.out HZ0.out HS0.out HY0.out rfl (by decide) _ _ _ rfl (ownT_gf HOw.out ((gq).alloc _)) (some ⟨wr.heap.size + 1, 0, none⟩) 1 1 [.int .i64 1, .int .i64 1] rfl (rd_row10 (hAl _) 2 1 rfl) (by intro u hu; simp at hu; first | (rcases hu with rfl | rfl <;> rfl) | (subst hu; rfl)) (by have : maxLen = 9223372036854775807 := rfl; omega) (by omega) (by have h1 := BW.size; have h2 := (gq).size; simp at h1 h2 ⊢; omega) ?_; intro A' c' w9 hown' hbel; have HW9 := hid hown'; have HB9 := hid (show Gr wc w9 from Below.trans ((BW.trans (gq)).alloc _) hbel); clear hown' hbel))
                    go_roundg (n - (q + 1))
                    case measure => omega
                    case rel => exact ⟨q + 1, .slice A' (q + 1) c', by omega, by omega, rfl, by go_num, HB9.out, by unfold Hid; rw [HSn.out]; exact HW9.out⟩
                  · have hqfz : ¬ (q : Int) = (f : Int) := by omega
                    rw [if_neg hqf] at HSn
                    obtain ⟨hfx, bb, oo, rfl, hbb, d0, d1⟩ := hka.fr hfn
                    have hzz : (xr.take n)[f]! = cv xr f := by rw [getElem!_pos _ f hfx, List.getElem_take, cv_lt (by omega)]
                    rw [hzz] at d0 d1
                    have hsz : Sm 40320 (cv xr f) := by
                      rw [cv_lt (by omega)]
                      exact (HD2.out _ (lookR_some hr) _ (List.getElem_mem (show f < xr.length by omega))).2
                    have HLs := hid (fun W => less_any 0 (cv xr f) 40320 40320 W (sm_bit (.inl rfl)) hsz (by omega))
                    rw [frV_zero] at HLs
                    clear hzz hsz hka
                    obtain ⟨rz, hrz⟩ : ∃ rz, 0 - cv xr f = rz := ⟨_, rfl⟩
                    rw [hrz] at HLs HSn
                    clear hrz
                    generalize cv xr f = z at *
                    unfold frV at HLs
                    go_wp2_with (first
                      | ((with_reducible show wpList _ _ _ (⟨some 91, _, _, _, _, _⟩ :: _) _ _); refine wpList_lookup_is_ok (E := 90) (Value.int .i64) _ rfl (.tmp 89) (.tmp 90) 85 rfl keyed_int10 int_inj Try.underlying85 ml BF rfl (HMr.out) (q : Int) _ _ rfl (key_id10 (by omega)) (zero_line _) ?_; simp only [hf, Option.getD_some, Option.isSome_some])
                      | (go_at_call 65; (with_reducible refine (HLs.out _).mono ?_); rintro e w6 ⟨rfl, hb6⟩; have G6 := hid hb6; obtain ⟨hcw6, hfw6, hzw6⟩ := hb6.rules; (try simp at hzw6))
                      | ((with_reducible show wpList _ _ _ (⟨some 117, _, _, _, _, _⟩ :: _) _ _); refine wpList_append_rd _ rfl (.tmp 108) (.tmp 116) 88 rfl wc.heap.size 107 i0 (.agg #[.int .i64 0, .int .i64 0]) 2 16 Try.underlying88 HI0.out HZ0.out HS0.out HY0.out rfl (by decide) _ _ _ rfl (ownT_gf HOw.out ((gq.trans G6.out).alloc _)) (some ⟨w6.heap.size, 0, none⟩) 1 1 [.int .i64 rz.num, .int .i64 rz.den] rfl (rd_row10 (heap_alloc_new w6 _) 2 1 rfl) (by intro u hu; simp at hu; first | (rcases hu with rfl | rfl <;> rfl) | (subst hu; rfl)) (by have : maxLen = 9223372036854775807 := rfl; omega) (by omega) (by have h1 := BW.size; have h2 := (gq.trans G6.out).size; simp at h1 h2 ⊢; omega) ?_; intro A' c' w9 hown' hbel; have HW9 := hid hown'; have HB9 := hid (show Gr wc w9 from Below.trans ((BW.trans (gq.trans G6.out)).alloc _) hbel); clear hown' hbel))
                    go_roundg (n - (q + 1))
                    case measure => omega
                    case rel => exact ⟨q + 1, .slice A' (q + 1) c', by omega, by omega, rfl, by go_num, HB9.out, by unfold Hid; rw [HSn.out]; exact HW9.out⟩
              · have hqn' : ¬ (q : Int) < (n : Int) := by omega
                have hqe : q = n := by omega
                have hOw := HOw.out
                rw [hqe, HCh.out] at hOw
                have HR := hid (Rd.of_own hOw)
                have Gq := hid ((G4.out.trans Gc.out).trans BW)
                rw [hqe]
                clear HOw hOw
                go_upto_region 25 with (go_at_call 58; (with_reducible refine (HWh.out _ _ _ HR.out).mono ?_); rintro e w7 ⟨PA, pc, rfl, hown7, hb7⟩; have HO7 := hid hown7; have G7 := hid (Gq.out.trans hb7); have hwz := Nat.le_trans Gq.out.size (Nat.le_refl _); clear hown7 hb7)
                obtain ⟨_, g, off, hPe, hgb, _⟩ := (Rd.of_own HO7.out).int_at (k := f) hil
                subst hPe
                obtain rfl : off = 0 := own_off HO7.out
                have hgw : w.heap.size ≤ g := Nat.le_trans hwz (HO7.out.lt g rfl).1
                obtain ⟨hiw, ci⟩ := own_int_at (l := ws) HO7.out hil
                clear HR hgb
                by_cases hng : ws[f]! < 0
                · have HSg2 := hid HSg.out
                  rw [if_pos hng] at HSg2
                  have hngz : ws[f]! < 0 := hng
                  have HO8 := hid (own_mono10 HO7.out hwz)
                  generalize ws[f]! = wi at ci hngz hng
                  clear HO7
                  go_wp2_with fail
                  go_loopg [128] n (fun gg s128 wr => ∃ (q : Nat), q ≤ n ∧ n - q ≤ gg ∧ s128 = .int .i64 q ∧ Gr w wr ∧ Hid (wr.ownsRow w.heap.size 3 1 (.slice (some ⟨g, 0, none⟩) n pc) n (intsC (mapTo (fun z => -z) q ws))))
                  case atStart => exact ⟨0, Nat.zero_le _, by omega, rfl, G7.out, by rw [mapTo_zero]; exact HO8⟩
                  case round =>
                    obtain ⟨q, hq, hgq, rfl, BX, HOx⟩ := hrel
                    by_cases hql : q < n
                    · have hqn' : (q : Int) < (n : Int) := by omega
                      have hqz : (0 : Int) ≤ (q : Int) := by omega
                      obtain ⟨_, cq⟩ := own_int_at HOx.out hql
                      rw [mapTo_get] at cq
                      have hqw : q < ws.length := by omega
                      have hzb := HWz.out ws[q]! (by rw [getElem!_pos ws q hqw]; exact List.getElem_mem hqw)
                      have HSet : Hid ((intsC (mapTo (fun z => -z) q ws)).set q (.int .i64 (-ws[q]!)) = intsC (mapTo (fun z => -z) (q + 1) ws)) := by
                        show _ = _
                        rw [intsC_set]
                        exact congrArg intsC (mapTo_set (g := fun z : Int => -z) hqw)
                      have hfzq := own_fz HOx.out q
                      have hgr : g < wr.heap.size := block_lt_of_cell cq
                      generalize ws[q]! = z at *
                      have hwz2 : IntKind.i64.wrap (-z) = -z := by rw [IntKind.wrap_i64]; omega
                      clear hzb
                      go_wp2_with fail
                      go_roundg (n - (q + 1))
                      case measure => omega
                      case rel =>
                        refine ⟨q + 1, by omega, by omega, by go_num, Gr.setCell BX hgw _, ?_⟩
                        unfold Hid
                        have h := (World.ownsRow.stored HOx.out q (.int .i64 (-z))).1
                        rw [HSet.out] at h
                        exact h
                    · have hqn' : ¬ (q : Int) < (n : Int) := by omega
                      have hqe : q = n := by omega
                      have hOx := HOx.out
                      rw [mapTo_all (by omega), ← HSg2.out] at hOx
                      have HOz := hid hOx
                      clear hOx HOx
                      go_wp2
                      go_ret2
                      exact ⟨some ⟨g, 0, none⟩, n, ⟨pc, rfl⟩, BX, Rd.of_own HOz.out, by omega⟩
                · have HSg2 := hid HSg.out
                  rw [if_neg hng] at HSg2
                  generalize ws[f]! = wi at ci hng
                  go_wp2
                  go_ret2
                  exact ⟨some ⟨g, 0, none⟩, n, ⟨pc, rfl⟩, G7.out, by rw [HSg2.out]; exact Rd.of_own HO7.out, by omega⟩
        · rcases hlb with ⟨hr, hf⟩ | ⟨xr, v, hr, hf, hv⟩
          · rw [hlk] at hr; cases hr
          · rw [hlk] at hr
            cases hr
            obtain ⟨KA, kc, KB, kd, rfl, hka, _, hkc, hkd, hxl⟩ := (hv.gr GB4.out : LnIn w4 n qn _ x)
            have HKA := hid (hka.gr ((Gr.refl w4).alloc (.cells #[.slice KA n kc, .slice KB qn kd] 90)))
            have hks : (((x.take n).flatMap frC).drop ((i + 1) * 2)) = ((x.take n).drop (i + 1)).flatMap frC := fr_drop _ _
            have HKs := hid hks
            have hw1 : IntKind.i64.wrap (1 + (k : Int)) = 1 + (k : Int) := by rw [IntKind.wrap_i64]; omega
            have hw2 : IntKind.i64.wrap ((i : Int) + (1 + (k : Int))) = (i : Int) + (1 + (k : Int)) := by rw [IntKind.wrap_i64]; omega
            have hw3 : IntKind.i64.wrap ((i : Int) + 1) = (i : Int) + 1 := by rw [IntKind.wrap_i64]; omega
            clear hks hka
            go_upto_region 13 with (first
              | ((with_reducible show wpList _ _ _ (⟨some 63, _, _, _, _, _⟩ :: _) _ _); refine wpList_lookup_is_ok (E := 90) (Value.int .i64) _ rfl (.tmp 61) (.tmp 62) 85 rfl keyed_int10 int_inj Try.underlying85 ml BF rfl (HM4.out) (i : Int) _ _ rfl (key_id10 (by omega)) (zero_line _) ?_; simp only [hf, Option.getD_some, Option.isSome_some])
              | ((with_reducible show wpList _ _ _ (⟨some 71, _, _, _, _, _⟩ :: _) _ _); refine wpList_slice_from rfl (.tmp 68) (.tmp 70) 88 rfl 107 i0 2 Try.underlying88 HI0.out HS0.out KA n kc (i + 1) _ _ rfl rfl (by omega) (by omega) (by omega) ?_; intro KZ hKZ; have HKZ := hid (hKZ _ _ HKA.out); rw [HKs.out] at HKZ; clear hKZ)
              | (go_at_call 62; (with_reducible refine (findH_any KZ (n - (i + 1)) (kc - (i + 1)) _ _ HKZ.out (by omega)).mono ?_); rw [hfd]; rintro e w5 ⟨rfl, hb5⟩))
            rw [show (i : Int) + (1 + (k : Int)) = (f : Int) by omega]
            have Gc : Hid (Gr w4 w5) := ((Gr.refl w4).alloc _).trans hb5
            obtain ⟨wc, hwc⟩ : ∃ wc, wc = w5 := ⟨_, rfl⟩
            rw [← hwc] at Gc ⊢
            clear hf hlk hfk hfd HKA HKs HKZ hb5 hwc hxl hkd hkc hv
            have b1c := row_cell B1.out Gc.out
            have hbkc : bk < wc.heap.size := block_lt_of_cell b1c
            have B3c := hid (row_cell B3.out Gc.out)
            have HMc := hid (HM4.out.gr Gc.out)
            go_wp2_with fail
            go_loopg [20, 82] n (fun gg s20 s82 wr => ∃ (q : Nat) (v20 : Value), q ≤ n ∧ n - q ≤ gg ∧ s20 = v20 ∧ s82 = .int .i64 q ∧ Gr wc wr ∧ Hid (wr.ownsRow wc.heap.size 107 2 v20 q ((changeR q rows f).flatMap frC)))
            case atStart => exact ⟨0, _, Nat.zero_le _, by omega, rfl, rfl, Gr.refl wc, ⟨rfl, .inl ⟨rfl, rfl⟩⟩⟩
            case round =>
              obtain ⟨q, v20, hq, hgq, rfl, rfl, BW, HOw⟩ := hrel
              obtain ⟨OA, oc, hov⟩ := own_slice HOw.out
              subst hov
              by_cases hql : q < n
              · have hqn' : (q : Int) < (n : Int) := by omega
                have hqz : (0 : Int) ≤ (q : Int) := by omega
                have HSn : Hid ((changeR (q + 1) rows f).flatMap frC = (changeR q rows f).flatMap frC ++ frC (changeX rows f q)) := by
                  show _ = _
                  rw [changeR_succ, List.flatMap_append]; simp
                have hlg := HLg.out q
                have b3r : wr.cell? ⟨bk, 3, none⟩ = some (.map (some ml)) := row_cell B3c.out BW
                have hbkr : bk < wr.heap.size := block_lt_of_cell b3r
                have HMr := hid (HMc.out.gr BW)
                generalize (changeR q rows f).flatMap frC = o at *
                unfold changeX at HSn
                rcases hlg with ⟨hr, hf⟩ | ⟨xr, v, hr, hf, hv⟩
                · have gq : Gr wr (wr.alloc (.cells #[.slice none 0 0, .slice none 0 0] 90)) := (Gr.refl wr).alloc _
                  have hAl : ∀ o : Obj, ((wr.alloc (.cells #[.slice none 0 0, .slice none 0 0] 90)).alloc o).heap[wr.heap.size + 1]? = some o := fun o => by have h := heap_alloc_new (wr.alloc (.cells #[.slice none 0 0, .slice none 0 0] 90)) o; rw [show (wr.alloc (.cells #[.slice none 0 0, .slice none 0 0] 90)).heap.size = wr.heap.size + 1 by simp] at h; exact h
                  rw [hr] at HSn
                  by_cases hqf : q = f
                  · rw [if_pos hqf] at HSn
                    subst hqf
                    go_wp2_with (first
                      | ((with_reducible show wpList _ _ _ (⟨some 91, _, _, _, _, _⟩ :: _) _ _); refine wpList_lookup_is_ok (E := 90) (Value.int .i64) _ rfl (.tmp 89) (.tmp 90) 85 rfl keyed_int10 int_inj Try.underlying85 ml BF rfl (HMr.out) (q : Int) _ _ rfl (key_id10 (by omega)) (zero_line _) ?_; simp only [hf, Option.getD_none, Option.isSome_none])
                      | ((with_reducible show wpList _ _ _ (⟨some 105, _, _, _, _, _⟩ :: _) _ _); refine wpList_append_rd _ rfl (.tmp 102) (.tmp 104) 88 rfl wc.heap.size 107 i0 (.agg #[.int .i64 0, .int .i64 0]) 2 16 Try.underlying88 HI0.out HZ0.out HS0.out HY0.out rfl (by decide) _ _ _ rfl (ownT_gf HOw.out ((gq).alloc _)) (some ⟨wr.heap.size + 1, 0, none⟩) 1 1 [.int .i64 1, .int .i64 1] rfl (rd_row10 (hAl _) 2 1 rfl) (by intro u hu; simp at hu; first | (rcases hu with rfl | rfl <;> rfl) | (subst hu; rfl)) (by have : maxLen = 9223372036854775807 := rfl; omega) (by omega) (by have h1 := BW.size; have h2 := (gq).size; simp at h1 h2 ⊢; omega) ?_; intro A' c' w9 hown' hbel; have HW9 := hid hown'; have HB9 := hid (show Gr wc w9 from Below.trans ((BW.trans (gq)).alloc _) hbel); clear hown' hbel))
                    go_roundg (n - (q + 1))
                    case measure => omega
                    case rel => exact ⟨q + 1, .slice A' (q + 1) c', by omega, by omega, rfl, by go_num, HB9.out, by unfold Hid; rw [HSn.out]; exact HW9.out⟩
                  · have hqfz : ¬ (q : Int) = (f : Int) := by omega
                    rw [if_neg hqf] at HSn
                    go_wp2_with (first
                      | ((with_reducible show wpList _ _ _ (⟨some 91, _, _, _, _, _⟩ :: _) _ _); refine wpList_lookup_is_ok (E := 90) (Value.int .i64) _ rfl (.tmp 89) (.tmp 90) 85 rfl keyed_int10 int_inj Try.underlying85 ml BF rfl (HMr.out) (q : Int) _ _ rfl (key_id10 (by omega)) (zero_line _) ?_; simp only [hf, Option.getD_none, Option.isSome_none])
                      | ((with_reducible show wpList _ _ _ (⟨some 97, _, _, _, _, _⟩ :: _) _ _); refine wpList_append_rd _ rfl (.tmp 94) (.tmp 96) 88 rfl wc.heap.size 107 i0 (.agg #[.int .i64 0, .int .i64 0]) 2 16 Try.underlying88 HI0.out HZ0.out HS0.out HY0.out rfl (by decide) _ _ _ rfl (ownT_gf HOw.out ((gq).alloc _)) (some ⟨wr.heap.size + 1, 0, none⟩) 1 1 [.int .i64 0, .int .i64 1] rfl (rd_row10 (hAl _) 2 1 rfl) (by intro u hu; simp at hu; first | (rcases hu with rfl | rfl <;> rfl) | (subst hu; rfl)) (by have : maxLen = 9223372036854775807 := rfl; omega) (by omega) (by have h1 := BW.size; have h2 := (gq).size; simp at h1 h2 ⊢; omega) ?_; intro A' c' w9 hown' hbel; have HW9 := hid hown'; have HB9 := hid (show Gr wc w9 from Below.trans ((BW.trans (gq)).alloc _) hbel); clear hown' hbel))
                    go_roundg (n - (q + 1))
                    case measure => omega
                    case rel => exact ⟨q + 1, .slice A' (q + 1) c', by omega, by omega, rfl, by go_num, HB9.out, by unfold Hid; rw [HSn.out]; exact HW9.out⟩
                · obtain ⟨KA, kc, KB, kd, rfl, hka, _, hkc, hkd, hxl⟩ := (hv.gr ((GB4.out.trans Gc.out).trans BW) : LnIn wr n qn _ xr)
                  have gq : Gr wr (wr.alloc (.cells #[.slice KA n kc, .slice KB qn kd] 90)) := (Gr.refl wr).alloc _
                  have hAl : ∀ o : Obj, ((wr.alloc (.cells #[.slice KA n kc, .slice KB qn kd] 90)).alloc o).heap[wr.heap.size + 1]? = some o := fun o => by have h := heap_alloc_new (wr.alloc (.cells #[.slice KA n kc, .slice KB qn kd] 90)) o; rw [show (wr.alloc (.cells #[.slice KA n kc, .slice KB qn kd] 90)).heap.size = wr.heap.size + 1 by simp] at h; exact h
                  rw [hr] at HSn
                  dsimp only at HSn
                  by_cases hqf : q = f
                  · rw [if_pos hqf] at HSn
                    subst hqf
                    go_wp2_with (first
                      | ((with_reducible show wpList _ _ _ (⟨some 91, _, _, _, _, _⟩ :: _) _ _); refine wpList_lookup_is_ok (E := 90) (Value.int .i64) _ rfl (.tmp 89) (.tmp 90) 85 rfl keyed_int10 int_inj Try.underlying85 ml BF rfl (HMr.out) (q : Int) _ _ rfl (key_id10 (by omega)) (zero_line _) ?_; simp only [hf, Option.getD_some, Option.isSome_some])
                      | ((with_reducible show wpList _ _ _ (⟨some 105, _, _, _, _, _⟩ :: _) _ _); refine wpList_append_rd _ rfl (.tmp 102) (.tmp 104) 88 rfl wc.heap.size 107 i0 (.agg #[.int .i64 0, .int .i64 0]) 2 16 Try.underlying88 HI0.out HZ0.out HS0.out HY0.out rfl (by decide) _ _ _ rfl (ownT_gf HOw.out ((gq).alloc _)) (some ⟨wr.heap.size + 1, 0, none⟩) 1 1 [.int .i64 1, .int .i64 1] rfl (rd_row10 (hAl _) 2 1 rfl) (by intro u hu; simp at hu; first | (rcases hu with rfl | rfl <;> rfl) | (subst hu; rfl)) (by have : maxLen = 9223372036854775807 := rfl; omega) (by omega) (by have h1 := BW.size; have h2 := (gq).size; simp at h1 h2 ⊢; omega) ?_; intro A' c' w9 hown' hbel; have HW9 := hid hown'; have HB9 := hid (show Gr wc w9 from Below.trans ((BW.trans (gq)).alloc _) hbel); clear hown' hbel))
                    go_roundg (n - (q + 1))
                    case measure => omega
                    case rel => exact ⟨q + 1, .slice A' (q + 1) c', by omega, by omega, rfl, by go_num, HB9.out, by unfold Hid; rw [HSn.out]; exact HW9.out⟩
                  · have hqfz : ¬ (q : Int) = (f : Int) := by omega
                    rw [if_neg hqf] at HSn
                    obtain ⟨hfx, bb, oo, rfl, hbb, d0, d1⟩ := hka.fr hfn
                    have hzz : (xr.take n)[f]! = cv xr f := by rw [getElem!_pos _ f hfx, List.getElem_take, cv_lt (by omega)]
                    rw [hzz] at d0 d1
                    have hsz : Sm 40320 (cv xr f) := by
                      rw [cv_lt (by omega)]
                      exact (HD2.out _ (lookR_some hr) _ (List.getElem_mem (show f < xr.length by omega))).2
                    have HLs := hid (fun W => less_any 0 (cv xr f) 40320 40320 W (sm_bit (.inl rfl)) hsz (by omega))
                    rw [frV_zero] at HLs
                    clear hzz hsz hka
                    obtain ⟨rz, hrz⟩ : ∃ rz, 0 - cv xr f = rz := ⟨_, rfl⟩
                    rw [hrz] at HLs HSn
                    clear hrz
                    generalize cv xr f = z at *
                    unfold frV at HLs
                    go_wp2_with (first
                      | ((with_reducible show wpList _ _ _ (⟨some 91, _, _, _, _, _⟩ :: _) _ _); refine wpList_lookup_is_ok (E := 90) (Value.int .i64) _ rfl (.tmp 89) (.tmp 90) 85 rfl keyed_int10 int_inj Try.underlying85 ml BF rfl (HMr.out) (q : Int) _ _ rfl (key_id10 (by omega)) (zero_line _) ?_; simp only [hf, Option.getD_some, Option.isSome_some])
                      | (go_at_call 65; (with_reducible refine (HLs.out _).mono ?_); rintro e w6 ⟨rfl, hb6⟩; have G6 := hid hb6; obtain ⟨hcw6, hfw6, hzw6⟩ := hb6.rules; (try simp at hzw6))
                      | ((with_reducible show wpList _ _ _ (⟨some 117, _, _, _, _, _⟩ :: _) _ _); refine wpList_append_rd _ rfl (.tmp 108) (.tmp 116) 88 rfl wc.heap.size 107 i0 (.agg #[.int .i64 0, .int .i64 0]) 2 16 Try.underlying88 HI0.out HZ0.out HS0.out HY0.out rfl (by decide) _ _ _ rfl (ownT_gf HOw.out ((gq.trans G6.out).alloc _)) (some ⟨w6.heap.size, 0, none⟩) 1 1 [.int .i64 rz.num, .int .i64 rz.den] rfl (rd_row10 (heap_alloc_new w6 _) 2 1 rfl) (by intro u hu; simp at hu; first | (rcases hu with rfl | rfl <;> rfl) | (subst hu; rfl)) (by have : maxLen = 9223372036854775807 := rfl; omega) (by omega) (by have h1 := BW.size; have h2 := (gq.trans G6.out).size; simp at h1 h2 ⊢; omega) ?_; intro A' c' w9 hown' hbel; have HW9 := hid hown'; have HB9 := hid (show Gr wc w9 from Below.trans ((BW.trans (gq.trans G6.out)).alloc _) hbel); clear hown' hbel))
                    go_roundg (n - (q + 1))
                    case measure => omega
                    case rel => exact ⟨q + 1, .slice A' (q + 1) c', by omega, by omega, rfl, by go_num, HB9.out, by unfold Hid; rw [HSn.out]; exact HW9.out⟩
              · have hqn' : ¬ (q : Int) < (n : Int) := by omega
                have hqe : q = n := by omega
                have hOw := HOw.out
                rw [hqe, HCh.out] at hOw
                have HR := hid (Rd.of_own hOw)
                have Gq := hid ((G4.out.trans Gc.out).trans BW)
                rw [hqe]
                clear HOw hOw
                go_upto_region 25 with (go_at_call 58; (with_reducible refine (HWh.out _ _ _ HR.out).mono ?_); rintro e w7 ⟨PA, pc, rfl, hown7, hb7⟩; have HO7 := hid hown7; have G7 := hid (Gq.out.trans hb7); have hwz := Nat.le_trans Gq.out.size (Nat.le_refl _); clear hown7 hb7)
                obtain ⟨_, g, off, hPe, hgb, _⟩ := (Rd.of_own HO7.out).int_at (k := i) hil
                subst hPe
                obtain rfl : off = 0 := own_off HO7.out
                have hgw : w.heap.size ≤ g := Nat.le_trans hwz (HO7.out.lt g rfl).1
                obtain ⟨hiw, ci⟩ := own_int_at (l := ws) HO7.out hil
                clear HR hgb
                by_cases hng : ws[i]! < 0
                · have HSg2 := hid HSg.out
                  rw [if_pos hng] at HSg2
                  have hngz : ws[i]! < 0 := hng
                  have HO8 := hid (own_mono10 HO7.out hwz)
                  generalize ws[i]! = wi at ci hngz hng
                  clear HO7
                  go_wp2_with fail
                  go_loopg [128] n (fun gg s128 wr => ∃ (q : Nat), q ≤ n ∧ n - q ≤ gg ∧ s128 = .int .i64 q ∧ Gr w wr ∧ Hid (wr.ownsRow w.heap.size 3 1 (.slice (some ⟨g, 0, none⟩) n pc) n (intsC (mapTo (fun z => -z) q ws))))
                  case atStart => exact ⟨0, Nat.zero_le _, by omega, rfl, G7.out, by rw [mapTo_zero]; exact HO8⟩
                  case round =>
                    obtain ⟨q, hq, hgq, rfl, BX, HOx⟩ := hrel
                    by_cases hql : q < n
                    · have hqn' : (q : Int) < (n : Int) := by omega
                      have hqz : (0 : Int) ≤ (q : Int) := by omega
                      obtain ⟨_, cq⟩ := own_int_at HOx.out hql
                      rw [mapTo_get] at cq
                      have hqw : q < ws.length := by omega
                      have hzb := HWz.out ws[q]! (by rw [getElem!_pos ws q hqw]; exact List.getElem_mem hqw)
                      have HSet : Hid ((intsC (mapTo (fun z => -z) q ws)).set q (.int .i64 (-ws[q]!)) = intsC (mapTo (fun z => -z) (q + 1) ws)) := by
                        show _ = _
                        rw [intsC_set]
                        exact congrArg intsC (mapTo_set (g := fun z : Int => -z) hqw)
                      have hfzq := own_fz HOx.out q
                      have hgr : g < wr.heap.size := block_lt_of_cell cq
                      generalize ws[q]! = z at *
                      have hwz2 : IntKind.i64.wrap (-z) = -z := by rw [IntKind.wrap_i64]; omega
                      clear hzb
                      go_wp2_with fail
                      go_roundg (n - (q + 1))
                      case measure => omega
                      case rel =>
                        refine ⟨q + 1, by omega, by omega, by go_num, Gr.setCell BX hgw _, ?_⟩
                        unfold Hid
                        have h := (World.ownsRow.stored HOx.out q (.int .i64 (-z))).1
                        rw [HSet.out] at h
                        exact h
                    · have hqn' : ¬ (q : Int) < (n : Int) := by omega
                      have hqe : q = n := by omega
                      have hOx := HOx.out
                      rw [mapTo_all (by omega), ← HSg2.out] at hOx
                      have HOz := hid hOx
                      clear hOx HOx
                      go_wp2
                      go_ret2
                      exact ⟨some ⟨g, 0, none⟩, n, ⟨pc, rfl⟩, BX, Rd.of_own HOz.out, by omega⟩
                · have HSg2 := hid HSg.out
                  rw [if_neg hng] at HSg2
                  generalize ws[i]! = wi at ci hng
                  go_wp2
                  go_ret2
                  exact ⟨some ⟨g, 0, none⟩, n, ⟨pc, rfl⟩, G7.out, by rw [HSg2.out]; exact Rd.of_own HO7.out, by omega⟩
  · rw [if_neg hE]
    unfold OpenRet at HOp
    simp only [if_neg hE] at HOp
    obtain ⟨E, hE'⟩ : ∃ E, auditN columns zs qs = E := ⟨_, rfl⟩
    rw [hE'] at HOp hE ⊢
    clear hi hq hE'
    unfold MeetsRet
    go_enter Try.func29, Try.ntmps29
    go_wp2_with (first
      | (go_at_call 51; (with_reducible refine (HOp.out _ (Gr.refl w)).mono ?_); rintro e w2 ⟨rfl, hb2⟩))
    go_ret2
    exact ⟨none, 0, 0, rfl, hb2, Rd.nil_, by omega⟩
end Go.Proofs.Ytimhkkijoelmhaa
