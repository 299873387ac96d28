/- Hide of the reference of layer 10. -/
import Derived.Test.YtimhkkijoelmhaaQHide10
namespace Go.Proofs.Ytimhkkijoelmhaa
open Go.RowKit

/-- The first number with a property, found from the top. -/
def fromTopP (p : Nat → Bool) (n : Nat) : Nat → Option Nat
  | 0 => none
  | d + 1 => if p (n - (d + 1)) = true then some (n - (d + 1)) else fromTopP p n d
theorem fromTopP_eq (p : Nat → Bool) (n d : Nat) (hd : d ≤ n) : fromTopP p n d = (List.range' (n - d) d).find? p := by
  induction d with
  | zero => rfl
  | succ d ih =>
    rw [fromTopP, List.range'_succ, List.find?_cons, show n - (d + 1) + 1 = n - d by omega, ← ih (by omega)]
    cases h : p (n - (d + 1)) <;> simp
theorem fromTopP_all (p : Nat → Bool) (n : Nat) : fromTopP p n n = (List.range n).find? p := by
  rw [fromTopP_eq p n n (Nat.le_refl _), Nat.sub_self, ← List.range_eq_range']

set_option maxRecDepth 100000 in
set_option maxHeartbeats 16000000 in
theorem refHide_any (columns : Int) (A : Option Addr) (n c : Nat) (zs : List Sbj) (QA : Option Addr) (qn qc : Nat) (qs : List Qst) (idn : Int) (w : World) (hi : SbjsIn w A n zs) (hq : QstsIn w QA qn qs) :
    Calls Try.prog 30 #[.int .i64 columns, .slice A n c, .slice QA qn qc, .int .i64 idn] w (MeetsRet (hideT columns zs qs idn).1 (hideT columns zs qs idn).2 w) := by
  have HCk := hid (fun W (k : Gr w W) => refchecked_any columns A n c zs QA qn qc qs W (hi.gr k) (hq.gr k))
  have hln := hi.len
  have hqn := hq.len
  unfold hideT
  by_cases hE : auditN columns zs qs = 0
  · rw [if_pos hE]
    rw [hE] at HCk
    obtain ⟨h16, h8⟩ := audit_16 hE
    have ht := (audit_table hE).1
    have HOr := hid (fun W (k : Gr w W) => refOrdIn_any columns A n c zs W (hi.gr k) ht)
    have HSo := hid (fun W (k : Gr w W) B bc (hb : SbjsIn W B n (ordI zs)) => refRows_any columns A n zs QA qn qc qs w W hi (hq.gr k) hE B bc hb)
    obtain ⟨D, hD0, hD1, hD2⟩ := solve_com zs.length qs.length (asksF (ordI zs) qs) h8
    have hrr : solveR zs.length qs.length (asksF (ordI zs) qs) qs.length = rowsR zs qs := rfl
    rw [hrr] at hD2
    clear hrr
    obtain ⟨q0, hbk⟩ := rows_bk zs qs
    rw [hln, hqn] at hbk
    have HBk := hid hbk
    generalize rowsR zs qs = rows at *
    rw [hln] at h16 ⊢
    rw [hqn] at h8
    generalize hes : ordI zs = es at *
    have hel : es.length = n := by rw [← hes, ← hln]; exact (ordI_perm zs).length_eq
    have hnz : (n : Int) ≤ 16 := by omega
    have HD2 := hid hD2
    clear hi hq hE hes hbk hD2 ht
    cases hfi : es.findIdx? (fun s => s.id == idn) with
    | none =>
      have HAt := hid (fun B bc W (h : SbjsIn W B n es) => refat_any B n bc es idn W h (by omega))
      rw [fidx_none hfi] at HAt
      unfold MeetsRet
      dsimp only
      clear hfi
      go_enter Try.func30, Try.ntmps30
      go_wp2_with (first
        | (go_at_call 53; (with_reducible refine (HCk.out _ (Gr.refl w)).mono ?_); rintro e w1 ⟨rfl, hb1⟩)
        | (go_at_call 46; (with_reducible refine (HOr.out _ hb1).mono ?_); rintro e w2 ⟨B, bc, rfl, hS2, hb2⟩)
        | (go_at_call 54; (with_reducible refine (HSo.out _ (hb1.trans hb2) _ _ hS2).mono ?_); rintro e w3 ⟨RA, r, rc, vs, rfl, hb3, hR3, hV3, hr3⟩)
        | (go_at_call 60; (with_reducible refine (HAt.out _ _ _ (hS2.gr hb3)).mono ?_); rintro e w4 ⟨rfl, hb4⟩))
      go_ret2
      exact ⟨none, 0, 0, rfl, ((hb1.trans hb2).trans hb3).trans hb4, Rd.nil_, by omega⟩
    | some i =>
      obtain ⟨hfx, hil0⟩ := fidx_some hfi
      have hil : i < n := by omega
      have HAt := hid (fun B bc W (h : SbjsIn W B n es) => refat_any B n bc es idn W h (by omega))
      rw [hfx] at HAt
      have HLi := hid (fun RA r rc vs W (h : RowsIn W RA r (n + qn) vs) (hr : r ≤ 1000) => leads_any RA r rc (n + qn) vs (i : Int) W h hr)
      clear hfi hfx hil0
      dsimp only
      have hi0 : (0 : Int) ≤ (i : Int) := by omega
      have hi1 : ¬ (i : Int) < 0 := by omega
      have hin : (i : Int) < (n : Int) := by omega
      have hsub : IntKind.i64.wrap ((n : Int) - 1) = (n : Int) - 1 := by rw [IntKind.wrap_i64]; omega
      cases hlk : lookR rows i with
      | none =>
        have hff : freeR n rows i = some i := by unfold freeR; rw [hlk]
        have HLn := hid (fun (vs : List RwV) (h : vs.map RwV.rw_ = rows) => lead_none h hlk)
        clear hlk
        rw [hff]
        dsimp only
        have hfn : i < n := hil
        have hcl := changeR_len n rows i
        have hcs := change_sm HD2.out i (n := n)
        obtain ⟨ch, hch⟩ : ∃ ch, changeR n rows i = ch := ⟨_, rfl⟩
        rw [hch] at hcl hcs ⊢
        have HCh := hid hch
        have HNm := hid (fun A c W h => numbers10_any A n c D ch W h hcl (by omega) (fun x hx => (hcs x hx).1) hD0 (by omega) (fun x hx => Nat.le_trans (hcs x hx).2 (by omega)))
        have hwl := wholeR_len ch
        have hwle := wholeR_le (fun x hx => (hcs x hx).1) hD0 (fun x hx => (hcs x hx).2)
        rw [hcl] at hwl
        generalize wholeR ch = ws at *
        have HWz : Hid (∀ z ∈ ws, -1700000000 ≤ z ∧ z ≤ 1700000000) := by
          intro z hz
          have h1 := hwle z hz
          have h2 : D * 40320 ≤ 40320 * 40320 := Nat.mul_le_mul_right _ hD1
          omega
        clear hcs hch hwle
        unfold MeetsRet
        have HSg := hid (show signI i ws = if ws[i]! < 0 then ws.map (fun z => -z) else ws from rfl)
        generalize signI i ws = out at *
        obtain ⟨i0, hi0', hz0, hs0, hy0⟩ := info_parts info_rf10
        have HI0 := hid hi0'
        have HZ0 := hid hz0
        have HS0 := hid hs0
        have HY0 := hid hy0
        clear hi0' hz0 hs0 hy0
        go_enter Try.func30, Try.ntmps30
        go_upto_region 6 with (first
          | (go_at_call 53; (with_reducible refine (HCk.out _ (Gr.refl w)).mono ?_); rintro e w1 ⟨rfl, hb1⟩)
          | (go_at_call 46; (with_reducible refine (HOr.out _ hb1).mono ?_); rintro e w2 ⟨B, bc, rfl, hS2, hb2⟩)
          | (go_at_call 54; (with_reducible refine (HSo.out _ (hb1.trans hb2) _ _ hS2).mono ?_); rintro e w3 ⟨RA, r, rc, vs, rfl, hb3, hR3, hV3, hr3⟩))
        have G3 := hid ((hb1.trans hb2).trans hb3)
        have hS3 := hS2.gr hb3
        have HRs := hid hR3
        have HVs := hid hV3
        have hrl := hR3.len
        have hLn := HLn.out vs hV3
        clear hb1 hb2 hb3 hS2 hR3 hV3
        go_upto_region 20 with (first
          | (go_at_call 60; (with_reducible refine (HAt.out _ _ _ hS3).mono ?_); rintro e w4 ⟨rfl, hb4⟩; have G4 := hid hb4; have hR4 := HRs.out.gr hb4; clear hb4)
          | (go_at_call 55; (with_reducible refine (HLi.out _ _ _ _ _ hR4 hr3).mono ?_); rw [hLn]; rintro e wy ⟨rfl, hby⟩; have Gc0 := hid (G4.out.trans hby); clear hby))
        obtain ⟨wc, hwc⟩ : ∃ wc, wc = wy := ⟨_, rfl⟩
        have Gc : Hid (Gr w3 wc) := by rw [hwc]; exact Gc0
        rw [← hwc]
        clear Gc0 hwc hR4
        go_wp2_with fail
        go_loopg [16, 17] n (fun gg s16 s17 wr => ∃ (q : Nat) (v16 : Value), q ≤ n ∧ n - q ≤ gg ∧ s16 = v16 ∧ s17 = .int .i64 q ∧ Gr wc wr ∧ Hid (wr.ownsRow wc.heap.size 110 2 v16 q ((changeR q rows i).flatMap frC)))
        case atStart => exact ⟨0, _, Nat.zero_le _, by omega, rfl, rfl, Gr.refl wc, ⟨rfl, .inl ⟨rfl, rfl⟩⟩⟩
        case round =>
          obtain ⟨q, v16, hq, hgq, rfl, rfl, BW, HOw⟩ := hrel
          obtain ⟨OA, oc, hov⟩ := own_slice HOw.out
          subst hov
          by_cases hql : q < n
          · have hqn' : (q : Int) < (n : Int) := by omega
            have hqz : (0 : Int) ≤ (q : Int) := by omega
            have HSn : Hid ((changeR (q + 1) rows i).flatMap frC = (changeR q rows i).flatMap frC ++ frC (changeX rows i q)) := by
              show _ = _
              rw [changeR_succ, List.flatMap_append]; simp
            have HLd := hid (fun W (g : Gr w3 W) => leads_any RA r rc (n + qn) vs (q : Int) W (HRs.out.gr g) hr3)
            generalize (changeR q rows i).flatMap frC = o at *
            unfold changeX at HSn
            cases hlq : lookR rows q with
            | none =>
              rw [lead_none HVs.out hlq] at HLd
              rw [hlq] at HSn
              clear hlq
              by_cases hqf : q = i
              · rw [if_pos hqf] at HSn
                subst hqf
                go_wp2_with (first
                  | (go_at_call 55; (with_reducible refine (HLd.out _ (Gc.out.trans BW)).mono ?_); rintro e w5 ⟨rfl, hb5⟩; have G5 := hid hb5; obtain ⟨hcw5, hfw5, hzw5⟩ := hb5.rules; (try simp at hzw5))
                  | ((with_reducible show wpList _ _ _ (⟨some 98, _, _, _, _, _⟩ :: _) _ _); refine wpList_append_rd _ rfl (.tmp 95) (.tmp 97) 97 rfl wc.heap.size 110 i0 (.agg #[.int .i64 0, .int .i64 0]) 2 16 Try.underlying97 HI0.out HZ0.out HS0.out HY0.out rfl (by decide) _ _ _ rfl (ownT_gf HOw.out ((G5.out).alloc _)) (some ⟨w5.heap.size, 0, none⟩) 1 1 [.int .i64 1, .int .i64 1] rfl (rd_row10 (heap_alloc_new w5 _) 2 1 rfl) (by intro u hu; simp at hu; first | (rcases hu with rfl | rfl <;> rfl) | (subst hu; rfl)) (by have : maxLen = 9223372036854775807 := rfl; omega) (by omega) (by have h1 := BW.size; have h2 := (G5.out).size; simp at h1 h2 ⊢; omega) ?_; intro A' c' w9 hown' hbel; have HW9 := hid hown'; have HB9 := hid (show Gr wc w9 from Below.trans ((BW.trans (G5.out)).alloc _) hbel); clear hown' hbel))
                go_roundg (n - (q + 1))
                case measure => omega
                case rel => exact ⟨q + 1, .slice A' (q + 1) c', by omega, by omega, rfl, by go_num, HB9.out, by unfold Hid; rw [HSn.out]; exact HW9.out⟩
              · have hqfz : ¬ (q : Int) = (i : Int) := by omega
                rw [if_neg hqf] at HSn
                go_wp2_with (first
                  | (go_at_call 55; (with_reducible refine (HLd.out _ (Gc.out.trans BW)).mono ?_); rintro e w5 ⟨rfl, hb5⟩; have G5 := hid hb5; obtain ⟨hcw5, hfw5, hzw5⟩ := hb5.rules; (try simp at hzw5))
                  | ((with_reducible show wpList _ _ _ (⟨some 105, _, _, _, _, _⟩ :: _) _ _); refine wpList_append_rd _ rfl (.tmp 102) (.tmp 104) 97 rfl wc.heap.size 110 i0 (.agg #[.int .i64 0, .int .i64 0]) 2 16 Try.underlying97 HI0.out HZ0.out HS0.out HY0.out rfl (by decide) _ _ _ rfl (ownT_gf HOw.out ((G5.out).alloc _)) (some ⟨w5.heap.size, 0, none⟩) 1 1 [.int .i64 0, .int .i64 1] rfl (rd_row10 (heap_alloc_new w5 _) 2 1 rfl) (by intro u hu; simp at hu; first | (rcases hu with rfl | rfl <;> rfl) | (subst hu; rfl)) (by have : maxLen = 9223372036854775807 := rfl; omega) (by omega) (by have h1 := BW.size; have h2 := (G5.out).size; simp at h1 h2 ⊢; omega) ?_; intro A' c' w9 hown' hbel; have HW9 := hid hown'; have HB9 := hid (show Gr wc w9 from Below.trans ((BW.trans (G5.out)).alloc _) hbel); clear hown' hbel))
                go_roundg (n - (q + 1))
                case measure => omega
                case rel => exact ⟨q + 1, .slice A' (q + 1) c', by omega, by omega, rfl, by go_num, HB9.out, by unfold Hid; rw [HSn.out]; exact HW9.out⟩
            | some xr =>
              obtain ⟨kq, hkq, hfq, hqi, hqx⟩ := lead_some HVs.out HBk.out.nd hlq
              rw [hfq] at HLd
              rw [hlq] at HSn
              dsimp only at HSn
              have hkr : (kq : Int) < (r : Int) := by omega
              have hk0 : (0 : Int) ≤ (kq : Int) := by omega
              have hk1 : ¬ (kq : Int) < 0 := by omega
              by_cases hqf : q = i
              · rw [if_pos hqf] at HSn
                subst hqf
                clear hlq hqi hqx hfq
                go_wp2_with (first
                  | (go_at_call 55; (with_reducible refine (HLd.out _ (Gc.out.trans BW)).mono ?_); rintro e w5 ⟨rfl, hb5⟩; have G5 := hid hb5; obtain ⟨hcw5, hfw5, hzw5⟩ := hb5.rules; (try simp at hzw5))
                  | ((with_reducible show wpList _ _ _ (⟨some 98, _, _, _, _, _⟩ :: _) _ _); refine wpList_append_rd _ rfl (.tmp 95) (.tmp 97) 97 rfl wc.heap.size 110 i0 (.agg #[.int .i64 0, .int .i64 0]) 2 16 Try.underlying97 HI0.out HZ0.out HS0.out HY0.out rfl (by decide) _ _ _ rfl (ownT_gf HOw.out ((G5.out).alloc _)) (some ⟨w5.heap.size, 0, none⟩) 1 1 [.int .i64 1, .int .i64 1] rfl (rd_row10 (heap_alloc_new w5 _) 2 1 rfl) (by intro u hu; simp at hu; first | (rcases hu with rfl | rfl <;> rfl) | (subst hu; rfl)) (by have : maxLen = 9223372036854775807 := rfl; omega) (by omega) (by have h1 := BW.size; have h2 := (G5.out).size; simp at h1 h2 ⊢; omega) ?_; intro A' c' w9 hown' hbel; have HW9 := hid hown'; have HB9 := hid (show Gr wc w9 from Below.trans ((BW.trans (G5.out)).alloc _) hbel); clear hown' hbel))
                go_roundg (n - (q + 1))
                case measure => omega
                case rel => exact ⟨q + 1, .slice A' (q + 1) c', by omega, by omega, rfl, by go_num, HB9.out, by unfold Hid; rw [HSn.out]; exact HW9.out⟩
              · have hqfz : ¬ (q : Int) = (i : Int) := by omega
                rw [if_neg hqf] at HSn
                have GRr := Gc.out.trans BW
                obtain ⟨_, bb2, oo2, hRe2, hbb2, _, d1⟩ := (HRs.out.gr GRr).at_ (show kq < r by omega)
                cases hRe2
                obtain ⟨hx1, _, hx3⟩ := (HRs.out.gr GRr).each vs[kq]! (by rw [getElem!_pos vs kq hkq]; exact List.getElem_mem hkq)
                rw [hqx] at hx1 hx3
                generalize vs[kq]!.a = ra2 at *
                generalize vs[kq]!.c = rc2 at *
                obtain ⟨_, bz, oz, rfl, hbz, e0, e1⟩ := hx1.fr (k := i) (by omega)
                have hzz : xr[i]! = cv xr i := by rw [getElem!_pos _ i (by omega), cv_lt (by omega)]
                rw [hzz] at e0 e1
                have hsz : Sm 40320 (cv xr i) := by
                  rw [cv_lt (by omega)]
                  exact (HD2.out _ (lookR_some hlq) _ (List.getElem_mem (show i < xr.length by omega))).2
                have HMn := hid (fun W => minus_any 0 (cv xr i) 40320 40320 W (sm_bit (.inl rfl)) hsz (by omega))
                rw [frV_zero] at HMn
                clear hzz hsz hx1 hx3 hqx hqi hfq hlq
                have hfN : (i : Int) < ((n + qn : Nat) : Int) := by omega
                have hfN2 : (i : Int) < (n : Int) + (qn : Int) := by omega
                obtain ⟨rz, hrz⟩ : ∃ rz, 0 - cv xr i = rz := ⟨_, rfl⟩
                rw [hrz] at HMn HSn
                clear hrz
                generalize cv xr i = z at *
                unfold frV at HMn
                go_wp2_with (first
                  | (go_at_call 55; (with_reducible refine (HLd.out _ (Gc.out.trans BW)).mono ?_); rintro e w5 ⟨rfl, hb5⟩; have G5 := hid hb5; replace d1 := row_cell d1 hb5; replace e0 := row_cell e0 hb5; replace e1 := row_cell e1 hb5; have hbb5 := Nat.lt_of_lt_of_le hbb2 hb5.size; have hbz5 := Nat.lt_of_lt_of_le hbz hb5.size; clear hb5)
                  | (go_at_call 66; (with_reducible refine (HMn.out _).mono ?_); rintro e w6 ⟨rfl, hb6⟩; have G6 := hid (G5.out.trans hb6); clear hb6)
                  | ((with_reducible show wpList _ _ _ (⟨some 90, _, _, _, _, _⟩ :: _) _ _); refine wpList_append_rd _ rfl (.tmp 78) (.tmp 89) 97 rfl wc.heap.size 110 i0 (.agg #[.int .i64 0, .int .i64 0]) 2 16 Try.underlying97 HI0.out HZ0.out HS0.out HY0.out rfl (by decide) _ _ _ rfl (ownT_gf HOw.out ((G6.out).alloc _)) (some ⟨w6.heap.size, 0, none⟩) 1 1 [.int .i64 rz.num, .int .i64 rz.den] rfl (rd_row10 (heap_alloc_new w6 _) 2 1 rfl) (by intro u hu; simp at hu; first | (rcases hu with rfl | rfl <;> rfl) | (subst hu; rfl)) (by have : maxLen = 9223372036854775807 := rfl; omega) (by omega) (by have h1 := BW.size; have h2 := (G6.out).size; simp at h1 h2 ⊢; omega) ?_; intro A' c' w9 hown' hbel; have HW9 := hid hown'; have HB9 := hid (show Gr wc w9 from Below.trans ((BW.trans (G6.out)).alloc _) hbel); clear hown' hbel))
                go_roundg (n - (q + 1))
                case measure => omega
                case rel => exact ⟨q + 1, .slice A' (q + 1) c', by omega, by omega, rfl, by go_num, HB9.out, by unfold Hid; rw [HSn.out]; exact HW9.out⟩
          · have hqn' : ¬ (q : Int) < (n : Int) := by omega
            have hqe : q = n := by omega
            have hOw := HOw.out
            rw [hqe, HCh.out] at hOw
            have HR := hid (Rd.of_own hOw)
            have Gq := hid ((G3.out.trans Gc.out).trans BW)
            rw [hqe]
            clear HOw hOw
            go_upto_region 31 with (go_at_call 61; (with_reducible refine (HNm.out _ _ _ HR.out).mono ?_); rintro e w7 ⟨PA, pc, rfl, hown7, hb7⟩; have HO7 := hid hown7; have G7 := hid (Gq.out.trans hb7); have hwz := Nat.le_trans Gq.out.size (Nat.le_refl _); clear hown7 hb7)
            obtain ⟨_, g, off, hPe, hgb, _⟩ := (Rd.of_own HO7.out).int_at (k := i) hil
            subst hPe
            obtain rfl : off = 0 := own_off HO7.out
            have hgw : w.heap.size ≤ g := Nat.le_trans hwz (HO7.out.lt g rfl).1
            obtain ⟨hiw, ci⟩ := own_int_at (l := ws) HO7.out hil
            clear HR hgb
            by_cases hng : ws[i]! < 0
            · have HSg2 := hid HSg.out
              rw [if_pos hng] at HSg2
              have hngz : ws[i]! < 0 := hng
              have HO8 := hid (own_mono10 HO7.out hwz)
              generalize ws[i]! = wi at ci hngz hng
              clear HO7
              go_wp2_with fail
              go_loopg [20] n (fun gg s20 wr => ∃ (q : Nat), q ≤ n ∧ n - q ≤ gg ∧ s20 = .int .i64 q ∧ Gr w wr ∧ Hid (wr.ownsRow w.heap.size 3 1 (.slice (some ⟨g, 0, none⟩) n pc) n (intsC (mapTo (fun z => -z) q ws))))
              case atStart => exact ⟨0, Nat.zero_le _, by omega, rfl, G7.out, by rw [mapTo_zero]; exact HO8⟩
              case round =>
                obtain ⟨q, hq, hgq, rfl, BX, HOx⟩ := hrel
                by_cases hql : q < n
                · have hqn' : (q : Int) < (n : Int) := by omega
                  have hqz : (0 : Int) ≤ (q : Int) := by omega
                  obtain ⟨_, cq⟩ := own_int_at HOx.out hql
                  rw [mapTo_get] at cq
                  have hqw : q < ws.length := by omega
                  have hzb := HWz.out ws[q]! (by rw [getElem!_pos ws q hqw]; exact List.getElem_mem hqw)
                  have HSet : Hid ((intsC (mapTo (fun z => -z) q ws)).set q (.int .i64 (-ws[q]!)) = intsC (mapTo (fun z => -z) (q + 1) ws)) := by
                    show _ = _
                    rw [intsC_set]
                    exact congrArg intsC (mapTo_set (g := fun z : Int => -z) hqw)
                  have hfzq := own_fz HOx.out q
                  have hgr : g < wr.heap.size := block_lt_of_cell cq
                  generalize ws[q]! = z at *
                  have hwz2 : IntKind.i64.wrap (-z) = -z := by rw [IntKind.wrap_i64]; omega
                  clear hzb
                  go_wp2_with fail
                  go_roundg (n - (q + 1))
                  case measure => omega
                  case rel =>
                    refine ⟨q + 1, by omega, by omega, by go_num, Gr.setCell BX hgw _, ?_⟩
                    unfold Hid
                    have h := (World.ownsRow.stored HOx.out q (.int .i64 (-z))).1
                    rw [HSet.out] at h
                    exact h
                · have hqn' : ¬ (q : Int) < (n : Int) := by omega
                  have hqe : q = n := by omega
                  have hOx := HOx.out
                  rw [mapTo_all (by omega), ← HSg2.out] at hOx
                  have HOz := hid hOx
                  clear hOx HOx
                  go_wp2
                  go_ret2
                  exact ⟨some ⟨g, 0, none⟩, n, ⟨pc, rfl⟩, BX, Rd.of_own HOz.out, by omega⟩
            · have HSg2 := hid HSg.out
              rw [if_neg hng] at HSg2
              generalize ws[i]! = wi at ci hng
              go_wp2
              go_ret2
              exact ⟨some ⟨g, 0, none⟩, n, ⟨pc, rfl⟩, G7.out, by rw [HSg2.out]; exact Rd.of_own HO7.out, by omega⟩
      | some x =>
        have hfr0 : freeR n rows i = otherR n i x := by unfold freeR; rw [hlk]
        have HLs := hid (fun (vs : List RwV) (h : vs.map RwV.rw_ = rows) => lead_some h HBk.out.nd hlk)
        have hxl : x.length = n + qn := HBk.out.len _ (lookR_some hlk)
        clear hlk
        rw [hfr0]
        have HTop := hid (fromTopP_all (fun j => decide (j ≠ i) && decide (cv x j ≠ 0)) n)
        have HOt : Hid ((List.range n).find? (fun j => decide (j ≠ i) && decide (cv x j ≠ 0)) = otherR n i x) := rfl
        cases hot : otherR n i x with
        | none =>
          dsimp only
          unfold MeetsRet
          go_enter Try.func30, Try.ntmps30
          go_upto_region 6 with (first
            | (go_at_call 53; (with_reducible refine (HCk.out _ (Gr.refl w)).mono ?_); rintro e w1 ⟨rfl, hb1⟩)
            | (go_at_call 46; (with_reducible refine (HOr.out _ hb1).mono ?_); rintro e w2 ⟨B, bc, rfl, hS2, hb2⟩)
            | (go_at_call 54; (with_reducible refine (HSo.out _ (hb1.trans hb2) _ _ hS2).mono ?_); rintro e w3 ⟨RA, r, rc, vs, rfl, hb3, hR3, hV3, hr3⟩))
          have G3 := hid ((hb1.trans hb2).trans hb3)
          have hS3 := hS2.gr hb3
          have HRs := hid hR3
          have HVs := hid hV3
          have hrl := hR3.len
          obtain ⟨k, hk, hLn, hki, hkx⟩ := HLs.out vs hV3
          have hkr : (k : Int) < (r : Int) := by omega
          have hk0 : (0 : Int) ≤ (k : Int) := by omega
          clear hb1 hb2 hb3 hS2 hR3 hV3
          go_upto_region 13 with (first
            | (go_at_call 60; (with_reducible refine (HAt.out _ _ _ hS3).mono ?_); rintro e w4 ⟨rfl, hb4⟩; have G4 := hid hb4; have hR4 := HRs.out.gr hb4; clear hb4)
            | (go_at_call 55; (with_reducible refine (HLi.out _ _ _ _ _ hR4 hr3).mono ?_); rw [hLn]; rintro e wy ⟨rfl, hby⟩; have Gc0 := hid (G4.out.trans hby); clear hby))
          go_wp2_with fail
          obtain ⟨ws0, hws0⟩ : ∃ ws0, ws0 = wy := ⟨_, rfl⟩
          have Gs0 : Hid (Gr w3 ws0) := by rw [hws0]; exact Gc0
          rw [← hws0]
          clear Gc0 hws0 hR4
          go_loopg [13, 15] (n + 1) (fun gg s13 s15 wr => ∃ (d : Nat), d ≤ n ∧ n - d ≤ gg ∧ s13 = .int .i64 (atI (fromTopP (fun j => decide (j ≠ i) && decide (cv x j ≠ 0)) n d)) ∧ s15 = .int .i64 ((n : Int) - d - 1) ∧ Gr w3 wr)
          case atStart => exact ⟨0, Nat.zero_le _, by omega, rfl, by simp, Gs0.out⟩
          case round =>
            obtain ⟨d, hd, hgd, rfl, rfl, BV⟩ := hrel
            by_cases hdn : d < n
            · obtain ⟨t, ht⟩ : ∃ t, n - (d + 1) = t := ⟨_, rfl⟩
              have htI : (n : Int) - d - 1 = (t : Int) := by omega
              have ht0 : (0 : Int) ≤ (t : Int) := by omega
              have htN : (t : Int) < ((n + qn : Nat) : Int) := by omega
              have htN2 : (t : Int) < (n : Int) + (qn : Int) := by omega
              have hdec : IntKind.i64.wrap ((t : Int) - 1) = (t : Int) - 1 := by rw [IntKind.wrap_i64]; omega
              have HSt : Hid (fromTopP (fun j => decide (j ≠ i) && decide (cv x j ≠ 0)) n (d + 1) = if (decide (t ≠ i) && decide (cv x t ≠ 0)) = true then some t else fromTopP (fun j => decide (j ≠ i) && decide (cv x j ≠ 0)) n d) := by
                show _ = _
                rw [fromTopP, ht]
              rw [htI]
              by_cases hti : t = i
              · have hti2 : (t : Int) = (i : Int) := by omega
                have HF : Hid (fromTopP (fun j => decide (j ≠ i) && decide (cv x j ≠ 0)) n (d + 1) = fromTopP (fun j => decide (j ≠ i) && decide (cv x j ≠ 0)) n d) := by
                  show _ = _
                  rw [HSt.out, if_neg (by simp [hti])]
                have hfin : n - (d + 1) = i := by omega
                clear HSt
                obtain ⟨a, ha⟩ : ∃ a, atI (fromTopP (fun j => decide (j ≠ i) && decide (cv x j ≠ 0)) n d) = a := ⟨_, rfl⟩
                rw [ha]
                have HA := hid ha
                rw [hti] at hdec
                rw [hti2]
                clear ha hti2 hti htI ht ht0 htN htN2
                go_wp2_with fail
                go_roundg (n - (d + 1))
                case measure => omega
                case rel => exact ⟨d + 1, by omega, by omega, by rw [HF.out, HA.out], by congr 1; omega, BV⟩
              · have hti2 : ¬ (t : Int) = (i : Int) := by omega
                obtain ⟨_, bb, oo, hRe, hbb, _, d1⟩ := (HRs.out.gr BV).at_ (show k < r by omega)
                cases hRe
                obtain ⟨hx1, _, hx3⟩ := (HRs.out.gr BV).each vs[k]! (by rw [getElem!_pos vs k hk]; exact List.getElem_mem hk)
                rw [hkx] at hx1 hx3
                obtain ⟨_, bz, oz, hze, hbz, e0, e1⟩ := hx1.fr (k := t) (by omega)
                rw [hze] at d1
                have hzz : x[t]! = cv x t := by rw [getElem!_pos _ t (by omega), cv_lt (by omega)]
                rw [hzz] at e0
                have hne : ((t : Int) != (i : Int)) = true := by simpa using hti2
                clear hx1 hx3 hze e1 hzz
                generalize vs[k]!.c = rc2 at *
                obtain ⟨a, ha⟩ : ∃ a, atI (fromTopP (fun j => decide (j ≠ i) && decide (cv x j ≠ 0)) n d) = a := ⟨_, rfl⟩
                rw [ha]
                have HA := hid ha
                clear ha
                by_cases hz : (cv x t).num = 0
                · have HF : Hid (fromTopP (fun j => decide (j ≠ i) && decide (cv x j ≠ 0)) n (d + 1) = fromTopP (fun j => decide (j ≠ i) && decide (cv x j ≠ 0)) n d) := by
                    show _ = _
                    rw [HSt.out, if_neg (by simp [Rat.num_eq_zero.1 hz])]
                  rw [hz] at e0
                  clear HSt
                  go_wp2_with fail
                  go_roundg (n - (d + 1))
                  case measure => omega
                  case rel => exact ⟨d + 1, by omega, by omega, by rw [HF.out, HA.out], by congr 1; omega, BV⟩
                · have HF : Hid (fromTopP (fun j => decide (j ≠ i) && decide (cv x j ≠ 0)) n (d + 1) = some t) := by
                    show _ = _
                    rw [HSt.out, if_pos (by simp [hti, show cv x t ≠ 0 from fun h => hz (Rat.num_eq_zero.2 h)])]
                  clear HSt
                  generalize (cv x t).num = zn at *
                  have hzb : (zn != 0) = true := by simpa using hz
                  go_wp2_with fail
                  go_roundg (n - (d + 1))
                  case measure => omega
                  case rel => exact ⟨d + 1, by omega, by omega, by rw [HF.out]; rfl, by congr 1; omega, BV⟩
            · have hdn2 : d = n := by omega
              have hneg : ¬ (0 : Int) ≤ (n : Int) - d - 1 := by omega
              rw [hdn2, HTop.out, HOt.out, hot]
              dsimp only [atI]
              rw [hdn2] at hneg
              clear HTop HOt hot
              go_wp2
              go_ret2
              exact ⟨none, 0, ⟨0, rfl⟩, G3.out.trans BV, Rd.nil_, by omega⟩
        | some f =>
          dsimp only
          have hfn : f < n := by
            unfold otherR at hot
            exact List.mem_range.1 (List.mem_of_find?_eq_some hot)
          have hf0 : (0 : Int) ≤ (f : Int) := by omega
          have hf1 : ¬ (f : Int) < 0 := by omega
          have hcl := changeR_len n rows f
          have hcs := change_sm HD2.out f (n := n)
          obtain ⟨ch, hch⟩ : ∃ ch, changeR n rows f = ch := ⟨_, rfl⟩
          rw [hch] at hcl hcs ⊢
          have HCh := hid hch
          have HNm := hid (fun A c W h => numbers10_any A n c D ch W h hcl (by omega) (fun x hx => (hcs x hx).1) hD0 (by omega) (fun x hx => Nat.le_trans (hcs x hx).2 (by omega)))
          have hwl := wholeR_len ch
          have hwle := wholeR_le (fun x hx => (hcs x hx).1) hD0 (fun x hx => (hcs x hx).2)
          rw [hcl] at hwl
          generalize wholeR ch = ws at *
          have HWz : Hid (∀ z ∈ ws, -1700000000 ≤ z ∧ z ≤ 1700000000) := by
            intro z hz
            have h1 := hwle z hz
            have h2 : D * 40320 ≤ 40320 * 40320 := Nat.mul_le_mul_right _ hD1
            omega
          clear hcs hch hwle
          unfold MeetsRet
          have HSg := hid (show signI i ws = if ws[i]! < 0 then ws.map (fun z => -z) else ws from rfl)
          generalize signI i ws = out at *
          obtain ⟨i0, hi0', hz0, hs0, hy0⟩ := info_parts info_rf10
          have HI0 := hid hi0'
          have HZ0 := hid hz0
          have HS0 := hid hs0
          have HY0 := hid hy0
          clear hi0' hz0 hs0 hy0
          go_enter Try.func30, Try.ntmps30
          go_upto_region 6 with (first
            | (go_at_call 53; (with_reducible refine (HCk.out _ (Gr.refl w)).mono ?_); rintro e w1 ⟨rfl, hb1⟩)
            | (go_at_call 46; (with_reducible refine (HOr.out _ hb1).mono ?_); rintro e w2 ⟨B, bc, rfl, hS2, hb2⟩)
            | (go_at_call 54; (with_reducible refine (HSo.out _ (hb1.trans hb2) _ _ hS2).mono ?_); rintro e w3 ⟨RA, r, rc, vs, rfl, hb3, hR3, hV3, hr3⟩))
          have G3 := hid ((hb1.trans hb2).trans hb3)
          have hS3 := hS2.gr hb3
          have HRs := hid hR3
          have HVs := hid hV3
          have hrl := hR3.len
          obtain ⟨k, hk, hLn, hki, hkx⟩ := HLs.out vs hV3
          have hkr : (k : Int) < (r : Int) := by omega
          have hk0 : (0 : Int) ≤ (k : Int) := by omega
          clear hb1 hb2 hb3 hS2 hR3 hV3
          go_upto_region 13 with (first
            | (go_at_call 60; (with_reducible refine (HAt.out _ _ _ hS3).mono ?_); rintro e w4 ⟨rfl, hb4⟩; have G4 := hid hb4; have hR4 := HRs.out.gr hb4; clear hb4)
            | (go_at_call 55; (with_reducible refine (HLi.out _ _ _ _ _ hR4 hr3).mono ?_); rw [hLn]; rintro e wy ⟨rfl, hby⟩; have Gc0 := hid (G4.out.trans hby); clear hby))
          go_wp2_with fail
          obtain ⟨ws0, hws0⟩ : ∃ ws0, ws0 = wy := ⟨_, rfl⟩
          have Gs0 : Hid (Gr w3 ws0) := by rw [hws0]; exact Gc0
          rw [← hws0]
          clear Gc0 hws0 hR4
          go_loopg [13, 15] (n + 1) (fun gg s13 s15 wr => ∃ (d : Nat), d ≤ n ∧ n - d ≤ gg ∧ s13 = .int .i64 (atI (fromTopP (fun j => decide (j ≠ i) && decide (cv x j ≠ 0)) n d)) ∧ s15 = .int .i64 ((n : Int) - d - 1) ∧ Gr w3 wr)
          case atStart => exact ⟨0, Nat.zero_le _, by omega, rfl, by simp, Gs0.out⟩
          case round =>
            obtain ⟨d, hd, hgd, rfl, rfl, BV⟩ := hrel
            by_cases hdn : d < n
            · obtain ⟨t, ht⟩ : ∃ t, n - (d + 1) = t := ⟨_, rfl⟩
              have htI : (n : Int) - d - 1 = (t : Int) := by omega
              have ht0 : (0 : Int) ≤ (t : Int) := by omega
              have htN : (t : Int) < ((n + qn : Nat) : Int) := by omega
              have htN2 : (t : Int) < (n : Int) + (qn : Int) := by omega
              have hdec : IntKind.i64.wrap ((t : Int) - 1) = (t : Int) - 1 := by rw [IntKind.wrap_i64]; omega
              have HSt : Hid (fromTopP (fun j => decide (j ≠ i) && decide (cv x j ≠ 0)) n (d + 1) = if (decide (t ≠ i) && decide (cv x t ≠ 0)) = true then some t else fromTopP (fun j => decide (j ≠ i) && decide (cv x j ≠ 0)) n d) := by
                show _ = _
                rw [fromTopP, ht]
              rw [htI]
              by_cases hti : t = i
              · have hti2 : (t : Int) = (i : Int) := by omega
                have HF : Hid (fromTopP (fun j => decide (j ≠ i) && decide (cv x j ≠ 0)) n (d + 1) = fromTopP (fun j => decide (j ≠ i) && decide (cv x j ≠ 0)) n d) := by
                  show _ = _
                  rw [HSt.out, if_neg (by simp [hti])]
                have hfin : n - (d + 1) = i := by omega
                clear HSt
                obtain ⟨a, ha⟩ : ∃ a, atI (fromTopP (fun j => decide (j ≠ i) && decide (cv x j ≠ 0)) n d) = a := ⟨_, rfl⟩
                rw [ha]
                have HA := hid ha
                rw [hti] at hdec
                rw [hti2]
                clear ha hti2 hti htI ht ht0 htN htN2
                go_wp2_with fail
                go_roundg (n - (d + 1))
                case measure => omega
                case rel => exact ⟨d + 1, by omega, by omega, by rw [HF.out, HA.out], by congr 1; omega, BV⟩
              · have hti2 : ¬ (t : Int) = (i : Int) := by omega
                obtain ⟨_, bb, oo, hRe, hbb, _, d1⟩ := (HRs.out.gr BV).at_ (show k < r by omega)
                cases hRe
                obtain ⟨hx1, _, hx3⟩ := (HRs.out.gr BV).each vs[k]! (by rw [getElem!_pos vs k hk]; exact List.getElem_mem hk)
                rw [hkx] at hx1 hx3
                obtain ⟨_, bz, oz, hze, hbz, e0, e1⟩ := hx1.fr (k := t) (by omega)
                rw [hze] at d1
                have hzz : x[t]! = cv x t := by rw [getElem!_pos _ t (by omega), cv_lt (by omega)]
                rw [hzz] at e0
                have hne : ((t : Int) != (i : Int)) = true := by simpa using hti2
                clear hx1 hx3 hze e1 hzz
                generalize vs[k]!.c = rc2 at *
                obtain ⟨a, ha⟩ : ∃ a, atI (fromTopP (fun j => decide (j ≠ i) && decide (cv x j ≠ 0)) n d) = a := ⟨_, rfl⟩
                rw [ha]
                have HA := hid ha
                clear ha
                by_cases hz : (cv x t).num = 0
                · have HF : Hid (fromTopP (fun j => decide (j ≠ i) && decide (cv x j ≠ 0)) n (d + 1) = fromTopP (fun j => decide (j ≠ i) && decide (cv x j ≠ 0)) n d) := by
                    show _ = _
                    rw [HSt.out, if_neg (by simp [Rat.num_eq_zero.1 hz])]
                  rw [hz] at e0
                  clear HSt
                  go_wp2_with fail
                  go_roundg (n - (d + 1))
                  case measure => omega
                  case rel => exact ⟨d + 1, by omega, by omega, by rw [HF.out, HA.out], by congr 1; omega, BV⟩
                · have HF : Hid (fromTopP (fun j => decide (j ≠ i) && decide (cv x j ≠ 0)) n (d + 1) = some t) := by
                    show _ = _
                    rw [HSt.out, if_pos (by simp [hti, show cv x t ≠ 0 from fun h => hz (Rat.num_eq_zero.2 h)])]
                  clear HSt
                  generalize (cv x t).num = zn at *
                  have hzb : (zn != 0) = true := by simpa using hz
                  go_wp2_with fail
                  go_roundg (n - (d + 1))
                  case measure => omega
                  case rel => exact ⟨d + 1, by omega, by omega, by rw [HF.out]; rfl, by congr 1; omega, BV⟩
            · have hdn2 : d = n := by omega
              have hneg : ¬ (0 : Int) ≤ (n : Int) - d - 1 := by omega
              rw [hdn2, HTop.out, HOt.out, hot]
              dsimp only [atI]
              rw [hdn2] at hneg
              clear HTop HOt hot
              go_upto_region 20 with fail
              obtain ⟨wc, hwc⟩ : ∃ wc, wc = wr := ⟨_, rfl⟩
              have Gc : Hid (Gr w3 wc) := by rw [hwc]; exact BV
              rw [← hwc]
              clear hwc
              go_wp2_with fail
              go_loopg [16, 17] n (fun gg s16 s17 wr => ∃ (q : Nat) (v16 : Value), q ≤ n ∧ n - q ≤ gg ∧ s16 = v16 ∧ s17 = .int .i64 q ∧ Gr wc wr ∧ Hid (wr.ownsRow wc.heap.size 110 2 v16 q ((changeR q rows f).flatMap frC)))
              case atStart => exact ⟨0, _, Nat.zero_le _, by omega, rfl, rfl, Gr.refl wc, ⟨rfl, .inl ⟨rfl, rfl⟩⟩⟩
              case round =>
                obtain ⟨q, v16, hq, hgq, rfl, rfl, BW, HOw⟩ := hrel
                obtain ⟨OA, oc, hov⟩ := own_slice HOw.out
                subst hov
                by_cases hql : q < n
                · have hqn' : (q : Int) < (n : Int) := by omega
                  have hqz : (0 : Int) ≤ (q : Int) := by omega
                  have HSn : Hid ((changeR (q + 1) rows f).flatMap frC = (changeR q rows f).flatMap frC ++ frC (changeX rows f q)) := by
                    show _ = _
                    rw [changeR_succ, List.flatMap_append]; simp
                  have HLd := hid (fun W (g : Gr w3 W) => leads_any RA r rc (n + qn) vs (q : Int) W (HRs.out.gr g) hr3)
                  generalize (changeR q rows f).flatMap frC = o at *
                  unfold changeX at HSn
                  cases hlq : lookR rows q with
                  | none =>
                    rw [lead_none HVs.out hlq] at HLd
                    rw [hlq] at HSn
                    clear hlq
                    by_cases hqf : q = f
                    · rw [if_pos hqf] at HSn
                      subst hqf
                      go_wp2_with (first
                        | (go_at_call 55; (with_reducible refine (HLd.out _ (Gc.out.trans BW)).mono ?_); rintro e w5 ⟨rfl, hb5⟩; have G5 := hid hb5; obtain ⟨hcw5, hfw5, hzw5⟩ := hb5.rules; (try simp at hzw5))
                        | ((with_reducible show wpList _ _ _ (⟨some 98, _, _, _, _, _⟩ :: _) _ _); refine wpList_append_rd _ rfl (.tmp 95) (.tmp 97) 97 rfl wc.heap.size 110 i0 (.agg #[.int .i64 0, .int .i64 0]) 2 16 Try.underlying97 HI0.out HZ0.out HS0.out HY0.out rfl (by decide) _ _ _ rfl (ownT_gf HOw.out ((G5.out).alloc _)) (some ⟨w5.heap.size, 0, none⟩) 1 1 [.int .i64 1, .int .i64 1] rfl (rd_row10 (heap_alloc_new w5 _) 2 1 rfl) (by intro u hu; simp at hu; first | (rcases hu with rfl | rfl <;> rfl) | (subst hu; rfl)) (by have : maxLen = 9223372036854775807 := rfl; omega) (by omega) (by have h1 := BW.size; have h2 := (G5.out).size; simp at h1 h2 ⊢; omega) ?_; intro A' c' w9 hown' hbel; have HW9 := hid hown'; have HB9 := hid (show Gr wc w9 from Below.trans ((BW.trans (G5.out)).alloc _) hbel); clear hown' hbel))
                      go_roundg (n - (q + 1))
                      case measure => omega
                      case rel => exact ⟨q + 1, .slice A' (q + 1) c', by omega, by omega, rfl, by go_num, HB9.out, by unfold Hid; rw [HSn.out]; exact HW9.out⟩
                    · have hqfz : ¬ (q : Int) = (f : Int) := by omega
                      rw [if_neg hqf] at HSn
                      go_wp2_with (first
                        | (go_at_call 55; (with_reducible refine (HLd.out _ (Gc.out.trans BW)).mono ?_); rintro e w5 ⟨rfl, hb5⟩; have G5 := hid hb5; obtain ⟨hcw5, hfw5, hzw5⟩ := hb5.rules; (try simp at hzw5))
                        | ((with_reducible show wpList _ _ _ (⟨some 105, _, _, _, _, _⟩ :: _) _ _); refine wpList_append_rd _ rfl (.tmp 102) (.tmp 104) 97 rfl wc.heap.size 110 i0 (.agg #[.int .i64 0, .int .i64 0]) 2 16 Try.underlying97 HI0.out HZ0.out HS0.out HY0.out rfl (by decide) _ _ _ rfl (ownT_gf HOw.out ((G5.out).alloc _)) (some ⟨w5.heap.size, 0, none⟩) 1 1 [.int .i64 0, .int .i64 1] rfl (rd_row10 (heap_alloc_new w5 _) 2 1 rfl) (by intro u hu; simp at hu; first | (rcases hu with rfl | rfl <;> rfl) | (subst hu; rfl)) (by have : maxLen = 9223372036854775807 := rfl; omega) (by omega) (by have h1 := BW.size; have h2 := (G5.out).size; simp at h1 h2 ⊢; omega) ?_; intro A' c' w9 hown' hbel; have HW9 := hid hown'; have HB9 := hid (show Gr wc w9 from Below.trans ((BW.trans (G5.out)).alloc _) hbel); clear hown' hbel))
                      go_roundg (n - (q + 1))
                      case measure => omega
                      case rel => exact ⟨q + 1, .slice A' (q + 1) c', by omega, by omega, rfl, by go_num, HB9.out, by unfold Hid; rw [HSn.out]; exact HW9.out⟩
                  | some xr =>
                    obtain ⟨kq, hkq, hfq, hqi, hqx⟩ := lead_some HVs.out HBk.out.nd hlq
                    rw [hfq] at HLd
                    rw [hlq] at HSn
                    dsimp only at HSn
                    have hkr : (kq : Int) < (r : Int) := by omega
                    have hk0 : (0 : Int) ≤ (kq : Int) := by omega
                    have hk1 : ¬ (kq : Int) < 0 := by omega
                    by_cases hqf : q = f
                    · rw [if_pos hqf] at HSn
                      subst hqf
                      clear hlq hqi hqx hfq
                      go_wp2_with (first
                        | (go_at_call 55; (with_reducible refine (HLd.out _ (Gc.out.trans BW)).mono ?_); rintro e w5 ⟨rfl, hb5⟩; have G5 := hid hb5; obtain ⟨hcw5, hfw5, hzw5⟩ := hb5.rules; (try simp at hzw5))
                        | ((with_reducible show wpList _ _ _ (⟨some 98, _, _, _, _, _⟩ :: _) _ _); refine wpList_append_rd _ rfl (.tmp 95) (.tmp 97) 97 rfl wc.heap.size 110 i0 (.agg #[.int .i64 0, .int .i64 0]) 2 16 Try.underlying97 HI0.out HZ0.out HS0.out HY0.out rfl (by decide) _ _ _ rfl (ownT_gf HOw.out ((G5.out).alloc _)) (some ⟨w5.heap.size, 0, none⟩) 1 1 [.int .i64 1, .int .i64 1] rfl (rd_row10 (heap_alloc_new w5 _) 2 1 rfl) (by intro u hu; simp at hu; first | (rcases hu with rfl | rfl <;> rfl) | (subst hu; rfl)) (by have : maxLen = 9223372036854775807 := rfl; omega) (by omega) (by have h1 := BW.size; have h2 := (G5.out).size; simp at h1 h2 ⊢; omega) ?_; intro A' c' w9 hown' hbel; have HW9 := hid hown'; have HB9 := hid (show Gr wc w9 from Below.trans ((BW.trans (G5.out)).alloc _) hbel); clear hown' hbel))
                      go_roundg (n - (q + 1))
                      case measure => omega
                      case rel => exact ⟨q + 1, .slice A' (q + 1) c', by omega, by omega, rfl, by go_num, HB9.out, by unfold Hid; rw [HSn.out]; exact HW9.out⟩
                    · have hqfz : ¬ (q : Int) = (f : Int) := by omega
                      rw [if_neg hqf] at HSn
                      have GRr := Gc.out.trans BW
                      obtain ⟨_, bb2, oo2, hRe2, hbb2, _, d1⟩ := (HRs.out.gr GRr).at_ (show kq < r by omega)
                      cases hRe2
                      obtain ⟨hx1, _, hx3⟩ := (HRs.out.gr GRr).each vs[kq]! (by rw [getElem!_pos vs kq hkq]; exact List.getElem_mem hkq)
                      rw [hqx] at hx1 hx3
                      generalize vs[kq]!.a = ra2 at *
                      generalize vs[kq]!.c = rc2 at *
                      obtain ⟨_, bz, oz, rfl, hbz, e0, e1⟩ := hx1.fr (k := f) (by omega)
                      have hzz : xr[f]! = cv xr f := by rw [getElem!_pos _ f (by omega), cv_lt (by omega)]
                      rw [hzz] at e0 e1
                      have hsz : Sm 40320 (cv xr f) := by
                        rw [cv_lt (by omega)]
                        exact (HD2.out _ (lookR_some hlq) _ (List.getElem_mem (show f < xr.length by omega))).2
                      have HMn := hid (fun W => minus_any 0 (cv xr f) 40320 40320 W (sm_bit (.inl rfl)) hsz (by omega))
                      rw [frV_zero] at HMn
                      clear hzz hsz hx1 hx3 hqx hqi hfq hlq
                      have hfN : (f : Int) < ((n + qn : Nat) : Int) := by omega
                      have hfN2 : (f : Int) < (n : Int) + (qn : Int) := by omega
                      obtain ⟨rz, hrz⟩ : ∃ rz, 0 - cv xr f = rz := ⟨_, rfl⟩
                      rw [hrz] at HMn HSn
                      clear hrz
                      generalize cv xr f = z at *
                      unfold frV at HMn
                      go_wp2_with (first
                        | (go_at_call 55; (with_reducible refine (HLd.out _ (Gc.out.trans BW)).mono ?_); rintro e w5 ⟨rfl, hb5⟩; have G5 := hid hb5; replace d1 := row_cell d1 hb5; replace e0 := row_cell e0 hb5; replace e1 := row_cell e1 hb5; have hbb5 := Nat.lt_of_lt_of_le hbb2 hb5.size; have hbz5 := Nat.lt_of_lt_of_le hbz hb5.size; clear hb5)
                        | (go_at_call 66; (with_reducible refine (HMn.out _).mono ?_); rintro e w6 ⟨rfl, hb6⟩; have G6 := hid (G5.out.trans hb6); clear hb6)
                        | ((with_reducible show wpList _ _ _ (⟨some 90, _, _, _, _, _⟩ :: _) _ _); refine wpList_append_rd _ rfl (.tmp 78) (.tmp 89) 97 rfl wc.heap.size 110 i0 (.agg #[.int .i64 0, .int .i64 0]) 2 16 Try.underlying97 HI0.out HZ0.out HS0.out HY0.out rfl (by decide) _ _ _ rfl (ownT_gf HOw.out ((G6.out).alloc _)) (some ⟨w6.heap.size, 0, none⟩) 1 1 [.int .i64 rz.num, .int .i64 rz.den] rfl (rd_row10 (heap_alloc_new w6 _) 2 1 rfl) (by intro u hu; simp at hu; first | (rcases hu with rfl | rfl <;> rfl) | (subst hu; rfl)) (by have : maxLen = 9223372036854775807 := rfl; omega) (by omega) (by have h1 := BW.size; have h2 := (G6.out).size; simp at h1 h2 ⊢; omega) ?_; intro A' c' w9 hown' hbel; have HW9 := hid hown'; have HB9 := hid (show Gr wc w9 from Below.trans ((BW.trans (G6.out)).alloc _) hbel); clear hown' hbel))
                      go_roundg (n - (q + 1))
                      case measure => omega
                      case rel => exact ⟨q + 1, .slice A' (q + 1) c', by omega, by omega, rfl, by go_num, HB9.out, by unfold Hid; rw [HSn.out]; exact HW9.out⟩
                · have hqn' : ¬ (q : Int) < (n : Int) := by omega
                  have hqe : q = n := by omega
                  have hOw := HOw.out
                  rw [hqe, HCh.out] at hOw
                  have HR := hid (Rd.of_own hOw)
                  have Gq := hid ((G3.out.trans Gc.out).trans BW)
                  rw [hqe]
                  clear HOw hOw
                  go_upto_region 31 with (go_at_call 61; (with_reducible refine (HNm.out _ _ _ HR.out).mono ?_); rintro e w7 ⟨PA, pc, rfl, hown7, hb7⟩; have HO7 := hid hown7; have G7 := hid (Gq.out.trans hb7); have hwz := Nat.le_trans Gq.out.size (Nat.le_refl _); clear hown7 hb7)
                  obtain ⟨_, g, off, hPe, hgb, _⟩ := (Rd.of_own HO7.out).int_at (k := i) hil
                  subst hPe
                  obtain rfl : off = 0 := own_off HO7.out
                  have hgw : w.heap.size ≤ g := Nat.le_trans hwz (HO7.out.lt g rfl).1
                  obtain ⟨hiw, ci⟩ := own_int_at (l := ws) HO7.out hil
                  clear HR hgb
                  by_cases hng : ws[i]! < 0
                  · have HSg2 := hid HSg.out
                    rw [if_pos hng] at HSg2
                    have hngz : ws[i]! < 0 := hng
                    have HO8 := hid (own_mono10 HO7.out hwz)
                    generalize ws[i]! = wi at ci hngz hng
                    clear HO7
                    go_wp2_with fail
                    go_loopg [20] n (fun gg s20 wr => ∃ (q : Nat), q ≤ n ∧ n - q ≤ gg ∧ s20 = .int .i64 q ∧ Gr w wr ∧ Hid (wr.ownsRow w.heap.size 3 1 (.slice (some ⟨g, 0, none⟩) n pc) n (intsC (mapTo (fun z => -z) q ws))))
                    case atStart => exact ⟨0, Nat.zero_le _, by omega, rfl, G7.out, by rw [mapTo_zero]; exact HO8⟩
                    case round =>
                      obtain ⟨q, hq, hgq, rfl, BX, HOx⟩ := hrel
                      by_cases hql : q < n
                      · have hqn' : (q : Int) < (n : Int) := by omega
                        have hqz : (0 : Int) ≤ (q : Int) := by omega
                        obtain ⟨_, cq⟩ := own_int_at HOx.out hql
                        rw [mapTo_get] at cq
                        have hqw : q < ws.length := by omega
                        have hzb := HWz.out ws[q]! (by rw [getElem!_pos ws q hqw]; exact List.getElem_mem hqw)
                        have HSet : Hid ((intsC (mapTo (fun z => -z) q ws)).set q (.int .i64 (-ws[q]!)) = intsC (mapTo (fun z => -z) (q + 1) ws)) := by
                          show _ = _
                          rw [intsC_set]
                          exact congrArg intsC (mapTo_set (g := fun z : Int => -z) hqw)
                        have hfzq := own_fz HOx.out q
                        have hgr : g < wr.heap.size := block_lt_of_cell cq
                        generalize ws[q]! = z at *
                        have hwz2 : IntKind.i64.wrap (-z) = -z := by rw [IntKind.wrap_i64]; omega
                        clear hzb
                        go_wp2_with fail
                        go_roundg (n - (q + 1))
                        case measure => omega
                        case rel =>
                          refine ⟨q + 1, by omega, by omega, by go_num, Gr.setCell BX hgw _, ?_⟩
                          unfold Hid
                          have h := (World.ownsRow.stored HOx.out q (.int .i64 (-z))).1
                          rw [HSet.out] at h
                          exact h
                      · have hqn' : ¬ (q : Int) < (n : Int) := by omega
                        have hqe : q = n := by omega
                        have hOx := HOx.out
                        rw [mapTo_all (by omega), ← HSg2.out] at hOx
                        have HOz := hid hOx
                        clear hOx HOx
                        go_wp2
                        go_ret2
                        exact ⟨some ⟨g, 0, none⟩, n, ⟨pc, rfl⟩, BX, Rd.of_own HOz.out, by omega⟩
                  · have HSg2 := hid HSg.out
                    rw [if_neg hng] at HSg2
                    generalize ws[i]! = wi at ci hng
                    go_wp2
                    go_ret2
                    exact ⟨some ⟨g, 0, none⟩, n, ⟨pc, rfl⟩, G7.out, by rw [HSg2.out]; exact Rd.of_own HO7.out, by omega⟩
  · rw [if_neg hE]
    obtain ⟨E, hE'⟩ : ∃ E, auditN columns zs qs = E := ⟨_, rfl⟩
    rw [hE'] at HCk hE ⊢
    clear hi hq hE'
    unfold MeetsRet
    go_enter Try.func30, Try.ntmps30
    go_wp2_with (first
      | (go_at_call 53; (with_reducible refine (HCk.out _ (Gr.refl w)).mono ?_); rintro e w2 ⟨rfl, hb2⟩))
    go_ret2
    exact ⟨none, 0, 0, rfl, hb2, Rd.nil_, by omega⟩
end Go.Proofs.Ytimhkkijoelmhaa
