/- slices.Clone at fractions: a row of the call's own with the same fractions. How of the package sum: how a value follows. How of the reference of layer 10. Tables and audits that are alike but for where they lie: what follows from them is the same. No program in sight. -/
import Derived.Lib.BufferMore
import Derived.Test.YtimhkkijoelmhaaQCutFrom
import Derived.Test.YtimhkkijoelmhaaQLow10
import Derived.Test.YtimhkkijoelmhaaQWhole10
import Derived.Test.YtimhkkijoelmhaaQDeduced10
namespace Go.Proofs.Ytimhkkijoelmhaa
open Go.RowKit Go.Maps

set_option maxRecDepth 100000 in
set_option maxHeartbeats 4000000 in
theorem clone_any (A : Option Addr) (n c : Nat) (zs : List Rat) (w : World) (hx : Rd w 2 A n (zs.flatMap frC)) (hl : zs.length = n) (h0 : 0 < n) (hn : n ≤ 1000) :
    Calls Try.prog 59 #[.slice A n c] w (FrRet zs w) := by
  unfold FrRet
  rw [hl]
  obtain ⟨_, b, off, rfl, _, _, _⟩ := hx.fr h0
  obtain ⟨i0, hi0, hz0, hs0, hy0⟩ := info_parts info_fr10
  have HI0 := hid hi0
  have HZ0 := hid hz0
  have HS0 := hid hs0
  have HY0 := hid hy0
  have HX := hid hx
  have hnil : ∀ W, (binOp .eql 88 (.slice (some ⟨b, off, none⟩) n c) (.slice none 0 0)).run Try.prog W = .ok (.bool false) W := fun W => Go.Lib.run_eql_slice_some_nil W _ _ _ (e := 107) Try.underlying88
  clear hi0 hz0 hs0 hy0 hx
  go_enter Try.func59, Try.ntmps59
  go_wp2_with ((with_reducible show wpList _ _ _ (⟨some 7, _, _, _, _, _⟩ :: _) _ _); refine wpList_append_rd _ rfl (.tmp 5) (.tmp 6) 88 rfl w.heap.size 107 i0 (.agg #[.int .i64 0, .int .i64 0]) 2 16 Try.underlying88 HI0.out HZ0.out HS0.out HY0.out rfl (by decide) _ 0 [] rfl (own_new w w.heap.size 107 2 rfl) (some ⟨b, off, none⟩) n c (zs.flatMap frC) rfl (HX.out.gr ((Gr.refl w).alloc _)) (fr_cells zs) (by have : maxLen = 9223372036854775807 := rfl; omega) (by omega) (by simp) ?_; intro A' c' w9 hown' hbel; have HW9 := hid (And.intro hown' hbel); clear hown' hbel)
  go_ret
  exact ⟨A', c', rfl, by have h := HW9.out.1; simpa using h, show Below w.heap.size w w9 from Below.trans ((Gr.refl w).alloc _) HW9.out.2⟩
end Go.Proofs.Ytimhkkijoelmhaa
namespace Go.Proofs.Ytimhkkijoelmhaa
open Go.RowKit Go.Maps

/-- How a value follows: parts, whole, error. -/
def howT (columns : Int) (zs : List Sbj) (qs : List Qst) (id : Int) : List Int × Int × Int :=
  if auditN columns zs qs = 0 then match byR zs.length (ordI zs) (rowsR zs qs) id with
    | none => ([], 0, 6)
    | some x => ((wholeR (x.drop zs.length ++ [1])).take qs.length, (wholeR (x.drop zs.length ++ [1]))[qs.length]!, 0)
  else ([], 0, auditN columns zs qs)
def HowRet (r : List Int × Int × Int) (w : World) (e : Ending) (w' : World) : Prop := ∃ A n c, e = .returned (.tuple #[.slice A n c, .int .i64 r.2.1, .int .i64 r.2.2]) ∧ (Gr w w' ∧ Rd w' 1 A n (intsC r.1) ∧ n ≤ 9223372036854775807)
theorem byR_mem {n : Nat} {es : List Sbj} {rows : List Rw} {id : Int} {x : List Rat} (h : byR n es rows id = some x) : ∃ r ∈ rows, r.2 = x := by
  unfold byR at h
  cases h1 : es.findIdx? (fun s => s.id == id) with
  | none => rw [h1] at h; cases h
  | some i =>
    rw [h1] at h
    simp only [Option.bind_some] at h
    cases h2 : lookR rows i with
    | none => rw [h2] at h; cases h
    | some y =>
      rw [h2] at h
      simp only [Option.bind_some] at h
      split at h
      · cases h; exact ⟨_, lookR_some h2, rfl⟩
      · cases h

set_option maxRecDepth 100000 in
set_option maxHeartbeats 8000000 in
theorem how_any (columns : Int) (A : Option Addr) (n c : Nat) (zs : List Sbj) (QA : Option Addr) (qn qc : Nat) (qs : List Qst) (idn : Int) (w : World) (hi : SbjsIn w A n zs) (hq : QstsIn w QA qn qs) (hid' : -9223372036854775808 ≤ idn ∧ idn ≤ 9223372036854775807) :
    Calls Try.prog 27 #[.int .i64 columns, .slice A n c, .slice QA qn qc, .int .i64 idn] w (HowRet (howT columns zs qs idn) w) := by
  have HOp := hid (fun W (k : Gr w W) => open_any columns A n c zs QA qn qc qs W (hi.gr k) (hq.gr k))
  have hln := hi.len
  have hqn := hq.len
  unfold howT
  by_cases hE : auditN columns zs qs = 0
  · rw [if_pos hE]
    unfold OpenRet at HOp
    simp only [if_pos hE] at HOp
    obtain ⟨h16, h8⟩ := audit_16 hE
    obtain ⟨D, hD0, hD1, hD2⟩ := solve_com zs.length qs.length (asksF (ordI zs) qs) h8
    have hrn : qs.length = 0 → rowsR zs qs = [] := by
      intro h; unfold rowsR; rw [h]; rfl
    have hrr : solveR zs.length qs.length (asksF (ordI zs) qs) qs.length = rowsR zs qs := rfl
    rw [hrr] at HOp hD2
    clear hrr
    generalize rowsR zs qs = rows at *
    rw [hln] at HOp h16 ⊢
    rw [hqn] at HOp h8 hrn ⊢
    generalize hes : ordI zs = es at *
    have hel : es.length = n := by rw [← hes, ← hln]; exact (ordI_perm zs).length_eq
    have HBy := hid (fun bk W (h : BookIn W bk n qn es rows) => by_any bk n qn es rows idn W h hid' (by omega) hel)
    unfold ByRet at HBy
    clear hi hq hE hes hel hid'
    cases hb : byR n es rows idn with
    | none =>
      simp only [hb] at HBy ⊢
      unfold HowRet
      dsimp only
      go_enter Try.func27, Try.ntmps27
      go_wp2_with (first
        | (go_at_call 51; (with_reducible refine (HOp.out _ (Gr.refl w)).mono ?_); rintro e w2 ⟨bk, rfl, hb2, HBk⟩)
        | (go_at_call 57; (with_reducible refine (HBy.out _ _ HBk).mono ?_); rintro e w3 hret; rcases hret with ⟨_, _, _, _, _, _, x, hx, _⟩ | ⟨YA, yn, yc, YB, ym, yd, rfl, hb3, _⟩; (cases hx)))
      go_ret3
      exact ⟨none, 0, 0, rfl, (hb2.trans hb3).alloc _, Rd.nil_, by omega⟩
    | some x =>
      simp only [hb] at HBy ⊢
      obtain ⟨r, hr, hrx⟩ := byR_mem hb
      have hm0 : 0 < qn := by
        rcases Nat.eq_zero_or_pos qn with h | h
        · rw [hrn h] at hr; cases hr
        · exact h
      have hxz := hD2 r hr
      rw [hrx] at hxz
      clear hr hrx hb hrn hD2
      obtain ⟨xs, hxs⟩ : ∃ xs, x.drop n ++ [1] = xs := ⟨_, rfl⟩
      have hz1 : ∀ z ∈ xs, z.den ∣ D := by
        intro z hz
        rw [← hxs] at hz
        rcases List.mem_append.1 hz with h | h
        · exact (hxz z (List.mem_of_mem_drop h)).1
        · simp at h; subst h; exact Nat.one_dvd _
      have hz2 : ∀ z ∈ xs, z.num.natAbs ≤ 1000000 := by
        intro z hz
        rw [← hxs] at hz
        rcases List.mem_append.1 hz with h | h
        · exact Nat.le_trans (hxz z (List.mem_of_mem_drop h)).2.1 (by omega)
        · simp at h; subst h; decide
      rw [hxs]
      have HWh := hid (fun A c W h (hl : xs.length = qn + 1) => whole_any A (qn + 1) c D xs W h hl (by omega) hz1 hD0 (by omega) hz2)
      have hwl := wholeR_len xs
      have HXs := hid hxs
      clear hxz hz1 hz2 hxs
      generalize wholeR xs = ws at *
      unfold HowRet
      dsimp only
      have hqz : (qn : Int) ≤ 8 := by omega
      go_enter Try.func27, Try.ntmps27
      go_wp2_with (first
        | (go_at_call 51; (with_reducible refine (HOp.out _ (Gr.refl w)).mono ?_); rintro e w2 ⟨bk, rfl, hb2, HBk⟩)
        | (go_at_call 57; (with_reducible refine (HBy.out _ _ HBk).mono ?_); rintro e w3 hret; rcases hret with ⟨KA, kc, KB, kd, rfl, hb3, x', hx', hL⟩ | ⟨YA, yn, yc, YB, ym, yd, rfl, hb3, hx'⟩; rotate_left; (cases hx'); cases hx'; obtain ⟨KA', kc', KB', kd', hv, hra, hrb, hca, hcb, hxl⟩ := hL; cases hv; have HRb := hid hrb; clear hra hrb))
      have g4 : Gr w3 (w3.alloc (.cells #[.slice KA n kc, .slice KB qn kd] 101)) := (Gr.refl w3).alloc _
      generalize w3.alloc (.cells #[.slice KA n kc, .slice KB qn kd] 101) = w4 at *
      have hdl : (x.drop n).length = qn := by rw [List.length_drop]; omega
      have HCl := hid (clone_any KB qn kd (x.drop n) w4 (HRb.out.gr g4) hdl hm0 (by omega))
      unfold FrRet at HCl
      rw [hdl] at HCl
      refine HCl.out.mono ?_
      rintro e w5 ⟨CA, cc, rfl, hown5, hb5⟩
      have HO5 := hid hown5
      obtain ⟨i0, hi0, hz0, hs0, hy0⟩ := info_parts info_fr10
      have HI0 := hid hi0
      have HZ0 := hid hz0
      have HS0 := hid hs0
      have HY0 := hid hy0
      have hxl' : xs.length = qn + 1 := by rw [← HXs.out, List.length_append, hdl]; rfl
      have HF : Hid ((x.drop n).flatMap frC ++ [.int .i64 1, .int .i64 1] = xs.flatMap frC) := by
        show _ = _
        rw [← HXs.out, List.flatMap_append]; rfl
      clear hi0 hz0 hs0 hy0 hown5
      go_wp2_with (first
        | ((with_reducible show wpList _ _ _ (⟨some 39, _, _, _, _, _⟩ :: _) _ _); refine wpList_append_rd _ rfl (.tmp 36) (.tmp 38) 88 rfl w4.heap.size 107 i0 (.agg #[.int .i64 0, .int .i64 0]) 2 16 Try.underlying88 HI0.out HZ0.out HS0.out HY0.out rfl (by decide) _ _ _ rfl (ownT_gf HO5.out ((Gr.refl w5).alloc _)) (some ⟨w5.heap.size, 0, none⟩) 1 1 [.int .i64 1, .int .i64 1] rfl (rd_row10 (heap_alloc_new w5 _) 2 1 rfl) (by intro u hu; simp at hu; subst hu; rfl) (by have : maxLen = 9223372036854775807 := rfl; omega) (by omega) (by have h1 := hb5.size; simp at h1 ⊢; omega) ?_; intro A' c' w6 hown6 hbel6; rw [HF.out] at hown6; have HR6 := hid (Rd.of_own hown6); have HB6 := hid (show Below w4.heap.size w4 w6 from Below.trans (hb5.alloc _) hbel6); clear hown6 hbel6)
        | (go_at_call 58; (with_reducible refine (HWh.out _ _ _ HR6.out hxl').mono ?_); rintro e w7 ⟨PA, pc, rfl, hown7, hb7⟩; have hcp := own_cap10 hown7; have HR7 := hid (Rd.of_own hown7); have HB7 := hid (hb7); clear hown7 hb7))
      obtain ⟨hkk, b, off, rfl, hbl, cN⟩ := HR7.out.int_at (k := qn) (by omega)
      have hq0 : (0 : Int) ≤ (qn : Int) := by omega
      have hq1 : (qn : Int) < ((qn + 1 : Nat) : Int) := by omega
      have hq2 : (qn : Int) < (qn : Int) + 1 := by omega
      have hpc : (qn : Int) ≤ (pc : Int) := by omega
      have hpc' : qn ≤ pc := by omega
      have hGG : Hid (Gr w w7) := ((hb2.trans hb3).trans g4).trans (Gr.trans (show Gr w4 w6 from HB6.out) HB7.out)
      have HTk : Hid (Rd w7 1 (some ⟨b, off, none⟩) qn (intsC (ws.take qn))) := by
        have h := Rd.first HR7.out (k := qn) (by omega)
        show Rd _ _ _ _ _
        unfold intsC
        rw [List.map_take]
        simpa using h
      obtain ⟨a, ha⟩ : ∃ a, ws[qn]! = a := ⟨_, rfl⟩
      rw [ha] at cN
      have HA := hid ha
      clear ha
      clear HB6 HB7 HR6 HR7 HO5 HRb HBk HOp HBy HWh HCl
      go_region
      go_wp2
      go_ret3
      rw [HA.out]
      exact ⟨some ⟨b, off, none⟩, qn, qn, rfl, hGG.out.drew, HTk.out.gr (Gr.refl w7).drew, by omega⟩
  · rw [if_neg hE]
    unfold OpenRet at HOp
    simp only [if_neg hE] at HOp
    obtain ⟨E, hE'⟩ : ∃ E, auditN columns zs qs = E := ⟨_, rfl⟩
    rw [hE'] at HOp hE ⊢
    clear hi hq hE'
    unfold HowRet
    dsimp only
    go_enter Try.func27, Try.ntmps27
    go_wp2_with (first
      | (go_at_call 51; (with_reducible refine (HOp.out _ (Gr.refl w)).mono ?_); rintro e w2 ⟨rfl, hb2⟩))
    go_ret3
    exact ⟨none, 0, 0, rfl, hb2, Rd.nil_, by omega⟩
end Go.Proofs.Ytimhkkijoelmhaa
namespace Go.Proofs.Ytimhkkijoelmhaa
open Go.RowKit

theorem lead_neg (vs : List RwV) : fidx (fun r : RwV => decide ((r.i : Int) = -1)) vs = -1 :=
  fidx_miss fun j _ => by
    simp only [decide_eq_false_iff_not]
    omega
theorem fidx_none {α : Type} {p : α → Bool} {zs : List α} (h : zs.findIdx? p = none) : fidx p zs = -1 := by unfold fidx; rw [h]
theorem fidx_some {α : Type} {p : α → Bool} {zs : List α} {i : Nat} (h : zs.findIdx? p = some i) : fidx p zs = i ∧ i < zs.length := by
  refine ⟨by unfold fidx; rw [h], ?_⟩
  obtain ⟨hk, _⟩ := List.findIdx?_eq_some_iff_getElem.1 h
  exact hk
theorem fr_ones (x : List Rat) : ∀ u ∈ x.flatMap frC, u.oneCell' = true := by
  intro u hu
  obtain ⟨r, _, hr⟩ := List.mem_flatMap.1 hu
  exact one_C r u hr
theorem fr_drop (x : List Rat) (n : Nat) : (x.flatMap frC).drop (n * 2) = (x.drop n).flatMap frC := by
  induction n generalizing x with
  | zero => simp
  | succ n ih =>
    cases x with
    | nil => simp
    | cons a x =>
      rw [show (n + 1) * 2 = n * 2 + 1 + 1 by omega]
      simp only [List.flatMap_cons, frC, List.cons_append, List.nil_append, List.drop_succ_cons]
      exact ih x

set_option maxRecDepth 100000 in
set_option maxHeartbeats 8000000 in
theorem refHow_any (columns : Int) (A : Option Addr) (n c : Nat) (zs : List Sbj) (QA : Option Addr) (qn qc : Nat) (qs : List Qst) (idn : Int) (w : World) (hi : SbjsIn w A n zs) (hq : QstsIn w QA qn qs) :
    Calls Try.prog 28 #[.int .i64 columns, .slice A n c, .slice QA qn qc, .int .i64 idn] w (HowRet (howT columns zs qs idn) w) := by
  have HCh := hid (fun W (k : Gr w W) => refchecked_any columns A n c zs QA qn qc qs W (hi.gr k) (hq.gr k))
  have hln := hi.len
  have hqn := hq.len
  unfold howT
  by_cases hE : auditN columns zs qs = 0
  · rw [if_pos hE]
    rw [hE] at HCh
    have h16 := (audit_16 hE).1
    have h8 := (audit_16 hE).2
    have ht := (audit_table hE).1
    have HOr := hid (fun W (k : Gr w W) => refOrdIn_any columns A n c zs W (hi.gr k) ht)
    have HSo := hid (fun W (k : Gr w W) B bc (hb : SbjsIn W B n (ordI zs)) => refRows_any columns A n zs QA qn qc qs w W hi (hq.gr k) hE B bc hb)
    obtain ⟨q0, hbk⟩ := rows_bk zs qs
    obtain ⟨D, hD0, hD1, hD2⟩ := solve_com zs.length qs.length (asksF (ordI zs) qs) h8
    have hrr : solveR zs.length qs.length (asksF (ordI zs) qs) qs.length = rowsR zs qs := rfl
    rw [hrr] at hD2
    have hrn : qs.length = 0 → rowsR zs qs = [] := by
      intro h; unfold rowsR; rw [h]; rfl
    clear hrr
    rw [hln, hqn] at hbk
    rw [hln] at h16 ⊢
    rw [hqn] at h8 hrn ⊢
    have HBk := hid hbk
    generalize rowsR zs qs = rows at *
    generalize hes : ordI zs = es at *
    have hel : es.length = n := by rw [← hes, ← hln]; exact (ordI_perm zs).length_eq
    have hnz : (n : Int) ≤ 16 := by omega
    have hqz : (qn : Int) ≤ 8 := by omega
    clear hi hq hE hes hbk ht
    unfold byR
    cases hfi : es.findIdx? (fun s => s.id == idn) with
    | none =>
      simp only [Option.bind_none]
      have HAt := hid (fun B bc W (h : SbjsIn W B n es) => refat_any B n bc es idn W h (by omega))
      rw [fidx_none hfi] at HAt
      have HLd := hid (fun RA r rc vs W (h : RowsIn W RA r (n + qn) vs) (hr : r ≤ 1000) => leads_any RA r rc (n + qn) vs (-1) W h hr)
      unfold HowRet
      dsimp only
      clear hfi
      go_enter Try.func28, Try.ntmps28
      go_wp2_with (first
        | (go_at_call 53; (with_reducible refine (HCh.out _ (Gr.refl w)).mono ?_); rintro e w1 ⟨rfl, hb1⟩)
        | (go_at_call 46; (with_reducible refine (HOr.out _ hb1).mono ?_); rintro e w2 ⟨B, bc, rfl, hS2, hb2⟩)
        | (go_at_call 54; (with_reducible refine (HSo.out _ (hb1.trans hb2) _ _ hS2).mono ?_); rintro e w3 ⟨RA, r, rc, vs, rfl, hb3, hR3, hV3, hr3⟩; have hLn := lead_neg vs; have hS3 := hS2.gr hb3)
        | (go_at_call 60; (with_reducible refine (HAt.out _ _ _ hS3).mono ?_); rintro e w4 ⟨rfl, hb4⟩; have hR4 := hR3.gr hb4)
        | (go_at_call 55; (with_reducible refine (HLd.out _ _ _ _ _ hR4 hr3).mono ?_); rw [hLn]; rintro e w5 ⟨rfl, hb5⟩))
      go_ret3
      exact ⟨none, 0, 0, rfl, (((hb1.trans hb2).trans hb3).trans hb4).trans hb5, Rd.nil_, by omega⟩
    | some i =>
      obtain ⟨hfx, hil⟩ := fidx_some hfi
      simp only [Option.bind_some]
      have HAt := hid (fun B bc W (h : SbjsIn W B n es) => refat_any B n bc es idn W h (by omega))
      rw [hfx] at HAt
      have HLd := hid (fun RA r rc vs W (h : RowsIn W RA r (n + qn) vs) (hr : r ≤ 1000) => leads_any RA r rc (n + qn) vs (i : Int) W h hr)
      clear hfi hfx
      have hi0 : (0 : Int) ≤ (i : Int) := by omega
      have hi1 : ¬ (i : Int) < 0 := by omega
      cases hlk : lookR rows i with
      | none =>
        simp only [Option.bind_none]
        unfold HowRet
        dsimp only
        have HLn := hid (fun (vs : List RwV) (h : vs.map RwV.rw_ = rows) => lead_none h hlk)
        clear hlk
        go_enter Try.func28, Try.ntmps28
        go_wp2_with (first
          | (go_at_call 53; (with_reducible refine (HCh.out _ (Gr.refl w)).mono ?_); rintro e w1 ⟨rfl, hb1⟩)
          | (go_at_call 46; (with_reducible refine (HOr.out _ hb1).mono ?_); rintro e w2 ⟨B, bc, rfl, hS2, hb2⟩)
          | (go_at_call 54; (with_reducible refine (HSo.out _ (hb1.trans hb2) _ _ hS2).mono ?_); rintro e w3 ⟨RA, r, rc, vs, rfl, hb3, hR3, hV3, hr3⟩; have hLn := HLn.out vs hV3; have hS3 := hS2.gr hb3)
          | (go_at_call 60; (with_reducible refine (HAt.out _ _ _ hS3).mono ?_); rintro e w4 ⟨rfl, hb4⟩; have hR4 := hR3.gr hb4)
          | (go_at_call 55; (with_reducible refine (HLd.out _ _ _ _ _ hR4 hr3).mono ?_); rw [hLn]; rintro e w5 ⟨rfl, hb5⟩))
        go_ret3
        exact ⟨none, 0, 0, rfl, (((hb1.trans hb2).trans hb3).trans hb4).trans hb5, Rd.nil_, by omega⟩
      | some x =>
        simp only [Option.bind_some]
        have HLn := hid (fun (vs : List RwV) (h : vs.map RwV.rw_ = rows) => lead_some h HBk.out.nd hlk)
        have hal := alone_some HBk.out (by omega) hlk
        have hm0 : 0 < qn := by
          rcases Nat.eq_zero_or_pos qn with h | h
          · rw [hrn h] at hlk; cases hlk
          · exact h
        have hxz : ∀ z ∈ x, z.den ∣ D ∧ Sm 40320 z := hD2 (i, x) (lookR_some hlk)
        have hxl : x.length = n + qn := HBk.out.len _ (lookR_some hlk)
        clear hlk hrn hD2
        have HAl := hid (fun ra rcc W (h : RwIn W (n + qn) (.agg #[.int .i64 i, .slice ra (n + qn) rcc]) i x) => refalone_any (n + qn) (.agg #[.int .i64 i, .slice ra (n + qn) rcc]) i n x W h (by omega) (by omega))
        rw [hal] at HAl
        clear hal
        by_cases h1 : someN n x = 1
        · rw [decide_eq_true h1] at HAl
          simp only [if_pos h1]
          obtain ⟨xs, hxs⟩ : ∃ xs, x.drop n ++ [1] = xs := ⟨_, rfl⟩
          have hz1 : ∀ z ∈ xs, z.den ∣ D := by
            intro z hz
            rw [← hxs] at hz
            rcases List.mem_append.1 hz with h | h
            · exact (hxz z (List.mem_of_mem_drop h)).1
            · simp at h; subst h; exact Nat.one_dvd _
          have hz2 : ∀ z ∈ xs, z.num.natAbs ≤ 1000000 := by
            intro z hz
            rw [← hxs] at hz
            rcases List.mem_append.1 hz with h | h
            · exact Nat.le_trans (hxz z (List.mem_of_mem_drop h)).2.1 (by omega)
            · simp at h; subst h; decide
          rw [hxs]
          have hdl : (x.drop n).length = qn := by rw [List.length_drop]; omega
          have hxl' : xs.length = qn + 1 := by rw [← hxs, List.length_append, hdl]; rfl
          have HNm := hid (fun A c W h => numbers10_any A (qn + 1) c D xs W h hxl' (by omega) hz1 hD0 (by omega) hz2)
          have hwl := wholeR_len xs
          have HF : Hid ((x.drop n).flatMap frC ++ [.int .i64 1, .int .i64 1] = xs.flatMap frC) := by
            show _ = _
            rw [← hxs, List.flatMap_append]; rfl
          have HDr : Hid ((x.flatMap frC).drop (n * 2) = (x.drop n).flatMap frC) := fr_drop x n
          obtain ⟨i0, hi0', hz0, hs0, hy0⟩ := info_parts info_rf10
          have HI0 := hid hi0'
          have HZ0 := hid hz0
          have HS0 := hid hs0
          have HY0 := hid hy0
          clear hxz hz1 hz2 hxs hi0' hz0 hs0 hy0
          generalize wholeR xs = ws at *
          unfold HowRet
          dsimp only
          go_enter Try.func28, Try.ntmps28
          go_upto_region 6 with (first
            | (go_at_call 53; (with_reducible refine (HCh.out _ (Gr.refl w)).mono ?_); rintro e w1 ⟨rfl, hb1⟩)
            | (go_at_call 46; (with_reducible refine (HOr.out _ hb1).mono ?_); rintro e w2 ⟨B, bc, rfl, hS2, hb2⟩)
            | (go_at_call 54; (with_reducible refine (HSo.out _ (hb1.trans hb2) _ _ hS2).mono ?_); rintro e w3 ⟨RA, r, rc, vs, rfl, hb3, hR3, hV3, hr3⟩))
          have G3 := hid ((hb1.trans hb2).trans hb3)
          have hS3 := hS2.gr hb3
          have hrl := hR3.len
          obtain ⟨q, hq, hfq, hqi, hqx⟩ := HLn.out vs hV3
          obtain ⟨_, bb, oo, hRe, hbb, d0, d1⟩ := hR3.at_ (show q < r by omega)
          subst hRe
          obtain ⟨hx1, hx2, hx3⟩ := hR3.each vs[q]! (by rw [getElem!_pos vs q hq]; exact List.getElem_mem hq)
          rw [hqi] at d0
          rw [hqx] at hx1 hx3
          have hq0 : (0 : Int) ≤ (q : Int) := by omega
          have hqr : (q : Int) < (r : Int) := by omega
          have hq1 : ¬ (q : Int) < 0 := by omega
          have hrz : (r : Int) ≤ 1000 := by omega
          generalize vs[q]!.a = ra at *
          generalize vs[q]!.c = rcc at *
          have HX1 := hid hx1
          have HRs := hid hR3
          clear hqi hqx hx1 hb1 hb2 hb3 hS2 hR3 hV3
          go_wp2_with (first
            | (go_at_call 60; (with_reducible refine (HAt.out _ _ _ hS3).mono ?_); rintro e w4 ⟨rfl, hb4⟩; have hR4 := HRs.out.gr hb4; have G4 := hid hb4; replace d0 := row_cell d0 hb4; replace d1 := row_cell d1 hb4; clear hb4)
            | (go_at_call 55; (with_reducible refine (HLd.out _ _ _ _ _ hR4 hr3).mono ?_); rw [hfq]; rintro e w5 ⟨rfl, hb5⟩; have G5 := hid (G4.out.trans hb5); have HX5 : RwIn w5 (n + qn) (.agg #[.int .i64 i, .slice ra (n + qn) rcc]) i x := ⟨ra, rcc, rfl, HX1.out.gr G5.out, hx2, hx3⟩; have hbz5 : bb < w5.heap.size := Nat.lt_of_lt_of_le hbb G5.out.size; replace d0 := row_cell d0 hb5; replace d1 := row_cell d1 hb5; clear hb5)
            | (go_at_call 56; (with_reducible refine (HAl.out ra rcc _ HX5).mono ?_); rintro e w6 ⟨rfl, hb6⟩; have G6 := hid (G5.out.trans hb6); replace d0 := row_cell d0 hb6; replace d1 := row_cell d1 hb6; have hbz : bb < w6.heap.size := block_lt_of_cell d0; clear hb6)
            | ((with_reducible show wpList _ _ _ (⟨some 58, _, _, _, _, _⟩ :: _) _ _); refine wpList_slice_from rfl (.tmp 55) (.tmp 57) 97 rfl 110 i0 2 Try.underlying97 HI0.out HS0.out ra (n + qn) rcc n _ _ rfl rfl rfl (by omega) (by omega) ?_; intro KA hKA; simp only [Nat.add_sub_cancel_left] at hKA ⊢; have HKA := hid (hKA _ _ ((HX1.out.gr G6.out).gr ((Gr.refl w6).alloc (.cells #[] 110)))); rw [HDr.out] at HKA; clear hKA)
            | ((with_reducible show wpList _ _ _ (⟨some 59, _, _, _, _, _⟩ :: _) _ _); refine wpList_append_rd _ rfl (.tmp 50) (.tmp 58) 97 rfl w6.heap.size 110 i0 (.agg #[.int .i64 0, .int .i64 0]) 2 16 Try.underlying97 HI0.out HZ0.out HS0.out HY0.out rfl (by decide) _ _ _ rfl (own_new w6 w6.heap.size 110 2 rfl) KA qn (rcc - n) ((x.drop n).flatMap frC) rfl HKA.out (fr_ones (x.drop n)) (by have : maxLen = 9223372036854775807 := rfl; omega) (by omega) (by simp) ?_; intro E7 c7 w7 hown7 hbel7; rw [Nat.zero_add, List.nil_append] at hown7; have HO7 := hid hown7; have HB7 := hid (show Gr w6 w7 from Below.trans ((Gr.refl w6).alloc _) hbel7); clear hown7 hbel7; simp only [Nat.zero_add])
            | ((with_reducible show wpList _ _ _ (⟨some 62, _, _, _, _, _⟩ :: _) _ _); refine wpList_append_rd _ rfl (.tmp 59) (.tmp 61) 97 rfl w6.heap.size 110 i0 (.agg #[.int .i64 0, .int .i64 0]) 2 16 Try.underlying97 HI0.out HZ0.out HS0.out HY0.out rfl (by decide) _ _ _ rfl (ownT_gf HO7.out ((Gr.refl w7).alloc _)) (some ⟨w7.heap.size, 0, none⟩) 1 1 [.int .i64 1, .int .i64 1] rfl (rd_row10 (heap_alloc_new w7 _) 2 1 rfl) (by intro u hu; simp at hu; subst hu; rfl) (by have : maxLen = 9223372036854775807 := rfl; omega) (by omega) (by have h1 := HB7.out.size; simp at h1 ⊢; omega) ?_; intro A' c' w8 hown8 hbel8; rw [HF.out] at hown8; have HR8 := hid (Rd.of_own hown8); have HB8 := hid (show Gr w6 w8 from Below.trans (HB7.out.alloc _) hbel8); clear hown8 hbel8)
            | (go_at_call 61; (with_reducible refine (HNm.out _ _ _ HR8.out).mono ?_); rintro e w9 ⟨PA, pc, rfl, hown9, hb9⟩; have hcp := own_cap10 hown9; have HR9 := hid (Rd.of_own hown9); have HB9 := hid hb9; clear hown9 hb9))
          obtain ⟨hkk, b, off, rfl, hbl, cN⟩ := HR9.out.int_at (k := qn) (by omega)
          have hqq0 : (0 : Int) ≤ (qn : Int) := by omega
          have hqq1 : (qn : Int) < ((qn + 1 : Nat) : Int) := by omega
          have hqq2 : (qn : Int) < (qn : Int) + 1 := by omega
          have hpc : (qn : Int) ≤ (pc : Int) := by omega
          have hpc' : qn ≤ pc := by omega
          have hGG : Hid (Gr w w9) := (G3.out.trans G6.out).trans (Gr.trans (show Gr w6 w8 from HB8.out) HB9.out)
          have HTk : Hid (Rd w9 1 (some ⟨b, off, none⟩) qn (intsC (ws.take qn))) := by
            have h := Rd.first HR9.out (k := qn) (by omega)
            show Rd _ _ _ _ _
            unfold intsC
            rw [List.map_take]
            simpa using h
          obtain ⟨a, ha⟩ : ∃ a, ws[qn]! = a := ⟨_, rfl⟩
          rw [ha] at cN
          have HA := hid ha
          clear ha
          clear HB7 HB8 HB9 HR8 HR9 HO7 HRs HBk HCh HOr HSo HNm
          go_region
          go_wp2
          go_ret3
          rw [HA.out]
          exact ⟨some ⟨b, off, none⟩, qn, pc, rfl, hGG.out.drew, HTk.out.gr (Gr.refl w9).drew, by omega⟩
        · rw [decide_eq_false h1] at HAl
          simp only [if_neg h1]
          clear hxz
          unfold HowRet
          dsimp only
          go_enter Try.func28, Try.ntmps28
          go_upto_region 6 with (first
            | (go_at_call 53; (with_reducible refine (HCh.out _ (Gr.refl w)).mono ?_); rintro e w1 ⟨rfl, hb1⟩)
            | (go_at_call 46; (with_reducible refine (HOr.out _ hb1).mono ?_); rintro e w2 ⟨B, bc, rfl, hS2, hb2⟩)
            | (go_at_call 54; (with_reducible refine (HSo.out _ (hb1.trans hb2) _ _ hS2).mono ?_); rintro e w3 ⟨RA, r, rc, vs, rfl, hb3, hR3, hV3, hr3⟩))
          have G3 := hid ((hb1.trans hb2).trans hb3)
          have hS3 := hS2.gr hb3
          have hrl := hR3.len
          obtain ⟨q, hq, hfq, hqi, hqx⟩ := HLn.out vs hV3
          obtain ⟨_, bb, oo, hRe, hbb, d0, d1⟩ := hR3.at_ (show q < r by omega)
          subst hRe
          obtain ⟨hx1, hx2, hx3⟩ := hR3.each vs[q]! (by rw [getElem!_pos vs q hq]; exact List.getElem_mem hq)
          rw [hqi] at d0
          rw [hqx] at hx1 hx3
          have hq0 : (0 : Int) ≤ (q : Int) := by omega
          have hqr : (q : Int) < (r : Int) := by omega
          have hq1 : ¬ (q : Int) < 0 := by omega
          generalize vs[q]!.a = ra at *
          generalize vs[q]!.c = rcc at *
          have HX1 := hid hx1
          have HRs := hid hR3
          clear hqi hqx hx1 hb1 hb2 hb3 hS2 hR3 hV3
          go_wp2_with (first
            | (go_at_call 60; (with_reducible refine (HAt.out _ _ _ hS3).mono ?_); rintro e w4 ⟨rfl, hb4⟩; have hR4 := HRs.out.gr hb4; have G4 := hid hb4; replace d0 := row_cell d0 hb4; replace d1 := row_cell d1 hb4; clear hb4)
            | (go_at_call 55; (with_reducible refine (HLd.out _ _ _ _ _ hR4 hr3).mono ?_); rw [hfq]; rintro e w5 ⟨rfl, hb5⟩; have G5 := hid (G4.out.trans hb5); have HX5 : RwIn w5 (n + qn) (.agg #[.int .i64 i, .slice ra (n + qn) rcc]) i x := ⟨ra, rcc, rfl, HX1.out.gr G5.out, hx2, hx3⟩; have hbz5 : bb < w5.heap.size := Nat.lt_of_lt_of_le hbb G5.out.size; replace d0 := row_cell d0 hb5; replace d1 := row_cell d1 hb5; clear hb5)
            | (go_at_call 56; (with_reducible refine (HAl.out ra rcc _ HX5).mono ?_); rintro e w6 ⟨rfl, hb6⟩; have G6 := hid (G5.out.trans hb6); clear hb6 d0 d1))
          go_ret3
          exact ⟨none, 0, 0, rfl, G3.out.trans G6.out, Rd.nil_, by omega⟩
  · rw [if_neg hE]
    obtain ⟨E, hE'⟩ : ∃ E, auditN columns zs qs = E := ⟨_, rfl⟩
    rw [hE'] at HCh hE ⊢
    clear hi hq hE'
    unfold HowRet
    dsimp only
    go_enter Try.func28, Try.ntmps28
    go_wp2_with (first
      | (go_at_call 53; (with_reducible refine (HCh.out _ (Gr.refl w)).mono ?_); rintro e w2 ⟨rfl, hb2⟩))
    go_ret3
    exact ⟨none, 0, 0, rfl, hb2, Rd.nil_, by omega⟩
end Go.Proofs.Ytimhkkijoelmhaa
namespace Go.Proofs.Ytimhkkijoelmhaa
open Go.RowKit

theorem map_get {α β : Type} [Inhabited α] [Inhabited β] {f : α → β} (hd : f default = default) (l : List α) (i : Nat) : (l.map f)[i]! = f l[i]! := by
  rw [List.getElem!_eq_getElem?_getD, List.getElem!_eq_getElem?_getD, List.getElem?_map]
  cases l[i]? with
  | none => exact hd.symm
  | some a => rfl
theorem sbj_map_get (l : List Sbj) (i : Nat) : (l.map Sbj.bare)[i]! = l[i]!.bare := map_get (by rfl) l i
theorem qst_map_get (l : List Qst) (i : Nat) : (l.map Qst.bare)[i]! = l[i]!.bare := map_get (by rfl) l i
theorem asksF_bare (zs : List Sbj) (qs : List Qst) : asksF (zs.map Sbj.bare) (qs.map Qst.bare) = asksF zs qs := by
  funext k i
  unfold asksF
  rw [sbj_map_get, qst_map_get]
  rfl
theorem auditB_bare (columns : Int) (qs : List Qst) : auditB columns (qs.map Qst.bare) = auditB columns qs := by
  unfold auditB
  rw [qst_map_get, List.length_map, List.all_map]
  rfl
theorem auditN_bare (columns : Int) (zs : List Sbj) (qs : List Qst) : auditN columns (zs.map Sbj.bare) (qs.map Qst.bare) = auditN columns zs qs := by
  unfold auditN
  rw [table_bare, auditB_bare]
theorem rowsR_bare (zs : List Sbj) (qs : List Qst) : rowsR (zs.map Sbj.bare) (qs.map Qst.bare) = rowsR zs qs := by
  unfold rowsR
  rw [ordI_bare, asksF_bare, List.length_map, List.length_map]
theorem dedR_bare (n : Nat) (es : List Sbj) (rows : List Rw) (k : Nat) : dedR n (es.map Sbj.bare) rows k = dedR n es rows k := by
  unfold dedR
  congr 1
  funext i
  unfold oneD
  rw [sbj_map_get]
  rfl
theorem deducedT_bare (columns : Int) (zs : List Sbj) (qs : List Qst) : deducedT columns (zs.map Sbj.bare) (qs.map Qst.bare) = deducedT columns zs qs := by
  unfold deducedT
  rw [auditN_bare, rowsR_bare, ordI_bare, dedR_bare, List.length_map]
theorem byR_bare (n : Nat) (es : List Sbj) (rows : List Rw) (id : Int) : byR n (es.map Sbj.bare) rows id = byR n es rows id := by
  unfold byR
  rw [List.findIdx?_map]
  rfl
theorem howT_bare (columns : Int) (zs : List Sbj) (qs : List Qst) (id : Int) : howT columns (zs.map Sbj.bare) (qs.map Qst.bare) id = howT columns zs qs id := by
  unfold howT
  rw [auditN_bare, rowsR_bare, ordI_bare, byR_bare, List.length_map, List.length_map]
section
variable {es zs : List Sbj} {qs' qs : List Qst} (h : es.map Sbj.bare = zs.map Sbj.bare) (hq : qs'.map Qst.bare = qs.map Qst.bare)
include h hq in
theorem like_audit (columns : Int) : auditN columns es qs' = auditN columns zs qs := by rw [← auditN_bare columns es, h, hq, auditN_bare]
include h hq in
theorem like_deduced (columns : Int) : deducedT columns es qs' = deducedT columns zs qs := by rw [← deducedT_bare columns es, h, hq, deducedT_bare]
include h hq in
theorem like_how (columns : Int) (id : Int) : howT columns es qs' id = howT columns zs qs id := by rw [← howT_bare columns es, h, hq, howT_bare]
end
end Go.Proofs.Ytimhkkijoelmhaa
