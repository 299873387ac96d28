/- Deduced of the package sum: whose values follow from an audit. The reference: subjects in order, the rows of their audit, and which of them a subject leads, as the specification says. Deduced of the reference of layer 10. -/
import Derived.Test.YtimhkkijoelmhaaQOrd10
import Derived.Test.YtimhkkijoelmhaaQOrdered10
import Derived.Test.YtimhkkijoelmhaaQRefSolve10
import Derived.Test.YtimhkkijoelmhaaQOpenErr10
import Derived.Test.YtimhkkijoelmhaaQBy10
import Derived.Test.YtimhkkijoelmhaaQWhole10
namespace Go.Proofs.Ytimhkkijoelmhaa
open Go.RowKit Go.Maps

/-- Whose value follows, place by place. -/
def oneD (n : Nat) (es : List Sbj) (rows : List Rw) (i : Nat) : List Int := match lookR rows i with
  | none => []
  | some x => if someN n x = 1 then [es[i]!.id] else []
def dedR (n : Nat) (es : List Sbj) (rows : List Rw) (k : Nat) : List Int := (List.range k).flatMap (oneD n es rows)
theorem dedR_succ (n : Nat) (es : List Sbj) (rows : List Rw) (k : Nat) : dedR n es rows (k + 1) = dedR n es rows k ++ oneD n es rows k := by
  unfold dedR
  rw [List.range_succ, List.flatMap_append]
  simp
theorem dedR_le (n : Nat) (es : List Sbj) (rows : List Rw) (k : Nat) : (dedR n es rows k).length ≤ k := by
  induction k with
  | zero => exact Nat.le_refl _
  | succ k ih =>
    rw [dedR_succ, List.length_append]
    have : (oneD n es rows k).length ≤ 1 := by
      unfold oneD
      split
      · simp
      · split <;> simp
    omega
/-- The rows of an audit. -/
def rowsR (zs : List Sbj) (qs : List Qst) : List Rw := solveR zs.length qs.length (asksF (ordI zs) qs) qs.length
def deducedT (columns : Int) (zs : List Sbj) (qs : List Qst) : List Int := if auditN columns zs qs = 0 then dedR zs.length (ordI zs) (rowsR zs qs) zs.length else []
theorem audit_16 {columns : Int} {zs : List Sbj} {qs : List Qst} (hE : auditN columns zs qs = 0) : zs.length ≤ 16 ∧ qs.length ≤ 8 := by
  unfold auditN at hE
  by_cases h1 : tableB columns zs = true
  · rw [if_pos h1] at hE
    by_cases h2 : auditB columns qs = true
    · unfold auditB at h2
      simp only [Bool.and_eq_true, decide_eq_true_eq] at h2
      exact ⟨(table_mem h1).1, h2.1⟩
    · rw [if_neg h2] at hE; cases hE
  · rw [if_neg h1] at hE; cases hE

set_option maxRecDepth 100000 in
set_option maxHeartbeats 8000000 in
theorem deduced_any (columns : Int) (A : Option Addr) (n c : Nat) (zs : List Sbj) (QA : Option Addr) (qn qc : Nat) (qs : List Qst) (w : World) (hi : SbjsIn w A n zs) (hq : QstsIn w QA qn qs) :
    Calls Try.prog 25 #[.int .i64 columns, .slice A n c, .slice QA qn qc] w (MeetsRet (deducedT columns zs qs) (auditN columns zs qs) w) := by
  have HOp := hid (fun W (k : Gr w W) => open_any columns A n c zs QA qn qc qs W (hi.gr k) (hq.gr k))
  have hln := hi.len
  unfold deducedT
  by_cases hE : auditN columns zs qs = 0
  · rw [if_pos hE, hE]
    unfold OpenRet at HOp
    simp only [if_pos hE] at HOp
    have h16 := (audit_16 hE).1
    unfold rowsR
    rw [hln] at HOp h16 ⊢
    generalize solveR n qs.length (asksF (ordI zs) qs) qs.length = rows at *
    generalize hes : ordI zs = es at *
    have hel : es.length = n := by rw [← hes, ← hln]; exact (ordI_perm zs).length_eq
    generalize qs.length = m at *
    have hnz : (n : Int) ≤ 16 := by omega
    obtain ⟨i0, hi0, hz0, hs0, hy0⟩ := info_parts info_intW10
    have HI0 := hid hi0
    have HZ0 := hid hz0
    have HS0 := hid hs0
    have HY0 := hid hy0
    clear hi hq hE hi0 hz0 hs0 hy0 hes
    unfold MeetsRet
    go_enter Try.func25, Try.ntmps25
    go_wp2_with (first
      | (go_at_call 51; (with_reducible refine (HOp.out _ (Gr.refl w)).mono ?_); rintro e w2 ⟨bk, rfl, hb2, HBk⟩; obtain ⟨BQA, bqc, BA, bc, ma, ml, hb, hS, hma, hml⟩ := HBk; have b1 := row_cell_at (v := .slice BA n bc) hb.row 1 rfl; have b3 := row_cell_at (v := .map (some ml)) hb.row 3 rfl))
    have G2 := hid hb2
    have HEs := hid hS
    obtain ⟨f, hm1, hm2, hm3⟩ := hml
    have HMl := hid hm1
    have HB3 := hid b3
    have HLg := hid (fun i => lines_get hm2 hm3 i)
    clear hm1 hm2 hm3 hma hS hb2
    go_loopg [10, 30] n (fun gg s10 s30 wr => ∃ k : Nat, k ≤ n ∧ n - k ≤ gg ∧ s30 = .int .i64 k ∧ Gr w2 wr ∧ Hid (wr.ownsRow w2.heap.size 3 1 s10 (dedR n es rows k).length (intsC (dedR n es rows k))))
    case atStart => exact ⟨0, Nat.zero_le _, by omega, rfl, Gr.refl w2, ⟨rfl, .inl ⟨rfl, rfl⟩⟩⟩
    case round =>
      obtain ⟨k, hk, hgk, rfl, BW, HOw⟩ := hrel
      by_cases hkl : k < n
      · have hkn : (k : Int) < (n : Int) := by omega
        have hk0 : (0 : Int) ≤ (k : Int) := by omega
        obtain ⟨hk', b, off, hAe, hbl, c0, c1⟩ := (HEs.out.gr BW).rd.sbj hkl
        subst hAe
        have HSn := hid (dedR_succ n es rows k)
        have hol := dedR_le n es rows k
        have b3' : wr.cell? ⟨bk, 3, none⟩ = some (.map (some ml)) := GrW.cell HB3.out ⟨wr, BW⟩
        have hbk : bk < wr.heap.size := block_lt_of_cell b3'
        have HMr := hid (HMl.out.gr BW)
        have hlg := HLg.out k
        unfold oneD at HSn
        generalize dedR n es rows k = o at *
        generalize es[k]! = s at c0 c1 HSn
        obtain ⟨idn, sa, vn, vc, vals⟩ := s
        dsimp only at *
        rcases hlg with ⟨hr, hf⟩ | ⟨xr, v, hr, hf, hv⟩
        · rw [hr] at HSn
          simp only [List.append_nil] at HSn
          go_wp2_with (first
            | ((with_reducible show wpList _ _ _ (⟨some 41, _, _, _, _, _⟩ :: _) _ _); refine wpList_lookup_is_ok (E := 90) (Value.int .i64) _ rfl (.tmp 39) (.tmp 40) 85 rfl keyed_int10 int_inj Try.underlying85 ml f rfl (HMr.out.alloc _) (k : Int) _ _ rfl (key_id10 (by omega)) (zero_line _) ?_; simp only [hf, Option.getD_none, Option.isSome_none]))
          have gg : Gr wr ((wr.alloc (.cells #[.int .i64 idn, .slice sa vn vc] 60)).alloc (.cells #[.slice none 0 0, .slice none 0 0] 90)) := ((Gr.refl wr).alloc _).alloc _
          go_roundg (n - (k + 1))
          case measure => omega
          case rel => exact ⟨k + 1, by omega, by omega, by go_num, BW.trans gg, by unfold Hid; rw [HSn.out]; exact ownT_gf HOw.out gg⟩
        · rw [hr] at HSn
          obtain ⟨KA, kc, KB, kd, rfl, _⟩ := (show _ from hv)
          have HAl := hid (fun W (g : Gr w2 W) => alone_any n m _ xr W (hv.gr g) (by omega))
          clear hv
          have gq : Gr wr ((wr.alloc (.cells #[.int .i64 idn, .slice sa vn vc] 60)).alloc (.cells #[.slice KA n kc, .slice KB m kd] 90)) := ((Gr.refl wr).alloc _).alloc _
          by_cases h1 : someN n xr = 1
          · rw [decide_eq_true h1] at HAl
            simp only [if_pos h1] at HSn
            go_wp2_with (first
              | ((with_reducible show wpList _ _ _ (⟨some 41, _, _, _, _, _⟩ :: _) _ _); refine wpList_lookup_is_ok (E := 90) (Value.int .i64) _ rfl (.tmp 39) (.tmp 40) 85 rfl keyed_int10 int_inj Try.underlying85 ml f rfl (HMr.out.alloc _) (k : Int) _ _ rfl (key_id10 (by omega)) (zero_line _) ?_; simp only [hf, Option.getD_some, Option.isSome_some])
              | (go_at_call 52; (with_reducible refine (HAl.out _ ?_).mono ?_); rotate_right; rintro e w3 ⟨rfl, hbw3⟩; obtain ⟨hcw3, hfw3, hzw3⟩ := hbw3.rules; (try simp at hzw3); have hzw3_0 : wr.heap.size < w3.heap.size := (by omega); have hyw3_0 : wr.heap.size ≤ w3.heap.size := (by omega); have hzw3_1 : wr.heap.size + 1 < w3.heap.size := (by omega); have hyw3_1 : wr.heap.size + 1 ≤ w3.heap.size := (by omega))
              | ((with_reducible show wpList _ _ _ (⟨some 53, _, _, _, _, _⟩ :: _) _ _); refine wpList_append_rd _ rfl (.tmp 49) (.tmp 52) 30 rfl w2.heap.size 3 i0 (.int .i64 0) 1 8 Try.underlying30 HI0.out HZ0.out HS0.out HY0.out rfl (by decide) _ _ _ rfl (ownT_gf HOw.out ((gq.trans hbw3).alloc _)) (some ⟨w3.heap.size, 0, none⟩) 1 1 [.int .i64 idn] rfl (rd_row10 (heap_alloc_new w3 _) 1 1 rfl) (by intro u hu; simp at hu; subst hu; rfl) (by have : maxLen = 9223372036854775807 := rfl; omega) (by omega) (by have h1 := BW.size; have h2 := gq.size; have h3 := hbw3.size; simp at h1 h2 h3 ⊢; omega) ?_; intro A' c' w9 hown' hbel; have HW9 := hid (And.intro hown' hbel); clear hown' hbel))
            all_goals try (exact BW.trans gq; done)
            go_roundg (n - (k + 1))
            case measure => omega
            case rel =>
              refine ⟨k + 1, by omega, by omega, by go_num, (show Below w2.heap.size w2 w9 from Below.trans (((BW.trans gq).trans hbw3).alloc _) HW9.out.2), ?_⟩
              unfold Hid
              rw [HSn.out]
              have h := HW9.out.1
              simpa [intsC] using h
          · rw [decide_eq_false h1] at HAl
            simp only [if_neg h1, List.append_nil] at HSn
            go_wp2_with (first
              | ((with_reducible show wpList _ _ _ (⟨some 41, _, _, _, _, _⟩ :: _) _ _); refine wpList_lookup_is_ok (E := 90) (Value.int .i64) _ rfl (.tmp 39) (.tmp 40) 85 rfl keyed_int10 int_inj Try.underlying85 ml f rfl (HMr.out.alloc _) (k : Int) _ _ rfl (key_id10 (by omega)) (zero_line _) ?_; simp only [hf, Option.getD_some, Option.isSome_some])
              | (go_at_call 52; (with_reducible refine (HAl.out _ ?_).mono ?_); rotate_right; rintro e w3 ⟨rfl, hbw3⟩; obtain ⟨hcw3, hfw3, hzw3⟩ := hbw3.rules; (try simp at hzw3); have hzw3_0 : wr.heap.size < w3.heap.size := (by omega); have hyw3_0 : wr.heap.size ≤ w3.heap.size := (by omega); have hzw3_1 : wr.heap.size + 1 < w3.heap.size := (by omega); have hyw3_1 : wr.heap.size + 1 ≤ w3.heap.size := (by omega)))
            all_goals try (exact BW.trans gq; done)
            go_roundg (n - (k + 1))
            case measure => omega
            case rel => exact ⟨k + 1, by omega, by omega, by go_num, (BW.trans gq).trans hbw3, by unfold Hid; rw [HSn.out]; exact ownT_gf HOw.out (gq.trans hbw3)⟩
      · have hkn : ¬ (k : Int) < (n : Int) := by omega
        have hkn' : k = n := by omega
        have hOw := HOw.out
        rw [hkn'] at hOw
        have hol := dedR_le n es rows n
        obtain ⟨o, ho⟩ : ∃ o, dedR n es rows n = o := ⟨_, rfl⟩
        rw [ho] at hOw hol
        have HDo := hid ho
        clear ho
        obtain ⟨A', c', rfl⟩ := own_slice hOw
        have HF := hid (Rd.of_own hOw)
        clear HOw hOw
        go_wp2
        go_ret2
        exact ⟨A', o.length, ⟨c', rfl⟩, G2.out.trans BW, by rw [HDo.out]; exact HF.out, by omega⟩
  · rw [if_neg hE]
    unfold OpenRet at HOp
    simp only [if_neg hE] at HOp
    obtain ⟨E, hE'⟩ : ∃ E, auditN columns zs qs = E := ⟨_, rfl⟩
    rw [hE'] at HOp hE ⊢
    clear hi hq hE'
    unfold MeetsRet
    go_enter Try.func25, Try.ntmps25
    go_wp2_with (first
      | (go_at_call 51; (with_reducible refine (HOp.out _ (Gr.refl w)).mono ?_); rintro e w2 ⟨rfl, hb2⟩))
    go_ret2
    exact ⟨none, 0, 0, rfl, hb2, Rd.nil_, by omega⟩
end Go.Proofs.Ytimhkkijoelmhaa
namespace Go.Proofs.Ytimhkkijoelmhaa
open Go.RowKit

theorem refOrdIn_any (columns : Int) (A : Option Addr) (n c : Nat) (zs : List Sbj) (w : World) (hi : SbjsIn w A n zs) (ht : tableB columns zs = true) :
    Calls Try.prog 46 #[.slice A n c] w fun e w' => ∃ B cap, e = .returned (.slice B n cap) ∧ (SbjsIn w' B n (ordI zs) ∧ Gr w w') := by
  obtain ⟨hl16, hmem⟩ := table_mem ht
  have hln := hi.len
  refine (refOrdered_any A n c zs w hi (by omega) (table_apart ht)).mono ?_
  rintro e w2 ⟨B, cap, rfl, hb2, T3⟩
  exact ⟨B, cap, rfl, hi.perm hb2 (ordI_perm zs) T3 (by omega), hb2⟩
theorem audit_table {columns : Int} {zs : List Sbj} {qs : List Qst} (hE : auditN columns zs qs = 0) : tableB columns zs = true ∧ auditB columns qs = true := by
  unfold auditN at hE
  by_cases h1 : tableB columns zs = true
  · rw [if_pos h1] at hE
    by_cases h2 : auditB columns qs = true
    · exact ⟨h1, h2⟩
    · rw [if_neg h2] at hE; cases hE
  · rw [if_neg h1] at hE; cases hE
/-- The rows of an audit, from the subjects in order. -/
theorem refRows_any (columns : Int) (A : Option Addr) (n : Nat) (zs : List Sbj) (QA : Option Addr) (qn qc : Nat) (qs : List Qst) (w0 w : World) (hi0 : SbjsIn w0 A n zs) (hq : QstsIn w QA qn qs) (hE : auditN columns zs qs = 0)
    (B : Option Addr) (bc : Nat) (hb : SbjsIn w B n (ordI zs)) :
    Calls Try.prog 54 #[.slice B n bc, .slice QA qn qc] w fun e w' => ∃ A' r c' vs, e = .returned (.slice A' r c') ∧ (Gr w w' ∧ RowsIn w' A' r (n + qn) vs ∧ vs.map RwV.rw_ = rowsR zs qs ∧ r ≤ 1000) := by
  obtain ⟨ht, ha⟩ := audit_table hE
  obtain ⟨h16, h8⟩ := audit_16 hE
  obtain ⟨_, hmem⟩ := table_mem ht
  have hln := hi0.len
  have hqn := hq.len
  have hel : (ordI zs).length = n := by rw [(ordI_perm zs).length_eq, hln]
  have hX : ∀ s ∈ ordI zs, ∀ q ∈ qs, ∀ x ∈ q.whs, 0 ≤ x.col ∧ x.col < s.n := by
    intro s hs q hq' x hx
    have hs' := (ordI_perm zs).mem_iff.1 hs
    have h1 := (hmem s hs').2.1
    have h2 := (hi0.vals s hs').1.len
    simp at h2
    unfold auditB at ha
    simp only [Bool.and_eq_true] at ha
    have h3 := List.all_eq_true.1 ha.2 q hq'
    simp only [Bool.and_eq_true] at h3
    have h4 := (qst_parts h3.1).2.2 x hx
    omega
  have h := solve_any B n bc (ordI zs) QA qn qc qs w hb hq (by omega) (by omega) hX
  unfold rowsR
  rw [hln, hqn]
  exact h
/-- Which row a subject leads. -/
theorem lead_none {vs : List RwV} {rows : List Rw} (h : vs.map RwV.rw_ = rows) {i : Nat} (hl : lookR rows i = none) : fidx (fun r : RwV => decide ((r.i : Int) = (i : Int))) vs = -1 := by
  refine fidx_miss fun j hj => ?_
  have hm : vs[j]!.rw_ ∈ rows := by rw [← h, getElem!_pos vs j hj]; exact List.mem_map.2 ⟨_, List.getElem_mem hj, rfl⟩
  have := lookR_none hl _ hm
  simp only [decide_eq_false_iff_not]
  intro e
  exact this (by show vs[j]!.i = i; omega)
theorem lead_some {vs : List RwV} {rows : List Rw} (h : vs.map RwV.rw_ = rows) (nd : (rows.map (·.1)).Nodup) {i : Nat} {x : List Rat} (hl : lookR rows i = some x) : ∃ k, k < vs.length ∧ fidx (fun r : RwV => decide ((r.i : Int) = (i : Int))) vs = k ∧ vs[k]!.i = i ∧ vs[k]!.x = x := by
  have hm := lookR_some hl
  rw [← h] at hm
  obtain ⟨r, hr, hrw⟩ := List.mem_map.1 hm
  cases hf : vs.findIdx? (fun r : RwV => decide ((r.i : Int) = (i : Int))) with
  | none =>
    rw [List.findIdx?_eq_none_iff] at hf
    have h1 := hf r hr
    have h2 : r.i = i := congrArg Prod.fst hrw
    simp [h2] at h1
  | some k =>
    obtain ⟨hk, h1, _⟩ := List.findIdx?_eq_some_iff_getElem.1 hf
    have h2 : vs[k].i = i := by have := of_decide_eq_true h1; omega
    have h3 : vs[k].rw_ ∈ rows := by rw [← h]; exact List.mem_map.2 ⟨_, List.getElem_mem hk, rfl⟩
    have h4 := lookR_of nd h3
    refine ⟨k, hk, by unfold fidx; rw [hf], by rw [getElem!_pos vs k hk]; exact h2, ?_⟩
    rw [getElem!_pos vs k hk]
    have h5 : lookR rows i = some vs[k].x := by rw [← h2]; exact h4
    rw [hl] at h5
    exact (Option.some.inj h5).symm
theorem rows_bk (zs : List Sbj) (qs : List Qst) : ∃ q, Bk (zs.length + qs.length) zs.length q (rowsR zs qs) := by
  obtain ⟨q, h, _⟩ := solveR_bk zs.length qs.length (asksF (ordI zs) qs) qs.length
  exact ⟨q, h⟩
theorem some_pos {x : List Rat} {i k : Nat} (hk : k ≤ x.length) (hi : i < k) (h : cv x i ≠ 0) : 1 ≤ someN k x := by
  induction k with
  | zero => omega
  | succ k ih =>
    rw [some_succ (by omega)]
    rcases Nat.lt_or_eq_of_le (Nat.le_of_lt_succ hi) with h1 | rfl
    · have := ih (by omega) h1
      omega
    · rw [if_neg (by simpa using h)]; omega
theorem alone_some' {x : List Rat} {i k : Nat} (hk : k ≤ x.length) (h : cv x i ≠ 0) : aloneB k i x = decide (someN k x = if i < k then 1 else 0) := by
  induction k with
  | zero => simp [aloneB, someN]
  | succ k ih =>
    have h1 : aloneB (k + 1) i x = (aloneB k i x && (decide (k = i) || decide (cv x k = 0))) := by
      unfold aloneB
      rw [List.range_succ, List.all_append]
      simp
    rw [h1, ih (by omega), some_succ (by omega)]
    by_cases e : k = i
    · subst e
      simp [h]
    · by_cases hz : cv x k = 0
      · have e2 : (i < k + 1) ↔ (i < k) := by omega
        simp [hz, e2]
      · have h2 : decide (someN k x = if i < k then 1 else 0) = true → someN k x + 1 ≠ if i < k + 1 then 1 else 0 := by
          intro _
          by_cases hi : i < k
          · have := some_pos (by omega) hi h
            rw [if_pos (by omega)]; omega
          · rw [if_neg (by omega)]; omega
        have h3 : someN k x + 1 ≠ if i < k + 1 then 1 else 0 := by
          by_cases hi : i < k
          · have := some_pos (by omega) hi h
            rw [if_pos (by omega)]; omega
          · rw [if_neg (by omega)]; omega
        clear h2
        simp [e, hz, h3]
theorem alone_some {N n : Nat} {q : List (Nat → Rat)} {rows : List Rw} (hb : Bk N n q rows) (hn : n ≤ N) {i : Nat} {x : List Rat} (hl : lookR rows i = some x) : aloneB n i x = decide (someN n x = 1) := by
  have hm := lookR_some hl
  have h1 := hb.len _ hm
  have h2 := hb.lead _ hm
  have h3 := hb.delta _ hm _ hm
  simp only [if_true] at h3
  rw [alone_some' (i := i) (by have : x.length = N := h1; omega) (by rw [show cv x i = 1 from h3]; decide), if_pos h2]
end Go.Proofs.Ytimhkkijoelmhaa
namespace Go.Proofs.Ytimhkkijoelmhaa
open Go.RowKit

set_option maxRecDepth 100000 in
set_option maxHeartbeats 8000000 in
theorem refDeduced_any (columns : Int) (A : Option Addr) (n c : Nat) (zs : List Sbj) (QA : Option Addr) (qn qc : Nat) (qs : List Qst) (w : World) (hi : SbjsIn w A n zs) (hq : QstsIn w QA qn qs) :
    Calls Try.prog 26 #[.int .i64 columns, .slice A n c, .slice QA qn qc] w (MeetsRet (deducedT columns zs qs) (auditN columns zs qs) w) := by
  have HCh := hid (fun W (k : Gr w W) => refchecked_any columns A n c zs QA qn qc qs W (hi.gr k) (hq.gr k))
  have hln := hi.len
  have hqn := hq.len
  unfold deducedT
  by_cases hE : auditN columns zs qs = 0
  · rw [if_pos hE, hE]
    rw [hE] at HCh
    have h16 := (audit_16 hE).1
    have h8 := (audit_16 hE).2
    have ht := (audit_table hE).1
    have HOr := hid (fun W (k : Gr w W) => refOrdIn_any columns A n c zs W (hi.gr k) ht)
    have HSo := hid (fun W (k : Gr w W) B bc (hb : SbjsIn W B n (ordI zs)) => refRows_any columns A n zs QA qn qc qs w W hi (hq.gr k) hE B bc hb)
    obtain ⟨q0, hbk⟩ := rows_bk zs qs
    rw [hln, hqn] at hbk
    rw [hln] at h16 ⊢
    rw [hqn] at h8
    have HBk := hid hbk
    generalize rowsR zs qs = rows at *
    generalize hes : ordI zs = es at *
    have hel : es.length = n := by rw [← hes, ← hln]; exact (ordI_perm zs).length_eq
    have hnz : (n : Int) ≤ 16 := by omega
    obtain ⟨i0, hi0, hz0, hs0, hy0⟩ := info_parts info_intW10
    have HI0 := hid hi0
    have HZ0 := hid hz0
    have HS0 := hid hs0
    have HY0 := hid hy0
    clear hi hq hE hi0 hz0 hs0 hy0 hes hbk ht
    unfold MeetsRet
    go_enter Try.func26, Try.ntmps26
    go_wp2_with (first
      | (go_at_call 53; (with_reducible refine (HCh.out _ (Gr.refl w)).mono ?_); rintro e w1 ⟨rfl, hb1⟩)
      | (go_at_call 46; (with_reducible refine (HOr.out _ hb1).mono ?_); rintro e w2 ⟨B, bc, rfl, hS2, hb2⟩)
      | (go_at_call 54; (with_reducible refine (HSo.out _ (hb1.trans hb2) _ _ hS2).mono ?_); rintro e w3 ⟨RA, r, rc, vs, rfl, hb3, hR3, hV3, hr3⟩))
    have G3 := hid ((hb1.trans hb2).trans hb3)
    have HEs := hid (hS2.gr hb3)
    have HRs := hid hR3
    have HVs := hid hV3
    have hrl := hR3.len
    clear HCh HOr HSo hb1 hb2 hb3 hS2 hR3 hV3
    have hrz : (r : Int) ≤ 1000 := by omega
    go_loopg [10, 11] n (fun gg s10 s11 wr => ∃ k : Nat, k ≤ n ∧ n - k ≤ gg ∧ s11 = .int .i64 k ∧ Gr w3 wr ∧ Hid (wr.ownsRow w3.heap.size 3 1 s10 (dedR n es rows k).length (intsC (dedR n es rows k))))
    case atStart => exact ⟨0, Nat.zero_le _, by omega, rfl, Gr.refl w3, ⟨rfl, .inl ⟨rfl, rfl⟩⟩⟩
    case round =>
      obtain ⟨k, hk, hgk, rfl, BW, HOw⟩ := hrel
      by_cases hkl : k < n
      · have hkn : (k : Int) < (n : Int) := by omega
        have hk0 : (0 : Int) ≤ (k : Int) := by omega
        obtain ⟨hk', b, off, hAe, hbl, c0, c1⟩ := (HEs.out.gr BW).rd.sbj hkl
        subst hAe
        have HSn := hid (dedR_succ n es rows k)
        have hol := dedR_le n es rows k
        have HLd := hid (fun W (g : Gr w3 W) => leads_any RA r rc (n + qn) vs (k : Int) W (HRs.out.gr g) hr3)
        unfold oneD at HSn
        generalize dedR n es rows k = o at *
        cases hlk : lookR rows k with
        | none =>
          rw [lead_none HVs.out hlk] at HLd
          rw [hlk] at HSn
          simp only [List.append_nil] at HSn
          clear hlk
          go_wp2_with (first | (go_at_call 55; (with_reducible refine (HLd.out _ BW).mono ?_); rotate_right; rintro e w4 ⟨rfl, hbw4⟩; obtain ⟨hcw4, hfw4, hzw4⟩ := hbw4.rules; (try simp at hzw4)))
          go_roundg (n - (k + 1))
          case measure => omega
          case rel => exact ⟨k + 1, by omega, by omega, by go_num, BW.trans hbw4, by unfold Hid; rw [HSn.out]; exact ownT_gf HOw.out hbw4⟩
        | some x =>
          obtain ⟨q, hq, hfq, hqi, hqx⟩ := lead_some HVs.out HBk.out.nd hlk
          rw [hfq] at HLd
          rw [hlk] at HSn
          have hal := alone_some HBk.out (by omega) hlk
          obtain ⟨_, bb, oo, hRe, hbb, d0, d1⟩ := HRs.out.at_ (show q < r by omega)
          subst hRe
          obtain ⟨hx1, hx2, hx3⟩ := HRs.out.each vs[q]! (by rw [getElem!_pos vs q hq]; exact List.getElem_mem hq)
          rw [hqi] at d0
          rw [hqx] at hx1 hx3
          have HAl := hid (fun W (g : Gr w3 W) => refalone_any (n + qn) (.agg #[.int .i64 k, .slice vs[q]!.a (n + qn) vs[q]!.c]) k n x W ⟨_, _, rfl, hx1.gr g, hx2, hx3⟩ (by omega) (by omega))
          rw [hal] at HAl
          generalize vs[q]!.a = ra at *
          generalize vs[q]!.c = rcc at *
          have p0 : wr.cell? ⟨bb, oo + q * 2, none⟩ = some (.int .i64 k) := GrW.cell d0 ⟨wr, BW⟩
          have p1 : wr.cell? ⟨bb, oo + q * 2 + 1, none⟩ = some (.slice ra (n + qn) rcc) := GrW.cell d1 ⟨wr, BW⟩
          have hbr : bb < wr.heap.size := Nat.lt_of_lt_of_le hbb BW.size
          have hq0 : (0 : Int) ≤ (q : Int) := by omega
          have hqr : (q : Int) < (r : Int) := by omega
          clear hlk hfq hal hqi hqx d0 d1 hx1 hx2 hx3
          by_cases h1 : someN n x = 1
          · rw [decide_eq_true h1] at HAl
            simp only [if_pos h1] at HSn
            generalize es[k]! = s at c0 c1 HSn
            obtain ⟨idn, sa, vn, vc, vals⟩ := s
            dsimp only at *
            go_wp2_with (first
              | ((go_at_call 55; (with_reducible refine (HLd.out _ BW).mono ?_); rotate_right; rintro e w4 ⟨rfl, hbw4⟩; obtain ⟨hcw4, hfw4, hzw4⟩ := hbw4.rules; (try simp at hzw4)); have hbl4 : b < w4.heap.size := Nat.lt_of_lt_of_le hbl hbw4.size)
              | (go_at_call 56; (with_reducible refine (HAl.out _ (BW.trans hbw4)).mono ?_); rotate_right; rintro e w5 ⟨rfl, hbw5⟩; obtain ⟨hcw5, hfw5, hzw5⟩ := hbw5.rules; (try simp at hzw5))
              | ((with_reducible show wpList _ _ _ (⟨some 52, _, _, _, _, _⟩ :: _) _ _); refine wpList_append_rd _ rfl (.tmp 45) (.tmp 51) 30 rfl w3.heap.size 3 i0 (.int .i64 0) 1 8 Try.underlying30 HI0.out HZ0.out HS0.out HY0.out rfl (by decide) _ _ _ rfl (ownT_gf HOw.out ((hbw4.trans hbw5).alloc _)) (some ⟨w5.heap.size, 0, none⟩) 1 1 [.int .i64 idn] rfl (rd_row10 (heap_alloc_new w5 _) 1 1 rfl) (by intro u hu; simp at hu; subst hu; rfl) (by have : maxLen = 9223372036854775807 := rfl; omega) (by omega) (by have h1 := BW.size; have h2 := hbw4.size; have h3 := hbw5.size; simp at h1 h2 h3 ⊢; omega) ?_; intro A' c' w9 hown' hbel; have HW9 := hid (And.intro hown' hbel); clear hown' hbel))
            go_roundg (n - (k + 1))
            case measure => omega
            case rel =>
              refine ⟨k + 1, by omega, by omega, by go_num, (show Below w3.heap.size w3 w9 from Below.trans (((BW.trans hbw4).trans hbw5).alloc _) HW9.out.2), ?_⟩
              unfold Hid
              rw [HSn.out]
              have h := HW9.out.1
              simpa [intsC] using h
          · rw [decide_eq_false h1] at HAl
            simp only [if_neg h1, List.append_nil] at HSn
            go_wp2_with (first
              | (go_at_call 55; (with_reducible refine (HLd.out _ BW).mono ?_); rotate_right; rintro e w4 ⟨rfl, hbw4⟩; obtain ⟨hcw4, hfw4, hzw4⟩ := hbw4.rules; (try simp at hzw4))
              | (go_at_call 56; (with_reducible refine (HAl.out _ (BW.trans hbw4)).mono ?_); rotate_right; rintro e w5 ⟨rfl, hbw5⟩; obtain ⟨hcw5, hfw5, hzw5⟩ := hbw5.rules; (try simp at hzw5)))
            go_roundg (n - (k + 1))
            case measure => omega
            case rel => exact ⟨k + 1, by omega, by omega, by go_num, (BW.trans hbw4).trans hbw5, by unfold Hid; rw [HSn.out]; exact ownT_gf HOw.out (hbw4.trans hbw5)⟩
      · have hkn : ¬ (k : Int) < (n : Int) := by omega
        have hkn' : k = n := by omega
        have hOw := HOw.out
        rw [hkn'] at hOw
        have hol := dedR_le n es rows n
        obtain ⟨o, ho⟩ : ∃ o, dedR n es rows n = o := ⟨_, rfl⟩
        rw [ho] at hOw hol
        have HDo := hid ho
        clear ho
        obtain ⟨A', c', rfl⟩ := own_slice hOw
        have HF := hid (Rd.of_own hOw)
        clear HOw hOw
        go_wp2
        go_ret2
        exact ⟨A', o.length, ⟨c', rfl⟩, G3.out.trans BW, by rw [HDo.out]; exact HF.out, by omega⟩
  · rw [if_neg hE]
    obtain ⟨E, hE'⟩ : ∃ E, auditN columns zs qs = E := ⟨_, rfl⟩
    rw [hE'] at HCh hE ⊢
    clear hi hq hE'
    unfold MeetsRet
    go_enter Try.func26, Try.ntmps26
    go_wp2_with (first
      | (go_at_call 53; (with_reducible refine (HCh.out _ (Gr.refl w)).mono ?_); rintro e w2 ⟨rfl, hb2⟩))
    go_ret2
    exact ⟨none, 0, 0, rfl, hb2, Rd.nil_, by omega⟩
end Go.Proofs.Ytimhkkijoelmhaa
