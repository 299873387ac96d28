/- open of the package sum. For every table and audit. alone of the package sum: whether a line is of one subject alone. And open, whatever it is handed. -/
import Derived.Test.YtimhkkijoelmhaaQRound10
import Derived.Test.YtimhkkijoelmhaaQOpenErr10
namespace Go.Proofs.Ytimhkkijoelmhaa
open Go.RowKit Go.Maps Go.Shelf
attribute [local go_sem] Oper.semAt_some

set_option maxRecDepth 100000 in
set_option maxHeartbeats 1000000 in
theorem open_ok (columns : Int) (A : Option Addr) (n c : Nat) (zs : List Sbj) (QA : Option Addr) (qn qc : Nat) (qs : List Qst) (w : World) (hi : SbjsIn w A n zs) (hq : QstsIn w QA qn qs) (hE : auditN columns zs qs = 0) :
    Calls Try.prog 51 #[.int .i64 columns, .slice A n c, .slice QA qn qc] w fun e w' =>
      ∃ bk, e = .returned (.tuple #[.pointer (some ⟨bk, 0, none⟩), .int .i64 0]) ∧ (Gr w w' ∧ BookIn w' bk n qn (ordI zs) (solveR n qn (asksF (ordI zs) qs) qn)) := by
  have hl := hq.len
  have hln := hi.len
  have hta : tableB columns zs = true ∧ auditB columns qs = true := by
    unfold auditN at hE
    by_cases h1 : tableB columns zs = true
    · rw [if_pos h1] at hE
      by_cases h2 : auditB columns qs = true
      · exact ⟨h1, h2⟩
      · rw [if_neg h2] at hE; cases hE
    · rw [if_neg h1] at hE; cases hE
  obtain ⟨ht, ha⟩ := hta
  have HC := hid (fun W (k : Gr w W) => check10_any columns A n c zs W (hi.gr k))
  unfold tableN at HC
  rw [if_pos ht] at HC
  have hcl := table_cols ht
  obtain ⟨hl16, hmem⟩ := table_mem ht
  have hq8 : qs.length ≤ 8 := by
    unfold auditB at ha
    simp only [Bool.and_eq_true, decide_eq_true_eq] at ha
    exact ha.1
  have hall : (qs.all fun q => qstB columns q && kindB q qs[0]!) = true := by
    unfold auditB at ha
    simp only [Bool.and_eq_true] at ha
    exact ha.2
  have HO := hid (fun c1 c2 c3 W (k : Gr w W) h1 h2 h3 => others_any columns c1 c2 c3 QA qn qc qs W (hq.gr k) hcl h1 h2 h3)
  rw [hall] at HO
  simp only [Bool.not_true] at HO
  have HOrd := hid (fun W (k : Gr w W) => ordIn_any columns A n c zs W (hi.gr k) ht)
  have HX : Hid (∀ s ∈ ordI zs, ∀ q ∈ qs, ∀ x ∈ q.whs, 0 ≤ x.col ∧ x.col < s.n) := by
    intro s hs q hq' x hx
    have hs' := (ordI_perm zs).mem_iff.1 hs
    have h1 := (hmem s hs').2.1
    have h2 := (hi.vals s hs').1.len
    simp at h2
    have h3 := List.all_eq_true.1 hall q hq'
    simp only [Bool.and_eq_true] at h3
    have h4 := (qst_parts h3.1).2.2 x hx
    omega
  have HId : Hid (∀ s ∈ ordI zs, 0 ≤ s.id ∧ s.id ≤ 999999) := fun s hs => (hmem s ((ordI_perm zs).mem_iff.1 hs)).1
  have HAp : Hid ((ordI zs).Pairwise fun x y => x.id ≠ y.id) := ((ordI_perm zs).pairwise_iff (fun h e => h e.symm)).2 (table_apart ht)
  have hel : (ordI zs).length = n := by rw [(ordI_perm zs).length_eq, hln]
  have h8z : ¬ (8 : Int) < (qn : Int) := by omega
  have HQ := hid hq
  have hn16 : n ≤ 16 := by omega
  have hqn8 : qn ≤ 8 := by omega
  clear hi hq hE ht ha hmem hall hl16 hq8
  generalize ordI zs = es at *
  refine (callsIn_wide (n := 3)).1 ?_
  refine callsIn_of_wp_marks Try.func51 rfl trivial ?_ rfl
  refine wpIn_wide.2 ?_
  simp only [Try.ntmps51, List.size_toArray, List.length_cons, List.length_nil, Nat.reduceAdd, Nat.reduceSub, Array.replicate_succ, Array.replicate_zero, List.push_toArray, List.append_toArray, List.nil_append, List.cons_append]
  go_wp2_with fail
  go_step3
  go_wp2_with (first
    | (go_at_call 20; (with_reducible refine (HC.out _ ?_).mono ?_); rotate_right; rintro e w1 ⟨rfl, hbw1⟩; obtain ⟨hcw1, hfw1, hzw1⟩ := hbw1.rules; (try simp at hzw1); have hzw1_0 : w.heap.size < w1.heap.size := (by omega); have hyw1_0 : w.heap.size ≤ w1.heap.size := (by omega); have hzw1_1 : w.heap.size + 1 < w1.heap.size := (by omega); have hyw1_1 : w.heap.size + 1 ≤ w1.heap.size := (by omega))
    | (go_at_call 79; (with_reducible refine (HO.out _ _ _ _ ?_ ?_ ?_ ?_).mono ?_); rotate_right; rintro e w2 ⟨rfl, hbw2⟩; obtain ⟨hcw2, hfw2, hzw2⟩ := hbw2.rules; (try simp at hzw2)))
  rotate_left
  · (repeat (first | with_reducible exact Gr.refl _ | with_reducible refine Gr.trans ?_ hbw1 | with_reducible refine Gr.alloc ?_ _ | with_reducible refine Gr.setCell ?_ (by simp) _ | with_reducible refine Gr.setCell ?_ (by simp; omega) _ | with_reducible refine Gr.drew ?_ | with_reducible refine Gr.drewN ?_ _))
  · exact row_cell_at (v := .int .i64 columns) (row_gr (row_gr (rows2 w (.cells #[.int .i64 columns] 3) (.cells #[.slice QA qn qc] 27)).1 hbw1) ((Gr.refl w1).alloc _)) 0 rfl
  · exact row_cell_at (heap_alloc_new w1 (.cells #[.func (.func 77) #[] #[]] 128)) 0 rfl
  · exact row_cell_at (v := .slice QA qn qc) (row_gr (row_gr (rows2 w (.cells #[.int .i64 columns] 3) (.cells #[.slice QA qn qc] 27)).2 hbw1) ((Gr.refl w1).alloc _)) 0 rfl
  · (repeat (first | with_reducible exact Gr.refl _ | with_reducible refine Gr.alloc ?_ _ | with_reducible refine Gr.setCell ?_ (by simp) _ | with_reducible refine Gr.setCell ?_ (by simp; omega) _ | with_reducible refine Gr.drew ?_ | with_reducible refine Gr.drewN ?_ _))
  have G2 : Hid (Gr w w2) := by
    show Gr w w2
    (repeat (first | with_reducible exact Gr.refl _ | with_reducible refine Gr.trans ?_ hbw2 | with_reducible refine Gr.trans ?_ hbw1 | with_reducible refine Gr.alloc ?_ _ | with_reducible refine Gr.setCell ?_ (by simp) _ | with_reducible refine Gr.setCell ?_ (by simp; omega) _ | with_reducible refine Gr.drew ?_ | with_reducible refine Gr.drewN ?_ _))
  have R5 : Hid (w2.heap[w.heap.size + 1]? = some (.cells #[.slice QA qn qc] 27 (0, 0))) := row_gr (row_gr (row_gr (rows2 w (.cells #[.int .i64 columns] 3) (.cells #[.slice QA qn qc] 27)).2 hbw1) ((Gr.refl w1).alloc _)) hbw2
  clear hbw1 hcw1 hfw1 hzw1 hbw2 hcw2 hfw2 hzw2 hzw1_0 hyw1_0 hzw1_1 hyw1_1 HC HO
  generalize w1.heap.size = c9 at *
  generalize w.heap.size = c3 at *
  rename_i hqz KK hKK
  generalize hA0 : Act.mk _ _ = a0
  have a5 : a0.tmps[5]? = some (.pointer (some ⟨c3 + 1, 0, none⟩)) := by rw [← hA0]; rfl
  have a1 : a0.tmps[1]? = some (.slice A n c) := by rw [← hA0]; rfl
  have hsz : 45 < a0.tmps.size := by rw [← hA0]; simp
  have hks : ([39, 40, 41, 42, 43, 44, 45, 11] : List Nat).Nodup := by decide
  have hkl : ∀ k ∈ ([39, 40, 41, 42, 43, 44, 45, 11] : List Nat), k < a0.tmps.size := by
    intro k hk
    simp at hk
    omega
  refine wp_region_frame [39, 40, 41, 42, 43, 44, 45, 11] (fun L V w' => LaidO w2 w' (.slice QA qn qc) n es L (V 39) (V 40) (V 41) (V 42) (V 43) (V 44) (V 45) (V 11) (.slice A n c)) (by rfl) (by kernel_rfl) hkl ?_ ?_ ?_
  · intro V
    exact ⟨(Gr.refl w2).drew, (fun h => by cases h), (fun h => by cases h), (fun h => by cases h), (fun h => by cases h), (fun h => by cases h), (fun h => by cases h), (fun h => by cases h), (fun h => by cases h), (fun h => by cases h), (fun h => by cases h), (fun h => by cases h), (fun h => by cases h), (fun h => by cases h)⟩
  · clear hKK hA0
    intro L V W i o hI ho hun hall
    have hno : i < 8 → L 8 = false := fun hi => by
      cases h8 : L 8 with
      | false => rfl
      | true => rw [hI.h9 h8 i hi] at hun; cases hun
    have near := fun d hd => frame_get (a := a0) (V := V) (d := d) hks hd (hkl d hd)
    have f5 := frame_got (V := V) (ks := [39, 40, 41, 42, 43, 44, 45, 11]) (by decide) a5
    have f1 := frame_got (V := V) (ks := [39, 40, 41, 42, 43, 44, 45, 11]) (by decide) a1
    have g := hI.gr
    have k0 := hI.h0
    have k1 := hI.h1
    have k2 := hI.h2
    have k3 := hI.h3
    have k4 := hI.h4
    have k34 := hI.h34
    have k5 := hI.h5
    have k6 := hI.h6
    have k7 := hI.h7
    have k8 := hI.h8
    have k9 := hI.h9
    have d5 := hI.d5
    have d6 := hI.d6
    clear hI
    rcases i with _ | _ | _ | _ | _ | _ | _ | _ | _ | i
    · obtain rfl := (Option.some.inj ho)
      have h8 := hno (by omega)
      have hc := row_cell_at (v := .slice QA qn qc) (row_gr R5.out g) 0 rfl
      refine op_value (v := .slice QA qn qc) (w' := W) ?_ ?_
      · simp [execOp, go_sem, f5, hc]
      · dsimp only
        refine ⟨_, frame_put hks (by decide), ?_⟩
        exact ⟨g, fun _ => rfl, fun h => k1 h, fun h => k2 h, fun h => k3 h, fun h => k4 h, fun h h' => k34 h h', fun h => (by have := ((d5 h).1); rw [show L 0 = false from hun] at this; cases this), fun h => (by have := ((d5 (d6 h)).1); rw [show L 0 = false from hun] at this; cases this), fun h h' => k7 h h', fun h => (by rw [show L 8 = true from h] at h8; cases h8), fun h => (by rw [show L 8 = true from h] at h8; cases h8), fun h => (by have := (d5 h).1; rw [show L 0 = false from hun] at this; cases this), fun h => d6 h⟩
    · obtain rfl := (Option.some.inj ho)
      have h8 := hno (by omega)
      refine op_value (v := .slice A n c) (w' := W) ?_ ?_
      · simp [execOp, go_sem, f1]
      · dsimp only
        refine ⟨_, frame_put hks (by decide), ?_⟩
        exact ⟨g, fun h => k0 h, fun _ => rfl, fun h => k2 h, fun h => k3 h, fun h => k4 h, fun h h' => k34 h h', fun h => k5 h, fun h => k6 h, fun h h' => k7 h h', fun h => (by rw [show L 8 = true from h] at h8; cases h8), fun h => (by rw [show L 8 = true from h] at h8; cases h8), fun h => d5 h, fun h => d6 h⟩
    · obtain rfl := (Option.some.inj ho)
      have h8 := hno (by omega)
      have h1 : L 1 = true := hall ⟨1, .data⟩ (by simp) rfl
      have e40 := near 40 (by decide)
      rw [k1 h1] at e40
      refine op_enter (f := 43) (args := #[.slice A n c]) (w' := W) ?_ ?_
      · simp [go_sem, e40]
      · refine (HOrd.out W (G2.out.trans g)).mono ?_
        rintro e W' ⟨B, cap, rfl, hS, hg⟩
        refine ⟨_, rfl, ?_⟩
        dsimp only
        refine ⟨_, frame_put hks (by decide), ?_⟩
        exact ⟨g.trans hg, fun h => k0 h, fun h => k1 h, fun _ => ⟨B, cap, rfl, hS⟩, fun h => (by obtain ⟨m, e, hm, hr⟩ := k3 h; exact ⟨m, e, hm, row_gr hr hg⟩), fun h => (by obtain ⟨m, e, hm, hr⟩ := k4 h; exact ⟨m, e, hm, row_gr hr hg⟩), fun h h' => k34 h h', fun h => (by have := ((d5 h).2.1); rw [show L 2 = false from hun] at this; cases this), fun h => (by have := ((d5 (d6 h)).2.1); rw [show L 2 = false from hun] at this; cases this), fun h h' => (by obtain ⟨b, e, hb, hr⟩ := k7 h h'; exact ⟨b, e, hb, row_gr hr hg⟩), fun h => (by rw [show L 8 = true from h] at h8; cases h8), fun h => (by rw [show L 8 = true from h] at h8; cases h8), fun h => (by have := (d5 h).2.1; rw [show L 2 = false from hun] at this; cases this), fun h => d6 h⟩
    · obtain rfl := (Option.some.inj ho)
      have h8 := hno (by omega)
      have hg : Gr W (W.alloc (.map #[] 0)) := (Gr.refl W).alloc _
      refine op_value (v := .map (some W.heap.size)) (w' := W.alloc (.map #[] 0)) ?_ ?_
      · simp [execOp, go_sem, run_makeMap]
      · dsimp only
        refine ⟨_, frame_put hks (by decide), ?_⟩
        exact ⟨g.trans hg, fun h => k0 h, fun h => k1 h, fun h => (by obtain ⟨B, cap, e, hs⟩ := k2 h; exact ⟨B, cap, e, hs.gr hg⟩), fun _ => ⟨W.heap.size, rfl, g.size, heap_alloc_new W _⟩, fun h => (by obtain ⟨m, e, hm, hr⟩ := k4 h; exact ⟨m, e, hm, row_gr hr hg⟩), fun _ h' => (by obtain ⟨m, e, _, hr⟩ := k4 h'; have := (Array.getElem?_eq_some_iff.1 hr).1; show Value.map (some W.heap.size) ≠ V 43; rw [e]; intro e2; injection e2 with e2; injection e2 with e2; omega), fun h => (by have := ((d5 h).2.2.1); rw [show L 3 = false from hun] at this; cases this), fun h => (by have := ((d5 (d6 h)).2.2.1); rw [show L 3 = false from hun] at this; cases this), fun h h' => (by obtain ⟨b, e, hb, hr⟩ := k7 h h'; exact ⟨b, e, hb, row_gr hr hg⟩), fun h => (by rw [show L 8 = true from h] at h8; cases h8), fun h => (by rw [show L 8 = true from h] at h8; cases h8), fun h => (by have := (d5 h).2.2.1; rw [show L 3 = false from hun] at this; cases this), fun h => d6 h⟩
    · obtain rfl := (Option.some.inj ho)
      have h8 := hno (by omega)
      have hg : Gr W (W.alloc (.map #[] 0)) := (Gr.refl W).alloc _
      refine op_value (v := .map (some W.heap.size)) (w' := W.alloc (.map #[] 0)) ?_ ?_
      · simp [execOp, go_sem, run_makeMap]
      · dsimp only
        refine ⟨_, frame_put hks (by decide), ?_⟩
        exact ⟨g.trans hg, fun h => k0 h, fun h => k1 h, fun h => (by obtain ⟨B, cap, e, hs⟩ := k2 h; exact ⟨B, cap, e, hs.gr hg⟩), fun h => (by obtain ⟨m, e, hm, hr⟩ := k3 h; exact ⟨m, e, hm, row_gr hr hg⟩), fun _ => ⟨W.heap.size, rfl, g.size, heap_alloc_new W _⟩, fun h _ => (by obtain ⟨m, e, _, hr⟩ := k3 h; have := (Array.getElem?_eq_some_iff.1 hr).1; show V 42 ≠ Value.map (some W.heap.size); rw [e]; intro e2; injection e2 with e2; injection e2 with e2; omega), fun h => (by have := ((d5 h).2.2.2); rw [show L 4 = false from hun] at this; cases this), fun h => (by have := ((d5 (d6 h)).2.2.2); rw [show L 4 = false from hun] at this; cases this), fun h h' => (by obtain ⟨b, e, hb, hr⟩ := k7 h h'; exact ⟨b, e, hb, row_gr hr hg⟩), fun h => (by rw [show L 8 = true from h] at h8; cases h8), fun h => (by rw [show L 8 = true from h] at h8; cases h8), fun h => (by have := (d5 h).2.2.2; rw [show L 4 = false from hun] at this; cases this), fun h => d6 h⟩
    · obtain rfl := (Option.some.inj ho)
      have h8 := hno (by omega)
      have D0 : L 0 = true := hall ⟨0, .data⟩ (by simp) rfl
      have D2 : L 2 = true := hall ⟨2, .data⟩ (by simp) rfl
      have D3 : L 3 = true := hall ⟨3, .data⟩ (by simp) rfl
      have D4 : L 4 = true := hall ⟨4, .data⟩ (by simp) rfl
      obtain ⟨B, cap, e41, hS⟩ := k2 (D2)
      obtain ⟨ma, e42, ha1, ha2⟩ := k3 (D3)
      obtain ⟨ml, e43, hl1, hl2⟩ := k4 (D4)
      have e39 := k0 (D0)
      have n39 := near 39 (by decide)
      have n41 := near 41 (by decide)
      have n42 := near 42 (by decide)
      have n43 := near 43 (by decide)
      rw [e39] at n39
      rw [e41] at n41
      rw [e42] at n42
      rw [e43] at n43
      refine op_value (v := .agg #[V 39, V 41, V 42, V 43]) (w' := W) ?_ ?_
      · rw [e39, e41, e42, e43]; simp [execOp, go_sem, n39, n41, n42, n43]
      · dsimp only
        refine ⟨_, frame_put hks (by decide), ?_⟩
        exact ⟨g, fun h => k0 h, fun h => k1 h, fun h => k2 h, fun h => k3 h, fun h => k4 h, fun h h' => k34 h h', fun _ => rfl, fun h => k6 h, fun h h' => k7 h h', fun h => (by rw [show L 8 = true from h] at h8; cases h8), fun h => (by rw [show L 8 = true from h] at h8; cases h8), fun _ => ⟨D0, D2, D3, D4⟩, fun _ => rfl⟩
    · obtain rfl := (Option.some.inj ho)
      have h8 := hno (by omega)
      have D5 : L 5 = true := hall ⟨5, .data⟩ (by simp) rfl
      obtain ⟨D0, D2, D3, D4⟩ := d5 D5
      obtain ⟨B, cap, e41, hS⟩ := k2 (D2)
      obtain ⟨ma, e42, ha1, ha2⟩ := k3 (D3)
      obtain ⟨ml, e43, hl1, hl2⟩ := k4 (D4)
      have e39 := k0 (D0)
      have n44 := near 44 (by decide)
      rw [k5 D5, e39, e41, e42, e43] at n44
      have hg : Gr W (W.alloc (.cells #[V 39, V 41, V 42, V 43] 87)) := (Gr.refl W).alloc _
      refine op_value (v := .pointer (some ⟨W.heap.size, 0, none⟩)) (w' := W.alloc (.cells #[V 39, V 41, V 42, V 43] 87)) ?_ ?_
      · rw [e39, e41, e42, e43]; simp [execOp, go_sem, n44]
      · dsimp only
        refine ⟨_, frame_put hks (by decide), ?_⟩
        exact ⟨g.trans hg, fun h => k0 h, fun h => k1 h, fun h => (by obtain ⟨B, cap, e, hs⟩ := k2 h; exact ⟨B, cap, e, hs.gr hg⟩), fun h => (by obtain ⟨m, e, hm, hr⟩ := k3 h; exact ⟨m, e, hm, row_gr hr hg⟩), fun h => (by obtain ⟨m, e, hm, hr⟩ := k4 h; exact ⟨m, e, hm, row_gr hr hg⟩), fun h h' => k34 h h', fun h => k5 h, fun _ => ⟨W.heap.size, rfl, heap_alloc_new W _⟩, fun h h' => (by obtain ⟨b, e, hb, hr⟩ := k7 h h'; exact ⟨b, e, hb, row_gr hr hg⟩), fun h => (by rw [show L 8 = true from h] at h8; cases h8), fun h => (by rw [show L 8 = true from h] at h8; cases h8), fun h => d5 h, fun _ => D5⟩
    · obtain rfl := (Option.some.inj ho)
      have h8 := hno (by omega)
      have hg : Gr W (W.alloc (.cells #[.pointer none] 81)) := (Gr.refl W).alloc _
      refine op_value (v := .pointer (some ⟨W.heap.size, 0, none⟩)) (w' := W.alloc (.cells #[.pointer none] 81)) ?_ ?_
      · simp [execOp, go_sem]
      · dsimp only
        refine ⟨_, frame_put hks (by decide), ?_⟩
        exact ⟨g.trans hg, fun h => k0 h, fun h => k1 h, fun h => (by obtain ⟨B, cap, e, hs⟩ := k2 h; exact ⟨B, cap, e, hs.gr hg⟩), fun h => (by obtain ⟨m, e, hm, hr⟩ := k3 h; exact ⟨m, e, hm, row_gr hr hg⟩), fun h => (by obtain ⟨m, e, hm, hr⟩ := k4 h; exact ⟨m, e, hm, row_gr hr hg⟩), fun h h' => k34 h h', fun h => k5 h, fun h => (by obtain ⟨b, e, hr⟩ := k6 h; exact ⟨b, e, row_gr hr hg⟩), fun _ _ => ⟨W.heap.size, rfl, g.size, heap_alloc_new W _⟩, fun h => (by rw [show L 8 = true from h] at h8; cases h8), fun h => (by rw [show L 8 = true from h] at h8; cases h8), fun h => d5 h, fun h => d6 h⟩
    · obtain rfl := (Option.some.inj ho)
      have hun' : L 8 = false := hun
      have hD : ∀ j, j < 8 → L j = true := by
        intro j hj
        have : j = 0 ∨ j = 1 ∨ j = 2 ∨ j = 3 ∨ j = 4 ∨ j = 5 ∨ j = 6 ∨ j = 7 := by omega
        rcases this with rfl | rfl | rfl | rfl | rfl | rfl | rfl | rfl <;> exact hall ⟨_, .phase⟩ (by simp) rfl
      have D0 : L 0 = true := hD 0 (by omega)
      have D1 : L 1 = true := hD 1 (by omega)
      have D2 : L 2 = true := hD 2 (by omega)
      have D3 : L 3 = true := hD 3 (by omega)
      have D4 : L 4 = true := hD 4 (by omega)
      have D5 : L 5 = true := hD 5 (by omega)
      have D6 : L 6 = true := hD 6 (by omega)
      have D7 : L 7 = true := hD 7 (by omega)
      clear hall
      generalize hG : Oper.wp _ _ _ _ _ _ = G
      obtain ⟨B, cap, e41, hS⟩ := k2 D2
      obtain ⟨ma, e42, ha1, ha2⟩ := k3 D3
      obtain ⟨ml, e43, hl1, hl2⟩ := k4 D4
      have e39 := k0 D0
      obtain ⟨bk, e45, hbk⟩ := k6 D6
      obtain ⟨b, e11, hb1, hb2⟩ := k7 D7 hun'
      rw [← hG]
      clear hG
      have hne := k34 D3 D4
      rw [e39, e41, e42, e43] at hbk
      rw [e42, e43] at hne
      have n45 := near 45 (by decide)
      have n11 := near 11 (by decide)
      rw [e45] at n45
      rw [e11] at n11
      have hc := row_cell_at (v := .pointer none) hb2 0 rfl
      have hf := frozen_of_row W b 0 _ _ hb2
      refine op_skip (w' := W.setCell ⟨b, 0, none⟩ (.pointer (some ⟨bk, 0, none⟩))) ?_ ?_
      · simp [execOp, go_sem, n45, n11, hc, hf]
      · dsimp only
        refine ⟨V, rfl, ?_⟩
        have hbs := heap_setCell_same W b 0 _ _ (.pointer (some ⟨bk, 0, none⟩)) hb2
        have far : ∀ {k : Nat} {q : Obj}, W.heap[k]? = some q → q ≠ .cells #[.pointer none] 81 (0, 0) → (W.setCell ⟨b, 0, none⟩ (.pointer (some ⟨bk, 0, none⟩))).heap[k]? = some q := by
          intro k q hk hq
          refine (Below.heap_setCell W ⟨b, 0, none⟩ _ k ?_).trans hk
          rintro rfl
          rw [hb2] at hk
          injection hk with hk
          exact hq hk.symm
        have hS' := hS.set_other hb2 (.pointer (some ⟨bk, 0, none⟩))
        have hbk' := far hbk (by simp)
        have ha' := far ha2 (by simp)
        have hl' := far hl2 (by simp)
        refine ⟨g.setCell hb1 _, fun _ => e39, fun _ => k1 D1, fun _ => ⟨B, cap, e41, hS'⟩, fun _ => ⟨ma, e42, ha1, ha'⟩, fun _ => ⟨ml, e43, hl1, hl'⟩, fun _ _ => (by rw [e42, e43]; exact hne), fun _ => k5 D5, fun _ => ⟨bk, e45, by rw [e39, e41, e42, e43]; exact hbk'⟩, fun _ h => (by cases h), fun _ => ⟨b, bk, B, cap, ma, ml, e11, hbs, hbk', hS', ha', hl', (fun e => hne (by rw [e])), ha1, hl1⟩, fun _ j hj => ?_, fun _ => ⟨D0, D2, D3, D4⟩, fun _ => D5⟩
        show (if j = 8 then true else L j) = true
        rw [if_neg (by omega)]
        exact hD j hj
    · cases ho
  · intro L V W hI hL
    have H8 := hI.h8 (hL 8 (by simp))
    have g := hI.gr
    clear hI hL a5 a1 hsz hks hkl HOrd R5
    generalize hG : Exit.then _ _ _ _ _ = G
    obtain ⟨b, bk, B, cap, ma, ml, e11, hb, hbk, hS, hma, hml, hne, ha1, hl1⟩ := H8
    rw [← hG]
    clear hG
    subst hA0
    unfold frameV putAll
    simp only [List.map_cons, List.map_nil, List.foldl_cons, List.foldl_nil, Act.put, List.setIfInBounds_toArray, List.set_cons_zero, List.set_cons_succ, e11]
    generalize V 39 = x39
    generalize V 40 = x40
    generalize V 41 = x41
    generalize V 42 = x42
    generalize V 43 = x43
    generalize V 44 = x44
    generalize V 45 = x45
    refine hKK _ _ ?_
    have c11 := row_cell_at (v := .pointer (some ⟨bk, 0, none⟩)) hb 0 rfl
    have d0 := row_cell_at (v := .slice QA qn qc) hbk 0 rfl
    have d1 := row_cell_at (v := .slice B n cap) hbk 1 rfl
    have HB := hid hb
    have HBK := hid hbk
    have HS := hid hS
    have HMA := hid hma
    have HML := hid hml
    have GW := hid (G2.out.trans g)
    have GG := hid g
    clear hb hbk hS hma hml g e11
    obtain ⟨W0, rfl⟩ : ∃ W0 : World, W0 = W := ⟨_, rfl⟩
    go_wp2_with fail
    go_loopg [12, 51] n (fun gg s12 s51 wr => ∃ k : Nat, k ≤ n ∧ n - k ≤ gg ∧ s51 = .int .i64 k ∧ Gr w2 wr ∧ KC W0 wr ∧ Hid (wr.heap[ml]? = some (.map #[] 0)) ∧ Hid (MapIs Try.prog 3 (Value.int .i64) wr ma (idxF (es.take k))))
    case atStart => exact ⟨0, Nat.zero_le _, by omega, rfl, GG.out, KC.refl _, HML.out, MapIs.fresh HMA.out⟩
    case round =>
      obtain ⟨k, hk, hgk, rfl, BW, BK, HMl, HMa⟩ := hrel
      have e11 := BK.cell c11
      have e0 := BK.cell d0
      have e1 := BK.cell d1
      have hz : w2.heap.size ≤ wr.heap.size := BW.size
      by_cases hkl : k < n
      · obtain ⟨hk', b1, off, rfl, hbl, s0, s1⟩ := (HS.out.kc BK).rd.sbj hkl
        have HSn := hid (fun p => idxF_succ (es := es) hk' HAp.out p)
        have hidk := HId.out _ (mem_get hk')
        have HKy := hid (key_id10 (x := es[k]!.id) (by omega))
        generalize es[k]! = s at s0 s1 HSn HKy hidk
        obtain ⟨id, a, vn, vc, vals⟩ := s
        dsimp only at *
        have hkn : (k : Int) < (n : Int) := by omega
        have hk0 : (0 : Int) ≤ (k : Int) := by omega
        clear hk' hidk
        go_upto_region 12 with fail
        have g1 : Gr wr (wr.alloc (.cells #[.int .i64 id, .slice a vn vc] 60)) := (Gr.refl wr).alloc _
        have rs := heap_alloc_new wr (.cells #[.int .i64 id, .slice a vn vc] 60)
        replace e11 := row_cell e11 g1
        replace e0 := row_cell e0 g1
        have e2 := row_cell (BK.cell (row_cell_at (v := .map (some ma)) HBK.out 2 rfl)) g1
        have HM1 := hid (HMa.out.gr g1)
        have HL1 := hid (row_gr HMl.out g1)
        have B1 := hid (BW.trans g1)
        have B2 := hid (BK.trans (KC.of_gr g1))
        clear s0 s1
        generalize wr.alloc (.cells #[.int .i64 id, .slice a vn vc] 60) = w3 at *
        have p11 := KCW.cell e11
        have p0 := KCW.cell e0
        have p2 := KCW.cell e2
        have q0 := KCW.cell (row_cell_at (v := .int .i64 id) rs 0 rfl)
        clear e11 e0 e1 e2 rs g1
        refine wp_region_plan (C := fun w' => ∃ p : KCW w3, w' = p.W) (.take 0 (.take 1 (.take 2 (.take 3 (.take 4 (.take 5 (.take 6 (.one 7 .done)))))))) (by rfl) (by kernel_rfl) (by kernel_rfl) ⟨⟨_, KC.of_gr (Gr.refl w3).drew⟩, rfl⟩ ?_
        (iterate 1 (refine plan_read2 rfl rfl (fun K hK => ?_); go_big_quiet_op; (with_reducible refine hK _ ?_); clear hK K))
        (refine plan_nil rfl rfl rfl ?_; simp only [Act.put, List.setIfInBounds_toArray, List.set_cons_zero, List.set_cons_succ])
        (iterate 5 (refine plan_read2 rfl rfl (fun K hK => ?_); go_big_quiet_op; (with_reducible refine hK _ ?_); clear hK K))
        clear p11 p0 p2 q0
        (refine plan_one rfl (fun K hK => ?_))
        refine op_put (E := 3) (Value.int .i64) (.tmp 59) (.tmp 61) (.tmp 62) 84 rfl keyed_int10 int_inj Try.underlying84 rfl HM1.out.drew id (.int .i64 k) (.int .i64 id) rfl rfl HKy.out ?_
        intro w4 hm4 hg4 hz4
        have K4 := hid (HM1.out.drew.kc hg4)
        refine hK.out _ _ ⟨⟨w4, (KC.of_gr (Gr.refl w3).drew).trans K4.out⟩, rfl⟩ ?_
        clear hK K
        have HM4 := hid hm4
        have HG4 := hid hg4
        clear hm4 hg4 hz4
        (with_reducible refine plan_done ?_)
        go_wp2
        go_roundg (n - (k + 1))
        case measure => omega
        case rel =>
          refine ⟨k + 1, by omega, by omega, by go_num, ?_, B2.out.trans ((KC.of_gr (Gr.refl w3).drew).trans K4.out), ?_, ?_⟩
          · exact (show Below w2.heap.size w2 w4 from Below.grown (B1.out.drew) HG4.out (by have := B1.out.size; exact this) (fun j e => by cases e; exact ha1))
          · exact (HG4.out.block ml (Array.getElem?_eq_some_iff.1 (show w3.drew.heap[ml]? = _ from HL1.out)).1 (fun e => hne (by injection e with e; exact e.symm))).trans HL1.out
          · exact HM4.out.congr HSn.out
      · have hkn : ¬ (k : Int) < (n : Int) := by omega
        obtain rfl : n = k := by omega
        have htk : es.take n = es := by rw [← hel, List.take_length]
        rw [htk] at HMa
        go_wp2_with fail
        have hbz : b < wr.heap.size := block_lt_of_cell e11
        go_step3
        go_wp2_with (go_at_call 81; (with_reducible refine (fresh_any bk _).mono ?_); rintro e w5 ⟨rfl, hg5, hf1, hf2⟩; have HG5 := hid hg5; have HF1 := hid hf1; have HF2 := hid hf2; clear hg5 hf1 hf2)
        rename_i KE hKE
        have gA : Gr wr (wr.alloc (.cells #[.func (.func 80) #[] #[]] 113)) := (Gr.refl wr).alloc _
        have G5 := hid (BW.trans (gA.trans HG5.out))
        have K5 := hid (BK.trans (KC.of_gr (gA.trans HG5.out)))
        have R14 := hid (row_gr (heap_alloc_new wr (.cells #[.func (.func 80) #[] #[]] 113)) HG5.out)
        have HMl5 := hid (row_gr (row_gr HMl.out gA) HG5.out)
        have HMa5 := hid ((HMa.out.gr gA).gr HG5.out)
        have hz5 : wr.heap.size + 1 ≤ w5.heap.size := by have := HG5.out.size; simpa using this
        have B5 := hid (K5.out.row HB.out)
        have BK5 := hid (K5.out.row HBK.out)
        have S5 := hid (HS.out.kc K5.out)
        have Q5 := hid (HQ.out.gr (G2.out.trans G5.out))
        have hsz1 : (wr.alloc (.cells #[.func (.func 80) #[] #[]] 113)).heap.size = wr.heap.size + 1 := by simp
        rw [hsz1] at HF1 HF2
        clear HMl HMa gA HG5 BW BK c11 d0 d1 HB HBK HS e11 e0 e1 hbz hsz1 HMA HML
        generalize wr.heap.size = c14 at *
        generalize hA0 : Act.mk _ _ = a0
        refine wpIn_wide.1 (rangeFunc_y (n := 3) (a := a0) (α := Nat × Value) (gf := 100) (lb := #[.pointer (some ⟨c14 + 1, 0, none⟩), .pointer (some ⟨c14 + 1 + 1, 0, none⟩)]) (by rw [← hA0]; rfl) (enters_of Try.func100 (by kernel_rfl) rfl)
          (fresh2_y 2 (c14 + 1) (c14 + 1 + 1) bk QA qn qc B n cap ma ml es qs w5 HF1.out HF2.out ⟨BK5.out⟩ S5.out Q5.out HX.out (by omega) (by omega)) (fun x => rfl) KC.trans (fun W l o o' _ h1 h2 _ => KC.putObj o' h1 h2)
          (fun pre W => KC w5 W ∧ Gr w2 W ∧ MapIs Try.prog 3 (Value.int .i64) W ma (idxF es) ∧ LinesIn W ml n qn (solveR n qn (asksF es qs) pre.length)) ?_ ?_ ?_
          (fun pre x W0 a' W => ∃ v0 v1, x.2 = .agg #[v0, v1] ∧ x.1 = pre.length ∧ pre.length < qn ∧ LnIn W n qn x.2 (newR n qn (asksF es qs pre.length) pre.length) ∧
            a' = { tmps := ((a0.tmps.setIfInBounds 66 (.int .i64 x.1)).setIfInBounds 67 x.2).setIfInBounds 16 (.pointer (some ⟨W0.heap.size, 0, none⟩)), defers := [] } ∧ W.heap[W0.heap.size]? = some (.cells #[v0, v1] 90 (0, 0)) ∧ w5.heap.size ≤ W0.heap.size ∧ KC W0 W ∧
            KC w5 W0 ∧ Gr w2 W ∧ MapIs Try.prog 3 (Value.int .i64) W ma (idxF es) ∧ LinesIn W ml n qn (solveR n qn (asksF es qs) pre.length)) ?_ ?_ ?_ ?_)
        · rintro pre A1 B1 ⟨h1, h2, h3, h4⟩ k
          exact ⟨h1.trans (KC.of_gr k), h2.trans k, h3.gr k, h4.gr k⟩
        · rintro pre W l o o' hl ho hc _ ⟨h1, h2, h3, h4⟩
          have hz := G5.out.size
          exact ⟨h1.trans (KC.putObj o' ho hc), h2.putObj (by omega) o' ho, h3.keep (putObj_far o' (by have := HMa5.out.lt; omega)), h4.putObj o' ho hc (by have := (Array.getElem?_eq_some_iff.1 HMl5.out).1; omega)⟩
        · refine ⟨KC.refl _, G5.out, HMa5.out, fun _ => none, MapIs.fresh HMl5.out, fun r hr => (by cases hr), fun q v h => (by cases h)⟩
        · rintro pre x W0 a' W l o o' hl ho hc hw ⟨v0, v1, e1, e2, e3, h1, h2, h3, h4, h5, h6, h7, h8, h9⟩
          have hz := G5.out.size
          refine ⟨v0, v1, e1, e2, e3, h1.kc (KC.putObj o' ho hc), h2, (KC.putObj o' ho hc).row h3, h4, h5.trans (KC.putObj o' ho hc), h6, h7.putObj (by omega) o' ho, h8.keep (putObj_far o' (by have := HMa5.out.lt; omega)), h9.putObj o' ho hc (by have := (Array.getElem?_eq_some_iff.1 HMl5.out).1; omega)⟩
        · -- the assignment
          rintro l pre ⟨x1, x2⟩ W K hW ⟨h1, h2, h3, h4⟩ ⟨y1, y2, y3⟩ hK
          clear hKE
          dsimp only at y1 y2 y3 hK ⊢
          subst y1
          obtain ⟨A1, d1, A2, d2, e2, _⟩ := id y3
          subst e2
          have g1 : Gr W (W.alloc (.cells #[.slice A1 n d1, .slice A2 qn d2] 90)) := (Gr.refl W).alloc _
          have HK := hid (hK { tmps := ((a0.tmps.setIfInBounds 66 (.int .i64 (pre.length : Int))).setIfInBounds 67 (.agg #[.slice A1 n d1, .slice A2 qn d2])).setIfInBounds 16 (.pointer (some ⟨W.heap.size, 0, none⟩)), defers := [] } (W.alloc (.cells #[.slice A1 n d1, .slice A2 qn d2] 90)) g1
            ⟨_, _, rfl, rfl, y2, y3.gr g1, rfl, heap_alloc_new W _, h1.size, KC.of_gr g1, h1, h2.trans g1, h3.gr g1, h4.gr g1⟩)
          clear hK h1 h2 h3 h4 y3
          subst hA0
          gi_wp2
          have h := HK.out
          simp only [List.setIfInBounds_toArray, List.set_cons_zero, List.set_cons_succ] at h
          exact h
        · -- a round
          rintro l pre ⟨x1, x2⟩ W0 a' W hszW ⟨v0, v1, e1, e2, e3, h1, h2, h3, h4, h5, h6, h7, h8, h9⟩
          clear hKE
          dsimp only at e1 e2 h1 h2
          subst e1 e2 h2 hA0
          obtain ⟨A1, d1, A2, d2, e4, ra, rb, ca, cb, hlen⟩ := id h1
          injection e4 with e4
          injection e4 with e4
          injection e4 with ea e4
          injection e4 with eb _
          subst ea eb
          simp only [List.setIfInBounds_toArray, List.set_cons_zero, List.set_cons_succ]
          obtain ⟨qs', HBk, hle⟩ := solveR_bk n qn (asksF es qs) pre.length
          have HSt : Hid (solveR n qn (asksF es qs) (pre.length + 1) = stepR n (solveR n qn (asksF es qs) pre.length) (newR n qn (asksF es qs pre.length) pre.length)) := rfl
          have HLen := hid (show (pre ++ [(pre.length, Value.agg #[Value.slice A1 n d1, Value.slice A2 qn d2])]).length = pre.length + 1 by simp)
          have hl0 := newR_len n qn (asksF es qs pre.length) pre.length
          have hbit := newR_bit n qn (asksF es qs pre.length) pre.length
          have hz2 : w2.heap.size ≤ W0.heap.size := Nat.le_trans G5.out.size h4
          have HM := hid (Mid.mk (w5 := w5) (W := W) (W0 := W0) ⟨A1, d1, A2, d2, h3, h1⟩ h5 (KeepsFrom.refl _ _) h7 h8 h9)
          have H6 := hid h6
          have HX0 := hid hz2
          clear ra rb ca cb hlen h1 h3 h5 h6 h7 h8 h9 hszW
          generalize solveR n qn (asksF es qs) pre.length = rows at *
          generalize newR n qn (asksF es qs pre.length) pre.length = x0 at *
          have hle7 : rows.length ≤ 7 := by omega
          have HBK2 := hid HBk
          have HL0 := hid hl0
          have HBit := hid hbit
          have E11 := hid (fun (wr : World) (k : KC W0 wr) => k.cell (H6.out.cell (row_cell_at (v := .pointer (some ⟨bk, 0, none⟩)) B5.out 0 rfl)))
          have EB := hid (fun (wr : World) (k : KC W0 wr) => k.row (H6.out.row BK5.out))
          have E14 := hid (fun (wr : World) (k : KC W0 wr) => k.cell (H6.out.cell (row_cell_at (v := .func (.func 80) #[] #[]) R14.out 0 rfl)))
          have e11 := E11.out W HM.out.kc
          have b1 := row_cell_at (v := .slice B n cap) (EB.out W HM.out.kc) 1 rfl
          clear HBk hl0 hbit hz2
          generalize hXe : W0.heap.size = X at *
          have HXe : Hid (W0.heap.size ≤ X) := Nat.le_of_eq hXe
          clear hXe
          gi_wp2
          gi_loopw [17, 73] (fun _ s73 wr => ∃ k : Nat, k ≤ n ∧ s73 = .int .i64 k ∧ Mid w2 w5 W0 W X n qn ma ml es rows (awayP rows x0 k) wr) (fun _ s73 _ => n - (intOf s73).toNat)
          case atStart => exact ⟨0, Nat.zero_le _, rfl, HM.out⟩
          case round =>
            obtain ⟨k, hk, rfl, hmid⟩ := hrel
            by_cases hkl : k < n
            · have hkn : (k : Int) < (n : Int) := by omega
              have hk0 : (0 : Int) ≤ (k : Int) := by omega
              have e11 := E11.out wr hmid.kc
              have RB := EB.out wr hmid.kc
              have b3 := row_cell_at (v := .map (some ml)) RB 3 rfl
              have HMd := hid hmid
              obtain ⟨f, hm1, hm2, hm3⟩ := hmid.ln
              have HMp := hid hm1
              have HNx : Hid (awayP rows x0 (k + 1) = match lookR rows k with | none => awayP rows x0 k | some v => if cv (awayP rows x0 k) k = 0 then awayP rows x0 k else subR (awayP rows x0 k) v (cv (awayP rows x0 k) k)) := rfl
              have hlg := lines_get hm2 hm3 k
              clear hm1 hm2 hm3 hmid RB
              rcases hlg with ⟨hr, hf⟩ | ⟨xr, v, hr, hf, hv⟩
              · rw [hr] at HNx
                dsimp only at HNx
                gi_wp2_with ((with_reducible show wpListIn _ _ _ _ _ (⟨some 82, _, _, _, _, _⟩ :: _) _ _); refine listIn_op rfl rfl (fun K hK => ?_); refine op_lookup_ok (E := 90) (Value.int .i64) (.tmp 80) (.tmp 81) 85 rfl keyed_int10 int_inj Try.underlying85 ml f rfl HMp.out (k : Int) _ _ rfl (key_id10 (by omega)) (zero_line _) ?_; refine hK _ _ ?_; clear hK K; simp only [hf, Option.getD_none, Option.isSome_none])
                have gB : Gr wr (wr.alloc (.cells #[.slice none 0 0, .slice none 0 0] 90)) := (Gr.refl wr).alloc _
                have HM3 := hid (HMd.out.grow gB)
                clear gB e11 b3
                generalize wr.alloc (.cells #[.slice none 0 0, .slice none 0 0] 90) = w3 at *
                refine region_in (by rfl) (by kernel_rfl) ?_
                refine any_mixN (C := fun w' => ∃ p : KCW w3, w' = p.W) [8] (by kernel_rfl) ⟨⟨_, KC.of_gr (Gr.refl w3).drew⟩, rfl⟩ ?_
                (repeat (first | ((with_reducible refine mixL_read0 ?_ ?_ (fun K hK => ?_)); rfl; rfl; go_big_quiet_op; (with_reducible refine hK _ ?_); clear hK K) | ((with_reducible refine' mixL_skipG ?_ ?_ ?_ ?_ ?_); rotate_left 4; rfl; rfl; rfl; rfl; simp only [Act.put, List.setIfInBounds_toArray, List.set_cons_zero, List.set_cons_succ]) | ((with_reducible refine' mixL_skipU ?_ ?_ ?_ ?_); rotate_left 3; rfl; rfl; rfl; simp only [Act.put, List.setIfInBounds_toArray, List.set_cons_zero, List.set_cons_succ]) | ((with_reducible refine' mixL_readG ?_ ?_ ?_ ?_ ?_ (fun K hK => ?_)); rotate_left 4; rfl; rfl; rfl; rfl; rfl; go_big_quiet_op; (with_reducible refine hK _ ?_); clear hK K)))
                (with_reducible refine mixN_nil ?_)
                gi_wp2
                go_roundw
                case rel => exact ⟨k + 1, by omega, by simp, by rw [HNx.out]; exact HM3.out.drew⟩
                case measure => simp [intOf]; omega
              · rw [hr] at HNx
                dsimp only at HNx
                obtain ⟨KA, kc, KB, kd, rfl, kra, krb, kca, kcb, klen⟩ := id hv
                have HV := hid hv
                have HXr := hid (HBK2.out.sm (by omega) (lookR_some hr))
                have HYs := hid (HBK2.out.sm_away hle7 HL0.out HBit.out k)
                have HYl := hid (awayP_len HBK2.out HL0.out HBit.out k)
                clear hv kra krb kca kcb klen
                gi_wp2_with ((with_reducible show wpListIn _ _ _ _ _ (⟨some 82, _, _, _, _, _⟩ :: _) _ _); refine listIn_op rfl rfl (fun K hK => ?_); refine op_lookup_ok (E := 90) (Value.int .i64) (.tmp 80) (.tmp 81) 85 rfl keyed_int10 int_inj Try.underlying85 ml f rfl HMp.out (k : Int) _ _ rfl (key_id10 (by omega)) (zero_line _) ?_; refine hK _ _ ?_; clear hK K; simp only [hf, Option.getD_some, Option.isSome_some])
                have gB : Gr wr (wr.alloc (.cells #[.slice KA n kc, .slice KB qn kd] 90)) := (Gr.refl wr).alloc _
                have HM3 := hid (HMd.out.grow gB)
                have HV3 := hid (HV.out.gr gB)
                have RK3 := hid (heap_alloc_new wr (.cells #[.slice KA n kc, .slice KB qn kd] 90))
                clear gB e11 b3 HV HMd HMp
                generalize hw3 : wr.alloc (.cells #[.slice KA n kc, .slice KB qn kd] 90) = w3 at *
                clear hw3
                obtain ⟨A3, c3', A4, c4', hrow, hln⟩ := HM3.out.row
                obtain ⟨A5, c5', A6, c6', e5, ra, rb, ca, cb, hlen⟩ := id hln
                injection e5 with e5
                injection e5 with e5
                injection e5 with ea e5
                injection e5 with eb _
                injection ea with ea1 _ ea2
                injection eb with eb1 _ eb2
                subst ea1 ea2 eb1 eb2
                have HLn := hid hln
                have HRow := hid hrow
                obtain ⟨hk', b7, off7, rfl, hbl7, y0, y1⟩ := ra.fr hkl
                have hyk : ((awayP rows x0 k).take n)[k]! = cv (awayP rows x0 k) k := by
                  rw [getElem!_pos _ k hk', List.getElem_take, cv_lt (by rw [hlen]; omega)]
                rw [hyk] at y0 y1
                have HCv := hid (show Sm 40320 (cv (awayP rows x0 k) k) by rw [cv_lt (by rw [hlen]; omega)]; exact HYs.out _ (List.getElem_mem _))
                have HF3 := hid (fun W => some3_any (cv (awayP rows x0 k) k) W)
                have HLs := hid (fun W (k1 : KC w3 W) => lineLess_any n qn _ (awayP rows x0 k) _ xr (cv (awayP rows x0 k) k) W (HLn.out.kc k1) (HV3.out.kc k1) 40320 40320 40320 HYs.out HXr.out HCv.out (by decide) (by decide) (by omega) (by omega))
                have p14 := KCW.cell (E14.out w3 HM3.out.kc)
                have px0 := KCW.cell (row_cell_at (v := .slice (some ⟨b7, off7, none⟩) n c3') hrow 0 rfl)
                have px1 := KCW.cell (row_cell_at (v := .slice A4 qn c4') hrow 1 rfl)
                have pk0 := KCW.cell (row_cell_at (v := .slice KA n kc) RK3.out 0 rfl)
                have pk1 := KCW.cell (row_cell_at (v := .slice KB qn kd) RK3.out 1 rfl)
                have py0 := KCW.cell y0
                have py1 := KCW.cell y1
                clear hyk hln hrow ra rb ca cb hlen hk' hbl7 HYs HXr
                unfold frV at HF3 HLs
                by_cases hz : cv (awayP rows x0 k) k = 0
                · rw [if_pos hz] at HNx
                  have hdz : (!decide (cv (awayP rows x0 k) k = 0)) = false := by simp [hz]
                  rw [hdz] at HF3
                  clear hdz hz
                  generalize cv (awayP rows x0 k) k = yk at *
                  refine region_in (by rfl) (by kernel_rfl) ?_
                  refine any_mixN (C := fun w' => ∃ p : KCW w3, w' = p.W) [8] (by kernel_rfl) ⟨⟨_, KC.of_gr (Gr.refl w3).drew⟩, rfl⟩ ?_
                  (repeat (first | ((with_reducible refine mixL_read0 ?_ ?_ (fun K hK => ?_)); rfl; rfl; go_big_quiet_op; (with_reducible refine hK _ ?_); clear hK K) | ((with_reducible refine' mixL_skipG ?_ ?_ ?_ ?_ ?_); rotate_left 4; rfl; rfl; rfl; rfl; simp only [Act.put, List.setIfInBounds_toArray, List.set_cons_zero, List.set_cons_succ]) | ((with_reducible refine' mixL_skipU ?_ ?_ ?_ ?_); rotate_left 3; rfl; rfl; rfl; simp only [Act.put, List.setIfInBounds_toArray, List.set_cons_zero, List.set_cons_succ]) | ((with_reducible refine' mixL_readG ?_ ?_ ?_ ?_ ?_ (fun K hK => ?_)); rotate_left 4; rfl; rfl; rfl; rfl; rfl; go_big_quiet_op; (with_reducible refine hK _ ?_); clear hK K)))
                  (first | ((with_reducible refine mixL_mut0 ?_ ?_ (fun K hK => ?_)); rfl; rfl) | ((with_reducible refine' mixL_mutG ?_ ?_ ?_ ?_ ?_ (fun K hK => ?_)); rotate_left 4; rfl; rfl; rfl; rfl; rfl))
                  go_simp
                  refine (HF3.out _).mono ?_
                  rintro e w6 ⟨rfl, hg6⟩
                  have G6 := hid (show Gr w3 w6 from (Gr.refl w3).drew.trans hg6)
                  refine hK.out _ _ ⟨⟨w6, KC.of_gr G6.out⟩, rfl⟩ ?_
                  clear hK K hg6
                  (repeat (first | ((with_reducible refine mixL_read0 ?_ ?_ (fun K hK => ?_)); rfl; rfl; go_big_quiet_op; (with_reducible refine hK _ ?_); clear hK K) | ((with_reducible refine' mixL_skipG ?_ ?_ ?_ ?_ ?_); rotate_left 4; rfl; rfl; rfl; rfl; simp only [Act.put, List.setIfInBounds_toArray, List.set_cons_zero, List.set_cons_succ]) | ((with_reducible refine' mixL_skipU ?_ ?_ ?_ ?_); rotate_left 3; rfl; rfl; rfl; simp only [Act.put, List.setIfInBounds_toArray, List.set_cons_zero, List.set_cons_succ]) | ((with_reducible refine' mixL_readG ?_ ?_ ?_ ?_ ?_ (fun K hK => ?_)); rotate_left 4; rfl; rfl; rfl; rfl; rfl; go_big_quiet_op; (with_reducible refine hK _ ?_); clear hK K)))
                  (with_reducible refine mixN_nil ?_)
                  gi_wp2
                  go_roundw
                  case rel => exact ⟨k + 1, by omega, by simp, by rw [HNx.out]; exact HM3.out.grow G6.out⟩
                  case measure => simp [intOf]; omega
                · rw [if_neg hz] at HNx
                  have hdz : (!decide (cv (awayP rows x0 k) k = 0)) = true := by simp [hz]
                  rw [hdz] at HF3
                  clear hdz hz
                  generalize cv (awayP rows x0 k) k = yk at *
                  refine region_in (by rfl) (by kernel_rfl) ?_
                  refine any_mixN (C := fun w' => ∃ p : KCW w3, w' = p.W) [8] (by kernel_rfl) ⟨⟨_, KC.of_gr (Gr.refl w3).drew⟩, rfl⟩ ?_
                  (repeat (first | ((with_reducible refine mixL_read0 ?_ ?_ (fun K hK => ?_)); rfl; rfl; go_big_quiet_op; (with_reducible refine hK _ ?_); clear hK K) | ((with_reducible refine' mixL_skipG ?_ ?_ ?_ ?_ ?_); rotate_left 4; rfl; rfl; rfl; rfl; simp only [Act.put, List.setIfInBounds_toArray, List.set_cons_zero, List.set_cons_succ]) | ((with_reducible refine' mixL_skipU ?_ ?_ ?_ ?_); rotate_left 3; rfl; rfl; rfl; simp only [Act.put, List.setIfInBounds_toArray, List.set_cons_zero, List.set_cons_succ]) | ((with_reducible refine' mixL_readG ?_ ?_ ?_ ?_ ?_ (fun K hK => ?_)); rotate_left 4; rfl; rfl; rfl; rfl; rfl; go_big_quiet_op; (with_reducible refine hK _ ?_); clear hK K)))
                  (first | ((with_reducible refine mixL_mut0 ?_ ?_ (fun K hK => ?_)); rfl; rfl) | ((with_reducible refine' mixL_mutG ?_ ?_ ?_ ?_ ?_ (fun K hK => ?_)); rotate_left 4; rfl; rfl; rfl; rfl; rfl))
                  go_simp
                  refine (HF3.out _).mono ?_
                  rintro e w6 ⟨rfl, hg6⟩
                  have G6 := hid (show Gr w3 w6 from (Gr.refl w3).drew.trans hg6)
                  refine hK.out _ _ ⟨⟨w6, KC.of_gr G6.out⟩, rfl⟩ ?_
                  clear hK K hg6
                  (repeat (first | ((with_reducible refine mixL_read0 ?_ ?_ (fun K hK => ?_)); rfl; rfl; go_big_quiet_op; (with_reducible refine hK _ ?_); clear hK K) | ((with_reducible refine' mixL_skipG ?_ ?_ ?_ ?_ ?_); rotate_left 4; rfl; rfl; rfl; rfl; simp only [Act.put, List.setIfInBounds_toArray, List.set_cons_zero, List.set_cons_succ]) | ((with_reducible refine' mixL_skipU ?_ ?_ ?_ ?_); rotate_left 3; rfl; rfl; rfl; simp only [Act.put, List.setIfInBounds_toArray, List.set_cons_zero, List.set_cons_succ]) | ((with_reducible refine' mixL_readG ?_ ?_ ?_ ?_ ?_ (fun K hK => ?_)); rotate_left 4; rfl; rfl; rfl; rfl; rfl; go_big_quiet_op; (with_reducible refine hK _ ?_); clear hK K)))
                  (with_reducible refine mixN_nil ?_)
                  gi_wp2
                  have HM6 := hid ((HM3.out.grow G6.out).drew)
                  refine region_in (by rfl) (by kernel_rfl) ?_
                  refine any_mixAt (C := fun w' => ∃ p : KCW w3, w' = p.W) 8 [7] _ rfl (by kernel_rfl) (by kernel_rfl) ⟨⟨_, KC.of_gr G6.out.drew⟩, rfl⟩ ?_
                  simp only [List.take_succ_cons, List.take_zero]
                  (repeat (first | ((with_reducible refine mixL_read0 ?_ ?_ (fun K hK => ?_)); rfl; rfl; go_big_quiet_op; (with_reducible refine hK _ ?_); clear hK K) | ((with_reducible refine' mixL_skipG ?_ ?_ ?_ ?_ ?_); rotate_left 4; rfl; rfl; rfl; rfl; simp only [Act.put, List.setIfInBounds_toArray, List.set_cons_zero, List.set_cons_succ]) | ((with_reducible refine' mixL_skipU ?_ ?_ ?_ ?_); rotate_left 3; rfl; rfl; rfl; simp only [Act.put, List.setIfInBounds_toArray, List.set_cons_zero, List.set_cons_succ]) | ((with_reducible refine' mixL_readG ?_ ?_ ?_ ?_ ?_ (fun K hK => ?_)); rotate_left 4; rfl; rfl; rfl; rfl; rfl; go_big_quiet_op; (with_reducible refine hK _ ?_); clear hK K)))
                  (first | ((with_reducible refine mixL_mut0 ?_ ?_ (fun K hK => ?_)); rfl; rfl) | ((with_reducible refine' mixL_mutG ?_ ?_ ?_ ?_ ?_ (fun K hK => ?_)); rotate_left 4; rfl; rfl; rfl; rfl; rfl))
                  go_simp
                  refine (HLs.out _ (KC.of_gr G6.out.drew)).mono ?_
                  rintro e w7 ⟨v', rfl, hl7, hg7⟩
                  obtain ⟨B1, f1, B2, f2, rfl, _⟩ := id hl7
                  have G7 := hid hg7
                  have HM7 := hid (HM6.out.grow hg7)
                  have HL7 := hid hl7
                  refine hK.out _ _ ⟨⟨w7, KC.of_gr (G6.out.drew.trans hg7)⟩, rfl⟩ ?_
                  clear hK K hl7 hg7 p14 px0 px1 pk0 pk1 py0 py1
                  obtain ⟨T1, t1, T2, t2, hr7, _⟩ := HM7.out.row
                  have x70 := row_cell_at (v := .slice T1 n t1) hr7 0 rfl
                  have x71 := row_cell_at (v := .slice T2 qn t2) hr7 1 rfl
                  have f70 := frozen_of_row w7 X 0 _ _ hr7
                  have f71 := frozen_of_row w7 X 1 _ _ hr7
                  (with_reducible refine tail_nil ?_)
                  intro K hK
                  go_simp
                  refine hK _ _ ⟨rfl, ?_⟩
                  clear hK K hr7 x70 x71 f70 f71
                  have HM8 := hid (HM7.out.set HXe.out HX0.out HL7.out)
                  gi_wp2
                  go_roundw
                  case rel => exact ⟨k + 1, by omega, by simp, by rw [HNx.out]; exact HM8.out⟩
                  case measure => simp [intOf]; omega
            · have hkn : ¬ (k : Int) < (n : Int) := by omega
              obtain rfl : n = k := by omega
              have HYl := hid (awayP_len HBK2.out HL0.out HBit.out n)
              have HYs := hid (HBK2.out.sm_away hle7 HL0.out HBit.out n)
              rw [awayP_all HBK2.out HL0.out HBit.out] at hmid HYl HYs
              have HMd := hid hmid
              have p14 := E14.out wr hmid.kc
              obtain ⟨A3, c3', A4, c4', hrow, hln⟩ := hmid.row
              have px0 := row_cell_at (v := .slice A3 n c3') hrow 0 rfl
              obtain ⟨A5, c5', A6, c6', e5, ra, _⟩ := id hln
              injection e5 with e5
              injection e5 with e5
              injection e5 with ea e5
              injection ea with ea1 _ ea2
              subst ea1 ea2
              have HFi := hid (fun W (k1 : Gr wr W) => find3_any A3 n c3' _ W (ra.gr k1) (by omega))
              clear ra e5
              rw [firstR_fidx n _ (by rw [HYl.out]; omega)] at HFi
              have HStp : Hid (stepR n rows x0 = match firstR n (awayR rows x0) with | none => rows | some f => putR rows f (divR (awayR rows x0) (cv (awayR rows x0) f))) := rfl
              rw [HStp.out] at HSt
              have HRow := hid hrow
              have HLn := hid hln
              clear HStp hrow hln hmid
              cases hfr : firstR n (awayR rows x0) with
              | none =>
                rw [hfr] at HSt HFi
                dsimp only at HSt HFi
                gi_wp2_with (refine ⟨trivial, ?_⟩; gi_at_call 62; refine (CallsIn.inRound l (callsIn_wide.2 (HFi.out _ (Gr.refl wr)))).mono ?_; rintro e w1 ⟨rfl, hb1⟩; have HG := hid hb1; clear hb1)
                have M := HMd.out.grow HG.out
                exact ⟨M.kf, M.kc, H6.out.trans M.kc, M.gr, M.mp, by rw [HSt.out]; exact M.ln⟩
              | some fi =>
                rw [hfr] at HSt HFi
                dsimp only at HSt HFi
                obtain ⟨hfn, hfz⟩ := firstR_some hfr
                have HBn := hid (HBK2.out.put HL0.out HBit.out hfn hfz)
                have HZl : Hid ((divR (awayR rows x0) (cv (awayR rows x0) fi)).length = n + qn) := by
                  show _ = _
                  simp [divR, HYl.out]
                have HSub := hid (sub_self_div (awayR rows x0) (cv (awayR rows x0) fi))
                have hmz : (fi, divR (awayR rows x0) (cv (awayR rows x0) fi)) ∈ putR rows fi (divR (awayR rows x0) (cv (awayR rows x0) fi)) := by simp [putR]
                have HZs := hid (HBn.out.sm (by simp [putR]; omega) hmz)
                have HCv := hid (show Sm 40320 (cv (awayR rows x0) fi) by rw [cv_lt (by rw [HYl.out]; omega)]; exact HYs.out _ (List.getElem_mem _))
                have HPut : Hid (putR rows fi (divR (awayR rows x0) (cv (awayR rows x0) fi)) = rows.map (fun row => (row.1, subR row.2 (divR (awayR rows x0) (cv (awayR rows x0) fi)) (cv row.2 fi))) ++ [(fi, divR (awayR rows x0) (cv (awayR rows x0) fi))]) := rfl
                rw [HPut.out] at HSt
                have HTu := hid (fun W => turned_any (cv (awayR rows x0) fi) 40320 W HCv.out hfz (by decide))
                have HLe := hid (fun W => less_any 1 (cv (awayR rows x0) fi)⁻¹ 1 40320 W ⟨by decide, by decide⟩ (HCv.out.inv hfz) (by decide))
                have HSm := hid (show Sm (2 * (1 * 40320)) (1 - (cv (awayR rows x0) fi)⁻¹) from Sm.sub (B := 1) ⟨by decide, by decide⟩ (HCv.out.inv hfz))
                have HNf : Hid (∀ q ∈ rows, q.1 ≠ fi) := by
                  have hnd := HBn.out.nd
                  unfold putR at hnd
                  rw [List.map_append, List.nodup_append] at hnd
                  exact fun q hq e => hnd.2.2 q.1 (by rw [List.map_map]; exact List.mem_map.2 ⟨q, hq, rfl⟩) fi (by simp) e
                clear HBn HPut hmz
                have hfi0 : ¬ (fi : Int) < 0 := by omega
                have hfin : (fi : Int) < (n : Int) := by omega
                have hfi0' : (0 : Int) ≤ (fi : Int) := by omega
                obtain ⟨A5, c5', A6, c6', e5, ra, rb, ca, cb, hlen⟩ := id HLn.out
                injection e5 with e5
                injection e5 with e5
                injection e5 with ea e5
                injection e5 with eb _
                injection ea with ea1 _ ea2
                injection eb with eb1 _ eb2
                subst ea1 ea2 eb1 eb2
                obtain ⟨hk', b7, off7, rfl, hbl7, y0, y1⟩ := ra.fr hfn
                have hyk : ((awayR rows x0).take n)[fi]! = cv (awayR rows x0) fi := by
                  rw [getElem!_pos _ fi hk', List.getElem_take, cv_lt (by rw [hlen]; omega)]
                rw [hyk] at y0 y1
                clear hyk ra rb ca cb hlen hk' hbl7 hfz hfr
                generalize cv (awayR rows x0) fi = zz at *
                generalize zz⁻¹ = iv at *
                generalize 1 - iv = om at *
                generalize divR (awayR rows x0) zz = zr at *
                generalize awayR rows x0 = yy at *
                unfold frV at HTu HLe
                gi_wp2_with (first
                  | (refine ⟨trivial, ?_⟩; gi_at_call 62; refine (CallsIn.inRound l (callsIn_wide.2 (HFi.out _ (Gr.refl wr)))).mono ?_; rintro e w1 ⟨rfl, hb1⟩; have HG := hid hb1; have p14' := row_cell p14 hb1; have px0' := row_cell px0 hb1; have y0' := row_cell y0 hb1; have y1' := row_cell y1 hb1; clear hb1)
                  | (refine ⟨trivial, ?_⟩; gi_at_call 83; refine (CallsIn.inRound l (callsIn_wide.2 (HTu.out _))).mono ?_; rintro e w2' ⟨rfl, hb2⟩; have HG2 := hid hb2; clear hb2))
                have gC : Gr w2' (w2'.alloc (.cells #[.int .i64 iv.num, .int .i64 iv.den] 107)) := (Gr.refl w2').alloc _
                have HM3 := hid (((HMd.out.grow HG.out).grow HG2.out).grow gC)
                have R21 := heap_alloc_new w2' (.cells #[.int .i64 iv.num, .int .i64 iv.den] 107)
                have px0b := row_cell (row_cell px0' HG2.out) gC
                have px1b := row_cell (row_cell (row_cell (row_cell_at (v := .slice A4 qn c4') HRow.out 1 rfl) HG.out) HG2.out) gC
                have HLn3 := hid (((HLn.out.gr HG.out).gr HG2.out).gr gC)
                clear p14 px0 p14' px0' y0 y1 y0' y1' gC HFi HTu
                generalize w2'.alloc (.cells #[.int .i64 iv.num, .int .i64 iv.den] 107) = w3 at *
                have q21 := KCW.cell (row_cell_at (v := .int .i64 iv.num) R21 0 rfl)
                have q22 := KCW.cell (row_cell_at (v := .int .i64 iv.den) R21 1 rfl)
                have qx0 := KCW.cell px0b
                have qx1 := KCW.cell px1b
                have HLs := hid (fun W (k1 : KC w3 W) => lineLess_any n qn _ yy _ yy om W (HLn3.out.kc k1) (HLn3.out.kc k1) 40320 40320 (2 * (1 * 40320)) HYs.out HYs.out HSm.out (by decide) (by decide) (by omega) (by omega))
                rw [HSub.out] at HLs
                clear px0b px1b R21 HSub
                unfold frV at HLs
                refine region_in (by rfl) (by kernel_rfl) ?_
                refine any_mixAt (C := fun w' => ∃ p : KCW w3, w' = p.W) 6 [4, 5] _ rfl (by kernel_rfl) (by kernel_rfl) ⟨⟨_, KC.of_gr (Gr.refl w3).drew⟩, rfl⟩ ?_
                simp only [List.take_succ_cons, List.take_zero]
                (repeat (first | ((with_reducible refine mixL_read0 ?_ ?_ (fun K hK => ?_)); rfl; rfl; go_big_quiet_op; (with_reducible refine hK _ ?_); clear hK K) | ((with_reducible refine' mixL_skipG ?_ ?_ ?_ ?_ ?_); rotate_left 4; rfl; rfl; rfl; rfl; simp only [Act.put, List.setIfInBounds_toArray, List.set_cons_zero, List.set_cons_succ]) | ((with_reducible refine' mixL_skipU ?_ ?_ ?_ ?_); rotate_left 3; rfl; rfl; rfl; simp only [Act.put, List.setIfInBounds_toArray, List.set_cons_zero, List.set_cons_succ]) | ((with_reducible refine' mixL_readG ?_ ?_ ?_ ?_ ?_ (fun K hK => ?_)); rotate_left 4; rfl; rfl; rfl; rfl; rfl; go_big_quiet_op; (with_reducible refine hK _ ?_); clear hK K)))
                (first | ((with_reducible refine mixL_mut0 ?_ ?_ (fun K hK => ?_)); rfl; rfl) | ((with_reducible refine' mixL_mutG ?_ ?_ ?_ ?_ ?_ (fun K hK => ?_)); rotate_left 4; rfl; rfl; rfl; rfl; rfl))
                go_simp
                refine (HLe.out _).mono ?_
                rintro e w4 ⟨rfl, hb4⟩
                have G4 := hid (show Gr w3 w4 from (Gr.refl w3).drew.trans hb4)
                refine hK.out _ _ ⟨⟨w4, KC.of_gr G4.out⟩, rfl⟩ ?_
                clear hK K hb4
                (first | ((with_reducible refine mixL_mut0 ?_ ?_ (fun K hK => ?_)); rfl; rfl) | ((with_reducible refine' mixL_mutG ?_ ?_ ?_ ?_ ?_ (fun K hK => ?_)); rotate_left 4; rfl; rfl; rfl; rfl; rfl))
                go_simp
                refine (HLs.out _ (KC.of_gr G4.out)).mono ?_
                rintro e w7 ⟨v', rfl, hl7, hg7⟩
                obtain ⟨B1, f1, B2, f2, rfl, _⟩ := id hl7
                have G7 := hid (G4.out.trans hg7)
                have HM7 := hid (HM3.out.grow G7.out)
                have HL7 := hid hl7
                refine hK.out _ _ ⟨⟨w7, KC.of_gr G7.out⟩, rfl⟩ ?_
                clear hK K hl7 hg7 q21 q22 qx0 qx1
                obtain ⟨T1, t1, T2, t2, hr7, _⟩ := HM7.out.row
                have x70 := row_cell_at (v := .slice T1 n t1) hr7 0 rfl
                have x71 := row_cell_at (v := .slice T2 qn t2) hr7 1 rfl
                have f70 := frozen_of_row w7 X 0 _ _ hr7
                have f71 := frozen_of_row w7 X 1 _ _ hr7
                (with_reducible refine tail_nil ?_)
                intro K hK
                go_simp
                refine hK _ _ ⟨rfl, ?_⟩
                clear hK K x70 x71 f70 f71
                have HM8 := hid (HM7.out.set HXe.out HX0.out HL7.out)
                have HR8 := hid (set2_row (y0 := .slice B1 n f1) (y1 := .slice B2 qn f2) hr7)
                clear hr7 HM7 HL7 HLs HLe HM3 HLn3 HMd HRow HLn G7 G4
                generalize (w7.setCell ⟨X, 0, none⟩ (.slice B1 n f1)).setCell ⟨X, 1, none⟩ (.slice B2 qn f2) = w8 at *
                have e11 := E11.out w8 HM8.out.kc
                have b3 := row_cell_at (v := .map (some ml)) (EB.out w8 HM8.out.kc) 3 rfl
                obtain ⟨f, hm1, hm2, hm3⟩ := HM8.out.ln
                have HMp := hid hm1
                have HF2' := hid hm2
                have HF3' := hid hm3
                clear hm1 hm2 hm3
                gi_wp2_with ((with_reducible show wpListIn _ _ _ _ _ (⟨some 126, _, _, _, _, _⟩ :: _) _ _); refine listIn_op rfl rfl (fun K hK => ?_); refine op_range (E := 90) (Value.int .i64) (.tmp 125) 85 rfl int_inj Try.underlying85 rfl HMp.out ?_; intro w9 cn9 hm9 hg9; refine hK _ _ ?_; clear hK K)
                have HRg0 := hid (HM8.out.range (fi := fi) hm9 hg9 HF2'.out HF3'.out)
                have hrW := HM8.out.kf.size
                have hr2 := HM8.out.gr.size
                have hmar : ma ≠ w8.heap.size := Nat.ne_of_lt HM8.out.mp.lt
                have hml5 := (Array.getElem?_eq_some_iff.1 HMl5.out).1
                clear HF2' HF3' HMp hm9 hg9 e11 b3 HM8 HR8
                generalize w8.heap.size = r at *
                simp only [Act.put, List.setIfInBounds_toArray, List.set_cons_succ, List.set_cons_zero]
                gi_loopw [22] (fun _ wr => ∃ f left cnt, Rng w2 w5 W0 W X n qn ma ml r es rows zr fi f left (-1) wr cnt) (fun _ wr => rgLeft wr ml r)
                case atStart => exact ⟨_, _, _, HRg0.out⟩
                case round =>
                  clear HRg0
                  obtain ⟨f, left, cnt, hrg⟩ := hrel
                  have HRg := hid hrg
                  clear hrg
                  gi_wp2_with ((with_reducible show wpListIn _ _ _ _ _ (⟨some 127, _, _, _, _, _⟩ :: _) _ _); refine listIn_op rfl rfl (fun K hK => ?_); refine op_next (Value.int .i64) (.tmp 126) rfl int_inj rfl HRg.out.rg ?_ ?_; (intro hc0 hl0; have HEnd := hid hl0; refine hK _ _ ?_; clear hK K hc0 hl0); rotate_left; (intro q v w6 cnt6 hlq hfq hm6 hlt6 hg6 hen; obtain ⟨s0, hs0, rfl⟩ := HRg.out.ks q v hfq; obtain ⟨v2, hv2, _, hb2⟩ := HRg.out.rs s0 hs0; rw [hfq] at hv2; injection hv2 with hv2; subst hv2; have hln0 := (hb2 (by omega)).1 hlq; obtain ⟨KA, kc, KB, kd, rfl, kra, krb, kca, kcb, klen⟩ := id hln0; have HStep := hid (And.intro hlq (And.intro hm6 (And.intro hlt6 (And.intro hg6 hln0)))); have HS0 := hid hs0; refine hK _ _ ?_; clear hK K hlq hm6 hlt6 hg6 hln0 hb2 hfq kra krb kca kcb klen hs0); rotate_left)
                  · -- all are reckoned
                    have HLi := hid (HRg.out.lines HEnd.out)
                    have e11 := E11.out wr HRg.out.kc
                    have b3 := row_cell_at (v := .map (some ml)) (EB.out wr HRg.out.kc) 3 rfl
                    obtain ⟨A9, c9', A10, c10', hr9, hl9⟩ := HRg.out.row
                    have px0 := row_cell_at (v := .slice A9 n c9') hr9 0 rfl
                    have px1 := row_cell_at (v := .slice A10 qn c10') hr9 1 rfl
                    have HL9 := hid hl9
                    obtain ⟨g, m1, m2, m3⟩ := HLi.out
                    have HG1' := hid m1
                    have HG23 := hid (And.intro m2 m3)
                    have HMa9 := hid HRg.out.mp
                    clear m1 m2 m3 hl9 hr9
                    have p11 := KCW.cell e11
                    have p3 := KCW.cell b3
                    have q0 := KCW.cell px0
                    have q1 := KCW.cell px1
                    clear e11 b3 px0 px1
                    refine region_in (by rfl) (by kernel_rfl) ?_
                    refine any_plan (C := fun w' => ∃ p : KCW wr, w' = p.W) (.take 0 (.take 1 (.take 2 (.take 3 (.take 4 (.take 5 (.one 6 .done))))))) (by kernel_rfl) (by kernel_rfl) ⟨⟨_, KC.of_gr (Gr.refl wr).drew⟩, rfl⟩ ?_
                    (iterate 1 (refine plan_read2 rfl rfl (fun K hK => ?_); go_big_quiet_op; (with_reducible refine hK _ ?_); clear hK K))
                    (refine plan_nil rfl rfl rfl ?_; simp only [Act.put, List.setIfInBounds_toArray, List.set_cons_zero, List.set_cons_succ])
                    (iterate 4 (refine plan_read2 rfl rfl (fun K hK => ?_); go_big_quiet_op; (with_reducible refine hK _ ?_); clear hK K))
                    clear p11 p3 q0 q1
                    (refine plan_one rfl (fun K hK => ?_))
                    refine op_put (E := 90) (Value.int .i64) (.tmp 148) (.tmp 149) (.tmp 150) 85 rfl keyed_int10 int_inj Try.underlying85 rfl HG1'.out.drew (fi : Int) (.agg #[.slice A9 n c9', .slice A10 qn c10']) _ rfl rfl (key_id10 (by omega)) ?_
                    intro w10 hm10 hg10 hz10
                    have K10 := hid ((KC.of_gr (Gr.refl wr).drew).trans (HG1'.out.drew.kc hg10))
                    refine hK.out _ _ ⟨⟨w10, K10.out⟩, rfl⟩ ?_
                    clear hK K
                    have HM10 := hid hm10
                    have HG10 := hid hg10
                    clear hm10 hg10 hz10
                    (with_reducible refine plan_done ?_)
                    gi_wp2
                    refine ⟨keepsF_low (keepsF_gr HRg.out.kf (Gr.refl wr).drew) HG10.out hml5, HRg.out.kc.trans K10.out, H6.out.trans (HRg.out.kc.trans K10.out), (HRg.out.gr.drew).turned HG10.out hl1, HMa9.out.drew.keep (HG10.out.block ma HMa9.out.lt (fun e => hne (by injection e))), ?_⟩
                    rw [HSt.out]
                    exact lines_put HG23.out.1 HG23.out.2 (fun q hq => by
                      obtain ⟨s, hs, rfl⟩ := List.mem_map.1 hq
                      exact HNf.out s hs) HL9.out HM10.out K10.out
                  · -- one more
                    have HRs := hid (HRg.out.step HStep.out.1 HStep.out.2.1 HStep.out.2.2.2.1 hrW hr2 hmar)
                    have hkw : KC wr w6 := by
                      obtain ⟨o, ho, hc⟩ := HRg.out.rg.iter
                      exact KC.grownN HStep.out.2.2.2.1 ho hc
                    have gD : Gr w6 (w6.alloc (.cells #[.slice KA n kc, .slice KB qn kd] 90)) := (Gr.refl w6).alloc _
                    have HR7 := hid (HRs.out.grow gD)
                    have HV7 := hid ((HStep.out.2.2.2.2.kc hkw).gr gD)
                    have R23 := heap_alloc_new w6 (.cells #[.slice KA n kc, .slice KB qn kd] 90)
                    have HLt := hid HStep.out.2.2.1
                    have HRg1 := hid HRg.out.rg.left_eq
                    have HS0s := hid (HBK2.out.sm (by omega) HS0.out)
                    have hs0l := HBK2.out.len _ HS0.out
                    clear gD hkw HStep HRs HRg hen
                    generalize w6.alloc (.cells #[.slice KA n kc, .slice KB qn kd] 90) = w7 at *
                    have e11 := E11.out w7 HR7.out.kc
                    have b3 := row_cell_at (v := .map (some ml)) (EB.out w7 HR7.out.kc) 3 rfl
                    obtain ⟨A9, c9', A10, c10', hr9, hl9⟩ := HR7.out.row
                    obtain ⟨A5, c5', A6, c6', e5, ra, rb, ca, cb, hlen⟩ := id HV7.out
                    injection e5 with e5
                    injection e5 with e5
                    injection e5 with ea e5
                    injection e5 with eb _
                    injection ea with ea1 _ ea2
                    injection eb with eb1 _ eb2
                    subst ea1 ea2 eb1 eb2
                    obtain ⟨hk', b7, off7, rfl, hbl7, y0, y1⟩ := ra.fr hfn
                    have hyk : (s0.2.take n)[fi]! = cv s0.2 fi := by
                      rw [getElem!_pos _ fi hk', List.getElem_take, cv_lt (by rw [hlen]; omega)]
                    rw [hyk] at y0 y1
                    have HCv2 := hid (show Sm 40320 (cv s0.2 fi) by rw [cv_lt (by rw [hlen]; omega)]; exact HS0s.out _ (List.getElem_mem _))
                    have HLs := hid (fun W (k1 : KC w7 W) => lineLess_any n qn _ s0.2 _ zr (cv s0.2 fi) W (HV7.out.kc k1) (hl9.kc k1) 40320 40320 40320 HS0s.out HZs.out HCv2.out (by decide) (by decide) (by omega) (by omega))
                    unfold frV at HLs
                    have p11 := KCW.cell e11
                    have p3 := KCW.cell b3
                    have q0 := KCW.cell (row_cell_at (v := .slice A9 n c9') hr9 0 rfl)
                    have q1 := KCW.cell (row_cell_at (v := .slice A10 qn c10') hr9 1 rfl)
                    have r0 := KCW.cell (row_cell_at (v := .slice (some ⟨b7, off7, none⟩) n kc) R23 0 rfl)
                    have r1 := KCW.cell (row_cell_at (v := .slice KB qn kd) R23 1 rfl)
                    have py0 := KCW.cell y0
                    have py1 := KCW.cell y1
                    clear hyk e11 b3 hr9 hl9 R23 y0 y1 ra rb ca cb hlen hk' hbl7 HS0s HV7
                    have HF0 := hid (HR7.out.rs _ HS0.out)
                    refine region_in (by rfl) (by kernel_rfl) ?_
                    refine any_plan (C := fun w' => ∃ p : KCW w7, w' = p.W) (.take 0 (.take 1 (.take 2 (.take 3 (.take 4 (.take 5 (.take 6 (.take 7 (.take 8 (.take 9 (.take 10 (.take 11 (.one 12 (.one 13 .done)))))))))))))) (by kernel_rfl) (by kernel_rfl) ⟨⟨_, KC.of_gr (Gr.refl w7).drew⟩, rfl⟩ ?_
                    (iterate 1 (refine plan_read2 rfl rfl (fun K hK => ?_); go_big_quiet_op; (with_reducible refine hK _ ?_); clear hK K))
                    (refine plan_nil rfl rfl rfl ?_; simp only [Act.put, List.setIfInBounds_toArray, List.set_cons_zero, List.set_cons_succ])
                    (iterate 10 (refine plan_read2 rfl rfl (fun K hK => ?_); go_big_quiet_op; (with_reducible refine hK _ ?_); clear hK K))
                    clear p11 p3 q0 q1 r0 r1 py0 py1
                    (refine plan_one rfl (fun K hK => ?_))
                    go_simp
                    refine (HLs.out _ (KC.of_gr (Gr.refl w7).drew)).mono ?_
                    rintro e w8' ⟨v', rfl, hl8, hg8⟩
                    have HR8 := hid ((HR7.out.grow (Gr.refl w7).drew).grow hg8)
                    have HL8 := hid hl8
                    have G8 := hid ((Gr.refl w7).drew.trans hg8)
                    refine hK.out _ _ ⟨⟨w8', KC.of_gr G8.out⟩, rfl⟩ ?_
                    clear hK K hl8 hg8 HLs HR7
                    (refine plan_one rfl (fun K hK => ?_))
                    refine op_put_rg (E := 90) (Value.int .i64) (.tmp 135) (.tmp 136) (.tmp 144) 85 rfl keyed_int10 int_inj Try.underlying85 rfl HR8.out.rg (s0.1 : Int) v' _ rfl rfl (key_id10 (by have := HBK2.out.lead _ HS0.out; omega)) (by obtain ⟨u, hu, _⟩ := HF0.out; exact ⟨u, hu⟩) ?_
                    intro w10 hm10 hg10 hz10
                    have HR10 := hid (HR8.out.put HBK2.out.nd HS0.out rfl (fun h => h.2 rfl) HL8.out hm10 hg10 hml5 hl1 hne)
                    have K10 := hid (HR8.out.rg.is.kc hg10)
                    refine hK.out _ _ ⟨⟨w10, (KC.of_gr G8.out).trans K10.out⟩, rfl⟩ ?_
                    clear hK K hm10 hg10 hz10 HF0
                    (with_reducible refine plan_done ?_)
                    gi_wp2
                    go_roundw
                    case rel => exact ⟨_, _, _, HR10.out⟩
                    case measure => rw [HR10.out.rg.left_eq, HRg1.out]; exact HLt.out
        · -- behind the loop
          rintro D xs W hD hxs ⟨h1, h2, h3, h4⟩ hdf
          subst hA0
          refine hKE _ _ ?_
          have e11 := h1.cell (row_cell_at (v := .pointer (some ⟨bk, 0, none⟩)) B5.out 0 rfl)
          rw [hxs] at h4
          have HR := hid (And.intro h1 (And.intro h2 (And.intro h3 h4)))
          have HDf := hid hdf
          clear h1 h2 h3 h4 hKE hdf
          go_wp2
          (try rw [Exit.noGoto_ret])
          have hz := G5.out.size
          obtain ⟨h1, h2, h3, h4⟩ := HR.out
          have hg : Gr w2 (W.putObj D (.deferred none)) := h2.putObj (by omega) _ HDf.out
          have hk : KC w5 (W.putObj D (.deferred none)) := h1.trans (KC.putObj _ HDf.out rfl)
          have h3' : MapIs Try.prog 3 (Value.int .i64) (W.putObj D (.deferred none)) ma (idxF es) := h3.keep (putObj_far _ (by have := HMa5.out.lt; omega))
          have h4' := h4.putObj (.deferred none) HDf.out rfl (by have := (Array.getElem?_eq_some_iff.1 HMl5.out).1; omega)
          refine ⟨by simp, .inl ⟨_, _, rfl, run_takeDeferred HDf.out, ?_⟩⟩
          exact ⟨_, results_tmp2 rfl _ _ _, bk, rfl, G2.out.trans hg, QA, qc, B, cap, ma, ml, ⟨hk.row BK5.out⟩, S5.out.kc hk, h3', h4'⟩
end Go.Proofs.Ytimhkkijoelmhaa
namespace Go.Proofs.Ytimhkkijoelmhaa
open Go.RowKit Go.Maps

theorem open_any (columns : Int) (A : Option Addr) (n c : Nat) (zs : List Sbj) (QA : Option Addr) (qn qc : Nat) (qs : List Qst) (w : World) (hi : SbjsIn w A n zs) (hq : QstsIn w QA qn qs) :
    Calls Try.prog 51 #[.int .i64 columns, .slice A n c, .slice QA qn qc] w (OpenRet columns zs qs w) := by
  by_cases hE : auditN columns zs qs = 0
  · refine (open_ok columns A n c zs QA qn qc qs w hi hq hE).mono ?_
    rintro e w' ⟨bk, rfl, h⟩
    unfold OpenRet
    rw [if_pos hE, hi.len, hq.len]
    exact ⟨bk, rfl, h⟩
  · refine (open_err columns A n c zs QA qn qc qs w hi hq hE).mono ?_
    rintro e w' ⟨rfl, h⟩
    unfold OpenRet
    rw [if_neg hE]
    exact ⟨rfl, h⟩
/-- How many of the first factors are not 0. -/
def someN (n : Nat) (x : List Rat) : Nat := (x.take n).countP fun f => !decide (f = 0)
theorem some_succ {x : List Rat} {k : Nat} (hk : k < x.length) : someN (k + 1) x = someN k x + if decide (cv x k = 0) = true then 0 else 1 := by
  unfold someN
  rw [List.take_succ_eq_append_getElem hk, List.countP_append, ← cv_lt hk]
  congr 1
  simp only [List.countP_singleton]
  cases decide (cv x k = 0) <;> rfl
theorem some_le (n : Nat) (x : List Rat) : someN n x ≤ n := by
  unfold someN
  refine Nat.le_trans List.countP_le_length ?_
  rw [List.length_take]; omega

set_option maxRecDepth 100000 in
set_option maxHeartbeats 4000000 in
theorem alone_any (n m : Nat) (v : Value) (x : List Rat) (w : World) (h : LnIn w n m v x) (hn : n ≤ 1000) :
    Calls Try.prog 52 #[v] w fun e w' => e = .returned (.bool (decide (someN n x = 1))) ∧ Gr w w' := by
  obtain ⟨A, c, B, d, rfl, ra, rb, ca, cb, hlen⟩ := h
  have HRa := hid ra
  have hnz : (n : Int) ≤ 1000 := by omega
  clear ra rb
  go_enter Try.func52, Try.ntmps52
  go_wp2_with fail
  have HG := hid (show Gr w (w.alloc (.cells #[.slice A n c, .slice B m d] 90)) from (Gr.refl w).alloc _)
  generalize w.alloc (.cells #[.slice A n c, .slice B m d] 90) = w1 at *
  go_loopg [4, 10] n (fun gg s4 s10 wr => ∃ k : Nat, k ≤ n ∧ n - k ≤ gg ∧ s4 = .int .i64 (someN k x) ∧ s10 = .int .i64 k ∧ Gr w1 wr)
  case atStart => exact ⟨0, Nat.zero_le _, by omega, rfl, rfl, Gr.refl w1⟩
  case round =>
    obtain ⟨k, hk, hgk, rfl, rfl, BW⟩ := hrel
    by_cases hkl : k < n
    · obtain ⟨hk', b, off, rfl, hbl, c0, c1⟩ := (HRa.out.gr (HG.out.trans BW)).fr hkl
      have hyk : (x.take n)[k]! = cv x k := by
        rw [getElem!_pos _ k hk', List.getElem_take, cv_lt (by omega)]
      rw [hyk] at c0 c1
      have HSn := hid (some_succ (x := x) (k := k) (by omega))
      have hsl := some_le k x
      have HN := hid (fun W => none_any (cv x k) W)
      generalize someN k x = o at *
      clear hyk hk'
      generalize cv x k = y at *
      unfold frV at HN
      generalize y.num = yn at *
      generalize (y.den : Int) = yd at *
      have hkn : (k : Int) < (n : Int) := by omega
      have hk0 : (0 : Int) ≤ (k : Int) := by omega
      obtain ⟨r, hr⟩ : ∃ r, decide (y = 0) = r := ⟨_, rfl⟩
      rw [hr] at HN HSn
      clear hr
      cases r with
      | true =>
        simp only [if_true, Nat.add_zero] at HSn
        go_wp2_with (first | (go_at_call 64; (with_reducible refine (HN.out _).mono ?_); rotate_right; rintro e w3 ⟨rfl, hbw3⟩; obtain ⟨hcw3, hfw3, hzw3⟩ := hbw3.rules; (try simp at hzw3); have hzw3_0 : wr.heap.size < w3.heap.size := (by omega); have hyw3_0 : wr.heap.size ≤ w3.heap.size := (by omega)))
        have gg := ((Gr.refl wr).alloc (.cells #[.int .i64 yn, .int .i64 yd] 107)).trans hbw3
        go_roundg (n - (k + 1))
        case measure => omega
        case rel => exact ⟨k + 1, by omega, by omega, by rw [HSn.out], by go_num, BW.trans gg⟩
      | false =>
        simp only [Bool.false_eq_true, if_false] at HSn
        go_wp2_with (first | (go_at_call 64; (with_reducible refine (HN.out _).mono ?_); rotate_right; rintro e w3 ⟨rfl, hbw3⟩; obtain ⟨hcw3, hfw3, hzw3⟩ := hbw3.rules; (try simp at hzw3); have hzw3_0 : wr.heap.size < w3.heap.size := (by omega); have hyw3_0 : wr.heap.size ≤ w3.heap.size := (by omega)))
        have gg := ((Gr.refl wr).alloc (.cells #[.int .i64 yn, .int .i64 yd] 107)).trans hbw3
        go_roundg (n - (k + 1))
        case measure => omega
        case rel => exact ⟨k + 1, by omega, by omega, by rw [HSn.out]; go_num, by go_num, BW.trans gg⟩
    · have hkn : ¬ (k : Int) < (n : Int) := by omega
      obtain rfl : n = k := by omega
      have HD : Hid (decide ((someN n x : Int) = 1) = decide (someN n x = 1)) := by
        show decide _ = decide _
        rw [decide_eq_decide]; omega
      go_wp2
      go_ret
      exact ⟨by first | (rw [HD.out]) | (rw [← HD.out]; rfl) | (rw [← HD.out]; congr 2; simp), HG.out.trans BW⟩
end Go.Proofs.Ytimhkkijoelmhaa
