/- by of the package sum: the equation by which the value of a subject follows. -/
import Derived.Test.YtimhkkijoelmhaaQRound10
import Derived.Test.YtimhkkijoelmhaaQOpen10
namespace Go.Proofs.Ytimhkkijoelmhaa
open Go.RowKit Go.Maps

/-- The row by which a subject's value follows. -/
def byR (n : Nat) (es : List Sbj) (rows : List Rw) (id : Int) : Option (List Rat) :=
  (es.findIdx? (fun s => s.id == id)).bind fun i => (lookR rows i).bind fun x => if someN n x = 1 then some x else none
/-- What by hands back. -/
def ByRet (n m : Nat) (es : List Sbj) (rows : List Rw) (id : Int) (w : World) (e : Ending) (w' : World) : Prop :=
  (∃ A c B d, e = .returned (.tuple #[.agg #[.slice A n c, .slice B m d], .bool true]) ∧ (Gr w w' ∧ ∃ x, byR n es rows id = some x ∧ LnIn w' n m (.agg #[.slice A n c, .slice B m d]) x)) ∨
    (∃ A n1 c B m1 d, e = .returned (.tuple #[.agg #[.slice A n1 c, .slice B m1 d], .bool false]) ∧ (Gr w w' ∧ byR n es rows id = none))
theorem ret_told {fn : Func} {p q : Tmp} (h : fn.results = #[.cell p 101, .tmp q]) (tmps : Array Value) (w : World) (g : Nat) (a b v : Value) (hp : tmps.getD p undef = .pointer (some ⟨g, 0, none⟩)) (hq : tmps.getD q undef = v) (hg : w.heap[g]? = some (.cells #[a, b] 101 (0, 0))) :
    (results fn tmps).run Try.prog w = .ok (.tuple #[.agg #[a, b], v]) w := by
  have hp' : tmps[p]?.getD undef = .pointer (some ⟨g, 0, none⟩) := by simpa using hp
  have hq' : tmps[q]?.getD undef = v := by simpa using hq
  have hl := run_loadVar_row w g 101 101 #[a, b] (0, 0) _ hg Try.underlying101 rfl (by kernel_rfl)
  simp [results, h, hp', hq', asAddr, hl]

/-- A world in which all rows but one are as they were. -/
structure KXW (X : Nat) (W0 : World) where
  W : World
  kx : ∀ (k : Nat) (o : Obj), k ≠ X → W0.heap[k]? = some o → o.isCells = true → W.heap[k]? = some o
instance (X : Nat) (W0 : World) : Inhabited (KXW X W0) := ⟨⟨W0, fun _ _ _ h _ => h⟩⟩
theorem kx_of_kc {X : Nat} {W0 W : World} (h : KC W0 W) : ∀ (k : Nat) (o : Obj), k ≠ X → W0.heap[k]? = some o → o.isCells = true → W.heap[k]? = some o := fun k o _ hk ho => h.rows k o hk ho
theorem kx_set {X : Nat} {W0 W : World} (h : ∀ (k : Nat) (o : Obj), k ≠ X → W0.heap[k]? = some o → o.isCells = true → W.heap[k]? = some o) (i : Nat) (v : Value) : ∀ (k : Nat) (o : Obj), k ≠ X → W0.heap[k]? = some o → o.isCells = true → (W.setCell ⟨X, i, none⟩ v).heap[k]? = some o := fun k o hne hk ho =>
  (Below.heap_setCell W ⟨X, i, none⟩ v k hne).trans (h k o hne hk ho)
theorem KXW.cell {X : Nat} {W0 : World} {b o : Nat} {v : Value} (h : W0.cell? ⟨b, o, none⟩ = some v) (hb : b ≠ X) (p : KXW X W0) : p.W.cell? ⟨b, o, none⟩ = some v := by
  unfold World.cell? at h ⊢
  cases hk : W0.heap[b]? with
  | none => rw [hk] at h; cases h
  | some q =>
    rw [hk] at h
    cases q with
    | cells cs t f => rw [p.kx b _ hb hk rfl]; exact h
    | _ => cases h

set_option maxRecDepth 100000 in
set_option maxHeartbeats 4000000 in
theorem by_any (bk n m : Nat) (es : List Sbj) (rows : List Rw) (id : Int) (w : World) (h : BookIn w bk n m es rows) (hid' : -9223372036854775808 ≤ id ∧ id ≤ 9223372036854775807) (hn : n ≤ 1000) (hel : es.length = n) :
    Calls Try.prog 57 #[.pointer (some ⟨bk, 0, none⟩), .int .i64 id] w (ByRet n m es rows id w) := by
  obtain ⟨QA, qc, A, c, ma, ml, hb, hS, hma, hml⟩ := h
  obtain ⟨f, hm1, hm2, hm3⟩ := hml
  have b2 := row_cell_at (v := .map (some ma)) hb.row 2 rfl
  have b3 := row_cell_at (v := .map (some ml)) hb.row 3 rfl
  have hbz : bk < w.heap.size := block_lt_of_cell b2
  have HMa := hid hma
  have HMl := hid hm1
  have hkey := key_id10 hid'
  have HId := hid hid'
  clear hma hm1 hb hS hid'
  unfold ByRet byR
  have hIdx : idxF es id = (es.findIdx? (fun s => s.id == id)).map fun i => .int .i64 (i : Int) := by
    unfold idxF
    cases es.findIdx? (fun s => s.id == id) <;> rfl
  cases hi : es.findIdx? (fun s => s.id == id) with
  | none =>
    rw [hi] at hIdx
    have hix : idxF es id = none := hIdx
    clear hIdx
    have hlg := lines_get hm2 hm3 0
    simp only [Option.bind_none]
    rcases hlg with ⟨hr, hf⟩ | ⟨xr, v, hr, hf, hv⟩
    · replace hf : f (0 : Int) = none := hf
      go_enter Try.func57, Try.ntmps57
      go_wp2_with (first
        | ((with_reducible show wpList _ _ _ (⟨some 16, _, _, _, _, _⟩ :: _) _ _); refine wpList_lookup_is_ok (E := 3) (Value.int .i64) _ rfl (.tmp 14) (.tmp 15) 84 rfl keyed_int10 int_inj Try.underlying84 ma _ rfl (HMa.out.alloc _) id _ _ rfl hkey (zero_int _) ?_; simp only [hix, Option.getD_none, Option.isSome_none])
        | ((with_reducible show wpList _ _ _ (⟨some 25, _, _, _, _, _⟩ :: _) _ _); refine wpList_lookup_is_ok (E := 90) (Value.int .i64) _ rfl (.tmp 23) (.tmp 24) 85 rfl keyed_int10 int_inj Try.underlying85 ml f rfl (HMl.out.alloc _) (0 : Int) _ _ rfl (key_id10 (by omega)) (zero_line _) ?_; simp only [hf, Option.getD_none, Option.isSome_none]))
      obtain ⟨rt, rl⟩ := rows2 w (.cells #[.slice none 0 0, .slice none 0 0] 101) (.cells #[.slice none 0 0, .slice none 0 0] 90)
      have g2 : Gr w ((w.alloc (.cells #[.slice none 0 0, .slice none 0 0] 101)).alloc (.cells #[.slice none 0 0, .slice none 0 0] 90)) := ((Gr.refl w).alloc _).alloc _
      generalize (w.alloc (.cells #[.slice none 0 0, .slice none 0 0] 101)).alloc (.cells #[.slice none 0 0, .slice none 0 0] 90) = w2 at *
      have q0 := KXW.cell (X := w.heap.size) (row_cell_at (v := .slice none 0 0) rl 0 rfl) (by omega)
      have q1 := KXW.cell (X := w.heap.size) (row_cell_at (v := .slice none 0 0) rl 1 rfl) (by omega)
      have HT := hid rt
      have G2 := hid g2
      clear rt rl g2
      refine wp_region_ord (C := fun w' => ∃ p : KXW w.heap.size w2, w' = p.W) [(0, false), (1, false), (2, false), (3, false), (4, false), (5, false), (6, false), (7, false), (8, true), (9, false), (10, true), (11, false)] (by rfl) (by kernel_rfl) (by kernel_rfl) ⟨⟨_, kx_of_kc (KC.of_gr (Gr.refl w2).drew)⟩, rfl⟩ ?_
      (repeat (first | ((refine ord_read0 rfl rfl rfl (fun K hK => ?_)); go_big_quiet_op; (with_reducible refine hK _ ?_); clear hK K) | ((refine ord_skipG rfl rfl rfl rfl rfl ?_); simp only [Act.put, List.setIfInBounds_toArray, List.set_cons_zero, List.set_cons_succ]) | ((refine ord_readG rfl rfl rfl rfl rfl rfl (fun K hK => ?_)); go_big_quiet_op; (with_reducible refine hK _ ?_); clear hK K) | ((refine ord_nilc rfl rfl rfl rfl ?_); simp only [Act.put, List.setIfInBounds_toArray, List.set_cons_zero, List.set_cons_succ])))
      have G7 := hid (Gr.refl w2).drew
      obtain ⟨w7, hw7⟩ : ∃ w7, w2.drew = w7 := ⟨_, rfl⟩
      rw [hw7] at G7 ⊢
      clear hw7
      clear q0 q1
      have c40 := row_cell_at (v := .slice none 0 0) (row_gr HT.out G7.out) 0 rfl
      have c41 := row_cell_at (v := .slice none 0 0) (row_gr HT.out G7.out) 1 rfl
      have f40 := frozen_of_row w7 w.heap.size 0 _ _ (row_gr HT.out G7.out)
      have f41 := frozen_of_row w7 w.heap.size 1 _ _ (row_gr HT.out G7.out)
      (first | (refine ord_mem0 rfl rfl (fun K hK => ?_)) | (refine ord_memG rfl rfl rfl rfl rfl (fun K hK => ?_)))
      go_simp
      refine hK.out _ _ ⟨⟨_, kx_set (kx_set (kx_of_kc (KC.of_gr G7.out)) 0 (.slice none 0 0)) 1 (.slice none 0 0)⟩, rfl⟩ ?_
      clear hK K c40 c41 f40 f41
      (repeat (first | ((refine ord_read0 rfl rfl rfl (fun K hK => ?_)); go_big_quiet_op; (with_reducible refine hK _ ?_); clear hK K) | ((refine ord_skipG rfl rfl rfl rfl rfl ?_); simp only [Act.put, List.setIfInBounds_toArray, List.set_cons_zero, List.set_cons_succ]) | ((refine ord_readG rfl rfl rfl rfl rfl rfl (fun K hK => ?_)); go_big_quiet_op; (with_reducible refine hK _ ?_); clear hK K) | ((refine ord_nilc rfl rfl rfl rfl ?_); simp only [Act.put, List.setIfInBounds_toArray, List.set_cons_zero, List.set_cons_succ])))
      (with_reducible refine ord_nil ?_)
      go_wp2
      exact bodyPost_ret (ret_told (p := 4) (q := 5) Try.results57 _ _ w.heap.size (.slice none 0 0) (.slice none 0 0) (.bool false) rfl rfl (set2_row (row_gr HT.out G7.out))) rfl (.inr ⟨_, _, _, _, _, _, rfl, set2_gr (G2.out.trans G7.out) (Nat.le_refl _) _ _, by simp⟩)
    · replace hf : f (0 : Int) = some v := hf
      obtain ⟨KA, kc, KB, kd, rfl, _⟩ := hv
      go_enter Try.func57, Try.ntmps57
      go_wp2_with (first
        | ((with_reducible show wpList _ _ _ (⟨some 16, _, _, _, _, _⟩ :: _) _ _); refine wpList_lookup_is_ok (E := 3) (Value.int .i64) _ rfl (.tmp 14) (.tmp 15) 84 rfl keyed_int10 int_inj Try.underlying84 ma _ rfl (HMa.out.alloc _) id _ _ rfl hkey (zero_int _) ?_; simp only [hix, Option.getD_none, Option.isSome_none])
        | ((with_reducible show wpList _ _ _ (⟨some 25, _, _, _, _, _⟩ :: _) _ _); refine wpList_lookup_is_ok (E := 90) (Value.int .i64) _ rfl (.tmp 23) (.tmp 24) 85 rfl keyed_int10 int_inj Try.underlying85 ml f rfl (HMl.out.alloc _) (0 : Int) _ _ rfl (key_id10 (by omega)) (zero_line _) ?_; simp only [hf, Option.getD_some, Option.isSome_some]))
      obtain ⟨rt, rl⟩ := rows2 w (.cells #[.slice none 0 0, .slice none 0 0] 101) (.cells #[.slice KA n kc, .slice KB m kd] 90)
      have g2 : Gr w ((w.alloc (.cells #[.slice none 0 0, .slice none 0 0] 101)).alloc (.cells #[.slice KA n kc, .slice KB m kd] 90)) := ((Gr.refl w).alloc _).alloc _
      generalize (w.alloc (.cells #[.slice none 0 0, .slice none 0 0] 101)).alloc (.cells #[.slice KA n kc, .slice KB m kd] 90) = w2 at *
      have q0 := KXW.cell (X := w.heap.size) (row_cell_at (v := .slice KA n kc) rl 0 rfl) (by omega)
      have q1 := KXW.cell (X := w.heap.size) (row_cell_at (v := .slice KB m kd) rl 1 rfl) (by omega)
      have HT := hid rt
      have G2 := hid g2
      clear rt rl g2
      refine wp_region_ord (C := fun w' => ∃ p : KXW w.heap.size w2, w' = p.W) [(0, false), (1, false), (2, false), (3, false), (4, false), (5, false), (6, false), (7, false), (8, true), (9, false), (10, true), (11, false)] (by rfl) (by kernel_rfl) (by kernel_rfl) ⟨⟨_, kx_of_kc (KC.of_gr (Gr.refl w2).drew)⟩, rfl⟩ ?_
      (repeat (first | ((refine ord_read0 rfl rfl rfl (fun K hK => ?_)); go_big_quiet_op; (with_reducible refine hK _ ?_); clear hK K) | ((refine ord_skipG rfl rfl rfl rfl rfl ?_); simp only [Act.put, List.setIfInBounds_toArray, List.set_cons_zero, List.set_cons_succ]) | ((refine ord_readG rfl rfl rfl rfl rfl rfl (fun K hK => ?_)); go_big_quiet_op; (with_reducible refine hK _ ?_); clear hK K) | ((refine ord_nilc rfl rfl rfl rfl ?_); simp only [Act.put, List.setIfInBounds_toArray, List.set_cons_zero, List.set_cons_succ])))
      have G7 := hid (Gr.refl w2).drew
      obtain ⟨w7, hw7⟩ : ∃ w7, w2.drew = w7 := ⟨_, rfl⟩
      rw [hw7] at G7 ⊢
      clear hw7
      clear q0 q1
      have c40 := row_cell_at (v := .slice none 0 0) (row_gr HT.out G7.out) 0 rfl
      have c41 := row_cell_at (v := .slice none 0 0) (row_gr HT.out G7.out) 1 rfl
      have f40 := frozen_of_row w7 w.heap.size 0 _ _ (row_gr HT.out G7.out)
      have f41 := frozen_of_row w7 w.heap.size 1 _ _ (row_gr HT.out G7.out)
      (first | (refine ord_mem0 rfl rfl (fun K hK => ?_)) | (refine ord_memG rfl rfl rfl rfl rfl (fun K hK => ?_)))
      go_simp
      refine hK.out _ _ ⟨⟨_, kx_set (kx_set (kx_of_kc (KC.of_gr G7.out)) 0 (.slice KA n kc)) 1 (.slice KB m kd)⟩, rfl⟩ ?_
      clear hK K c40 c41 f40 f41
      (repeat (first | ((refine ord_read0 rfl rfl rfl (fun K hK => ?_)); go_big_quiet_op; (with_reducible refine hK _ ?_); clear hK K) | ((refine ord_skipG rfl rfl rfl rfl rfl ?_); simp only [Act.put, List.setIfInBounds_toArray, List.set_cons_zero, List.set_cons_succ]) | ((refine ord_readG rfl rfl rfl rfl rfl rfl (fun K hK => ?_)); go_big_quiet_op; (with_reducible refine hK _ ?_); clear hK K) | ((refine ord_nilc rfl rfl rfl rfl ?_); simp only [Act.put, List.setIfInBounds_toArray, List.set_cons_zero, List.set_cons_succ])))
      (with_reducible refine ord_nil ?_)
      go_wp2
      exact bodyPost_ret (ret_told (p := 4) (q := 5) Try.results57 _ _ w.heap.size (.slice KA n kc) (.slice KB m kd) (.bool false) rfl rfl (set2_row (row_gr HT.out G7.out))) rfl (.inr ⟨_, _, _, _, _, _, rfl, set2_gr (G2.out.trans G7.out) (Nat.le_refl _) _ _, by simp⟩)
  | some i =>
    rw [hi] at hIdx
    have hin : i < n := by
      have := (List.findIdx?_eq_some_iff_getElem.1 hi).1
      omega
    have hix : idxF es id = some (.int .i64 (i : Int)) := hIdx
    clear hIdx
    have hlg := lines_get hm2 hm3 i
    rcases hlg with ⟨hr, hf⟩ | ⟨xr, v, hr, hf, hv⟩
    · simp only [Option.bind_some, hr, Option.bind_none]
      go_enter Try.func57, Try.ntmps57
      go_wp2_with (first
        | ((with_reducible show wpList _ _ _ (⟨some 16, _, _, _, _, _⟩ :: _) _ _); refine wpList_lookup_is_ok (E := 3) (Value.int .i64) _ rfl (.tmp 14) (.tmp 15) 84 rfl keyed_int10 int_inj Try.underlying84 ma _ rfl (HMa.out.alloc _) id _ _ rfl hkey (zero_int _) ?_; simp only [hix, Option.getD_some, Option.isSome_some])
        | ((with_reducible show wpList _ _ _ (⟨some 25, _, _, _, _, _⟩ :: _) _ _); refine wpList_lookup_is_ok (E := 90) (Value.int .i64) _ rfl (.tmp 23) (.tmp 24) 85 rfl keyed_int10 int_inj Try.underlying85 ml f rfl (HMl.out.alloc _) (i : Int) _ _ rfl (key_id10 (by omega)) (zero_line _) ?_; simp only [hf, Option.getD_none, Option.isSome_none]))
      obtain ⟨rt, rl⟩ := rows2 w (.cells #[.slice none 0 0, .slice none 0 0] 101) (.cells #[.slice none 0 0, .slice none 0 0] 90)
      have g2 : Gr w ((w.alloc (.cells #[.slice none 0 0, .slice none 0 0] 101)).alloc (.cells #[.slice none 0 0, .slice none 0 0] 90)) := ((Gr.refl w).alloc _).alloc _
      generalize (w.alloc (.cells #[.slice none 0 0, .slice none 0 0] 101)).alloc (.cells #[.slice none 0 0, .slice none 0 0] 90) = w2 at *
      have q0 := KXW.cell (X := w.heap.size) (row_cell_at (v := .slice none 0 0) rl 0 rfl) (by omega)
      have q1 := KXW.cell (X := w.heap.size) (row_cell_at (v := .slice none 0 0) rl 1 rfl) (by omega)
      have HT := hid rt
      have G2 := hid g2
      clear rt rl g2
      refine wp_region_ord (C := fun w' => ∃ p : KXW w.heap.size w2, w' = p.W) [(0, false), (1, false), (2, false), (3, false), (4, false), (5, false), (6, false), (7, false), (8, true), (9, false), (10, true), (11, false)] (by rfl) (by kernel_rfl) (by kernel_rfl) ⟨⟨_, kx_of_kc (KC.of_gr (Gr.refl w2).drew)⟩, rfl⟩ ?_
      (repeat (first | ((refine ord_read0 rfl rfl rfl (fun K hK => ?_)); go_big_quiet_op; (with_reducible refine hK _ ?_); clear hK K) | ((refine ord_skipG rfl rfl rfl rfl rfl ?_); simp only [Act.put, List.setIfInBounds_toArray, List.set_cons_zero, List.set_cons_succ]) | ((refine ord_readG rfl rfl rfl rfl rfl rfl (fun K hK => ?_)); go_big_quiet_op; (with_reducible refine hK _ ?_); clear hK K) | ((refine ord_nilc rfl rfl rfl rfl ?_); simp only [Act.put, List.setIfInBounds_toArray, List.set_cons_zero, List.set_cons_succ])))
      have G7 := hid (Gr.refl w2).drew
      obtain ⟨w7, hw7⟩ : ∃ w7, w2.drew = w7 := ⟨_, rfl⟩
      rw [hw7] at G7 ⊢
      clear hw7
      clear q0 q1
      have c40 := row_cell_at (v := .slice none 0 0) (row_gr HT.out G7.out) 0 rfl
      have c41 := row_cell_at (v := .slice none 0 0) (row_gr HT.out G7.out) 1 rfl
      have f40 := frozen_of_row w7 w.heap.size 0 _ _ (row_gr HT.out G7.out)
      have f41 := frozen_of_row w7 w.heap.size 1 _ _ (row_gr HT.out G7.out)
      (first | (refine ord_mem0 rfl rfl (fun K hK => ?_)) | (refine ord_memG rfl rfl rfl rfl rfl (fun K hK => ?_)))
      go_simp
      refine hK.out _ _ ⟨⟨_, kx_set (kx_set (kx_of_kc (KC.of_gr G7.out)) 0 (.slice none 0 0)) 1 (.slice none 0 0)⟩, rfl⟩ ?_
      clear hK K c40 c41 f40 f41
      (repeat (first | ((refine ord_read0 rfl rfl rfl (fun K hK => ?_)); go_big_quiet_op; (with_reducible refine hK _ ?_); clear hK K) | ((refine ord_skipG rfl rfl rfl rfl rfl ?_); simp only [Act.put, List.setIfInBounds_toArray, List.set_cons_zero, List.set_cons_succ]) | ((refine ord_readG rfl rfl rfl rfl rfl rfl (fun K hK => ?_)); go_big_quiet_op; (with_reducible refine hK _ ?_); clear hK K) | ((refine ord_nilc rfl rfl rfl rfl ?_); simp only [Act.put, List.setIfInBounds_toArray, List.set_cons_zero, List.set_cons_succ])))
      (with_reducible refine ord_nil ?_)
      go_wp2
      exact bodyPost_ret (ret_told (p := 4) (q := 5) Try.results57 _ _ w.heap.size (.slice none 0 0) (.slice none 0 0) (.bool false) rfl rfl (set2_row (row_gr HT.out G7.out))) rfl (.inr ⟨_, _, _, _, _, _, rfl, set2_gr (G2.out.trans G7.out) (Nat.le_refl _) _ _, by simp⟩)
    · obtain ⟨KA, kc, KB, kd, rfl, _⟩ := (show _ from hv)
      have HV := hid hv
      have HAl := hid (fun W (k : Gr w W) => alone_any n m _ xr W (hv.gr k) hn)
      clear hv
      by_cases h1 : someN n xr = 1
      · rw [decide_eq_true h1] at HAl
        simp only [Option.bind_some, hr, if_pos h1]
        go_enter Try.func57, Try.ntmps57
        go_wp2_with (first
          | ((with_reducible show wpList _ _ _ (⟨some 16, _, _, _, _, _⟩ :: _) _ _); refine wpList_lookup_is_ok (E := 3) (Value.int .i64) _ rfl (.tmp 14) (.tmp 15) 84 rfl keyed_int10 int_inj Try.underlying84 ma _ rfl (HMa.out.alloc _) id _ _ rfl hkey (zero_int _) ?_; simp only [hix, Option.getD_some, Option.isSome_some])
          | ((with_reducible show wpList _ _ _ (⟨some 25, _, _, _, _, _⟩ :: _) _ _); refine wpList_lookup_is_ok (E := 90) (Value.int .i64) _ rfl (.tmp 23) (.tmp 24) 85 rfl keyed_int10 int_inj Try.underlying85 ml f rfl (HMl.out.alloc _) (i : Int) _ _ rfl (key_id10 (by omega)) (zero_line _) ?_; simp only [hf, Option.getD_some, Option.isSome_some]))
        obtain ⟨rt, rl⟩ := rows2 w (.cells #[.slice none 0 0, .slice none 0 0] 101) (.cells #[.slice KA n kc, .slice KB m kd] 90)
        have g2 : Gr w ((w.alloc (.cells #[.slice none 0 0, .slice none 0 0] 101)).alloc (.cells #[.slice KA n kc, .slice KB m kd] 90)) := ((Gr.refl w).alloc _).alloc _
        generalize (w.alloc (.cells #[.slice none 0 0, .slice none 0 0] 101)).alloc (.cells #[.slice KA n kc, .slice KB m kd] 90) = w2 at *
        have q0 := KXW.cell (X := w.heap.size) (row_cell_at (v := .slice KA n kc) rl 0 rfl) (by omega)
        have q1 := KXW.cell (X := w.heap.size) (row_cell_at (v := .slice KB m kd) rl 1 rfl) (by omega)
        have HT := hid rt
        have G2 := hid g2
        clear rt rl g2
        refine wp_region_ord (C := fun w' => ∃ p : KXW w.heap.size w2, w' = p.W) [(0, false), (1, false), (2, false), (3, false), (4, false), (5, false), (6, false), (7, false), (8, true), (9, false), (10, true), (11, false)] (by rfl) (by kernel_rfl) (by kernel_rfl) ⟨⟨_, kx_of_kc (KC.of_gr (Gr.refl w2).drew)⟩, rfl⟩ ?_
        (repeat (first | ((refine ord_read0 rfl rfl rfl (fun K hK => ?_)); go_big_quiet_op; (with_reducible refine hK _ ?_); clear hK K) | ((refine ord_skipG rfl rfl rfl rfl rfl ?_); simp only [Act.put, List.setIfInBounds_toArray, List.set_cons_zero, List.set_cons_succ]) | ((refine ord_readG rfl rfl rfl rfl rfl rfl (fun K hK => ?_)); go_big_quiet_op; (with_reducible refine hK _ ?_); clear hK K) | ((refine ord_nilc rfl rfl rfl rfl ?_); simp only [Act.put, List.setIfInBounds_toArray, List.set_cons_zero, List.set_cons_succ])))
        (first | (refine ord_mem0 rfl rfl (fun K hK => ?_)) | (refine ord_memG rfl rfl rfl rfl rfl (fun K hK => ?_)))
        go_simp
        refine (HAl.out _ (G2.out.trans (Gr.refl w2).drew)).mono ?_
        rintro e w7 ⟨rfl, hg7⟩
        have G7 := hid (show Gr w2 w7 from (Gr.refl w2).drew.trans hg7)
        refine hK.out _ _ ⟨⟨w7, kx_of_kc (KC.of_gr G7.out)⟩, rfl⟩ ?_
        clear hK K hg7
        (repeat (first | ((refine ord_read0 rfl rfl rfl (fun K hK => ?_)); go_big_quiet_op; (with_reducible refine hK _ ?_); clear hK K) | ((refine ord_skipG rfl rfl rfl rfl rfl ?_); simp only [Act.put, List.setIfInBounds_toArray, List.set_cons_zero, List.set_cons_succ]) | ((refine ord_readG rfl rfl rfl rfl rfl rfl (fun K hK => ?_)); go_big_quiet_op; (with_reducible refine hK _ ?_); clear hK K) | ((refine ord_nilc rfl rfl rfl rfl ?_); simp only [Act.put, List.setIfInBounds_toArray, List.set_cons_zero, List.set_cons_succ])))
        clear q0 q1
        have c40 := row_cell_at (v := .slice none 0 0) (row_gr HT.out G7.out) 0 rfl
        have c41 := row_cell_at (v := .slice none 0 0) (row_gr HT.out G7.out) 1 rfl
        have f40 := frozen_of_row w7 w.heap.size 0 _ _ (row_gr HT.out G7.out)
        have f41 := frozen_of_row w7 w.heap.size 1 _ _ (row_gr HT.out G7.out)
        (first | (refine ord_mem0 rfl rfl (fun K hK => ?_)) | (refine ord_memG rfl rfl rfl rfl rfl (fun K hK => ?_)))
        go_simp
        refine hK.out _ _ ⟨⟨_, kx_set (kx_set (kx_of_kc (KC.of_gr G7.out)) 0 (.slice KA n kc)) 1 (.slice KB m kd)⟩, rfl⟩ ?_
        clear hK K c40 c41 f40 f41
        (repeat (first | ((refine ord_read0 rfl rfl rfl (fun K hK => ?_)); go_big_quiet_op; (with_reducible refine hK _ ?_); clear hK K) | ((refine ord_skipG rfl rfl rfl rfl rfl ?_); simp only [Act.put, List.setIfInBounds_toArray, List.set_cons_zero, List.set_cons_succ]) | ((refine ord_readG rfl rfl rfl rfl rfl rfl (fun K hK => ?_)); go_big_quiet_op; (with_reducible refine hK _ ?_); clear hK K) | ((refine ord_nilc rfl rfl rfl rfl ?_); simp only [Act.put, List.setIfInBounds_toArray, List.set_cons_zero, List.set_cons_succ])))
        (with_reducible refine ord_nil ?_)
        go_wp2
        have HL := (HV.out.gr (G2.out.trans G7.out)).set_sl (row_gr HT.out G7.out) 0 (.slice KA n kc)
        have r1 := heap_setCell_same w7 w.heap.size 0 _ _ (.slice KA n kc) (row_gr HT.out G7.out)
        have HL2 := HL.set_sl (A1 := KA) (n1 := n) (c1 := kc) (A2 := none) (n2 := 0) (c2 := 0) (t := 101) r1 1 (.slice KB m kd)
        exact bodyPost_ret (ret_told (p := 4) (q := 5) Try.results57 _ _ w.heap.size (.slice KA n kc) (.slice KB m kd) (.bool true) rfl rfl (set2_row (row_gr HT.out G7.out))) rfl (.inl ⟨KA, kc, KB, kd, rfl, set2_gr (G2.out.trans G7.out) (Nat.le_refl _) _ _, xr, rfl, HL2⟩)
      · rw [decide_eq_false h1] at HAl
        simp only [Option.bind_some, hr, if_neg h1]
        go_enter Try.func57, Try.ntmps57
        go_wp2_with (first
          | ((with_reducible show wpList _ _ _ (⟨some 16, _, _, _, _, _⟩ :: _) _ _); refine wpList_lookup_is_ok (E := 3) (Value.int .i64) _ rfl (.tmp 14) (.tmp 15) 84 rfl keyed_int10 int_inj Try.underlying84 ma _ rfl (HMa.out.alloc _) id _ _ rfl hkey (zero_int _) ?_; simp only [hix, Option.getD_some, Option.isSome_some])
          | ((with_reducible show wpList _ _ _ (⟨some 25, _, _, _, _, _⟩ :: _) _ _); refine wpList_lookup_is_ok (E := 90) (Value.int .i64) _ rfl (.tmp 23) (.tmp 24) 85 rfl keyed_int10 int_inj Try.underlying85 ml f rfl (HMl.out.alloc _) (i : Int) _ _ rfl (key_id10 (by omega)) (zero_line _) ?_; simp only [hf, Option.getD_some, Option.isSome_some]))
        obtain ⟨rt, rl⟩ := rows2 w (.cells #[.slice none 0 0, .slice none 0 0] 101) (.cells #[.slice KA n kc, .slice KB m kd] 90)
        have g2 : Gr w ((w.alloc (.cells #[.slice none 0 0, .slice none 0 0] 101)).alloc (.cells #[.slice KA n kc, .slice KB m kd] 90)) := ((Gr.refl w).alloc _).alloc _
        generalize (w.alloc (.cells #[.slice none 0 0, .slice none 0 0] 101)).alloc (.cells #[.slice KA n kc, .slice KB m kd] 90) = w2 at *
        have q0 := KXW.cell (X := w.heap.size) (row_cell_at (v := .slice KA n kc) rl 0 rfl) (by omega)
        have q1 := KXW.cell (X := w.heap.size) (row_cell_at (v := .slice KB m kd) rl 1 rfl) (by omega)
        have HT := hid rt
        have G2 := hid g2
        clear rt rl g2
        refine wp_region_ord (C := fun w' => ∃ p : KXW w.heap.size w2, w' = p.W) [(0, false), (1, false), (2, false), (3, false), (4, false), (5, false), (6, false), (7, false), (8, true), (9, false), (10, true), (11, false)] (by rfl) (by kernel_rfl) (by kernel_rfl) ⟨⟨_, kx_of_kc (KC.of_gr (Gr.refl w2).drew)⟩, rfl⟩ ?_
        (repeat (first | ((refine ord_read0 rfl rfl rfl (fun K hK => ?_)); go_big_quiet_op; (with_reducible refine hK _ ?_); clear hK K) | ((refine ord_skipG rfl rfl rfl rfl rfl ?_); simp only [Act.put, List.setIfInBounds_toArray, List.set_cons_zero, List.set_cons_succ]) | ((refine ord_readG rfl rfl rfl rfl rfl rfl (fun K hK => ?_)); go_big_quiet_op; (with_reducible refine hK _ ?_); clear hK K) | ((refine ord_nilc rfl rfl rfl rfl ?_); simp only [Act.put, List.setIfInBounds_toArray, List.set_cons_zero, List.set_cons_succ])))
        (first | (refine ord_mem0 rfl rfl (fun K hK => ?_)) | (refine ord_memG rfl rfl rfl rfl rfl (fun K hK => ?_)))
        go_simp
        refine (HAl.out _ (G2.out.trans (Gr.refl w2).drew)).mono ?_
        rintro e w7 ⟨rfl, hg7⟩
        have G7 := hid (show Gr w2 w7 from (Gr.refl w2).drew.trans hg7)
        refine hK.out _ _ ⟨⟨w7, kx_of_kc (KC.of_gr G7.out)⟩, rfl⟩ ?_
        clear hK K hg7
        (repeat (first | ((refine ord_read0 rfl rfl rfl (fun K hK => ?_)); go_big_quiet_op; (with_reducible refine hK _ ?_); clear hK K) | ((refine ord_skipG rfl rfl rfl rfl rfl ?_); simp only [Act.put, List.setIfInBounds_toArray, List.set_cons_zero, List.set_cons_succ]) | ((refine ord_readG rfl rfl rfl rfl rfl rfl (fun K hK => ?_)); go_big_quiet_op; (with_reducible refine hK _ ?_); clear hK K) | ((refine ord_nilc rfl rfl rfl rfl ?_); simp only [Act.put, List.setIfInBounds_toArray, List.set_cons_zero, List.set_cons_succ])))
        clear q0 q1
        have c40 := row_cell_at (v := .slice none 0 0) (row_gr HT.out G7.out) 0 rfl
        have c41 := row_cell_at (v := .slice none 0 0) (row_gr HT.out G7.out) 1 rfl
        have f40 := frozen_of_row w7 w.heap.size 0 _ _ (row_gr HT.out G7.out)
        have f41 := frozen_of_row w7 w.heap.size 1 _ _ (row_gr HT.out G7.out)
        (first | (refine ord_mem0 rfl rfl (fun K hK => ?_)) | (refine ord_memG rfl rfl rfl rfl rfl (fun K hK => ?_)))
        go_simp
        refine hK.out _ _ ⟨⟨_, kx_set (kx_set (kx_of_kc (KC.of_gr G7.out)) 0 (.slice KA n kc)) 1 (.slice KB m kd)⟩, rfl⟩ ?_
        clear hK K c40 c41 f40 f41
        (repeat (first | ((refine ord_read0 rfl rfl rfl (fun K hK => ?_)); go_big_quiet_op; (with_reducible refine hK _ ?_); clear hK K) | ((refine ord_skipG rfl rfl rfl rfl rfl ?_); simp only [Act.put, List.setIfInBounds_toArray, List.set_cons_zero, List.set_cons_succ]) | ((refine ord_readG rfl rfl rfl rfl rfl rfl (fun K hK => ?_)); go_big_quiet_op; (with_reducible refine hK _ ?_); clear hK K) | ((refine ord_nilc rfl rfl rfl rfl ?_); simp only [Act.put, List.setIfInBounds_toArray, List.set_cons_zero, List.set_cons_succ])))
        (with_reducible refine ord_nil ?_)
        go_wp2
        exact bodyPost_ret (ret_told (p := 4) (q := 5) Try.results57 _ _ w.heap.size (.slice KA n kc) (.slice KB m kd) (.bool false) rfl rfl (set2_row (row_gr HT.out G7.out))) rfl (.inr ⟨_, _, _, _, _, _, rfl, set2_gr (G2.out.trans G7.out) (Nat.le_refl _) _ _, by simp⟩)
end Go.Proofs.Ytimhkkijoelmhaa
