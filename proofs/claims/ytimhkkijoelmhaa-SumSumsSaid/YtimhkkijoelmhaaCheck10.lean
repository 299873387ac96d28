/- Check of the package sum: whether subjects are a table. For every list of subjects and number of columns. -/
import Derived.Test.YtimhkkijoelmhaaRefCheck10
import Derived.Test.YtimhkkijoelmhaaMapIs
namespace Go.Proofs.Ytimhkkijoelmhaa
open Go.RowKit Go.Maps

theorem keyed_int10 : Keyed Try.prog 3 := int_keyed Try.underlying3
theorem key_id10 {x : Int} (h : -9223372036854775808 ≤ x ∧ x ≤ 9223372036854775807) : keyOf Try.prog 3 (.int .i64 x) = some (.int .i64 x) :=
  keyOf_int_mk Try.underlying3 (WalkArith.wf_i64 (by omega))

/-- What lies where, in the midst of Check. -/
structure ChkIn (w0 W : World) (bs bc mb : Nat) (columns : Int) (F : Int → Option Value) : Prop where
  gr : Gr w0 W
  cs : W.cell? ⟨bs, 0, none⟩ = some (.map (some mb))
  cc : W.cell? ⟨bc, 0, none⟩ = some (.int .i64 columns)
  low : w0.heap.size ≤ mb
  ns : bs ≠ mb
  nc : bc ≠ mb
  map : MapIs Try.prog 3 (Value.int .i64) W mb F
theorem ChkIn.on {w0 W W' : World} {bs bc mb : Nat} {columns : Int} {F : Int → Option Value} (h : ChkIn w0 W bs bc mb columns F) (g : Gr W W') : ChkIn w0 W' bs bc mb columns F :=
  ⟨h.gr.trans g, row_cell h.cs g, row_cell h.cc g, h.low, h.ns, h.nc, h.map.gr g⟩
theorem grown_cell {W W' : World} {b mb o : Nat} {v : Value} (h : W.cell? ⟨b, o, none⟩ = some v) (g : W.grownBy W' (some mb)) (hne : b ≠ mb) : W'.cell? ⟨b, o, none⟩ = some v := by
  rw [World.cell?_of_block (w := W) (g.block b (block_lt_of_cell h) (fun e => hne (Option.some.inj e)))]
  exact h
theorem ChkIn.put {w0 W W' : World} {bs bc mb : Nat} {columns : Int} {F F' : Int → Option Value} (h : ChkIn w0 W bs bc mb columns F) (g : W.grownBy W' (some mb)) (hm : MapIs Try.prog 3 (Value.int .i64) W' mb F') : ChkIn w0 W' bs bc mb columns F' :=
  ⟨Gr.grown h.gr g (fun q e => by cases e; exact h.low), grown_cell h.cs g h.ns, grown_cell h.cc g h.nc, h.low, h.ns, h.nc, hm⟩

set_option maxRecDepth 100000 in
set_option maxHeartbeats 8000000 in
theorem check1_st (s : Sbj) (columns : Int) (bs bc mb : Nat) (F : Int → Option Value) (hF : ∀ q, F q = none ∨ F q = some (.bool true)) (w0 W : World) (h : ChkIn w0 W bs bc mb columns F) (hv : Rd w0 1 s.a s.n (s.vals.map (Value.int .i64))) (hn : s.n ≤ 9223372036854775807)
    (hid1 : -9223372036854775808 ≤ s.id ∧ s.id ≤ 9223372036854775807) :
    Calls Try.prog 47 #[s.val, .pointer (some ⟨bs, 0, none⟩), .pointer (some ⟨bc, 0, none⟩)] W fun e w' => e = .returned (.bool ((F s.id).isSome || !sbjB columns s)) ∧ ChkIn w0 w' bs bc mb columns (fun p => if p = s.id then some (.bool true) else F p) := by
  have hvl : s.vals.length = s.n := by have := hv.len; simpa using this
  obtain ⟨R, hR⟩ : ∃ R, ((F s.id).isSome || !sbjB columns s) = R := ⟨_, rfl⟩
  rw [hR]
  unfold sbjB at hR
  obtain ⟨tw, htw⟩ : ∃ tw, (F s.id).isSome = tw := ⟨_, rfl⟩
  have hget : (F s.id).getD (.bool false) = .bool tw := by
    rcases hF s.id with e | e
    · rw [e] at htw ⊢; simp at htw; rw [← htw]; rfl
    · rw [e] at htw ⊢; simp at htw; rw [← htw]; rfl
  obtain ⟨ib, hib⟩ : ∃ ib, inB 0 999999 s.id = ib := ⟨_, rfl⟩
  obtain ⟨vb, hvb⟩ : ∃ vb, s.vals.all (inB 0 1000000) = vb := ⟨_, rfl⟩
  rw [htw, hib, hvb, hvl] at hR
  have HV := hid hv
  have HR := hid hR.symm
  have HKey := hid (key_id10 hid1)
  have HGet := hid hget
  have HIb := hid hib
  have HVb := hid hvb
  have HIn := hid (fun W' (k : Gr w0 W') => by
    have h := in_any 0 1000000 s.a s.n s.c s.vals W' (hv.gr k) hn
    rw [hvb] at h
    exact h)
  have HC0 := hid h
  have c0 := h.cs
  have c1 := h.cc
  have hl0 : bs < W.heap.size := block_lt_of_cell c0
  have hl1 : bc < W.heap.size := block_lt_of_cell c1
  have hmm := h.map.lt
  have hnm := h.nc
  clear hR htw hget hib hvb hv h hF hvl
  obtain ⟨id, a, n, c, vals⟩ := s
  unfold Sbj.val
  dsimp only at *
  clear HVb HV
  have hfin : (tw = true) ∨ (tw = false ∧ ib = false) ∨ (tw = false ∧ ib = true ∧ ¬ (n : Int) = columns) ∨ (tw = false ∧ ib = true ∧ (n : Int) = columns) := by
    cases tw
    · cases ib
      · exact .inr (.inl ⟨rfl, rfl⟩)
      · by_cases hc : (n : Int) = columns
        · exact .inr (.inr (.inr ⟨rfl, rfl, hc⟩))
        · exact .inr (.inr (.inl ⟨rfl, rfl, hc⟩))
    · exact .inl rfl
  rcases hfin with rfl | ⟨rfl, rfl⟩ | ⟨rfl, rfl, hc⟩ | ⟨rfl, rfl, hc⟩
  all_goals
    try (have hcb : ((n : Int) == columns) = false := by simpa using hc)
    try subst hc
    go_enter Try.func47, Try.ntmps47
    go_wp2_with (first
      | ((with_reducible show wpList _ _ _ (⟨some 9, _, _, _, _, _⟩ :: _) _ _); refine wpList_lookup_is (Value.int .i64) _ rfl (.tmp 6) (.tmp 8) 76 rfl keyed_int10 (fun p q h => int_inj p q h) Try.underlying76 mb F rfl (HC0.out.map.gr ((Gr.refl W).alloc _)) id (.int .i64 id) (.bool false) rfl HKey.out (by kernel_rfl) ?_; rw [HGet.out])
      | ((with_reducible show wpList _ _ _ (⟨none, Op.mapUpdate _ _ _ _, _, _, _, _⟩ :: _) _ _); refine wpList_mapUpdate_is (Value.int .i64) _ rfl (.tmp 10) (.tmp 12) (.const (.bool true)) 76 rfl keyed_int10 (fun p q h => int_inj p q h) Try.underlying76 mb F rfl (HC0.out.map.gr ((Gr.refl W).alloc _)) id (.bool true) (.int .i64 id) rfl rfl HKey.out ?_; intro w2 hM2 hg2 hs2; have HC2 := hid ((HC0.out.on ((Gr.refl W).alloc (.cells #[.int .i64 id, .slice a n c] 60))).put hg2 hM2); have d0 := HC2.out.cs; have d1 := HC2.out.cc; have z0 := grown_cell (row_cell_at (v := .int .i64 id) (heap_alloc_new W (.cells #[.int .i64 id, .slice a n c] 60)) 0 rfl) hg2 (by omega); have z1 := grown_cell (row_cell_at (v := .slice a n c) (heap_alloc_new W (.cells #[.int .i64 id, .slice a n c] 60)) 1 rfl) hg2 (by omega); have y0 : W.heap.size < w2.heap.size := block_lt_of_cell z0; have y1 : bc < w2.heap.size := block_lt_of_cell d1; clear hM2 hg2 hs2)
      | (go_at_call 48; (with_reducible refine (in_one 0 999999 id _ HIb.out _ _ _ ?_ ?_).mono ?_); rotate_right; rintro e w3 ⟨rfl, hbw3⟩; obtain ⟨hcw3, hfw3, hzw3⟩ := hbw3.rules; (try simp at hzw3); have hzw3_0 : w2.heap.size < w3.heap.size := (by omega); have hyw3_0 : w2.heap.size ≤ w3.heap.size := (by omega))
      | (go_at_call 48; (with_reducible refine (HIn.out _ ?_).mono ?_); rotate_right; rintro e w4 ⟨rfl, hbw4⟩; obtain ⟨hcw4, hfw4, hzw4⟩ := hbw4.rules; (try simp at hzw4)))
  all_goals first
    | (simp; done)
    | exact row_cell_at (heap_alloc_new _ _) 0 rfl
    | exact HC2.out.gr.trans (((Gr.refl _).alloc _).trans hbw3)
    | (go_ret
       refine ⟨by rw [HR.out]; simp [*], ?_⟩
       first
         | exact HC2.out.on ((((Gr.refl _).alloc _).trans hbw3).trans hbw4)
         | exact HC2.out.on (((Gr.refl _).alloc _).trans hbw3)
         | exact HC2.out)
end Go.Proofs.Ytimhkkijoelmhaa
