/- Check of the package sum: whether subjects are a table. For every list of subjects and number of columns. slices.ContainsFunc at subjects with a predicate that keeps a state; Check of the package sum. For every list of subjects. checked of the package sum: the error of a table and a question; what a valid table and question say of numbers. For every table and question. Sum of the package sum: what is printed, and the bound, or the error. For every table and question. -/
import Derived.Deep.CutRange
import Derived.Deep.DeepCutAuto
import Derived.Deep.LoopGhost
import Derived.Test.YtimhkkijoelmhaaQWithin10
import Derived.Test.YtimhkkijoelmhaaQMapIs
import Derived.Test.YtimhkkijoelmhaaQRight10
namespace Go.Proofs.Ytimhkkijoelmhaa
open Go.RowKit Go.Maps

theorem keyed_int10 : Keyed Try.prog 3 := int_keyed Try.underlying3
theorem key_id10 {x : Int} (h : -9223372036854775808 ≤ x ∧ x ≤ 9223372036854775807) : keyOf Try.prog 3 (.int .i64 x) = some (.int .i64 x) :=
  keyOf_int_mk Try.underlying3 (WalkArith.wf_i64 (by omega))

/-- What lies where, in the midst of Check. -/
structure ChkIn (w0 W : World) (bs bc mb : Nat) (columns : Int) (F : Int → Option Value) : Prop where
  gr : Gr w0 W
  cs : W.cell? ⟨bs, 0, none⟩ = some (.map (some mb))
  cc : W.cell? ⟨bc, 0, none⟩ = some (.int .i64 columns)
  low : w0.heap.size ≤ mb
  ns : bs ≠ mb
  nc : bc ≠ mb
  map : MapIs Try.prog 3 (Value.int .i64) W mb F
theorem ChkIn.on {w0 W W' : World} {bs bc mb : Nat} {columns : Int} {F : Int → Option Value} (h : ChkIn w0 W bs bc mb columns F) (g : Gr W W') : ChkIn w0 W' bs bc mb columns F :=
  ⟨h.gr.trans g, row_cell h.cs g, row_cell h.cc g, h.low, h.ns, h.nc, h.map.gr g⟩
theorem grown_cell {W W' : World} {b mb o : Nat} {v : Value} (h : W.cell? ⟨b, o, none⟩ = some v) (g : W.grownBy W' (some mb)) (hne : b ≠ mb) : W'.cell? ⟨b, o, none⟩ = some v := by
  rw [World.cell?_of_block (w := W) (g.block b (block_lt_of_cell h) (fun e => hne (Option.some.inj e)))]
  exact h
theorem ChkIn.put {w0 W W' : World} {bs bc mb : Nat} {columns : Int} {F F' : Int → Option Value} (h : ChkIn w0 W bs bc mb columns F) (g : W.grownBy W' (some mb)) (hm : MapIs Try.prog 3 (Value.int .i64) W' mb F') : ChkIn w0 W' bs bc mb columns F' :=
  ⟨Gr.grown h.gr g (fun q e => by cases e; exact h.low), grown_cell h.cs g h.ns, grown_cell h.cc g h.nc, h.low, h.ns, h.nc, hm⟩

set_option maxRecDepth 100000 in
set_option maxHeartbeats 8000000 in
theorem check1_st (s : Sbj) (columns : Int) (bs bc mb : Nat) (F : Int → Option Value) (hF : ∀ q, F q = none ∨ F q = some (.bool true)) (w0 W : World) (h : ChkIn w0 W bs bc mb columns F) (hv : Rd w0 1 s.a s.n (s.vals.map (Value.int .i64))) (hn : s.n ≤ 9223372036854775807)
    (hid1 : -9223372036854775808 ≤ s.id ∧ s.id ≤ 9223372036854775807) :
    Calls Try.prog 47 #[s.val, .pointer (some ⟨bs, 0, none⟩), .pointer (some ⟨bc, 0, none⟩)] W fun e w' => e = .returned (.bool ((F s.id).isSome || !sbjB columns s)) ∧ ChkIn w0 w' bs bc mb columns (fun p => if p = s.id then some (.bool true) else F p) := by
  have hvl : s.vals.length = s.n := by have := hv.len; simpa using this
  obtain ⟨R, hR⟩ : ∃ R, ((F s.id).isSome || !sbjB columns s) = R := ⟨_, rfl⟩
  rw [hR]
  unfold sbjB at hR
  obtain ⟨tw, htw⟩ : ∃ tw, (F s.id).isSome = tw := ⟨_, rfl⟩
  have hget : (F s.id).getD (.bool false) = .bool tw := by
    rcases hF s.id with e | e
    · rw [e] at htw ⊢; simp at htw; rw [← htw]; rfl
    · rw [e] at htw ⊢; simp at htw; rw [← htw]; rfl
  obtain ⟨ib, hib⟩ : ∃ ib, inB 0 999999 s.id = ib := ⟨_, rfl⟩
  obtain ⟨vb, hvb⟩ : ∃ vb, s.vals.all (inB 0 1000000) = vb := ⟨_, rfl⟩
  rw [htw, hib, hvb, hvl] at hR
  have HV := hid hv
  have HR := hid hR.symm
  have HKey := hid (key_id10 hid1)
  have HGet := hid hget
  have HIb := hid hib
  have HVb := hid hvb
  have HIn := hid (fun W' (k : Gr w0 W') => by
    have h := in_any 0 1000000 s.a s.n s.c s.vals W' (hv.gr k) hn
    rw [hvb] at h
    exact h)
  have HC0 := hid h
  have c0 := h.cs
  have c1 := h.cc
  have hl0 : bs < W.heap.size := block_lt_of_cell c0
  have hl1 : bc < W.heap.size := block_lt_of_cell c1
  have hmm := h.map.lt
  have hnm := h.nc
  clear hR htw hget hib hvb hv h hF hvl
  obtain ⟨id, a, n, c, vals⟩ := s
  unfold Sbj.val
  dsimp only at *
  clear HVb HV
  have hfin : (tw = true) ∨ (tw = false ∧ ib = false) ∨ (tw = false ∧ ib = true ∧ ¬ (n : Int) = columns) ∨ (tw = false ∧ ib = true ∧ (n : Int) = columns) := by
    cases tw
    · cases ib
      · exact .inr (.inl ⟨rfl, rfl⟩)
      · by_cases hc : (n : Int) = columns
        · exact .inr (.inr (.inr ⟨rfl, rfl, hc⟩))
        · exact .inr (.inr (.inl ⟨rfl, rfl, hc⟩))
    · exact .inl rfl
  rcases hfin with rfl | ⟨rfl, rfl⟩ | ⟨rfl, rfl, hc⟩ | ⟨rfl, rfl, hc⟩
  all_goals
    try (have hcb : ((n : Int) == columns) = false := by simpa using hc)
    try subst hc
    go_enter Try.func47, Try.ntmps47
    go_wp2_with (first
      | ((with_reducible show wpList _ _ _ (⟨some 9, _, _, _, _, _⟩ :: _) _ _); refine wpList_lookup_is (Value.int .i64) _ rfl (.tmp 6) (.tmp 8) 76 rfl keyed_int10 (fun p q h => int_inj p q h) Try.underlying76 mb F rfl (HC0.out.map.gr ((Gr.refl W).alloc _)) id (.int .i64 id) (.bool false) rfl HKey.out (by kernel_rfl) ?_; rw [HGet.out])
      | ((with_reducible show wpList _ _ _ (⟨none, Op.mapUpdate _ _ _ _, _, _, _, _⟩ :: _) _ _); refine wpList_mapUpdate_is (Value.int .i64) _ rfl (.tmp 10) (.tmp 12) (.const (.bool true)) 76 rfl keyed_int10 (fun p q h => int_inj p q h) Try.underlying76 mb F rfl (HC0.out.map.gr ((Gr.refl W).alloc _)) id (.bool true) (.int .i64 id) rfl rfl HKey.out ?_; intro w2 hM2 hg2 hs2; have HC2 := hid ((HC0.out.on ((Gr.refl W).alloc (.cells #[.int .i64 id, .slice a n c] 60))).put hg2 hM2); have d0 := HC2.out.cs; have d1 := HC2.out.cc; have z0 := grown_cell (row_cell_at (v := .int .i64 id) (heap_alloc_new W (.cells #[.int .i64 id, .slice a n c] 60)) 0 rfl) hg2 (by omega); have z1 := grown_cell (row_cell_at (v := .slice a n c) (heap_alloc_new W (.cells #[.int .i64 id, .slice a n c] 60)) 1 rfl) hg2 (by omega); have y0 : W.heap.size < w2.heap.size := block_lt_of_cell z0; have y1 : bc < w2.heap.size := block_lt_of_cell d1; clear hM2 hg2 hs2)
      | (go_at_call 48; (with_reducible refine (in_one 0 999999 id _ HIb.out _ _ _ ?_ ?_).mono ?_); rotate_right; rintro e w3 ⟨rfl, hbw3⟩; obtain ⟨hcw3, hfw3, hzw3⟩ := hbw3.rules; (try simp at hzw3); have hzw3_0 : w2.heap.size < w3.heap.size := (by omega); have hyw3_0 : w2.heap.size ≤ w3.heap.size := (by omega))
      | (go_at_call 48; (with_reducible refine (HIn.out _ ?_).mono ?_); rotate_right; rintro e w4 ⟨rfl, hbw4⟩; obtain ⟨hcw4, hfw4, hzw4⟩ := hbw4.rules; (try simp at hzw4)))
  all_goals first
    | (simp; done)
    | exact row_cell_at (heap_alloc_new _ _) 0 rfl
    | exact HC2.out.gr.trans (((Gr.refl _).alloc _).trans hbw3)
    | (go_ret
       refine ⟨by rw [HR.out]; simp [*], ?_⟩
       first
         | exact HC2.out.on ((((Gr.refl _).alloc _).trans hbw3).trans hbw4)
         | exact HC2.out.on (((Gr.refl _).alloc _).trans hbw3)
         | exact HC2.out)
end Go.Proofs.Ytimhkkijoelmhaa
namespace Go.Proofs.Ytimhkkijoelmhaa
open Go.RowKit Go.Maps

set_option maxHeartbeats 1000000 in
theorem indexFunc_st (g : Nat) (lb : Array Value) (eg : ∀ args w, (callFunc g args).run Try.prog w = .ok (.enter g args) w) (I : Nat → World → Prop) (p : Nat → Bool) (A : Option Addr) (n c : Nat) (zs : List Sbj) (w : World)
    (hl : zs.length = n) (h0 : I 0 w) (hR : ∀ k W, I k W → Rd W 2 A n (zs.flatMap Sbj.cells)) (hp : ∀ k, k < n → ∀ W, I k W → Calls Try.prog g (#[zs[k]!.val] ++ lb) W fun e w' => e = .returned (.bool (p k)) ∧ I (k + 1) w') (hbig : n ≤ 9223372036854775807) :
    Calls Try.prog 76 #[.slice A n c, .func (.func g) #[] lb] w fun e w' => ∃ r : Int, e = .returned (.int .i64 r) ∧ (∃ k, I k w') ∧ ((0 ≤ r ∧ (List.range n).any p = true) ∨ (r = -1 ∧ (List.range n).any p = false)) := by
  have HL := hid hl
  have H0 := hid h0
  have HR := hid hR
  have HP := hid hp
  clear hl h0 hR hp
  go_enter Try.func76, Try.ntmps76
  go_wp2
  go_loopg [5, 8] n (fun gg _ s8 wr => ∃ kk : Nat, kk ≤ n ∧ n - kk ≤ gg ∧ s8 = .int .i64 kk ∧ Hid (I kk wr) ∧ Hid (∀ j, j < kk → p j = false))
  case atStart => exact ⟨0, Nat.zero_le _, by omega, rfl, H0.out, fun j hj => absurd hj (Nat.not_lt_zero _)⟩
  case round =>
    obtain ⟨kk, hkk, hg, rfl, HI, HA⟩ := hrel
    by_cases hlt : kk < n
    · obtain ⟨_, b, off, hAe, hb, c0, c1⟩ := (HR.out kk wr HI.out).sbj hlt
      have hcall := HP.out kk hlt wr HI.out
      unfold Sbj.val at hcall
      generalize zs[kk]! = y at c0 c1 hcall
      subst hAe
      obtain ⟨q, hq⟩ : ∃ q, p kk = q := ⟨_, rfl⟩
      rw [hq] at hcall
      have HQ := hid hq
      have HC := hid hcall
      clear hcall hq
      cases q with
      | true =>
        go_wp2_with (go_at_fn g; refine (HC.out).mono ?_; rintro e w' ⟨rfl, hb'⟩)
        go_ret
        refine ⟨kk, rfl, ⟨_, hb'⟩, .inl ⟨by omega, ?_⟩⟩
        rw [List.any_eq_true]
        exact ⟨kk, List.mem_range.2 hlt, HQ.out⟩
      | false =>
        go_wp2_with (go_at_fn g; refine (HC.out).mono ?_; rintro e w' ⟨rfl, hb'⟩)
        go_roundg (n - (kk + 1))
        case measure => omega
        case rel =>
          refine ⟨kk + 1, by omega, by omega, by go_num, hb', hid fun j hj => ?_⟩
          rcases Nat.lt_succ_iff_lt_or_eq.1 hj with h1 | rfl
          · exact HA.out j h1
          · exact HQ.out
    · have hltz : ¬ (kk : Int) < (n : Int) := by omega
      go_wp2
      go_ret
      refine ⟨-1, rfl, ⟨_, HI.out⟩, .inr ⟨rfl, ?_⟩⟩
      first
        | exact fun x hx => HA.out x (by omega)
        | (rw [List.any_eq_false]
           intro j hj
           have := HA.out j (by have := List.mem_range.1 hj; omega)
           rw [this]
           simp)
theorem containsFunc_st (g : Nat) (lb : Array Value) (eg : ∀ args w, (callFunc g args).run Try.prog w = .ok (.enter g args) w) (I : Nat → World → Prop) (p : Nat → Bool) (A : Option Addr) (n c : Nat) (zs : List Sbj) (w : World)
    (hl : zs.length = n) (h0 : I 0 w) (hR : ∀ k W, I k W → Rd W 2 A n (zs.flatMap Sbj.cells)) (hp : ∀ k, k < n → ∀ W, I k W → Calls Try.prog g (#[zs[k]!.val] ++ lb) W fun e w' => e = .returned (.bool (p k)) ∧ I (k + 1) w') (hbig : n ≤ 9223372036854775807) :
    Calls Try.prog 49 #[.slice A n c, .func (.func g) #[] lb] w fun e w' => e = .returned (.bool ((List.range n).any p)) ∧ ∃ k, I k w' := by
  have H := hid (indexFunc_st g lb eg I p A n c zs w hl h0 hR hp hbig)
  obtain ⟨R, hRR⟩ : ∃ R, (List.range n).any p = R := ⟨_, rfl⟩
  rw [hRR] at H ⊢
  clear h0 hR hp hl eg hRR
  go_enter Try.func49, Try.ntmps49
  cases R
  all_goals
    go_wp2_with (go_at_call 76; refine H.out.mono ?_; rintro e w' ⟨r, rfl, T1, T2⟩; have HT1 := hid T1; have T3 := T2; simp at T3; clear T1 T2)
    try subst T3
    go_ret
    exact ⟨by first | rfl | (refine congrArg (fun b => Ending.returned (Value.bool b)) ?_; simp; omega), HT1.out⟩

set_option maxRecDepth 100000 in
set_option maxHeartbeats 8000000 in
theorem check10_any (columns : Int) (A : Option Addr) (n c : Nat) (zs : List Sbj) (w : World) (hi : SbjsIn w A n zs) :
    Calls Try.prog 20 #[.int .i64 columns, .slice A n c] w fun e w' => e = .returned (.int .i64 (tableN columns zs)) ∧ Gr w w' := by
  have HL := hid hi.len
  have hbig := hi.big
  have hbig' : (n : Int) ≤ 9223372036854775807 := by omega
  have HSt := hid (fun bs bc mb W (h : ChkIn w W bs bc mb columns (fun _ => none)) =>
    containsFunc_st 47 #[.pointer (some ⟨bs, 0, none⟩), .pointer (some ⟨bc, 0, none⟩)] (enters_of Try.func47 (by kernel_rfl) rfl)
      (fun k W' => ChkIn w W' bs bc mb columns (fun q => if (zs.take k).any (fun x => x.id == q) = true then some (.bool true) else none)) (sbjBad columns zs) A n c zs W hi.len
      (by simpa using h) (fun k W' h' => hi.rd.gr h'.gr) (fun k hk W' h' => by
        have hk' : k < zs.length := by have := hi.len; omega
        have hm := mem_get hk'
        have hcall := check1_st zs[k]! columns bs bc mb (fun q => if (zs.take k).any (fun x => x.id == q) = true then some (.bool true) else none) (fun q => by by_cases e : (zs.take k).any (fun x => x.id == q) = true <;> simp [e]) w W' h' (hi.vals _ hm).1 (hi.vals _ hm).2 (hi.wf _ hm)
        refine hcall.mono ?_
        rintro e w' ⟨rfl, h2⟩
        refine ⟨?_, ?_⟩
        · congr 2
          unfold sbjBad
          congr 1
          cases (zs.take k).any (fun x => x.id == zs[k]!.id) <;> rfl
        · have hF : (fun p => if p = zs[k]!.id then some (Value.bool true) else (fun q => if (zs.take k).any (fun x => x.id == q) = true then some (Value.bool true) else none) p) = (fun q => if (zs.take (k + 1)).any (fun x => x.id == q) = true then some (Value.bool true) else none) := by
            funext q
            rw [List.take_succ_eq_append_getElem hk', List.any_append, ← getElem!_pos zs k hk']
            simp only [List.any_cons, List.any_nil, Bool.or_false]
            generalize zs[k]!.id = y
            by_cases e1 : q = y
            · subst e1; simp
            · have e2 : (y == q) = false := beq_eq_false_iff_ne.2 (fun e => e1 e.symm)
              rw [if_neg e1, e2, Bool.or_false]
          rw [← hF]
          exact h2) hi.big)
  have HP := hid (tableN_parts (columns := columns) hi.len)
  generalize tableN columns zs = R at HP ⊢
  have hR2 : (inB 1 5 columns = true → n ≤ 16 → R = if (List.range n).any (sbjBad columns zs) = true then 100 else 0) := fun h1 h2 => by
    by_cases e : (List.range n).any (sbjBad columns zs) = true
    · rw [if_pos e]
      obtain ⟨k, hk, hb⟩ := List.any_eq_true.1 e
      exact HP.out.2.2.1 k (List.mem_range.1 hk) hb
    · rw [if_neg e]
      refine HP.out.2.2.2 h1 h2 (fun k hk => ?_)
      cases hb : sbjBad columns zs k with
      | false => rfl
      | true => exact absurd (List.any_eq_true.2 ⟨k, List.mem_range.2 hk, hb⟩) e
  have HR2 := hid hR2
  generalize (List.range n).any (sbjBad columns zs) = ab at HSt HR2
  obtain ⟨cb, hcb⟩ : ∃ cb, inB 1 5 columns = cb := ⟨_, rfl⟩
  have HCb := hid hcb
  rw [hcb] at HR2 HP
  have HFin : Hid (R = if cb = false ∨ 16 < n then 100 else if ab = true then 100 else 0) := by
    show R = _
    by_cases h : cb = false ∨ 16 < n
    · rw [if_pos h]
      rcases h with h | h
      · exact HP.out.1 h
      · exact HP.out.2.1 h
    · rw [if_neg h]
      exact HR2.out (by cases cb <;> simp at h ⊢) (by omega)
  clear hi hR2 hcb HP HR2
  have HCh : Hid (ChkIn w (((w.alloc (.cells #[.int .i64 columns] 3)).alloc (.map #[] 0)).alloc (.cells #[.map (some (w.heap.size + 1))] 76)) (w.heap.size + 2) w.heap.size (w.heap.size + 1) columns (fun _ => none)) := by
    have h3 := rows3 w (.cells #[.int .i64 columns] 3) (.map #[] 0) (.cells #[.map (some (w.heap.size + 1))] 76)
    have e1 : (w.alloc (.cells #[.int .i64 columns] 3)).heap.size = w.heap.size + 1 := by simp
    have hm := (MapIs.new (P := Try.prog) (k := 3) (enc := Value.int .i64) (w.alloc (.cells #[.int .i64 columns] 3))).alloc (.cells #[.map (some (w.heap.size + 1))] 76)
    rw [e1] at hm
    exact ⟨(((Gr.refl w).alloc _).alloc _).alloc _, row_cell_at h3.2.2 0 rfl, row_cell_at h3.1 0 rfl, by omega, by omega, by omega, hm⟩
  have hmm := @run_makeMap Try.prog
  by_cases h16 : (16 : Int) < (n : Int)
  all_goals
    have hn16 : 16 < n ↔ (16 : Int) < (n : Int) := by omega
    cases ab
  all_goals
    cases cb
  all_goals
    go_enter Try.func20, Try.ntmps20
    go_upto_region 3 with fail
    generalize (((w.alloc (.cells #[.int .i64 columns] 3)).alloc (.map #[] 0)).alloc (.cells #[.map (some (w.heap.size + 1))] 76)) = wc at HCh ⊢
    have d1 := HCh.out.cc
    have hz : w.heap.size < wc.heap.size := block_lt_of_cell d1
    clear hmm
    go_wp2_with (first
      | (go_at_call 48; (with_reducible refine (in_one 1 5 columns _ HCb.out _ _ _ ?_ ?_).mono ?_); rotate_right; rintro e w3 ⟨rfl, hbw3⟩; obtain ⟨hcw3, hfw3, hzw3⟩ := hbw3.rules; (try simp at hzw3); have hzw3_0 : wc.heap.size < w3.heap.size := (by omega); have hyw3_0 : wc.heap.size ≤ w3.heap.size := (by omega))
      | (go_at_call 49; (with_reducible refine (HSt.out (w.heap.size + 2) w.heap.size (w.heap.size + 1) w3 ?_).mono ?_); rotate_right; rintro e w4 ⟨rfl, k9, T9⟩; have HT9 := hid T9; clear T9))
    all_goals first
      | (simp; done)
      | exact row_cell_at (heap_alloc_new _ _) 0 rfl
      | exact HCh.out.on (((Gr.refl _).alloc _).trans hbw3)
      | skip
    all_goals
      go_ret
      first
        | exact ⟨by rw [HFin.out]; simp [hn16, h16], HCh.out.gr.trans (((Gr.refl _).alloc _).trans hbw3)⟩
        | exact ⟨by rw [HFin.out]; simp [hn16, h16], HT9.out.gr⟩
end Go.Proofs.Ytimhkkijoelmhaa
namespace Go.Proofs.Ytimhkkijoelmhaa
open Go.RowKit

theorem table_cols {columns : Int} {zs : List Sbj} (h : tableB columns zs = true) : 1 ≤ columns ∧ columns ≤ 5 := by
  unfold tableB inB at h
  simp only [Bool.and_eq_true, decide_eq_true_eq] at h
  exact h.1.1
theorem table_mem {columns : Int} {zs : List Sbj} (h : tableB columns zs = true) : zs.length ≤ 16 ∧ ∀ s ∈ zs, (0 ≤ s.id ∧ s.id ≤ 999999) ∧ (s.vals.length : Int) = columns ∧ ∀ v ∈ s.vals, 0 ≤ v ∧ v ≤ 1000000 := by
  unfold tableB at h
  simp only [Bool.and_eq_true, decide_eq_true_eq, Bool.not_eq_true', List.any_eq_false, List.mem_range, Bool.not_eq_true] at h
  refine ⟨h.1.2, fun s hs => ?_⟩
  obtain ⟨j, hj, rfl⟩ := List.getElem_of_mem hs
  have hb := h.2 j hj
  unfold sbjBad sbjB inB at hb
  rw [getElem!_pos zs j hj] at hb
  simp only [Bool.or_eq_false_iff, Bool.not_eq_false', Bool.and_eq_true, decide_eq_true_eq, beq_iff_eq, List.all_eq_true] at hb
  exact ⟨hb.2.1.1, hb.2.1.2, fun v hv => by simpa using hb.2.2 v hv⟩
theorem qst_parts {columns : Int} {q : Qst} (h : qstB columns q = true) : (q.col = -1 ∧ q.clip = 1 ∨ (¬ q.col = -1 ∧ 0 ≤ q.col ∧ q.col < columns ∧ 1 ≤ q.clip ∧ q.clip ≤ 1000000)) ∧ (1 ≤ q.step ∧ q.step ≤ 1000000) ∧ ∀ x ∈ q.whs, 0 ≤ x.col ∧ x.col < columns := by
  unfold qstB whrB inB at h
  simp only [Bool.and_eq_true, decide_eq_true_eq, List.all_eq_true] at h
  refine ⟨?_, h.1.1.2, fun x hx => by have := (h.2 x hx).1; omega⟩
  have h1 := h.1.1.1
  split at h1
  · rename_i hc
    exact .inl ⟨hc, by simpa using h1⟩
  · rename_i hc
    simp only [Bool.and_eq_true, decide_eq_true_eq] at h1
    exact .inr ⟨hc, by omega⟩
theorem cnt_in {columns : Int} {zs : List Sbj} {q : Qst} (ht : tableB columns zs = true) (hq : qstB columns q = true) {s : Sbj} (hs : s ∈ zs) : 0 ≤ cntN s q ∧ cntN s q ≤ 1000000 := by
  obtain ⟨h1, _, _⟩ := qst_parts hq
  obtain ⟨_, hl, hv⟩ := (table_mem ht).2 s hs
  unfold cntN
  rcases h1 with ⟨e, _⟩ | ⟨e, c1, c2, c3, c4⟩
  · rw [if_pos e]; omega
  · rw [if_neg e]
    have hk : q.col.toNat < s.vals.length := by omega
    have := hv _ (mem_get hk)
    omega
theorem raw_in {columns : Int} {zs : List Sbj} {q : Qst} (ht : tableB columns zs = true) (hq : qstB columns q = true) : ∀ k, k ≤ zs.length → 0 ≤ rawN (zs.take k) q ∧ rawN (zs.take k) q ≤ 1000000 * k := by
  intro k
  induction k with
  | zero => intro _; simp [rawN]
  | succ k ih =>
    intro hk
    have h0 := ih (by omega)
    have hk' : k < zs.length := by omega
    rw [List.take_succ_eq_append_getElem hk', rawN_snoc]
    have hc := cnt_in ht hq (s := zs[k]) (List.getElem_mem hk')
    split <;> omega

set_option maxRecDepth 100000 in
set_option maxHeartbeats 4000000 in
theorem checked10_any (columns : Int) (A : Option Addr) (n c : Nat) (zs : List Sbj) (q : Qst) (w : World) (hi : SbjsIn w A n zs) (hq : QstIn w q) :
    Calls Try.prog 42 #[.int .i64 columns, .slice A n c, q.val] w fun e w' => e = .returned (.int .i64 (askN10 columns zs q)) ∧ Gr w w' := by
  have HC := hid (fun W (k : Gr w W) => check10_any columns A n c zs W (hi.gr k))
  have HR := hid (fun W (k : Gr w W) (h : tableB columns zs = true) => right10_any columns q W (hq.gr k) (table_cols h))
  obtain ⟨R, hR⟩ : ∃ R, askN10 columns zs q = R := ⟨_, rfl⟩
  rw [hR]
  unfold askN10 at hR
  unfold tableN at HC
  generalize tableB columns zs = tb at *
  generalize qstB columns q = qb at *
  have HF := hid hR.symm
  clear hi hq hR
  obtain ⟨qa, qn, qc, whs, col, clip, step⟩ := q
  unfold Qst.val at *
  dsimp only at *
  cases tb
  case' true =>
    have HR2 := hid (fun W k => HR.out W k rfl)
    cases qb
  all_goals
    simp only [Bool.false_eq_true, if_false, if_true] at HC HF
    go_enter Try.func42, Try.ntmps42
    go_wp2_with (first
      | (go_at_call 20; (with_reducible refine (HC.out _ ?_).mono ?_); rotate_right; rintro e w1 ⟨rfl, hbw1⟩; obtain ⟨hcw1, hfw1, hzw1⟩ := hbw1.rules; (try simp at hzw1); have hzw1_0 : w.heap.size < w1.heap.size := (by omega); have hyw1_0 : w.heap.size ≤ w1.heap.size := (by omega))
      | (go_at_call 68; (with_reducible refine (HR2.out _ ?_).mono ?_); rotate_right; rintro e w2 ⟨rfl, hbw2⟩; obtain ⟨hcw2, hfw2, hzw2⟩ := hbw2.rules; (try simp at hzw2)))
    all_goals first
      | ((repeat (first | with_reducible exact Gr.refl _ | with_reducible refine Gr.trans ?_ hbw1 | with_reducible refine Gr.alloc ?_ _ | with_reducible refine Gr.setCell ?_ (by simp) _ | with_reducible refine Gr.setCell ?_ (by simp; omega) _ | with_reducible refine Gr.drew ?_ | with_reducible refine Gr.drewN ?_ _)); done)
      | (go_ret
         exact ⟨by rw [HF.out]; rfl, by (repeat (first | with_reducible exact Gr.refl _ | with_reducible refine Gr.trans ?_ hbw2 | with_reducible refine Gr.trans ?_ hbw1 | with_reducible refine Gr.alloc ?_ _ | with_reducible refine Gr.setCell ?_ (by simp) _ | with_reducible refine Gr.setCell ?_ (by simp; omega) _ | with_reducible refine Gr.drew ?_ | with_reducible refine Gr.drewN ?_ _))⟩)
end Go.Proofs.Ytimhkkijoelmhaa
namespace Go.Proofs.Ytimhkkijoelmhaa
open Go.RowKit

def sumP (columns : Int) (zs : List Sbj) (q : Qst) : Int := if askN10 columns zs q = 0 then printN (rawN zs q) q.step else 0
def sumBd (columns : Int) (zs : List Sbj) (q : Qst) : Int := if askN10 columns zs q = 0 then boundN q.clip q.step else 0
theorem ask_zero {columns : Int} {zs : List Sbj} {q : Qst} (h : askN10 columns zs q = 0) : tableB columns zs = true ∧ qstB columns q = true := by
  unfold askN10 at h
  split at h
  · split at h
    · exact ⟨by assumption, by assumption⟩
    · omega
  · omega

set_option maxRecDepth 100000 in
set_option maxHeartbeats 16000000 in
theorem sum10_any (columns : Int) (A : Option Addr) (n c : Nat) (zs : List Sbj) (q : Qst) (w : World) (hi : SbjsIn w A n zs) (hq : QstIn w q) :
    Calls Try.prog 18 #[.int .i64 columns, .slice A n c, q.val] w fun e w' => e = .returned (.tuple #[.int .i64 (sumP columns zs q), .int .i64 (sumBd columns zs q), .int .i64 (askN10 columns zs q)]) ∧ Gr w w' := by
  have HC := hid (fun W (k : Gr w W) => checked10_any columns A n c zs q W (hi.gr k) (hq.gr k))
  obtain ⟨E, hE⟩ : ∃ E, askN10 columns zs q = E := ⟨_, rfl⟩
  unfold sumP sumBd
  rw [hE] at HC ⊢
  have HI := hid hi
  have HL := hid hi.len
  have hbig := hi.big
  have hbig' : (n : Int) ≤ 9223372036854775807 := by omega
  by_cases h0 : E = 0
  case neg =>
    rw [if_neg h0, if_neg h0]
    have h0' : ¬ E = 0 := h0
    clear hi hq hE HI HL
    obtain ⟨qa, qn, qc, whs, col, clip, step⟩ := q
    unfold Qst.val at *
    dsimp only at *
    go_enter Try.func18, Try.ntmps18
    go_wp2_with (first
      | (go_at_call 42; (with_reducible refine (HC.out _ ?_).mono ?_); rotate_right; rintro e w1 ⟨rfl, hbw1⟩; obtain ⟨hcw1, hfw1, hzw1⟩ := hbw1.rules; (try simp at hzw1); have hzw1_0 : w.heap.size < w1.heap.size := (by omega); have hyw1_0 : w.heap.size ≤ w1.heap.size := (by omega)))
    all_goals first
      | ((repeat (first | with_reducible exact Gr.refl _ | with_reducible refine Gr.alloc ?_ _ | with_reducible refine Gr.setCell ?_ (by simp) _ | with_reducible refine Gr.setCell ?_ (by simp; omega) _ | with_reducible refine Gr.drew ?_ | with_reducible refine Gr.drewN ?_ _)); done)
      | (go_ret3
         exact ⟨rfl, by (repeat (first | with_reducible exact Gr.refl _ | with_reducible refine Gr.trans ?_ hbw1 | with_reducible refine Gr.alloc ?_ _ | with_reducible refine Gr.setCell ?_ (by simp) _ | with_reducible refine Gr.setCell ?_ (by simp; omega) _ | with_reducible refine Gr.drew ?_ | with_reducible refine Gr.drewN ?_ _))⟩)
  case pos =>
    subst h0
    obtain ⟨ht, hqb⟩ := ask_zero hE
    rw [if_pos rfl, if_pos rfl]
    obtain ⟨hcol, hstep, hwh⟩ := qst_parts hqb
    obtain ⟨hl16, hmem⟩ := table_mem ht
    have HRaw := hid (raw_in ht hqb)
    have HMem := hid hmem
    have HAs := hid (fun s (hs : s ∈ zs) W (k : Gr w W) => asked_any s q W ((hi.vals s hs).1.gr k) (hq.gr k) (fun x hx => by have h1 := hwh x hx; have h2 := (hmem s hs).2.1; have h3 := (hi.vals s hs).1.len; simp at h3; omega) (hi.vals s hs).2)
    have HVals := hid hi.vals
    have HSnoc := hid (fun k (hk : k < zs.length) => (by rw [List.take_succ_eq_append_getElem hk, rawN_snoc, ← getElem!_pos zs k hk] : rawN (zs.take (k + 1)) q = if askedB zs[k]! q = true then rawN (zs.take k) q + cntN zs[k]! q else rawN (zs.take k) q))
    have HCnt : Hid (∀ s, cntN s q = if q.col = -1 then 1 else min s.vals[q.col.toNat]! q.clip) := fun s => rfl
    have hN := raw_in ht hqb zs.length (Nat.le_refl _)
    rw [List.take_length] at hN
    have hn16 : n ≤ 16 := by have := HL.out; omega
    clear hi hE hwh hmem hqb ht
    generalize hP : printN (rawN zs q) q.step = PV
    generalize hBv : boundN q.clip q.step = BV
    have HPm := hid (fun (h1 : 0 ≤ rawN zs q) => print_mod h1 (show 0 < q.step by omega))
    have HBm := hid (bound_mul (clip := q.clip) (show 0 < q.step by omega))
    rw [hP] at HPm
    rw [hBv] at HBm
    clear hP hBv
    obtain ⟨qa, qn, qc, whs, col, clip, step⟩ := q
    unfold Qst.val at *
    dsimp only at *
    have hr0 := heap_alloc_new w (.cells #[.slice qa qn qc, .int .i64 col, .int .i64 clip, .int .i64 step] 25)
    go_enter Try.func18, Try.ntmps18
    go_wp2_with (first
      | (go_at_call 42; (with_reducible refine (HC.out _ ?_).mono ?_); rotate_right; rintro e w1 ⟨rfl, hbw1⟩; obtain ⟨hcw1, hfw1, hzw1⟩ := hbw1.rules; (try simp at hzw1); have hzw1_0 : w.heap.size < w1.heap.size := (by omega); have hyw1_0 : w.heap.size ≤ w1.heap.size := (by omega)))
    all_goals try ((repeat (first | with_reducible exact Gr.refl _ | with_reducible refine Gr.alloc ?_ _ | with_reducible refine Gr.setCell ?_ (by simp) _ | with_reducible refine Gr.setCell ?_ (by simp; omega) _ | with_reducible refine Gr.drew ?_ | with_reducible refine Gr.drewN ?_ _)); done)
    have G1 : Hid (Gr w w1) := by
      show Gr w w1
      (repeat (first | with_reducible exact Gr.refl _ | with_reducible refine Gr.trans ?_ hbw1 | with_reducible refine Gr.alloc ?_ _ | with_reducible refine Gr.setCell ?_ (by simp) _ | with_reducible refine Gr.setCell ?_ (by simp; omega) _ | with_reducible refine Gr.drew ?_ | with_reducible refine Gr.drewN ?_ _))
    have HRQ : Hid (w1.heap[w.heap.size]? = some (.cells #[.slice qa qn qc, .int .i64 col, .int .i64 clip, .int .i64 step] 25 (0, 0))) := row_gr hr0 hbw1
    clear hr0 hbw1 hcw1 hfw1 hzw1 hzw1_0 hyw1_0 HC
    go_loopg [6, 22] n (fun gg s6 s22 wr => ∃ k : Nat, k ≤ n ∧ n - k ≤ gg ∧ s6 = .int .i64 (rawN (zs.take k) ⟨qa, qn, qc, whs, col, clip, step⟩) ∧ s22 = .int .i64 k ∧ Gr w1 wr)
    case atStart => exact ⟨0, Nat.zero_le _, by omega, rfl, rfl, Gr.refl w1⟩
    case round =>
      obtain ⟨k, hk, hgk, rfl, rfl, BW⟩ := hrel
      have rq := row_gr HRQ.out BW
      have u0 := row_cell_at (v := .slice qa qn qc) rq 0 rfl
      have u1 := row_cell_at (v := .int .i64 col) rq 1 rfl
      have u2 := row_cell_at (v := .int .i64 clip) rq 2 rfl
      have u3 := row_cell_at (v := .int .i64 step) rq 3 rfl
      have hzr : w.heap.size < wr.heap.size := block_lt_of_cell u0
      clear rq
      by_cases hkl : k < n
      · obtain ⟨hk', b, off, hAe, hbl, c0, c1⟩ := (HI.out.gr (G1.out.trans BW)).rd.sbj hkl
        have hm := mem_get hk'
        have HSn := hid (HSnoc.out k hk')
        have hrk := HRaw.out k (by omega)
        have HA := hid (fun W kk => HAs.out _ hm W kk)
        have HV := hid ((HVals.out _ hm).1)
        have hvl := (HMem.out _ hm).2.1
        have HMv := hid (And.intro trivial (HMem.out _ hm).2.2)
        have HCn := hid (HCnt.out zs[k]!)
        generalize zs[k]! = s at c0 c1 HSn HA HV hvl HCn HMv
        generalize rawN (zs.take k) ⟨qa, qn, qc, whs, col, clip, step⟩ = N at *
        obtain ⟨id, a, vn, vc, vals⟩ := s
        unfold Sbj.val at HA
        dsimp only at *
        subst hAe
        have hvn : vals.length = vn := by have := HV.out.len; simpa using this
        obtain ⟨r, hr⟩ : ∃ r, askedB ⟨id, a, vn, vc, vals⟩ ⟨qa, qn, qc, whs, col, clip, step⟩ = r := ⟨_, rfl⟩
        rw [hr] at HA HSn
        have hkn : (k : Int) < (n : Int) := by omega
        have hk0 : (0 : Int) ≤ (k : Int) := by omega
        clear hr hm hk'
        cases r with
        | false =>
          simp only [Bool.false_eq_true, if_false] at HSn
          go_wp2_with (first
            | (go_at_call 44; (with_reducible refine (HA.out _ ?_).mono ?_); rotate_right; rintro e w2 ⟨rfl, hbw2⟩; obtain ⟨hcw2, hfw2, hzw2⟩ := hbw2.rules; (try simp at hzw2); have hzw2_0 : wr.heap.size < w2.heap.size := (by omega); have hyw2_0 : wr.heap.size ≤ w2.heap.size := (by omega)))
          all_goals try (exact (G1.out.trans BW).trans ((Gr.refl _).alloc _); done)
          go_roundg (n - (k + 1))
          case measure => omega
          case rel => exact ⟨k + 1, by omega, by omega, by rw [HSn.out], by go_num, BW.trans (((Gr.refl wr).alloc _).trans hbw2)⟩
        | true =>
          simp only [if_true] at HSn
          rcases hcol with ⟨hc1, hcl1⟩ | ⟨hc1, hc2, hc3, hc4, hc5⟩
          · have HSn2 : Hid (rawN (zs.take (k + 1)) ⟨qa, qn, qc, whs, col, clip, step⟩ = N + 1) := by
              show _ = _
              rw [HSn.out, HCn.out, if_pos hc1]
            clear hcl1
            subst hc1
            have hw1 : IntKind.i64.wrap (N + 1) = N + 1 := by rw [IntKind.wrap_i64]; omega
            clear HSn HCn
            go_wp2_with (first
              | (go_at_call 44; (with_reducible refine (HA.out _ ?_).mono ?_); rotate_right; rintro e w2 ⟨rfl, hbw2⟩; obtain ⟨hcw2, hfw2, hzw2⟩ := hbw2.rules; (try simp at hzw2); have hzw2_0 : wr.heap.size < w2.heap.size := (by omega); have hyw2_0 : wr.heap.size ≤ w2.heap.size := (by omega)))
            all_goals try (exact (G1.out.trans BW).trans ((Gr.refl _).alloc _); done)
            go_roundg (n - (k + 1))
            case measure => omega
            case rel => exact ⟨k + 1, by omega, by omega, by rw [HSn2.out], by go_num, BW.trans (((Gr.refl wr).alloc _).trans hbw2)⟩
          · obtain ⟨m, hm⟩ : ∃ m : Nat, col = m := ⟨col.toNat, by omega⟩
            subst hm
            have HSn2 : Hid (rawN (zs.take (k + 1)) ⟨qa, qn, qc, whs, m, clip, step⟩ = N + min vals[m]! clip) := by
              show _ = _
              rw [HSn.out, HCn.out, if_neg hc1, Int.toNat_natCast]
            have hmn : m < vn := by omega
            clear HSn HCn
            have HSt := hid (And.intro hc4 hc5)
            go_wp2_with (first
              | (go_at_call 44; (with_reducible refine (HA.out _ ?_).mono ?_); rotate_right; rintro e w2 ⟨rfl, hbw2⟩; obtain ⟨hcw2, hfw2, hzw2⟩ := hbw2.rules; (try simp at hzw2); have hzw2_0 : wr.heap.size < w2.heap.size := (by omega); have hyw2_0 : wr.heap.size ≤ w2.heap.size := (by omega)))
            all_goals try (exact (G1.out.trans BW).trans ((Gr.refl _).alloc _); done)
            have gg := ((Gr.refl wr).alloc (.cells #[.int .i64 id, .slice a vn vc] 60)).trans hbw2
            have rx := row_gr (heap_alloc_new wr (.cells #[.int .i64 id, .slice a vn vc] 60)) hbw2
            obtain ⟨hm', b2, off2, hA2, hbl2, d0⟩ := (HV.out.gr ((G1.out.trans BW).trans gg)).int_at hmn
            have hvb := HMv.out.2 _ (mem_get hm')
            generalize vals[m]! = y at d0 HSn2 hvb
            have x1 := row_cell_at (v := .slice a vn vc) rx 1 rfl
            have u1 := row_cell u1 gg
            have u2 := row_cell u2 gg
            have HGG := hid gg
            have p0 := GrW.cell x1
            have p1 := GrW.cell u1
            have p2 := GrW.cell u2
            have p3 := GrW.cell d0
            subst hA2
            have hmn' : (m : Int) < (vn : Int) := by omega
            have hm0 : (0 : Int) ≤ (m : Int) := by omega
            clear rx x1 u1 u2 d0 u0 u3 hbw2 hcw2 hfw2 hzw2 hzw2_0 hyw2_0 gg hm' c0 c1
            go_upto_region 7 with fail
            by_cases hyc : clip < y
            all_goals
              have hw1 : IntKind.i64.wrap (N + y) = N + y := by rw [IntKind.wrap_i64]; omega
              have hw2 : IntKind.i64.wrap (N + clip) = N + clip := by rw [IntKind.wrap_i64]; omega
              refine wp_region_mixN (C := fun w' => ∃ p : GrW w2, w' = p.W) [9] (by rfl) (by kernel_rfl) ⟨⟨_, (Gr.refl w2).drew⟩, rfl⟩ ?_
              (repeat (first | ((with_reducible refine mixL_read0 ?_ ?_ (fun K hK => ?_)); rfl; rfl; go_big_quiet_op; (with_reducible refine hK _ ?_); clear hK K) | ((with_reducible refine' mixL_skipG ?_ ?_ ?_ ?_ ?_); rotate_left 4; rfl; rfl; rfl; rfl; simp only [Act.put, List.setIfInBounds_toArray, List.set_cons_zero, List.set_cons_succ]) | ((with_reducible refine' mixL_skipU ?_ ?_ ?_ ?_); rotate_left 3; rfl; rfl; rfl; simp only [Act.put, List.setIfInBounds_toArray, List.set_cons_zero, List.set_cons_succ]) | ((with_reducible refine' mixL_readG ?_ ?_ ?_ ?_ ?_ (fun K hK => ?_)); rotate_left 4; rfl; rfl; rfl; rfl; rfl; go_big_quiet_op; (with_reducible refine hK _ ?_); clear hK K)))
              (first | ((with_reducible refine mixL_mut0 ?_ ?_ (fun K hK => ?_)); rfl; rfl) | ((with_reducible refine' mixL_mutG ?_ ?_ ?_ ?_ ?_ (fun K hK => ?_)); rotate_left 4; rfl; rfl; rfl; rfl; rfl))
              go_simp
              refine hK.out _ _ ⟨⟨_, (Gr.refl w2).drew⟩, rfl⟩ ?_
              clear hK K
              (repeat (first | ((with_reducible refine mixL_read0 ?_ ?_ (fun K hK => ?_)); rfl; rfl; go_big_quiet_op; (with_reducible refine hK _ ?_); clear hK K) | ((with_reducible refine' mixL_skipG ?_ ?_ ?_ ?_ ?_); rotate_left 4; rfl; rfl; rfl; rfl; simp only [Act.put, List.setIfInBounds_toArray, List.set_cons_zero, List.set_cons_succ]) | ((with_reducible refine' mixL_skipU ?_ ?_ ?_ ?_); rotate_left 3; rfl; rfl; rfl; simp only [Act.put, List.setIfInBounds_toArray, List.set_cons_zero, List.set_cons_succ]) | ((with_reducible refine' mixL_readG ?_ ?_ ?_ ?_ ?_ (fun K hK => ?_)); rotate_left 4; rfl; rfl; rfl; rfl; rfl; go_big_quiet_op; (with_reducible refine hK _ ?_); clear hK K)))
              (with_reducible refine mixN_nil ?_)
              go_wp2
              go_roundg (n - (k + 1))
              case measure => omega
              case rel => exact ⟨k + 1, by omega, by omega, by rw [HSn2.out]; refine congrArg (Value.int .i64) ?_; omega, by go_num, (BW.trans HGG.out).trans (Gr.refl w2).drew⟩
      · have hkn : ¬ (k : Int) < (n : Int) := by omega
        have htk : zs.take k = zs := by rw [show k = zs.length by have := HL.out; omega, List.take_length]
        rw [htk]
        generalize rawN zs ⟨qa, qn, qc, whs, col, clip, step⟩ = N at *
        have rq := row_gr HRQ.out BW
        have u2 := row_cell_at (v := .int .i64 clip) rq 2 rfl
        have u3 := row_cell_at (v := .int .i64 step) rq 3 rfl
        have hzr : w.heap.size < wr.heap.size := block_lt_of_cell u2
        have hPm := HPm.out hN.1
        have hBm := HBm.out
        obtain ⟨hs1, hs2⟩ := hstep
        have hcl : 0 ≤ clip ∧ clip ≤ 1000000 := by rcases hcol with ⟨_, e⟩ | ⟨_, _, _, e1, e2⟩ <;> omega
        have ht1 : Int.tmod N step = N % step := Int.tmod_eq_emod_of_nonneg hN.1
        have ht2 : Int.tdiv clip step = clip / step := Int.tdiv_eq_ediv_of_nonneg hcl.1
        have hm1 := Int.emod_nonneg N (show step ≠ 0 by omega)
        have hm2 := Int.emod_lt_of_pos N (show 0 < step by omega)
        have hc1 := Int.emod_nonneg clip (show step ≠ 0 by omega)
        have hc2 := Int.emod_lt_of_pos clip (show 0 < step by omega)
        have hc3 := Int.emod_add_mul_ediv clip step
        rw [Int.mul_comm] at hc3
        have hdd : 0 ≤ clip / step := Int.ediv_nonneg hcl.1 (by omega)
        have hdl : clip / step ≤ clip := Int.ediv_le_self _ hcl.1
        have hmo : N % step ≤ N := by
          have h9 := Int.emod_add_mul_ediv N step
          have h10 : 0 ≤ step * (N / step) := Int.mul_nonneg (by omega) (Int.ediv_nonneg hN.1 (by omega))
          omega
        generalize N % step = o at *
        generalize clip % step = r at *
        generalize clip / step = dv at *
        have HTD := hid ht2
        generalize hD : dv * step = D at *
        have HDD := hid hD
        have HPm2 := hid hPm
        have HBm2 := hid hBm
        have hs0 : ¬ step = 0 := by omega
        have w1' : IntKind.i64.wrap o = o := by rw [IntKind.wrap_i64]; omega
        have w2' : IntKind.i64.wrap (N - o) = N - o := by rw [IntKind.wrap_i64]; omega
        have w3' : IntKind.i64.wrap (2 * o) = 2 * o := by rw [IntKind.wrap_i64]; omega
        have w4' : IntKind.i64.wrap (N - o + step) = N - o + step := by rw [IntKind.wrap_i64]; omega
        have w5' : IntKind.i64.wrap dv = dv := by rw [IntKind.wrap_i64]; omega
        have w6' : IntKind.i64.wrap D = D := by rw [IntKind.wrap_i64]; omega
        have w7' : IntKind.i64.wrap (D + step) = D + step := by rw [IntKind.wrap_i64]; omega
        clear htk hPm hBm HPm HBm HRaw HMem HAs HVals HSnoc HCnt
        obtain ⟨wo, rfl⟩ : ∃ wo : World, wo = wr := ⟨_, rfl⟩
        have hways : (step ≤ 2 * o ∧ N - o + step = PV) ∨ (¬ step ≤ 2 * o ∧ N - o = PV) := by
          have h := HPm2.out
          by_cases e : step ≤ 2 * o
          · exact .inl ⟨e, by rw [if_pos e] at h; exact h⟩
          · exact .inr ⟨e, by rw [if_neg e] at h; exact h⟩
        have HC3 := hid hc3
        clear hc3 HPm2 ht2 hD
        rcases hways with ⟨hov, hpv⟩ | ⟨hov, hpv⟩
        all_goals
          have HPV := hid hpv
          clear hpv
          have ht2 : Int.tdiv clip step = dv := HTD.out
          have hD : dv * step = D := HDD.out
          go_upto_region 16 with fail
          go_quiet (fail)
          go_wp2_with fail
          clear hD ht2
          go_loopg [7] 1 (fun gg s7 wr => ∃ bv : Int, s7 = .int .i64 bv ∧ Gr wo wr ∧ ((bv = D ∧ 1 ≤ gg) ∨ (bv = D + step ∧ ¬ r = 0)))
          case atStart => exact ⟨D, rfl, by first | exact (Gr.refl wo).drewN _ | exact (Gr.refl wo).drew, .inl ⟨rfl, Nat.le_refl _⟩⟩
          case round =>
            obtain ⟨bv, rfl, BW2, hb⟩ := hrel
            have hc3 : r + D = clip := HC3.out
            have u2 := row_cell u2 BW2
            have u3 := row_cell u3 BW2
            by_cases hlt : bv < clip
            · have hbd : bv = D := by rcases hb with ⟨h, _⟩ | ⟨h, _⟩ <;> omega
              have hg1 : 1 ≤ gk := by rcases hb with ⟨_, h⟩ | ⟨h, _⟩ <;> omega
              subst hbd
              have hr0 : ¬ r = 0 := by omega
              clear hb hc3
              go_wp2
              go_roundg 0
              case measure => omega
              case rel => exact ⟨_, rfl, BW2, .inr ⟨rfl, hr0⟩⟩
            · have HBV : Hid (bv = BV) := by
                have h := HBm2.out
                show bv = BV
                rw [h]
                rcases hb with ⟨h1, _⟩ | ⟨h1, h2⟩
                · rw [if_pos (by omega)]; exact h1
                · rw [if_neg h2]; exact h1
              clear hb hc3
              go_wp2
              go_ret3
              exact ⟨by rw [← HBV.out, ← HPV.out]; rfl, (G1.out.trans BW).trans BW2⟩
end Go.Proofs.Ytimhkkijoelmhaa
