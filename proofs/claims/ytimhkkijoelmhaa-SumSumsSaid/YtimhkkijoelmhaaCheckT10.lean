/- slices.ContainsFunc at subjects with a predicate that keeps a state; Check of the package sum. For every list of subjects. -/
import Derived.Test.YtimhkkijoelmhaaCheck10
import Derived.Deep.LoopGhost
import Derived.Deep.DeepCutAuto
import Derived.Deep.CutRange
namespace Go.Proofs.Ytimhkkijoelmhaa
open Go.RowKit Go.Maps

set_option maxHeartbeats 1000000 in
theorem indexFunc_st (g : Nat) (lb : Array Value) (eg : ∀ args w, (callFunc g args).run Try.prog w = .ok (.enter g args) w) (I : Nat → World → Prop) (p : Nat → Bool) (A : Option Addr) (n c : Nat) (zs : List Sbj) (w : World)
    (hl : zs.length = n) (h0 : I 0 w) (hR : ∀ k W, I k W → Rd W 2 A n (zs.flatMap Sbj.cells)) (hp : ∀ k, k < n → ∀ W, I k W → Calls Try.prog g (#[zs[k]!.val] ++ lb) W fun e w' => e = .returned (.bool (p k)) ∧ I (k + 1) w') (hbig : n ≤ 9223372036854775807) :
    Calls Try.prog 76 #[.slice A n c, .func (.func g) #[] lb] w fun e w' => ∃ r : Int, e = .returned (.int .i64 r) ∧ (∃ k, I k w') ∧ ((0 ≤ r ∧ (List.range n).any p = true) ∨ (r = -1 ∧ (List.range n).any p = false)) := by
  have HL := hid hl
  have H0 := hid h0
  have HR := hid hR
  have HP := hid hp
  clear hl h0 hR hp
  go_enter Try.func76, Try.ntmps76
  go_wp2
  go_loopg [5, 8] n (fun gg _ s8 wr => ∃ kk : Nat, kk ≤ n ∧ n - kk ≤ gg ∧ s8 = .int .i64 kk ∧ Hid (I kk wr) ∧ Hid (∀ j, j < kk → p j = false))
  case atStart => exact ⟨0, Nat.zero_le _, by omega, rfl, H0.out, fun j hj => absurd hj (Nat.not_lt_zero _)⟩
  case round =>
    obtain ⟨kk, hkk, hg, rfl, HI, HA⟩ := hrel
    by_cases hlt : kk < n
    · obtain ⟨_, b, off, hAe, hb, c0, c1⟩ := (HR.out kk wr HI.out).sbj hlt
      have hcall := HP.out kk hlt wr HI.out
      unfold Sbj.val at hcall
      generalize zs[kk]! = y at c0 c1 hcall
      subst hAe
      obtain ⟨q, hq⟩ : ∃ q, p kk = q := ⟨_, rfl⟩
      rw [hq] at hcall
      have HQ := hid hq
      have HC := hid hcall
      clear hcall hq
      cases q with
      | true =>
        go_wp2_with (go_at_fn g; refine (HC.out).mono ?_; rintro e w' ⟨rfl, hb'⟩)
        go_ret
        refine ⟨kk, rfl, ⟨_, hb'⟩, .inl ⟨by omega, ?_⟩⟩
        rw [List.any_eq_true]
        exact ⟨kk, List.mem_range.2 hlt, HQ.out⟩
      | false =>
        go_wp2_with (go_at_fn g; refine (HC.out).mono ?_; rintro e w' ⟨rfl, hb'⟩)
        go_roundg (n - (kk + 1))
        case measure => omega
        case rel =>
          refine ⟨kk + 1, by omega, by omega, by go_num, hb', hid fun j hj => ?_⟩
          rcases Nat.lt_succ_iff_lt_or_eq.1 hj with h1 | rfl
          · exact HA.out j h1
          · exact HQ.out
    · have hltz : ¬ (kk : Int) < (n : Int) := by omega
      go_wp2
      go_ret
      refine ⟨-1, rfl, ⟨_, HI.out⟩, .inr ⟨rfl, ?_⟩⟩
      first
        | exact fun x hx => HA.out x (by omega)
        | (rw [List.any_eq_false]
           intro j hj
           have := HA.out j (by have := List.mem_range.1 hj; omega)
           rw [this]
           simp)
theorem containsFunc_st (g : Nat) (lb : Array Value) (eg : ∀ args w, (callFunc g args).run Try.prog w = .ok (.enter g args) w) (I : Nat → World → Prop) (p : Nat → Bool) (A : Option Addr) (n c : Nat) (zs : List Sbj) (w : World)
    (hl : zs.length = n) (h0 : I 0 w) (hR : ∀ k W, I k W → Rd W 2 A n (zs.flatMap Sbj.cells)) (hp : ∀ k, k < n → ∀ W, I k W → Calls Try.prog g (#[zs[k]!.val] ++ lb) W fun e w' => e = .returned (.bool (p k)) ∧ I (k + 1) w') (hbig : n ≤ 9223372036854775807) :
    Calls Try.prog 49 #[.slice A n c, .func (.func g) #[] lb] w fun e w' => e = .returned (.bool ((List.range n).any p)) ∧ ∃ k, I k w' := by
  have H := hid (indexFunc_st g lb eg I p A n c zs w hl h0 hR hp hbig)
  obtain ⟨R, hRR⟩ : ∃ R, (List.range n).any p = R := ⟨_, rfl⟩
  rw [hRR] at H ⊢
  clear h0 hR hp hl eg hRR
  go_enter Try.func49, Try.ntmps49
  cases R
  all_goals
    go_wp2_with (go_at_call 76; refine H.out.mono ?_; rintro e w' ⟨r, rfl, T1, T2⟩; have HT1 := hid T1; have T3 := T2; simp at T3; clear T1 T2)
    try subst T3
    go_ret
    exact ⟨by first | rfl | (refine congrArg (fun b => Ending.returned (Value.bool b)) ?_; simp; omega), HT1.out⟩

set_option maxRecDepth 100000 in
set_option maxHeartbeats 8000000 in
theorem check10_any (columns : Int) (A : Option Addr) (n c : Nat) (zs : List Sbj) (w : World) (hi : SbjsIn w A n zs) :
    Calls Try.prog 20 #[.int .i64 columns, .slice A n c] w fun e w' => e = .returned (.int .i64 (tableN columns zs)) ∧ Gr w w' := by
  have HL := hid hi.len
  have hbig := hi.big
  have hbig' : (n : Int) ≤ 9223372036854775807 := by omega
  have HSt := hid (fun bs bc mb W (h : ChkIn w W bs bc mb columns (fun _ => none)) =>
    containsFunc_st 47 #[.pointer (some ⟨bs, 0, none⟩), .pointer (some ⟨bc, 0, none⟩)] (enters_of Try.func47 (by kernel_rfl) rfl)
      (fun k W' => ChkIn w W' bs bc mb columns (fun q => if (zs.take k).any (fun x => x.id == q) = true then some (.bool true) else none)) (sbjBad columns zs) A n c zs W hi.len
      (by simpa using h) (fun k W' h' => hi.rd.gr h'.gr) (fun k hk W' h' => by
        have hk' : k < zs.length := by have := hi.len; omega
        have hm := mem_get hk'
        have hcall := check1_st zs[k]! columns bs bc mb (fun q => if (zs.take k).any (fun x => x.id == q) = true then some (.bool true) else none) (fun q => by by_cases e : (zs.take k).any (fun x => x.id == q) = true <;> simp [e]) w W' h' (hi.vals _ hm).1 (hi.vals _ hm).2 (hi.wf _ hm)
        refine hcall.mono ?_
        rintro e w' ⟨rfl, h2⟩
        refine ⟨?_, ?_⟩
        · congr 2
          unfold sbjBad
          congr 1
          cases (zs.take k).any (fun x => x.id == zs[k]!.id) <;> rfl
        · have hF : (fun p => if p = zs[k]!.id then some (Value.bool true) else (fun q => if (zs.take k).any (fun x => x.id == q) = true then some (Value.bool true) else none) p) = (fun q => if (zs.take (k + 1)).any (fun x => x.id == q) = true then some (Value.bool true) else none) := by
            funext q
            rw [List.take_succ_eq_append_getElem hk', List.any_append, ← getElem!_pos zs k hk']
            simp only [List.any_cons, List.any_nil, Bool.or_false]
            generalize zs[k]!.id = y
            by_cases e1 : q = y
            · subst e1; simp
            · have e2 : (y == q) = false := beq_eq_false_iff_ne.2 (fun e => e1 e.symm)
              rw [if_neg e1, e2, Bool.or_false]
          rw [← hF]
          exact h2) hi.big)
  have HP := hid (tableN_parts (columns := columns) hi.len)
  generalize tableN columns zs = R at HP ⊢
  have hR2 : (inB 1 5 columns = true → n ≤ 16 → R = if (List.range n).any (sbjBad columns zs) = true then 100 else 0) := fun h1 h2 => by
    by_cases e : (List.range n).any (sbjBad columns zs) = true
    · rw [if_pos e]
      obtain ⟨k, hk, hb⟩ := List.any_eq_true.1 e
      exact HP.out.2.2.1 k (List.mem_range.1 hk) hb
    · rw [if_neg e]
      refine HP.out.2.2.2 h1 h2 (fun k hk => ?_)
      cases hb : sbjBad columns zs k with
      | false => rfl
      | true => exact absurd (List.any_eq_true.2 ⟨k, List.mem_range.2 hk, hb⟩) e
  have HR2 := hid hR2
  generalize (List.range n).any (sbjBad columns zs) = ab at HSt HR2
  obtain ⟨cb, hcb⟩ : ∃ cb, inB 1 5 columns = cb := ⟨_, rfl⟩
  have HCb := hid hcb
  rw [hcb] at HR2 HP
  have HFin : Hid (R = if cb = false ∨ 16 < n then 100 else if ab = true then 100 else 0) := by
    show R = _
    by_cases h : cb = false ∨ 16 < n
    · rw [if_pos h]
      rcases h with h | h
      · exact HP.out.1 h
      · exact HP.out.2.1 h
    · rw [if_neg h]
      exact HR2.out (by cases cb <;> simp at h ⊢) (by omega)
  clear hi hR2 hcb HP HR2
  have HCh : Hid (ChkIn w (((w.alloc (.cells #[.int .i64 columns] 3)).alloc (.map #[] 0)).alloc (.cells #[.map (some (w.heap.size + 1))] 76)) (w.heap.size + 2) w.heap.size (w.heap.size + 1) columns (fun _ => none)) := by
    have h3 := rows3 w (.cells #[.int .i64 columns] 3) (.map #[] 0) (.cells #[.map (some (w.heap.size + 1))] 76)
    have e1 : (w.alloc (.cells #[.int .i64 columns] 3)).heap.size = w.heap.size + 1 := by simp
    have hm := (MapIs.new (P := Try.prog) (k := 3) (enc := Value.int .i64) (w.alloc (.cells #[.int .i64 columns] 3))).alloc (.cells #[.map (some (w.heap.size + 1))] 76)
    rw [e1] at hm
    exact ⟨(((Gr.refl w).alloc _).alloc _).alloc _, row_cell_at h3.2.2 0 rfl, row_cell_at h3.1 0 rfl, by omega, by omega, by omega, hm⟩
  have hmm := @run_makeMap Try.prog
  by_cases h16 : (16 : Int) < (n : Int)
  all_goals
    have hn16 : 16 < n ↔ (16 : Int) < (n : Int) := by omega
    cases ab
  all_goals
    cases cb
  all_goals
    go_enter Try.func20, Try.ntmps20
    go_upto_region 3 with fail
    generalize (((w.alloc (.cells #[.int .i64 columns] 3)).alloc (.map #[] 0)).alloc (.cells #[.map (some (w.heap.size + 1))] 76)) = wc at HCh ⊢
    have d1 := HCh.out.cc
    have hz : w.heap.size < wc.heap.size := block_lt_of_cell d1
    clear hmm
    go_wp2_with (first
      | (go_at_call 48; (with_reducible refine (in_one 1 5 columns _ HCb.out _ _ _ ?_ ?_).mono ?_); rotate_right; rintro e w3 ⟨rfl, hbw3⟩; obtain ⟨hcw3, hfw3, hzw3⟩ := hbw3.rules; (try simp at hzw3); have hzw3_0 : wc.heap.size < w3.heap.size := (by omega); have hyw3_0 : wc.heap.size ≤ w3.heap.size := (by omega))
      | (go_at_call 49; (with_reducible refine (HSt.out (w.heap.size + 2) w.heap.size (w.heap.size + 1) w3 ?_).mono ?_); rotate_right; rintro e w4 ⟨rfl, k9, T9⟩; have HT9 := hid T9; clear T9))
    all_goals first
      | (simp; done)
      | exact row_cell_at (heap_alloc_new _ _) 0 rfl
      | exact HCh.out.on (((Gr.refl _).alloc _).trans hbw3)
      | skip
    all_goals
      go_ret
      first
        | exact ⟨by rw [HFin.out]; simp [hn16, h16], HCh.out.gr.trans (((Gr.refl _).alloc _).trans hbw3)⟩
        | exact ⟨by rw [HFin.out]; simp [hn16, h16], HT9.out.gr⟩
end Go.Proofs.Ytimhkkijoelmhaa
