/- split of the inquiry laws: signals are dealt out to three lists by choices. For all signals and choices. -/
import Derived.Test.YtliehlefpodhaaaDoorQSplitKit
import Derived.Test.YtliehlefpodhaaaDoorOBase
import Derived.Test.YtliehlefpodhaaaDoorOMerge
import Derived.Test.YtliehlefpodhaaaDoorQMixTail
import Derived.WalkSmall
import Derived.Deep.LoopGhost
namespace Go.Proofs.YtliehlefpodhaaaDoor
open Go.RowKit Go.Shelf Go.Sort

set_option maxRecDepth 100000 in
set_option maxHeartbeats 2000000 in
theorem choose_any (B : Option Addr) (m d : Nat) (us : List Int) (i : Nat) (w : World) (h : Rd w 1 B m (us.map (Value.int .u32))) (hb : m ≤ 9223372036854775807) :
    Calls Tryd.prog 67 #[.slice B m d, .int .i64 i] w fun e w' => e = .returned (.int .u32 (choZ us i)) ∧ w = w' := by
  have hl : us.length = m := by have := h.len; simpa using this
  have hb' : (m : Int) ≤ 9223372036854775807 := by omega
  by_cases hi : i < m
  · obtain ⟨b, off, rfl, hbl, hc⟩ := h.at_ (by omega)
    have c0 := hc i _ (Rd.get (enc := Value.int .u32) (zs := us) (by omega))
    have HE : Hid (choZ us i = us[i]!) := by show _ = _; unfold choZ; rw [if_pos (by omega)]
    generalize us[i]! = u at c0 HE
    have hi' : (i : Int) < (m : Int) := by omega
    have hi0 : (0 : Int) ≤ (i : Int) := by omega
    clear hc hl h
    go_enter Tryd.func67, Tryd.ntmps67
    go_wp2
    go_ret
    exact ⟨by rw [HE.out]; rfl, rfl⟩
  · have HE : Hid (choZ us i = 0) := by show _ = _; unfold choZ; rw [if_neg (by omega)]
    have hi' : ¬ (i : Int) < (m : Int) := by omega
    clear hl h
    go_enter Tryd.func67, Tryd.ntmps67
    go_wp2
    go_ret
    exact ⟨by rw [HE.out]; rfl, rfl⟩

theorem info_sigs3 : (Tryd.prog.info? 23).map (fun i => (i.zero, i.size, i.bytes)) = some (some (.slice none 0 0), 1, 24) := by kernel_rfl

set_option maxRecDepth 100000 in
set_option maxHeartbeats 8000000 in
theorem split_any (A : Option Addr) (n c : Nat) (zs : List Sig) (B : Option Addr) (m d : Nat) (us : List Int) (w : World) (hi : SigsIn w A n zs) (hn : n ≤ 60) (h : Rd w 1 B m (us.map (Value.int .u32))) (hb : m ≤ 9223372036854775807) (hu : ∀ z ∈ us, 0 ≤ z ∧ z ≤ 4294967295) :
    Calls Tryd.prog 37 #[.slice A n c, .slice B m d] w fun e w' => e = .returned (.slice (some ⟨w.heap.size, 0, none⟩) 3 3) ∧ (Gr w w' ∧ ∃ S, Parts w' w.heap.size (w.heap.size + 1) 23 67 S (fun k => partL zs (setN us) n k)) := by
  have HI := hid hi
  have HL := hid hi.rd.sig_len
  have HCh := hid (fun W i (k : Gr w W) => choose_any B m d us i W (h.gr k) hb)
  have HU := hid (fun i => choZ_in hu i)
  have hn' : (n : Int) ≤ 60 := by omega
  obtain ⟨i0, hi0, hz0, hs0, hy0⟩ := info_parts info_sig
  have HI0 := hid hi0
  have HZ0 := hid hz0
  have HS0 := hid hs0
  have HY0 := hid hy0
  obtain ⟨i1, hi1, hz1, hs1, hy1⟩ := info_parts info_sigs3
  have HI1 := hid hi1
  have HZ1 := hid hz1
  have HS1 := hid hs1
  have HY1 := hid (show i1.bytes * 3 ≤ 281474976710656 by rw [hy1]; omega)
  clear hi h hb hu hi0 hz0 hs0 hy0 hi1 hz1 hs1 hy1
  go_enter Tryd.func37, Tryd.ntmps37
  go_wp2_with (first
    | ((with_reducible show wpList _ _ _ (⟨some 10, _, _, _, _, _⟩ :: _) _ _); refine wpList_make _ rfl _ _ 77 rfl 23 i1 _ Tryd.underlying77 HI1.out HZ1.out HS1.out rfl .i64 3 3 rfl rfl rfl HY1.out (by omega) ?_; intro cs hcs hcz; have HCS := hid hcs; have HCZ := hid hcz; clear hcs hcz))
  go_loopg [13] n (fun gg s13 wr => ∃ k : Nat, k ≤ n ∧ n - k ≤ gg ∧ s13 = .int .i64 k ∧ Gr w wr ∧ Hid (∃ S, Parts wr w.heap.size (w.heap.size + 1) 23 67 S (fun j => partL zs (setN us) k j)))
  case atStart =>
    refine ⟨0, Nat.zero_le _, by omega, rfl, (Gr.refl w).alloc _, fun _ => .slice none 0 0, ?_⟩
    exact ⟨VBlk.new w _ cs _ _ HCS.out HCZ.out, by omega, fun k hk => World.ownsRow_nil _ _ _ _, fun _ _ _ _ _ _ h => by cases h⟩
  case round =>
    obtain ⟨k, hk, hgk, rfl, BW, HP⟩ := hrel
    by_cases hkl : k < n
    · obtain ⟨hk', b', off', hA', hb', c0, c1, c2, c3, c4, c5⟩ := (HI.out.gr BW).rd.sig hkl
      subst hA'
      obtain ⟨x, hx⟩ : ∃ x, zs[k]! = x := ⟨_, rfl⟩
      rw [hx] at c0 c1 c2 c3 c4 c5
      have HX := hid hx
      have hwo : w.heap.size < wr.heap.size := by obtain ⟨S, hS⟩ := HP.out; exact hS.row.lt
      clear hx
      obtain ⟨cz, hcz⟩ : ∃ cz, choZ us k = cz := ⟨_, rfl⟩
      have hcb := HU.out k
      rw [hcz] at hcb
      have HCk := hid (fun W (kk : Gr w W) => HCh.out W k kk)
      rw [hcz] at HCk
      obtain ⟨s, hs⟩ : ∃ s : Nat, (s : Int) = cz % 7 + 1 := ⟨(cz % 7 + 1).toNat, by omega⟩
      have hs1 : 1 ≤ s ∧ s ≤ 7 := by omega
      have HSe : Hid (setN us k = s) := by show _ = _; unfold setN; rw [hcz]; omega
      have hm7 : Int.tmod cz 7 = cz % 7 := Int.tmod_eq_emod_of_nonneg hcb.1
      have hw7 : IntKind.u32.wrap (cz % 7) = (s : Int) - 1 := by rw [IntKind.wrap_u32]; omega
      have hw7' : cz % 7 = (s : Int) - 1 := by omega
      have hw8 : IntKind.u32.wrap ((s : Int) - 1 + 1) = (s : Int) := by rw [IntKind.wrap_u32]; omega
      have h7 : ¬ (7 : Int) = 0 := by omega
      obtain ⟨x0, x1, x2, x3, x4, x5⟩ := x
      dsimp only at *
      have hkn : (k : Int) < (n : Int) := by omega
      have hk0 : (0 : Int) ≤ (k : Int) := by omega
      clear hs hcz
      obtain ⟨wo, rfl⟩ : ∃ wo : World, wo = wr := ⟨_, rfl⟩
      go_wp2_with (first
        | (go_at_call 67; (with_reducible refine (HCk.out _ ?_).mono ?_); rotate_right; rintro e w' ⟨rfl, rfl⟩))
      all_goals try (exact BW.trans ((Gr.refl _).alloc _))
      go_loopg [25] 3 (fun gg s25 wr => ∃ j : Nat, j ≤ 3 ∧ 3 - j ≤ gg ∧ s25 = .int .i64 j ∧ Gr w wr ∧ Hid (wr.heap[wo.heap.size]? = some (.cells #[.int .i64 x0, .int .i64 x1, .int .i64 x2, .int .i64 x3, .int .u8 x4, .int .i64 x5] 67 (0, 0))) ∧ Hid (∃ S, Parts wr w.heap.size (w.heap.size + 1) 23 67 S (fun i => partL zs (setN us) (if i < j then k + 1 else k) i) ∧ ∀ i, i < 3 → (S i).ownBlock ≠ some wo.heap.size))
      case atStart =>
        refine ⟨0, Nat.zero_le _, by omega, rfl, BW.trans ((Gr.refl _).alloc _), heap_alloc_new _ _, ?_⟩
        obtain ⟨S, hS⟩ := HP.out
        exact ⟨S, (hS.gr ((Gr.refl _).alloc _)).congr (fun i _ => by simp), fun i hi e1 => by have := ((hS.own i hi).lt _ e1).2; omega⟩
      case round =>
        obtain ⟨j, hj, hgj, rfl, BW2, HRx, HP2⟩ := hrel
        by_cases hjl : j < 3
        · have hj3 : (j : Int) < 3 := by omega
          have hj0 : (0 : Int) ≤ (j : Int) := by omega
          by_cases hset : setB (setN us) j k = true
          · have hb1 : bits BinOp.and IntKind.u32 ((s : Int) / 2 ^ j) 1 = 1 := by
              rw [bit_at hs1.2]
              unfold setB at hset
              rw [HSe.out] at hset
              simp only [decide_eq_true_eq] at hset
              omega
            obtain ⟨S, hS, hne⟩ := HP2.out
            have HS := hid hS
            have HNe := hid hne
            have hcell : wr.cell? ⟨w.heap.size, j, none⟩ = some (S j) := hS.row.cell hjl
            have hlen : (partL zs (setN us) k j).length ≤ 60 := Nat.le_trans (partL_len _ _ _ _) (by omega)
            have hif : (if j < j then k + 1 else k) = k := if_neg (Nat.lt_irrefl j)
            have hown0 := hS.own j hjl
            rw [hif] at hown0
            have HOw := hid hown0
            obtain ⟨q0, q1, q2, q3, q4, q5⟩ := cellsat6 HRx.out
            clear hS hne hown0 HP2 hlen
            go_wp2_with fail
            have hzx := (Array.getElem?_eq_some_iff.1 HRx.out).1
            have hzw := HS.out.row.lt
            have HZ9 := hid (And.intro hzw hzx)
            have k0 : ∀ p : KeepW wr.drew w.heap.size wo.heap.size, p.W.cell? ⟨w.heap.size, j, none⟩ = some (S j) := fun p => (VBlk.keep (w := wr.drew) HS.out.row.drew p.ha).cell hjl
            have k1 : ∀ p : KeepW wr.drew w.heap.size wo.heap.size, p.W.cell? ⟨wo.heap.size, 0, none⟩ = some (.int .i64 x0) := fun p => p.snd (show wr.drew.heap[wo.heap.size]? = _ from HRx.out) 0 rfl
            have k2 : ∀ p : KeepW wr.drew w.heap.size wo.heap.size, p.W.cell? ⟨wo.heap.size, 1, none⟩ = some (.int .i64 x1) := fun p => p.snd (show wr.drew.heap[wo.heap.size]? = _ from HRx.out) 1 rfl
            have k3 : ∀ p : KeepW wr.drew w.heap.size wo.heap.size, p.W.cell? ⟨wo.heap.size, 2, none⟩ = some (.int .i64 x2) := fun p => p.snd (show wr.drew.heap[wo.heap.size]? = _ from HRx.out) 2 rfl
            have k4 : ∀ p : KeepW wr.drew w.heap.size wo.heap.size, p.W.cell? ⟨wo.heap.size, 3, none⟩ = some (.int .i64 x3) := fun p => p.snd (show wr.drew.heap[wo.heap.size]? = _ from HRx.out) 3 rfl
            have k5 : ∀ p : KeepW wr.drew w.heap.size wo.heap.size, p.W.cell? ⟨wo.heap.size, 4, none⟩ = some (.int .u8 x4) := fun p => p.snd (show wr.drew.heap[wo.heap.size]? = _ from HRx.out) 4 rfl
            have k6 : ∀ p : KeepW wr.drew w.heap.size wo.heap.size, p.W.cell? ⟨wo.heap.size, 5, none⟩ = some (.int .i64 x5) := fun p => p.snd (show wr.drew.heap[wo.heap.size]? = _ from HRx.out) 5 rfl
            clear q0 q1 q2 q3 q4 q5 hcell hzx hzw
            refine wp_region_mixAt (C := fun w' => ∃ p : KeepW wr.drew w.heap.size wo.heap.size, w' = p.W) 10 [7, 8] _ (by rfl) (by rfl) (by kernel_rfl) (by kernel_rfl) ⟨⟨wr.drew, rfl, rfl⟩, rfl⟩ ?_
            simp only [List.take_succ_cons, List.take_zero]
            (repeat (first | ((with_reducible refine mixL_read0 ?_ ?_ (fun K hK => ?_)); rfl; rfl; go_big_quiet_op; (with_reducible refine hK _ ?_); clear hK K) | ((with_reducible refine' mixL_skipG ?_ ?_ ?_ ?_ ?_); rotate_left 4; rfl; rfl; rfl; rfl; simp only [Act.put, List.setIfInBounds_toArray, List.set_cons_zero, List.set_cons_succ]) | ((with_reducible refine' mixL_skipU ?_ ?_ ?_ ?_); rotate_left 3; rfl; rfl; rfl; simp only [Act.put, List.setIfInBounds_toArray, List.set_cons_zero, List.set_cons_succ]) | ((with_reducible refine' mixL_readG ?_ ?_ ?_ ?_ ?_ (fun K hK => ?_)); rotate_left 4; rfl; rfl; rfl; rfl; rfl; go_big_quiet_op; (with_reducible refine hK _ ?_); clear hK K)))
            (first | ((with_reducible refine mixL_mut0 ?_ ?_ (fun K hK => ?_)); rfl; rfl) | ((with_reducible refine' mixL_mutG ?_ ?_ ?_ ?_ ?_ (fun K hK => ?_)); rotate_left 4; rfl; rfl; rfl; rfl; rfl))
            go_simp
            refine hK.out _ _ ⟨KeepW.gr ⟨wr.drew, rfl, rfl⟩ ((Gr.refl _).alloc _) HZ9.out.1 HZ9.out.2, rfl⟩ ?_
            clear hK K
            (first | ((with_reducible refine mixL_mut0 ?_ ?_ (fun K hK => ?_)); rfl; rfl) | ((with_reducible refine' mixL_mutG ?_ ?_ ?_ ?_ ?_ (fun K hK => ?_)); rotate_left 4; rfl; rfl; rfl; rfl; rfl))
            refine wp_append_own_at _ (.tmp 38) (.tmp 40) 23 rfl (w.heap.size + 1) 67 i0 (.agg #[.int .i64 0, .int .i64 0, .int .i64 0, .int .i64 0, .int .u8 0, .int .i64 0]) 6 48 Tryd.underlying23 HI0.out HZ0.out HS0.out HY0.out rfl (by decide) (S j) _ _ rfl (ownT_gr HOw.out ((Gr.refl wr).drew.alloc _)) ⟨wr.heap.size, 0, none⟩ 1 1 [.int .i64 x0, .int .i64 x1, .int .i64 x2, .int .i64 x3, .int .u8 x4, .int .i64 x5] rfl rfl (cellsT_at wr.drew _ _ _ _ (by rfl) rfl) (by intro u hu; simp at hu; rcases hu with rfl | rfl | rfl | rfl | rfl | rfl <;> rfl) (by have : maxLen = 9223372036854775807 := rfl; have := partL_len zs (setN us) k j; omega) (by have := partL_len zs (setN us) k j; omega) (by have h1 := HS.out.row.lt; simp; omega) ?_
            intro v' w9 hown' hgrow hat
            obtain ⟨A', c', rfl⟩ := own_slice hown'
            have HW9 := hid (And.intro hown' (And.intro hgrow hat))
            have hr9 := HS.out.row9 hjl ((Gr.refl wr).drew.alloc _) hgrow
            have hc9 := hr9.cell hjl
            have hf9 := hr9.frozen j
            have hx9 : w9.heap[wo.heap.size]? = wr.drew.heap[wo.heap.size]? := by
              refine (hgrow.block _ (by have := HZ9.out.2; simp; omega) (fun e1 => HNe.out j hjl e1.symm)).trans ?_
              exact Gr.heap ((Gr.refl wr.drew).alloc _) HZ9.out.2
            have hy9 : w9.heap[w.heap.size]? = wr.drew.heap[w.heap.size]? := by
              refine (hgrow.block _ (by have := HZ9.out.1; simp; omega) (fun e1 => by have := ((HS.out.own j hjl).lt _ e1.symm).1; omega)).trans ?_
              exact Gr.heap ((Gr.refl wr.drew).alloc _) HZ9.out.1
            refine hK.out _ _ ⟨⟨w9, hy9, hx9⟩, rfl⟩ ?_
            clear hK K hown' hgrow hat hr9 hx9 hy9
            simp only [Act.put, List.setIfInBounds_toArray, List.set_cons_zero, List.set_cons_succ]
            (repeat (first | ((with_reducible refine mixL_read0 ?_ ?_ (fun K hK => ?_)); rfl; rfl; go_big_quiet_op; (with_reducible refine hK _ ?_); clear hK K) | ((with_reducible refine' mixL_skipG ?_ ?_ ?_ ?_ ?_); rotate_left 4; rfl; rfl; rfl; rfl; simp only [Act.put, List.setIfInBounds_toArray, List.set_cons_zero, List.set_cons_succ]) | ((with_reducible refine' mixL_skipU ?_ ?_ ?_ ?_); rotate_left 3; rfl; rfl; rfl; simp only [Act.put, List.setIfInBounds_toArray, List.set_cons_zero, List.set_cons_succ]) | ((with_reducible refine' mixL_readG ?_ ?_ ?_ ?_ ?_ (fun K hK => ?_)); rotate_left 4; rfl; rfl; rfl; rfl; rfl; go_big_quiet_op; (with_reducible refine hK _ ?_); clear hK K)))
            (with_reducible refine tail_nil ?_)
            intro K hK
            clear k0 k1 k2 k3 k4 k5 k6
            go_simp
            refine hK _ _ ?_
            clear hK K
            go_wp2_with fail
            go_roundg (3 - (j + 1))
            case measure => omega
            case rel =>
              have hz := (Array.getElem?_eq_some_iff.1 HRx.out).1
              refine ⟨j + 1, by omega, by omega, by go_num, HS.out.push_gr hjl (Nat.le_refl _) BW2 ((Gr.refl wr).drew.alloc _) _ HW9.out.2.1, ?_, ?_⟩
              · unfold Hid
                rw [Below.heap_setCell _ _ _ _ (by show wo.heap.size ≠ w.heap.size; omega)]
                refine (HW9.out.2.1.block _ (by simp; omega) (fun e1 => HNe.out j hjl e1.symm)).trans ?_
                exact row_gr HRx.out ((Gr.refl wr).drew.alloc _)
              · have hP := HS.out.push hjl ((Gr.refl wr).drew.alloc _) (x := ⟨x0, x1, x2, x3, x4, x5⟩) (by rw [hif]; exact HW9.out.1) HW9.out.2.1 HW9.out.2.2
                refine ⟨_, hP.congr (fun i hi => ?_), fun i hi => ?_⟩
                · have hx' : zs[k]! = ⟨x0, x1, x2, x3, x4, x5⟩ := HX.out
                  by_cases e1 : i = j
                  · subst e1
                    rw [if_pos rfl, hif, if_pos (show i < i + 1 by omega), partL_succ, if_pos hset, hx']
                  · rw [if_neg e1]
                    by_cases e2 : i < j
                    · rw [if_pos e2, if_pos (by omega)]
                    · rw [if_neg e2, if_neg (by omega)]
                · by_cases e1 : i = j
                  · rw [if_pos e1]
                    rcases HW9.out.2.2 with e2 | e2
                    · rw [e2]; exact HNe.out j hjl
                    · rw [e2]
                      intro e3
                      have := Option.some.inj e3
                      simp at this
                      omega
                  · rw [if_neg e1]
                    exact HNe.out i hi
          · have hb1 : bits BinOp.and IntKind.u32 ((s : Int) / 2 ^ j) 1 = 0 := by
              rw [bit_at hs1.2]
              unfold setB at hset
              rw [HSe.out] at hset
              simp only [decide_eq_true_eq] at hset
              omega
            go_wp2
            go_roundg (3 - (j + 1))
            case measure => omega
            case rel =>
              refine ⟨j + 1, by omega, by omega, by go_num, BW2, HRx, ?_⟩
              obtain ⟨S, hS, hne⟩ := HP2.out
              refine ⟨S, hS.congr (fun i hi => ?_), hne⟩
              by_cases e1 : i = j
              · subst e1
                rw [if_neg (Nat.lt_irrefl i), if_pos (by omega), partL_succ, if_neg hset, List.append_nil]
              · by_cases e2 : i < j
                · rw [if_pos e2, if_pos (by omega)]
                · rw [if_neg e2, if_neg (by omega)]
        · have hj3 : ¬ (j : Int) < 3 := by omega
          go_wp2
          go_roundg (n - (k + 1))
          case measure => omega
          case rel =>
            refine ⟨k + 1, by omega, by omega, by go_num, BW2, ?_⟩
            obtain ⟨S, hS, _⟩ := HP2.out
            exact ⟨S, hS.congr (fun i hi => by rw [if_pos (by omega)])⟩
    · have hkn : ¬ (k : Int) < (n : Int) := by omega
      have hkk : k = n := by omega
      subst hkk
      go_wp2
      go_ret
      exact ⟨rfl, BW, HP.out⟩
end Go.Proofs.YtliehlefpodhaaaDoor
