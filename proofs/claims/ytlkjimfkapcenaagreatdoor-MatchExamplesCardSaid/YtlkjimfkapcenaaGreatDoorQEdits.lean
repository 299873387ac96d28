/- edits of the package match: the edits of two words, row by row. For all words of which the second has at most 20 bytes. -/
import Derived.BigQuiet
import Derived.Deep.QuietTactic
import Derived.Deep.RegionHeld3
import Derived.Test.YtlkjimfkapcenaaGreatDoorQBase
import Derived.Test.YtlkjimfkapcenaaGreatDoorQWithin
import Derived.Test.YtlkjimfkapcenaaGreatDoorQLaws
namespace Go.Proofs.YtlkjimfkapcenaaGreatDoor
open Go.RowKit

theorem least_any (f : Int) (b c : Nat) (x y : Int) (w : World) (hx : w.cell? ⟨b, 0, none⟩ = some (.int .i64 x)) (hy : w.cell? ⟨b, 1, none⟩ = some (.int .i64 y)) :
    Calls Tryz.prog 28 #[.int .i64 f, .slice (some ⟨b, 0, none⟩) 2 c] w fun e w' => e = .returned (.int .i64 (min (min f x) y)) ∧ w = w' := by
  go_enter Tryz.func28, Tryz.ntmps28
  go_wp2
  go_loop [0, 9] (fun f' i => ∃ k : Nat, k ≤ 2 ∧ i = .int .i64 k ∧ f' = .int .i64 (if k = 0 then f else if k = 1 then min f x else min (min f x) y)) (fun _ i => 2 - (intOf i).toNat)
  case atStart => exact ⟨0, by omega, rfl, rfl⟩
  case round =>
    obtain ⟨k, hk, rfl, rfl⟩ := hrel
    rcases (show k = 0 ∨ k = 1 ∨ k = 2 by omega) with rfl | rfl | rfl
    · by_cases g : x < f
      · go_wp2
        go_round
        case rel => exact ⟨1, by omega, rfl, by simp; omega⟩
        case measure => simp [intOf]
      · go_wp2
        go_round
        case rel => exact ⟨1, by omega, rfl, by simp; omega⟩
        case measure => simp [intOf]
    · by_cases g : y < min f x
      · go_wp2
        go_round
        case rel => exact ⟨2, by omega, rfl, by simp; omega⟩
        case measure => simp [intOf]
      · go_wp2
        go_round
        case rel => exact ⟨2, by omega, rfl, by simp; omega⟩
        case measure => simp [intOf]
    · go_wp2
      go_ret
      exact ⟨rfl, rfl⟩

/-- The row behind i letters of the first word. -/
def rowf (a b : ByteArray) (i j : Nat) : Int := if j ≤ b.size then (lev a b i j : Int) else 0

/-- The row in the midst of letter i, up to place k. -/
def mid (a b : ByteArray) (i k j : Nat) : Int := if j ≤ b.size then (if j ≤ k then (lev a b (i + 1) j : Int) else (lev a b i j : Int)) else 0
theorem mid_zero (a b : ByteArray) (i j : Nat) : (if j = 0 then ((i : Int) + 1) else rowf a b i j) = mid a b i 0 j := by
  unfold rowf mid
  by_cases e : j = 0
  · subst e; simp [lev_zero]
  · by_cases e2 : j ≤ b.size
    · rw [if_neg e, if_pos e2, if_pos e2, if_neg (by omega)]
    · rw [if_neg e, if_neg e2, if_neg e2]
theorem mid_full (a b : ByteArray) (i j : Nat) : mid a b i b.size j = rowf a b (i + 1) j := by
  unfold rowf mid
  by_cases e2 : j ≤ b.size
  · rw [if_pos e2, if_pos e2, if_pos e2]
  · rw [if_neg e2, if_neg e2]
theorem rowf_bd (a b : ByteArray) (i j : Nat) : 0 ≤ rowf a b i j ∧ rowf a b i j ≤ (i + j : Nat) := by
  unfold rowf
  have := lev_le a b i j
  split <;> omega
theorem mid_bd (a b : ByteArray) (i k j : Nat) : 0 ≤ mid a b i k j ∧ mid a b i k j ≤ (i + 1 + j : Nat) := by
  unfold mid
  have := lev_le a b i j
  have := lev_le a b (i + 1) j
  split <;> (try split) <;> omega
theorem mid_step (a b : ByteArray) (i k : Nat) (hk : k < b.size) (j : Nat) :
    (if j = k + 1 then min (min (rowf a b i k + (if byt a i = byt b k then 0 else 1)) (rowf a b i (k + 1) + 1)) (mid a b i k k + 1) else mid a b i k j) = mid a b i (k + 1) j := by
  by_cases e : j = k + 1
  · subst e
    rw [if_pos rfl]
    unfold rowf mid
    simp only [show k ≤ b.size by omega, show k + 1 ≤ b.size by omega, Nat.le_refl, if_true, lev_step]
    split <;> omega
  · rw [if_neg e]
    unfold mid
    by_cases e2 : j ≤ b.size
    · by_cases e3 : j ≤ k
      · rw [if_pos e2, if_pos e2, if_pos e3, if_pos (by omega)]
      · rw [if_pos e2, if_pos e2, if_neg e3, if_neg (by omega)]
    · rw [if_neg e2, if_neg e2]

set_option maxRecDepth 100000 in
set_option maxHeartbeats 4000000 in
theorem edits_any (a b : ByteArray) (w : World) (ha : a.size ≤ 40) (hb : b.size ≤ 20) :
    Calls Tryz.prog 17 #[.string a, .string b] w fun e w' => e = .returned (.int .i64 (lev a b a.size b.size)) ∧ Gr w w' := by
  have ha' : (a.size : Int) ≤ 40 := by omega
  have hb' : (b.size : Int) ≤ 20 := by omega
  clear ha hb
  go_enter Tryz.func17, Tryz.ntmps17
  go_wp2
  have HR : Hid (IBlk (w.alloc (.cells (List.replicate 21 (.int .i64 0)).toArray 71)) w.heap.size 71 21 (fun _ => 0)) :=
    hid (IBlk.new w _ _ 21 _ rfl (fun j hj => by rw [List.getElem?_toArray, List.getElem?_replicate, if_pos hj]))
  go_loopg [6, 14] (b.size + 1) (fun gg _ s14 wr => ∃ k : Nat, k ≤ b.size + 1 ∧ b.size + 1 - k ≤ gg ∧ s14 = .int .i64 k ∧ Gr w wr ∧ IBlk wr w.heap.size 71 21 (fun j => if j < k then j else 0))
  case atStart => exact ⟨0, by omega, by omega, rfl, (Gr.refl w).alloc _, HR.out⟩
  case round =>
    obtain ⟨k, hk, hg, rfl, BW, HB⟩ := hrel
    by_cases hlt : k < b.size + 1
    · have hk' : (k : Int) < (b.size : Int) + 1 := by omega
      have hk2 : (k : Int) < 21 := by omega
      have hc := HB.cell (j := k) (by omega)
      have hf := HB.frozen k
      have HB' := hid HB
      clear HB
      go_wp2
      go_roundg (b.size + 1 - (k + 1))
      case measure => omega
      case rel => exact ⟨k + 1, by omega, by omega, by go_num, BW.setCell (Nat.le_refl _) _, (HB'.out.set_ k k).congr fun j hj => by
        by_cases e : j = k
        · subst e; simp
        · by_cases e2 : j < k
          · rw [if_neg e, if_pos e2, if_pos (by omega)]
          · rw [if_neg e, if_neg e2, if_neg (by omega)]⟩
    · have hk' : ¬ (k : Int) < (b.size : Int) + 1 := by omega
      obtain rfl : k = b.size + 1 := by omega
      go_wp2
      have HB0 := hid (HB.congr (f' := rowf a b 0) (fun j hj => by
        unfold rowf
        by_cases e : j ≤ b.size
        · rw [if_pos (by omega), if_pos e]; simp [lev]
        · rw [if_neg (by omega), if_neg e]))
      clear HB
      obtain ⟨wo, rfl⟩ : ∃ wo : World, wo = wr := ⟨_, rfl⟩
      go_loopg [7, 23] a.size (fun gg _ s23 wr => ∃ i : Nat, i ≤ a.size ∧ a.size - i ≤ gg ∧ s23 = .int .i64 i ∧ Gr w wr ∧ Hid (IBlk wr w.heap.size 71 21 (rowf a b i)))
      case atStart => exact ⟨0, Nat.zero_le _, by omega, rfl, BW, HB0⟩
      case round =>
        clear HB0 BW
        obtain ⟨i, hi, hgi, rfl, BW, HB⟩ := hrel
        by_cases hli : i < a.size
        · have hli' : (i : Int) < a.size := by omega
          have HRi := HB
          obtain ⟨cs, hcs, hcz, hcc⟩ := HB.out
          have hci : (Tryz.prog.info? 71).map (·.size) = some cs.size := by rw [hcz]; kernel_rfl
          have h1 : ∀ u ∈ cs.toList, u.oneCell' = true := by
            intro u hu
            obtain ⟨j, hj, rfl⟩ := List.getElem_of_mem hu
            have := hcc j (by simpa [hcz] using hj)
            rw [Array.getElem?_eq_getElem (by simpa using hj)] at this
            simp only [Option.some.injEq] at this
            rw [Array.getElem_toList, this]; rfl
          have HL : Hid (IBlk ((wr.setCell ⟨w.heap.size, 0, none⟩ (.int .i64 (i + 1))).alloc (.cells cs 71)) wr.heap.size 71 21 (rowf a b i)) := by
            have e : (wr.setCell ⟨w.heap.size, 0, none⟩ (.int .i64 (i + 1))).heap.size = wr.heap.size := by simp [World.setCell]
            have := IBlk.new (wr.setCell ⟨w.heap.size, 0, none⟩ (.int .i64 (i + 1))) 71 cs 21 (rowf a b i) hcz hcc
            rw [e] at this
            exact this
          have HR1 : Hid (IBlk ((wr.setCell ⟨w.heap.size, 0, none⟩ (.int .i64 (i + 1))).alloc (.cells cs 71)) w.heap.size 71 21 (mid a b i 0)) :=
            ((HB.out.set_ 0 (i + 1)).alloc _).congr (fun j hj => mid_zero a b i j)
          have BW1 : Hid (Gr w ((wr.setCell ⟨w.heap.size, 0, none⟩ (.int .i64 (i + 1))).alloc (.cells cs 71))) := (BW.setCell (Nat.le_refl _) _).alloc _
          have hRz : w.heap.size < wr.heap.size := HB.out.lt
          have q0 := (HB.out.alloc (.cells cs 71)).cell (j := 0) (by omega)
          have f0 := (HB.out.alloc (.cells cs 71)).frozen 0
          have hzz : (List.replicate 21 (Value.int .i64 0)).toArray.size = cs.size := by rw [hcz]; rfl
          have HCS := hid hcs
          have HCI := hid hci
          have HH1 := hid h1
          have HZZ := hid hzz
          have HQ0 := hid q0
          clear hcs hci h1 hzz hcz hcc HB q0
          go_wp2_with (first
            | ((with_reducible show wpList _ _ _ (⟨some 26, _, _, _, _, _⟩ :: _) _ _); refine wpList_load_row rfl 71 (.tmp 5) rfl w.heap.size rfl 71 cs (0, 0) _ HCS.out Tryz.underlying71 rfl HCI.out ?_)
            | ((with_reducible show wpList _ _ _ (⟨none, Op.store 71 (.tmp 8) (.tmp 26), _, _, _, _⟩ :: _) _ _); refine wpList_store_new rfl 71 (.tmp 8) (.tmp 26) rfl wr _ cs 71 rfl rfl HCI.out HZZ.out HH1.out ?_; have q0 := HQ0.out))
          clear q0 f0
          have hRL : w.heap.size ≠ wr.heap.size := by omega
          clear HCS HCI HH1 HZZ HQ0
          obtain ⟨wm, rfl⟩ : ∃ wm : World, wm = wr := ⟨_, rfl⟩
          go_loopg [9, 32] b.size (fun gg _ s32 wi => ∃ k : Nat, k ≤ b.size ∧ b.size - k ≤ gg ∧ s32 = .int .i64 k ∧ Gr w wi ∧ Hid (IBlk wi w.heap.size 71 21 (mid a b i k)) ∧ Hid (IBlk wi wm.heap.size 71 21 (rowf a b i)))
          case atStart => exact ⟨0, Nat.zero_le _, by omega, rfl, BW1.out, HR1, HL⟩
          case round =>
            clear HR1 HL BW1
            obtain ⟨k, hk2, hgk, rfl, BWi, HR, HL⟩ := hrel
            by_cases hlk : k < b.size
            · have hlk' : (k : Int) < b.size := by omega
              have hk20 : (k : Int) < 20 := by omega
              have c1 := HL.out.cell (j := k) (by omega)
              have c2 := HL.out.cell (j := k + 1) (by omega)
              have c3 := HR.out.cell (j := k) (by omega)
              have c4 := HR.out.cell (j := k + 1) (by omega)
              have f4 := HR.out.frozen (k + 1)
              have b1 := rowf_bd a b i k
              have b2 := rowf_bd a b i (k + 1)
              have b3 := mid_bd a b i k k
              have hstep := mid_step a b i k hlk
              generalize rowf a b i k = n1 at c1 b1 hstep
              generalize rowf a b i (k + 1) = n2 at c2 b2 hstep
              generalize mid a b i k k = n3 at c3 b3 hstep
              have HS := hid hstep
              clear hstep
              have hx : (a.size : Int) ≤ 9223372036854775807 := by omega
              by_cases hch : byt a i = byt b k
              · have hne : ((a[i].toNat : Int) != (b[k].toNat : Int)) = false := byt_eq hli hlk hch
                have Hch := hid hch
                clear hch
                go_wp2
                go_quiet (fail)
                go_wp2
                have z1 : w.heap.size < wr.heap.size := HR.out.lt
                have z2 : wm.heap.size < wr.heap.size := HL.out.lt
                have o1 : -9223372036854775808 ≤ (k : Int) + 1 ∧ (k : Int) + 1 ≤ 9223372036854775807 := by omega
                have o2 : -9223372036854775808 ≤ n2 + 1 ∧ n2 + 1 ≤ 9223372036854775807 := by omega
                have o3 : -9223372036854775808 ≤ n3 + 1 ∧ n3 + 1 ≤ 9223372036854775807 := by omega
                have s4 : ((k : Int) + 1).toNat = k + 1 := by omega
                have s5 : 0 ≤ (k : Int) + 1 := by omega
                have s6 : (k : Int) + 1 < 21 := by omega
                have s7 : (k : Int) < 21 := by omega
                have s8 : (0 : Int) ≤ k := by omega
                have s1 := IntWalk.i64_in _ o1
                have s2 := IntWalk.i64_in _ o2
                have s3 := IntWalk.i64_in _ o3
                clear o1 o2 o3 b1 b2 b3
                generalize mid a b i k (k + 1) = n4 at c4
                go_region_held3 (fun W => W.cell? ⟨wm.heap.size, k + 1, none⟩ = some (.int .i64 n2) ∧ W.cell? ⟨w.heap.size, k, none⟩ = some (.int .i64 n3) ∧ W.cell? ⟨w.heap.size, k + 1, none⟩ = some (getv W ⟨w.heap.size, k + 1, none⟩) ∧ W.frozen? ⟨w.heap.size, k + 1, none⟩ = false)
                  (first
                    | exact ⟨c2, c3, getv_some c4, f4⟩
                    | exact ⟨(World.cell?_alloc_past _ _ _ z2).trans c2, (World.cell?_alloc_past _ _ _ z1).trans c3, getv_some ((World.cell?_alloc_past _ _ _ z1).trans c4), (World.frozen?_alloc_past _ _ _ z1).trans f4⟩
                    | exact ⟨(World.cell?_setCell_other _ _ _ _ (fun e => hRL (congrArg Addr.block e))).trans ((World.cell?_alloc_past _ _ _ z2).trans c2), (World.cell?_setCell_other _ _ _ _ (fun e => absurd (congrArg Addr.off e) (by simp))).trans ((World.cell?_alloc_past _ _ _ z1).trans c3), getv_some ((((HR.out.drewN _).alloc _).set_ (k + 1) _).cell (j := k + 1) (by omega)), (((HR.out.drewN _).alloc _).set_ (k + 1) _).frozen (k + 1)⟩)
                  (first
                    | (go_at_call 28; refine (least_any _ _ _ (n2 + 1) (n3 + 1) _ (by exact (World.cell?_alloc_at _ _ _ _ rfl).trans rfl) (by exact (World.cell?_alloc_at _ _ _ _ rfl).trans rfl)).mono ?_; rintro e w' ⟨rfl, rfl⟩))
                clear s1 s2 s3
                go_wp2
                go_roundg (b.size - (k + 1))
                case measure => omega
                case rel => exact ⟨k + 1, by omega, by omega, by go_num, ((BWi.drewN _).alloc _).setCell (Nat.le_refl _) _, (((HR.out.drewN _).alloc _).set_ (k + 1) _).congr (fun j hj => by
                  rw [← HS.out j]
                  by_cases e : j = k + 1
                  · simp only [if_pos e, if_pos Hch.out]
                    omega
                  · simp only [if_neg e]), ((HL.out.drewN _).alloc _).far (fun e => hRL e.symm) _⟩
              · have hne : ((a[i].toNat : Int) != (b[k].toNat : Int)) = true := byt_ne hli hlk hch
                have Hch := hid hch
                clear hch
                go_wp2
                go_quiet (fail)
                go_wp2
                have z1 : w.heap.size < wr.heap.size := HR.out.lt
                have z2 : wm.heap.size < wr.heap.size := HL.out.lt
                have o1 : -9223372036854775808 ≤ (k : Int) + 1 ∧ (k : Int) + 1 ≤ 9223372036854775807 := by omega
                have o2 : -9223372036854775808 ≤ n2 + 1 ∧ n2 + 1 ≤ 9223372036854775807 := by omega
                have o3 : -9223372036854775808 ≤ n3 + 1 ∧ n3 + 1 ≤ 9223372036854775807 := by omega
                have s4 : ((k : Int) + 1).toNat = k + 1 := by omega
                have s5 : 0 ≤ (k : Int) + 1 := by omega
                have s6 : (k : Int) + 1 < 21 := by omega
                have s7 : (k : Int) < 21 := by omega
                have s8 : (0 : Int) ≤ k := by omega
                have s1 := IntWalk.i64_in _ o1
                have s2 := IntWalk.i64_in _ o2
                have s3 := IntWalk.i64_in _ o3
                clear o1 o2 o3 b1 b2 b3
                generalize mid a b i k (k + 1) = n4 at c4
                go_region_held3 (fun W => W.cell? ⟨wm.heap.size, k + 1, none⟩ = some (.int .i64 n2) ∧ W.cell? ⟨w.heap.size, k, none⟩ = some (.int .i64 n3) ∧ W.cell? ⟨w.heap.size, k + 1, none⟩ = some (getv W ⟨w.heap.size, k + 1, none⟩) ∧ W.frozen? ⟨w.heap.size, k + 1, none⟩ = false)
                  (first
                    | exact ⟨c2, c3, getv_some c4, f4⟩
                    | exact ⟨(World.cell?_alloc_past _ _ _ z2).trans c2, (World.cell?_alloc_past _ _ _ z1).trans c3, getv_some ((World.cell?_alloc_past _ _ _ z1).trans c4), (World.frozen?_alloc_past _ _ _ z1).trans f4⟩
                    | exact ⟨(World.cell?_setCell_other _ _ _ _ (fun e => hRL (congrArg Addr.block e))).trans ((World.cell?_alloc_past _ _ _ z2).trans c2), (World.cell?_setCell_other _ _ _ _ (fun e => absurd (congrArg Addr.off e) (by simp))).trans ((World.cell?_alloc_past _ _ _ z1).trans c3), getv_some ((((HR.out.drewN _).alloc _).set_ (k + 1) _).cell (j := k + 1) (by omega)), (((HR.out.drewN _).alloc _).set_ (k + 1) _).frozen (k + 1)⟩)
                  (first
                    | (go_at_call 28; refine (least_any _ _ _ (n2 + 1) (n3 + 1) _ (by exact (World.cell?_alloc_at _ _ _ _ rfl).trans rfl) (by exact (World.cell?_alloc_at _ _ _ _ rfl).trans rfl)).mono ?_; rintro e w' ⟨rfl, rfl⟩))
                clear s1 s2 s3
                go_wp2
                go_roundg (b.size - (k + 1))
                case measure => omega
                case rel => exact ⟨k + 1, by omega, by omega, by go_num, ((BWi.drewN _).alloc _).setCell (Nat.le_refl _) _, (((HR.out.drewN _).alloc _).set_ (k + 1) _).congr (fun j hj => by
                  rw [← HS.out j]
                  by_cases e : j = k + 1
                  · simp only [if_pos e, if_neg Hch.out]
                    omega
                  · simp only [if_neg e]), ((HL.out.drewN _).alloc _).far (fun e => hRL e.symm) _⟩
            · have hlk' : ¬ (k : Int) < b.size := by omega
              obtain rfl : k = b.size := by omega
              go_wp2
              go_roundg (a.size - (i + 1))
              case measure => omega
              case rel => exact ⟨i + 1, by omega, by omega, by go_num, BWi, HR.out.congr (fun j hj => mid_full a b i j)⟩
        · have hli' : ¬ (i : Int) < a.size := by omega
          obtain rfl : i = a.size := by omega
          have c := HB.out.cell (j := b.size) (by omega)
          have HE : Hid (rowf a b a.size b.size = lev a b a.size b.size) := by unfold Hid rowf; rw [if_pos (Nat.le_refl _)]
          have hb20 : (b.size : Int) < 21 := by omega
          go_wp2
          go_ret
          exact ⟨by rw [← HE.out]; rfl, BW⟩
end Go.Proofs.YtlkjimfkapcenaaGreatDoor
