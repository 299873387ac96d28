/- edits of the reference: the edits of two words, by a table. For all words of at most 40 bytes. -/
import Derived.BigQuiet
import Derived.Deep.LoopGhost
import Derived.Deep.QuietTactic
import Derived.Deep.RegionHeld3
import Derived.Test.YtlkjimfkapcenaaProg
import Derived.WalkLawsBesides
import Derived.Test.YtlkjimfkapcenaaQBase
import Derived.Test.YtlkjimfkapcenaaQLaws
namespace Go.Proofs.Ytlkjimfkapcenaa
open Go.RowKit

theorem info_int : (Try.prog.info? 3).map (fun i => (i.zero, i.size, i.bytes)) = some (some (.int .i64 0), 1, 8) := by kernel_rfl
theorem info_ints : (Try.prog.info? 77).map (fun i => (i.zero, i.size, i.bytes)) = some (some (.slice none 0 0), 1, 24) := by kernel_rfl

/-- The table with the first i rows made. -/
def tab (T m i r : Nat) : Value := if r < i then .slice (some ⟨T + 1 + r, 0, none⟩) (m + 1) (m + 1) else .slice none 0 0
/-- Row i up to place k. -/
def rowK (a b : ByteArray) (i k j : Nat) : Int := if j < k then lev a b i j else 0

set_option maxRecDepth 100000 in
set_option maxHeartbeats 4000000 in
theorem refEdits_any (a b : ByteArray) (w : World) (ha : a.size ≤ 40) (hb : b.size ≤ 40) :
    Calls Try.prog 32 #[.string a, .string b] w fun e w' => e = .returned (.int .i64 (lev a b a.size b.size)) ∧ Gr w w' := by
  have ha' : (a.size : Int) ≤ 40 := by omega
  have hb' : (b.size : Int) ≤ 40 := by omega
  obtain ⟨i0, hi0, hz0, hs0, hy0⟩ := info_parts info_ints
  obtain ⟨i1, hi1, hz1, hs1, hy1⟩ := info_parts info_int
  have HI0 := hid hi0
  have HZ0 := hid hz0
  have HS0 := hid hs0
  have HY0 := hid (show i0.bytes * (a.size + 1) ≤ 281474976710656 by rw [hy0]; omega)
  have HI1 := hid hi1
  have HZ1 := hid hz1
  have HS1 := hid hs1
  have HY1 := hid (show i1.bytes * (b.size + 1) ≤ 281474976710656 by rw [hy1]; omega)
  have HA := hid ha
  have HB := hid hb
  clear hi0 hz0 hs0 hy0 hi1 hz1 hs1 hy1 ha hb
  go_enter Try.func32, Try.ntmps32
  go_wp2_with (first
    | ((with_reducible show wpList _ _ _ (⟨some 12, _, _, _, _, _⟩ :: _) _ _); refine wpList_make _ rfl (.tmp 11) (.tmp 11) 70 rfl 77 i0 _ Try.underlying70 HI0.out HZ0.out HS0.out rfl .i64 ((a.size : Int) + 1) (a.size + 1) rfl rfl rfl HY0.out (by have := HA.out; omega) ?_; intro cs hcs hcz; have HCS := hid hcs; have HCZ := hid hcz; clear hcs hcz))
  have HT : Hid (VBlk (w.alloc (.cells cs 77)) w.heap.size 77 (a.size + 1) (tab w.heap.size b.size 0)) :=
    VBlk.new w _ cs _ _ HCS.out (fun j hj => by rw [HCZ.out j hj]; rfl)
  have HZ : Hid ((w.alloc (.cells cs 77)).heap.size = w.heap.size + 1 + 0) := by unfold Hid; simp
  have HG : Hid (Gr w (w.alloc (.cells cs 77))) := (Gr.refl w).alloc _
  clear HCS HCZ
  go_loopg [6] (a.size + 1) (fun gg s6 wr => ∃ i : Nat, i ≤ a.size + 1 ∧ a.size + 1 - i ≤ gg ∧ s6 = .int .i64 i ∧ Gr w wr ∧ Hid (wr.heap.size = w.heap.size + 1 + i) ∧ Hid (VBlk wr w.heap.size 77 (a.size + 1) (tab w.heap.size b.size i)) ∧
    Hid (∀ r, r < i → IBlk wr (w.heap.size + 1 + r) 3 (b.size + 1) (fun j => lev a b r j)))
  case atStart => exact ⟨0, by omega, by omega, rfl, HG.out, HZ, HT, fun r hr => absurd hr (Nat.not_lt_zero _)⟩
  case round =>
    clear HG HZ HT
    obtain ⟨i, hi, hgi, rfl, BW, HZ, HT, HR⟩ := hrel
    by_cases hli : i < a.size + 1
    · have hli' : (i : Int) ≤ a.size := by omega
      have hli2 : (i : Int) < (a.size : Int) + 1 := by omega
      have ct := HT.out.cell (j := i) hli
      have ft := HT.out.frozen i
      rw [show tab w.heap.size b.size i i = .slice none 0 0 by unfold tab; rw [if_neg (Nat.lt_irrefl _)]] at ct
      have hTz : w.heap.size < wr.heap.size := HT.out.lt
      go_wp2_with (first
        | ((with_reducible show wpList _ _ _ (⟨some 24, _, _, _, _, _⟩ :: _) _ _); refine wpList_make _ rfl (.tmp 23) (.tmp 23) 77 rfl 3 i1 _ Try.underlying77 HI1.out HZ1.out HS1.out rfl .i64 ((b.size : Int) + 1) (b.size + 1) rfl rfl rfl HY1.out (by have := HB.out; omega) ?_; intro cs hcs hcz; have HCS := hid hcs; have HCZ := hid hcz; clear hcs hcz))
      have HB0 : Hid (VBlk ((wr.setCell ⟨w.heap.size, i, none⟩ (.slice (some ⟨wr.heap.size, 0, none⟩) (b.size + 1) (b.size + 1))).alloc (.cells cs 3)) w.heap.size 77 (a.size + 1) (fun r => if r = i then .slice (some ⟨wr.heap.size, 0, none⟩) (b.size + 1) (b.size + 1) else tab w.heap.size b.size i r)) := (HT.out.set_ i _).alloc _
      have HB1 : Hid (IBlk ((wr.setCell ⟨w.heap.size, i, none⟩ (.slice (some ⟨wr.heap.size, 0, none⟩) (b.size + 1) (b.size + 1))).alloc (.cells cs 3)) wr.heap.size 3 (b.size + 1) (rowK a b i 0)) := by
        have e : (wr.setCell ⟨w.heap.size, i, none⟩ (.slice (some ⟨wr.heap.size, 0, none⟩) (b.size + 1) (b.size + 1))).heap.size = wr.heap.size := by simp [World.setCell]
        have := IBlk.new (wr.setCell ⟨w.heap.size, i, none⟩ (.slice (some ⟨wr.heap.size, 0, none⟩) (b.size + 1) (b.size + 1))) 3 cs (b.size + 1) (rowK a b i 0) HCS.out (fun j hj => by rw [HCZ.out j hj]; unfold rowK; rw [if_neg (Nat.not_lt_zero _)])
        rw [e] at this
        exact this
      have HB2 : Hid (∀ r, r < i → IBlk ((wr.setCell ⟨w.heap.size, i, none⟩ (.slice (some ⟨wr.heap.size, 0, none⟩) (b.size + 1) (b.size + 1))).alloc (.cells cs 3)) (w.heap.size + 1 + r) 3 (b.size + 1) (fun j => lev a b r j)) :=
        fun r hr => ((HR.out r hr).far (by show w.heap.size + 1 + r ≠ w.heap.size; omega) _).alloc _
      have HB3 : Hid (((wr.setCell ⟨w.heap.size, i, none⟩ (.slice (some ⟨wr.heap.size, 0, none⟩) (b.size + 1) (b.size + 1))).alloc (.cells cs 3)).heap.size = wr.heap.size + 1) := by unfold Hid; simp [World.setCell]
      have HB4 : Hid (Gr w ((wr.setCell ⟨w.heap.size, i, none⟩ (.slice (some ⟨wr.heap.size, 0, none⟩) (b.size + 1) (b.size + 1))).alloc (.cells cs 3))) := (BW.setCell (Nat.le_refl _) _).alloc _
      clear HCS HCZ ct ft HT HR BW
      have hTm : w.heap.size ≠ wr.heap.size := by omega
      have hTle : w.heap.size ≤ wr.heap.size := by omega
      clear hTz
      obtain ⟨wm, rfl⟩ : ∃ wm : World, wm = wr := ⟨_, rfl⟩
      go_loopg [7] (b.size + 1) (fun gg s7 wr => ∃ k : Nat, k ≤ b.size + 1 ∧ b.size + 1 - k ≤ gg ∧ s7 = .int .i64 k ∧ Hid (Gr w wr) ∧ Hid (wr.heap.size = wm.heap.size + 1) ∧
        Hid (VBlk wr w.heap.size 77 (a.size + 1) (fun r => if r = i then .slice (some ⟨wm.heap.size, 0, none⟩) (b.size + 1) (b.size + 1) else tab w.heap.size b.size i r)) ∧
        Hid (∀ r, r < i → IBlk wr (w.heap.size + 1 + r) 3 (b.size + 1) (fun j => lev a b r j)) ∧ Hid (IBlk wr wm.heap.size 3 (b.size + 1) (rowK a b i k)))
      case atStart => exact ⟨0, by omega, by omega, rfl, HB4, HB3, HB0, HB2, HB1⟩
      case round =>
        clear HB0 HB1 HB2 HB3 HB4
        obtain ⟨k, hk, hgk, rfl, BWi, HZi, HTi, HRi, HCi⟩ := hrel
        by_cases hlk : k < b.size + 1
        · have hlk' : (k : Int) ≤ b.size := by omega
          have hlk2 : (k : Int) < (b.size : Int) + 1 := by omega
          have ct := HTi.out.cell (j := i) hli
          rw [if_pos rfl] at ct
          have c4 := HCi.out.cell (j := k) hlk
          have f4 := HCi.out.frozen k
          have p1 : (0 : Int) ≤ i := by omega
          have p2 : (0 : Int) ≤ k := by omega
          generalize rowK a b i k k = n4 at c4
          rcases (show i = 0 ∨ (i ≠ 0 ∧ k = 0) ∨ (i ≠ 0 ∧ k ≠ 0) by omega) with hik | ⟨hik, hkk⟩ | ⟨hik, hkk⟩
          · have HV : Hid ((lev a b i k : Int) = (i : Int) + k) := by
              unfold Hid
              subst hik
              simp [lev]
            have hb1 : ((i : Int) == 0) = true := by simp [hik]
            clear hik
            go_wp2
            go_roundg (b.size + 1 - (k + 1))
            case measure => omega
            case rel =>
              refine ⟨k + 1, by omega, by omega, by go_num, BWi.out.setCell hTle _, ?_, HTi.out.far hTm _, fun r hr => (HRi.out r hr).far (by show w.heap.size + 1 + r ≠ wm.heap.size; rw [HZ.out]; omega) _, (HCi.out.set_ k _).congr (fun j hj => ?_)⟩
              · unfold Hid; rw [← HZi.out]; simp [World.setCell]
              · by_cases e : j = k
                · subst e
                  simp only [↓reduceIte, rowK, Nat.lt_succ_self, HV.out]
                · simp only [if_neg e, rowK]
                  by_cases e2 : j < k
                  · rw [if_pos e2, if_pos (by omega)]
                  · rw [if_neg e2, if_neg (by omega)]
          · have HV : Hid ((lev a b i k : Int) = (i : Int) + k) := by
              unfold Hid
              subst hkk
              simp [lev_zero]
            have hb1 : ((i : Int) == 0) = false := by simp [hik]
            have hb2 : ((k : Int) == 0) = true := by simp [hkk]
            clear hik hkk
            go_wp2
            go_roundg (b.size + 1 - (k + 1))
            case measure => omega
            case rel =>
              refine ⟨k + 1, by omega, by omega, by go_num, BWi.out.setCell hTle _, ?_, HTi.out.far hTm _, fun r hr => (HRi.out r hr).far (by show w.heap.size + 1 + r ≠ wm.heap.size; rw [HZ.out]; omega) _, (HCi.out.set_ k _).congr (fun j hj => ?_)⟩
              · unfold Hid; rw [← HZi.out]; simp [World.setCell]
              · by_cases e : j = k
                · subst e
                  simp only [↓reduceIte, rowK, Nat.lt_succ_self, HV.out]
                · simp only [if_neg e, rowK]
                  by_cases e2 : j < k
                  · rw [if_pos e2, if_pos (by omega)]
                  · rw [if_neg e2, if_neg (by omega)]
          · have hb1 : ((i : Int) == 0) = false := by simp [hik]
            have hb2 : ((k : Int) == 0) = false := by simp [hkk]
            have HV := hid (lev_pred a b (i := i) (k := k) (by omega) (by omega))
            have ct1 := HTi.out.cell (j := i - 1) (by omega)
            rw [if_neg (by omega), show tab w.heap.size b.size i (i - 1) = .slice (some ⟨w.heap.size + 1 + (i - 1), 0, none⟩) (b.size + 1) (b.size + 1) by unfold tab; rw [if_pos (by omega)]] at ct1
            have c1 := (HRi.out (i - 1) (by omega)).cell (j := k - 1) (by omega)
            have c2 := (HRi.out (i - 1) (by omega)).cell (j := k) (by omega)
            have c3 := HCi.out.cell (j := k - 1) (by omega)
            rw [show rowK a b i k (k - 1) = lev a b i (k - 1) by unfold rowK; rw [if_pos (by omega)]] at c3
            have b1 := lev_le a b (i - 1) (k - 1)
            have b2 := lev_le a b (i - 1) k
            have b3 := lev_le a b i (k - 1)
            have g1 : i - 1 < a.size := by omega
            have g2 : k - 1 < b.size := by omega
            have hPm : w.heap.size + 1 + (i - 1) ≠ wm.heap.size := by rw [HZ.out]; omega
            generalize lev a b (i - 1) (k - 1) = m1 at c1 b1 HV
            generalize lev a b (i - 1) k = m2 at c2 b2 HV
            generalize lev a b i (k - 1) = m3 at c3 b3 HV
            generalize w.heap.size + 1 + (i - 1) = Pb at ct1 c1 c2 hPm
            have o1 : -9223372036854775808 ≤ (i : Int) - 1 ∧ (i : Int) - 1 ≤ 9223372036854775807 := by omega
            have o2 : -9223372036854775808 ≤ (k : Int) - 1 ∧ (k : Int) - 1 ≤ 9223372036854775807 := by omega
            have o3 : -9223372036854775808 ≤ (m2 : Int) + 1 ∧ (m2 : Int) + 1 ≤ 9223372036854775807 := by omega
            have o4 : -9223372036854775808 ≤ (m3 : Int) + 1 ∧ (m3 : Int) + 1 ≤ 9223372036854775807 := by omega
            have t1 : ((i : Int) - 1).toNat = i - 1 := by omega
            have t2 : ((k : Int) - 1).toNat = k - 1 := by omega
            have u1 : (0 : Int) ≤ (i : Int) - 1 := by omega
            have u2 : (0 : Int) ≤ (k : Int) - 1 := by omega
            have u3 : (i : Int) - 1 < (a.size : Int) + 1 := by omega
            have u4 : (k : Int) - 1 < (b.size : Int) + 1 := by omega
            have u5 : (i : Int) - 1 < a.size := by omega
            have u6 : (k : Int) - 1 < b.size := by omega
            have u7 : (1 : Int) ≤ i := by omega
            have u8 : (1 : Int) ≤ k := by omega
            have s1 := IntWalk.i64_in _ o1
            have s2 := IntWalk.i64_in _ o2
            have s3 := IntWalk.i64_in _ o3
            have s4 := IntWalk.i64_in _ o4
            clear o1 o2 o3 o4
            by_cases hch : byt a (i - 1) = byt b (k - 1)
            · have hne : ((a[i - 1].toNat : Int) != (b[k - 1].toNat : Int)) = false := byt_eq g1 g2 hch
              have Hch := hid hch
              clear hch
              go_wp2
              go_quiet (fail)
              go_wp2
              go_region_held3 (fun W => W.cell? ⟨w.heap.size, i, none⟩ = some (.slice (some ⟨wm.heap.size, 0, none⟩) (b.size + 1) (b.size + 1)) ∧ W.cell? ⟨w.heap.size, i - 1, none⟩ = some (.slice (some ⟨Pb, 0, none⟩) (b.size + 1) (b.size + 1)) ∧ W.cell? ⟨Pb, k, none⟩ = some (.int .i64 m2) ∧ W.cell? ⟨wm.heap.size, k - 1, none⟩ = some (.int .i64 m3) ∧ W.cell? ⟨wm.heap.size, k, none⟩ = some (getv W ⟨wm.heap.size, k, none⟩) ∧ W.frozen? ⟨wm.heap.size, k, none⟩ = false)
                (first
                  | exact ⟨ct, ct1, c2, c3, getv_some c4, f4⟩
                  | exact ⟨(World.cell?_setCell_other _ _ _ _ (fun e => hTm (congrArg Addr.block e).symm)).trans ct, (World.cell?_setCell_other _ _ _ _ (fun e => hTm (congrArg Addr.block e).symm)).trans ct1, (World.cell?_setCell_other _ _ _ _ (fun e => hPm (congrArg Addr.block e).symm)).trans c2, (World.cell?_setCell_other _ _ _ _ (fun e => absurd (congrArg Addr.off e) (by simp; omega))).trans c3, getv_some (((HCi.out.drewN _).set_ k _).cell (j := k) hlk), ((HCi.out.drewN _).set_ k _).frozen k⟩)
                (fail)
              clear s1 s2 s3 s4
              go_wp2
              all_goals
                go_roundg (b.size + 1 - (k + 1))
                case measure => omega
                case rel =>
                  refine ⟨k + 1, by omega, by omega, by go_num, (BWi.out.drewN _).setCell hTle _, ?_, (HTi.out.drewN _).far hTm _, fun r hr => ((HRi.out r hr).drewN _).far (by show w.heap.size + 1 + r ≠ wm.heap.size; rw [HZ.out]; omega) _, ((HCi.out.drewN _).set_ k _).congr (fun j hj => ?_)⟩
                  · unfold Hid; rw [← HZi.out]; simp [World.setCell]
                  · by_cases e : j = k
                    · subst e
                      simp only [↓reduceIte, rowK, Nat.lt_succ_self, HV.out, if_pos Hch.out]
                      omega
                    · simp only [if_neg e, rowK]
                      by_cases e2 : j < k
                      · rw [if_pos e2, if_pos (by omega)]
                      · rw [if_neg e2, if_neg (by omega)]
            · have hne : ((a[i - 1].toNat : Int) != (b[k - 1].toNat : Int)) = true := byt_ne g1 g2 hch
              have Hch := hid hch
              clear hch
              go_wp2
              go_quiet (fail)
              go_wp2
              go_region_held3 (fun W => W.cell? ⟨w.heap.size, i, none⟩ = some (.slice (some ⟨wm.heap.size, 0, none⟩) (b.size + 1) (b.size + 1)) ∧ W.cell? ⟨w.heap.size, i - 1, none⟩ = some (.slice (some ⟨Pb, 0, none⟩) (b.size + 1) (b.size + 1)) ∧ W.cell? ⟨Pb, k, none⟩ = some (.int .i64 m2) ∧ W.cell? ⟨wm.heap.size, k - 1, none⟩ = some (.int .i64 m3) ∧ W.cell? ⟨wm.heap.size, k, none⟩ = some (getv W ⟨wm.heap.size, k, none⟩) ∧ W.frozen? ⟨wm.heap.size, k, none⟩ = false)
                (first
                  | exact ⟨ct, ct1, c2, c3, getv_some c4, f4⟩
                  | exact ⟨(World.cell?_setCell_other _ _ _ _ (fun e => hTm (congrArg Addr.block e).symm)).trans ct, (World.cell?_setCell_other _ _ _ _ (fun e => hTm (congrArg Addr.block e).symm)).trans ct1, (World.cell?_setCell_other _ _ _ _ (fun e => hPm (congrArg Addr.block e).symm)).trans c2, (World.cell?_setCell_other _ _ _ _ (fun e => absurd (congrArg Addr.off e) (by simp; omega))).trans c3, getv_some (((HCi.out.drewN _).set_ k _).cell (j := k) hlk), ((HCi.out.drewN _).set_ k _).frozen k⟩)
                (fail)
              clear s1 s2 s3 s4
              go_wp2
              all_goals
                go_roundg (b.size + 1 - (k + 1))
                case measure => omega
                case rel =>
                  refine ⟨k + 1, by omega, by omega, by go_num, (BWi.out.drewN _).setCell hTle _, ?_, (HTi.out.drewN _).far hTm _, fun r hr => ((HRi.out r hr).drewN _).far (by show w.heap.size + 1 + r ≠ wm.heap.size; rw [HZ.out]; omega) _, ((HCi.out.drewN _).set_ k _).congr (fun j hj => ?_)⟩
                  · unfold Hid; rw [← HZi.out]; simp [World.setCell]
                  · by_cases e : j = k
                    · subst e
                      simp only [↓reduceIte, rowK, Nat.lt_succ_self, HV.out, if_neg Hch.out]
                      omega
                    · simp only [if_neg e, rowK]
                      by_cases e2 : j < k
                      · rw [if_pos e2, if_pos (by omega)]
                      · rw [if_neg e2, if_neg (by omega)]
        · have hlk' : ¬ (k : Int) ≤ b.size := by omega
          obtain rfl : k = b.size + 1 := by omega
          go_wp2
          go_roundg (a.size + 1 - (i + 1))
          case measure => omega
          case rel =>
            refine ⟨i + 1, by omega, by omega, by go_num, BWi.out, ?_, HTi.out.congr (fun r hr => ?_), fun r hr => ?_⟩
            · unfold Hid; rw [HZi.out, HZ.out]; omega
            · unfold tab
              by_cases e : r = i
              · rw [if_pos e, if_pos (by omega), HZ.out, e]
              · by_cases e2 : r < i
                · rw [if_neg e, if_pos e2, if_pos (by omega)]
                · rw [if_neg e, if_neg e2, if_neg (by omega)]
            · by_cases e : r = i
              · subst e
                have h := HCi.out
                rw [HZ.out] at h
                exact h.congr (fun j hj => by unfold rowK; rw [if_pos hj])
              · exact HRi.out r (by omega)
    · have hli' : ¬ (i : Int) ≤ a.size := by omega
      obtain rfl : i = a.size + 1 := by omega
      have ct := HT.out.cell (j := a.size) (by omega)
      rw [show tab w.heap.size b.size (a.size + 1) a.size = .slice (some ⟨w.heap.size + 1 + a.size, 0, none⟩) (b.size + 1) (b.size + 1) by unfold tab; rw [if_pos (by omega)]] at ct
      have cr := (HR.out a.size (by omega)).cell (j := b.size) (by omega)
      have q1 : (a.size : Int) < (a.size : Int) + 1 := by omega
      have q2 : (b.size : Int) < (b.size : Int) + 1 := by omega
      go_wp2
      go_ret
      exact ⟨rfl, BW⟩
end Go.Proofs.Ytlkjimfkapcenaa
