/- How numbers agree, in the reference. For all valid numbers. -/
import Derived.Test.YtlkjimfkapcenaaNumbers
namespace Go.Proofs.Ytlkjimfkapcenaa
open Go.RowKit

set_option maxRecDepth 100000 in
set_option maxHeartbeats 2000000 in
theorem refNumbers_any (r : Rul) (p q : ByteArray) (w : World)
    (ha : p.size = 0 ∨ p.size = 9) (hb : q.size = 0 ∨ q.size = 9) :
    Calls Try.prog 62 #[r.val, .string p, .string q] w fun e w' => e = .returned (.int .u8 (numN r.digits p q)) ∧ Gr w w' := by
  obtain ⟨l, dg, dy, tg⟩ := r
  unfold Rul.val
  dsimp only at ha hb ⊢
  by_cases z1 : p.size = 0
  · have HE : Hid (numN dg p q = 1) := by unfold Hid numN; rw [if_pos (Or.inl z1)]
    obtain rfl : p = ByteArray.empty := ByteArray.size_eq_zero_iff.1 z1
    rw [HE.out]
    clear ha hb z1
    go_enter Try.func62, Try.ntmps62
    go_wp2
    go_ret
    refine ⟨rfl, ?_⟩
    (repeat (first | with_reducible exact Gr.refl _ | with_reducible refine Gr.alloc ?_ _ | with_reducible refine Gr.setCell ?_ (by simp) _ | with_reducible refine Gr.setCell ?_ (by simp; omega) _ | with_reducible refine Gr.drew ?_ | with_reducible refine Gr.drewN ?_ _))
  by_cases z2 : q.size = 0
  · have HE : Hid (numN dg p q = 1) := by unfold Hid numN; rw [if_pos (Or.inr z2)]
    obtain rfl : q = ByteArray.empty := ByteArray.size_eq_zero_iff.1 z2
    rw [HE.out]
    have t1 := toList_ne z1
    have t2 : ¬ p = ByteArray.empty := fun h => z1 (ByteArray.size_eq_zero_iff.2 h)
    clear ha hb z1 z2
    go_enter Try.func62, Try.ntmps62
    go_wp2
    go_ret
    refine ⟨rfl, ?_⟩
    (repeat (first | with_reducible exact Gr.refl _ | with_reducible refine Gr.alloc ?_ _ | with_reducible refine Gr.setCell ?_ (by simp) _ | with_reducible refine Gr.setCell ?_ (by simp; omega) _ | with_reducible refine Gr.drew ?_ | with_reducible refine Gr.drewN ?_ _))
  have t1 := toList_ne z1
  have t2 : ¬ p = ByteArray.empty := fun h => z1 (ByteArray.size_eq_zero_iff.2 h)
  have t3 := toList_ne z2
  have t4 : ¬ q = ByteArray.empty := fun h => z2 (ByteArray.size_eq_zero_iff.2 h)
  have s1 : 9 ≤ p.size := by omega
  have s2 : 9 ≤ q.size := by omega
  have s3 : (9 : Int) ≤ p.size := by omega
  have s4 : (9 : Int) ≤ q.size := by omega
  have HE : Hid (numN dg p q = if offN p q 9 = 0 then 3 else if (offN p q 9 : Int) ≤ dg then 2 else 0) := by unfold Hid numN; rw [if_neg (by omega)]
  have t5 : p.toList.isEmpty = false := by simpa using t1
  have t6 : q.toList.isEmpty = false := by simpa using t3
  clear ha hb z1 z2
  go_enter Try.func62, Try.ntmps62
  go_wp2
  clear t1 t2 t3 t4 t5 t6
  go_loopg [7, 8] 9 (fun gg o i wr => ∃ k : Nat, k ≤ 9 ∧ 9 - k ≤ gg ∧ i = .int .i64 k ∧ o = .int .i64 (offN p q k : Nat) ∧ Gr w wr ∧ wr.cell? ⟨w.heap.size, 1, none⟩ = some (.int .i64 dg))
  case atStart => exact ⟨0, by omega, by omega, rfl, rfl, (Gr.refl w).alloc _, (World.cell?_alloc_at _ _ _ _ rfl).trans rfl⟩
  case round =>
    obtain ⟨k, hk, hg, rfl, rfl, BW, f1⟩ := hrel
    have hle := offN_le p q k
    by_cases hlt : k < 9
    · have i1 : (k : Int) < 9 := by omega
      have i2 : (0 : Int) ≤ k := by omega
      have i3 : k < p.size := by omega
      have i4 : k < q.size := by omega
      have i5 : (k : Int) < p.size := by omega
      have i6 : (k : Int) < q.size := by omega
      have hstep : offN p q (k + 1) = offN p q k + if byt p k = byt q k then 0 else 1 := rfl
      have HS := hid hstep
      clear hstep
      generalize offN p q k = o at hle HS
      have hle' : (o : Int) ≤ 9 := by omega
      by_cases hch : byt p k = byt q k
      · have hne : ((p[k].toNat : Int) != (q[k].toNat : Int)) = false := byt_eq i3 i4 hch
        have Hch := hid hch
        clear hch
        go_wp2
        go_quiet (fail)
        go_wp2
        go_roundg (9 - (k + 1))
        case measure => omega
        case rel => exact ⟨k + 1, by omega, by omega, by go_num, by rw [HS.out, if_pos Hch.out]; rfl, BW.drewN _, f1⟩
      · have hne : ((p[k].toNat : Int) != (q[k].toNat : Int)) = true := byt_ne i3 i4 hch
        have Hch := hid hch
        clear hch
        go_wp2
        go_quiet (fail)
        go_wp2
        go_roundg (9 - (k + 1))
        case measure => omega
        case rel => exact ⟨k + 1, by omega, by omega, by go_num, by rw [HS.out, if_neg Hch.out]; go_num, BW.drewN _, f1⟩
    · obtain rfl : k = 9 := by omega
      generalize offN p q 9 = o at hle HE
      by_cases g0 : o = 0
      · have EN := hid (HE.out.trans (if_pos g0))
        clear HE
        subst g0
        go_wp2
        go_ret
        exact ⟨by rw [EN.out]; rfl, BW⟩
      · have EN := hid (HE.out.trans (if_neg g0))
        clear HE
        have g0' : ((o : Int) == 0) = false := by simp; omega
        by_cases g1 : (o : Int) ≤ dg
        · have EM := hid (EN.out.trans (if_pos g1))
          clear EN
          go_wp2
          go_ret
          exact ⟨by rw [EM.out]; rfl, BW⟩
        · have EM := hid (EN.out.trans (if_neg g1))
          clear EN
          have g1' : dg < (o : Int) := by omega
          go_wp2
          go_ret
          exact ⟨by rw [EM.out]; rfl, BW⟩
end Go.Proofs.Ytlkjimfkapcenaa
