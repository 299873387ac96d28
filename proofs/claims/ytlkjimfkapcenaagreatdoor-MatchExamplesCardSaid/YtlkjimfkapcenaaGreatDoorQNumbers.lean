/- How numbers agree, in the package match and in its reference. For all valid numbers. How numbers agree, in the reference. For all valid numbers. -/
import Derived.BigQuiet
import Derived.Deep.QuietTactic
import Derived.Test.YtlkjimfkapcenaaGreatDoorQBase
import Derived.Test.YtlkjimfkapcenaaGreatDoorQWithin
namespace Go.Proofs.YtlkjimfkapcenaaGreatDoor
open Go.RowKit

/-- In how many of their first k bytes two texts differ. -/
def offN (p q : ByteArray) : Nat → Nat
  | 0 => 0
  | k + 1 => offN p q k + if byt p k = byt q k then 0 else 1
theorem offN_le (p q : ByteArray) : ∀ k, offN p q k ≤ k
  | 0 => Nat.le_refl _
  | k + 1 => by
    have := offN_le p q k
    unfold offN
    split <;> omega
/-- How numbers agree. -/
def numN (digits : Int) (p q : ByteArray) : Int := if p.size = 0 ∨ q.size = 0 then 1 else if offN p q 9 = 0 then 3 else if (offN p q 9 : Int) ≤ digits then 2 else 0
def NumF (g : Nat) (wr : World) (d : Int) (p q : ByteArray) : Prop := wr.cell? ⟨g, 1, none⟩ = some (.int .i64 d) ∧ wr.cell? ⟨g + 1, 5, none⟩ = some (.string p) ∧ wr.cell? ⟨g + 2, 5, none⟩ = some (.string q)
/-- What lies in the first, the second, the third of three new boxes. -/
theorem cell3_a (w : World) (C : Array Value) (T : TypeId) (o2 o3 : Obj) (j : Nat) {v : Value} (h : C[j]? = some v) : (((w.alloc (.cells C T)).alloc o2).alloc o3).cell? ⟨w.heap.size, j, none⟩ = some v :=
  (World.cell?_alloc_past _ _ _ (by simp; omega)).trans ((World.cell?_alloc_past _ _ _ (by simp)).trans ((World.cell?_alloc_at _ _ _ _ rfl).trans h))
theorem cell3_b (w : World) (o1 : Obj) (C : Array Value) (T : TypeId) (o3 : Obj) (j : Nat) {v : Value} (h : C[j]? = some v) : (((w.alloc o1).alloc (.cells C T)).alloc o3).cell? ⟨w.heap.size + 1, j, none⟩ = some v :=
  (World.cell?_alloc_past _ _ _ (by simp)).trans ((World.cell?_alloc_at _ _ _ _ (by simp)).trans h)
theorem cell3_c (w : World) (o1 o2 : Obj) (C : Array Value) (T : TypeId) (j : Nat) {v : Value} (h : C[j]? = some v) : (((w.alloc o1).alloc o2).alloc (.cells C T)).cell? ⟨w.heap.size + 2, j, none⟩ = some v :=
  (World.cell?_alloc_at _ _ _ _ (by simp)).trans h
theorem toList_ne {s : ByteArray} (h : s.size ≠ 0) : ¬ s.toList = [] := fun e => h ((toList_nil s).1 e)

set_option maxRecDepth 100000 in
set_option maxHeartbeats 2000000 in
theorem numbers_any (r : Rul) (a b : Rcd) (A : Option Addr) (n c : Nat) (B : Option Addr) (m d : Nat) (A' : Option Addr) (n' c' : Nat) (B' : Option Addr) (m' d' : Nat) (w : World)
    (ha : a.number.size = 0 ∨ a.number.size = 9) (hb : b.number.size = 0 ∨ b.number.size = 9) :
    Calls Tryz.prog 31 #[r.val, a.val A n c B m d, b.val A' n' c' B' m' d'] w fun e w' => e = .returned (.int .u8 (numN r.digits a.number b.number)) ∧ Gr w w' := by
  obtain ⟨l, dg, dy, tg⟩ := r
  obtain ⟨id, names, suf, lo, hi, p, tw, stays⟩ := a
  obtain ⟨id', names', suf', lo', hi', q, tw', stays'⟩ := b
  unfold Rul.val Rcd.val
  dsimp only at ha hb ⊢
  by_cases z1 : p.size = 0
  · have HE : Hid (numN dg p q = 1) := by unfold Hid numN; rw [if_pos (Or.inl z1)]
    obtain rfl : p = ByteArray.empty := ByteArray.size_eq_zero_iff.1 z1
    rw [HE.out]
    clear ha hb z1
    go_enter Tryz.func31, Tryz.ntmps31
    go_wp2
    go_ret
    refine ⟨rfl, ?_⟩
    (repeat (first | with_reducible exact Gr.refl _ | with_reducible refine Gr.alloc ?_ _ | with_reducible refine Gr.setCell ?_ (by simp) _ | with_reducible refine Gr.setCell ?_ (by simp; omega) _ | with_reducible refine Gr.drew ?_ | with_reducible refine Gr.drewN ?_ _))
  by_cases z2 : q.size = 0
  · have HE : Hid (numN dg p q = 1) := by unfold Hid numN; rw [if_pos (Or.inr z2)]
    obtain rfl : q = ByteArray.empty := ByteArray.size_eq_zero_iff.1 z2
    rw [HE.out]
    have t1 := toList_ne z1
    have t2 : ¬ p = ByteArray.empty := fun h => z1 (ByteArray.size_eq_zero_iff.2 h)
    clear ha hb z1 z2
    go_enter Tryz.func31, Tryz.ntmps31
    go_wp2
    go_ret
    refine ⟨rfl, ?_⟩
    (repeat (first | with_reducible exact Gr.refl _ | with_reducible refine Gr.alloc ?_ _ | with_reducible refine Gr.setCell ?_ (by simp) _ | with_reducible refine Gr.setCell ?_ (by simp; omega) _ | with_reducible refine Gr.drew ?_ | with_reducible refine Gr.drewN ?_ _))
  have t1 := toList_ne z1
  have t2 : ¬ p = ByteArray.empty := fun h => z1 (ByteArray.size_eq_zero_iff.2 h)
  have t3 := toList_ne z2
  have t4 : ¬ q = ByteArray.empty := fun h => z2 (ByteArray.size_eq_zero_iff.2 h)
  have s1 : 9 ≤ p.size := by omega
  have s2 : 9 ≤ q.size := by omega
  have s3 : (9 : Int) ≤ p.size := by omega
  have s4 : (9 : Int) ≤ q.size := by omega
  have HE : Hid (numN dg p q = if offN p q 9 = 0 then 3 else if (offN p q 9 : Int) ≤ dg then 2 else 0) := by unfold Hid numN; rw [if_neg (by omega)]
  have t5 : p.toList.isEmpty = false := by simpa using t1
  have t6 : q.toList.isEmpty = false := by simpa using t3
  clear ha hb z1 z2
  go_enter Tryz.func31, Tryz.ntmps31
  go_wp2
  clear t1 t2 t3 t4 t5 t6
  go_loopg [7, 19] 9 (fun gg o i wr => ∃ k : Nat, k ≤ 9 ∧ 9 - k ≤ gg ∧ i = .int .i64 k ∧ o = .int .i64 (offN p q k : Nat) ∧ Gr w wr ∧ NumF w.heap.size wr dg p q)
  case atStart => exact ⟨0, by omega, by omega, rfl, rfl, (((Gr.refl w).alloc _).alloc _).alloc _, cell3_a _ _ _ _ _ _ rfl, cell3_b _ _ _ _ _ _ rfl, cell3_c _ _ _ _ _ _ rfl⟩
  case round =>
    obtain ⟨k, hk, hg, rfl, rfl, BW, f1, f2, f3⟩ := hrel
    have hle := offN_le p q k
    by_cases hlt : k < 9
    · have i1 : (k : Int) < 9 := by omega
      have i2 : (0 : Int) ≤ k := by omega
      have i3 : k < p.size := by omega
      have i4 : k < q.size := by omega
      have i5 : (k : Int) < p.size := by omega
      have i6 : (k : Int) < q.size := by omega
      have hstep : offN p q (k + 1) = offN p q k + if byt p k = byt q k then 0 else 1 := rfl
      have HS := hid hstep
      clear hstep
      generalize offN p q k = o at hle HS
      have hle' : (o : Int) ≤ 9 := by omega
      by_cases hch : byt p k = byt q k
      · have hne : ((p[k].toNat : Int) != (q[k].toNat : Int)) = false := byt_eq i3 i4 hch
        have Hch := hid hch
        clear hch
        go_wp2
        go_quiet (fail)
        go_wp2
        go_roundg (9 - (k + 1))
        case measure => omega
        case rel => exact ⟨k + 1, by omega, by omega, by go_num, by rw [HS.out, if_pos Hch.out]; rfl, BW.drewN _, f1, f2, f3⟩
      · have hne : ((p[k].toNat : Int) != (q[k].toNat : Int)) = true := byt_ne i3 i4 hch
        have Hch := hid hch
        clear hch
        go_wp2
        go_quiet (fail)
        go_wp2
        go_roundg (9 - (k + 1))
        case measure => omega
        case rel => exact ⟨k + 1, by omega, by omega, by go_num, by rw [HS.out, if_neg Hch.out]; go_num, BW.drewN _, f1, f2, f3⟩
    · obtain rfl : k = 9 := by omega
      generalize offN p q 9 = o at hle HE
      by_cases g0 : o = 0
      · have EN := hid (HE.out.trans (if_pos g0))
        clear HE
        subst g0
        go_wp2
        go_ret
        exact ⟨by rw [EN.out]; rfl, BW⟩
      · have EN := hid (HE.out.trans (if_neg g0))
        clear HE
        have g0' : ((o : Int) == 0) = false := by simp; omega
        by_cases g1 : (o : Int) ≤ dg
        · have EM := hid (EN.out.trans (if_pos g1))
          clear EN
          go_wp2
          go_ret
          exact ⟨by rw [EM.out]; rfl, BW⟩
        · have EM := hid (EN.out.trans (if_neg g1))
          clear EN
          have g1' : dg < (o : Int) := by omega
          go_wp2
          go_ret
          exact ⟨by rw [EM.out]; rfl, BW⟩
end Go.Proofs.YtlkjimfkapcenaaGreatDoor
namespace Go.Proofs.YtlkjimfkapcenaaGreatDoor
open Go.RowKit

end Go.Proofs.YtlkjimfkapcenaaGreatDoor
