/- The merge in Go's stable sort, at elements of k cells. For any order. The merge in Go's stable sort, at elements of k cells: the cut, the rotation, the two merges. For any order. -/
import Derived.Deep.CutRange
import Derived.Deep.DeepCutAuto
import Derived.WalkArith
import Derived.Test.YtlkjimfkapcenaaGreatDoorQSrtP
namespace Go.Proofs.YtlkjimfkapcenaaGreatDoor
open Go.Shelf Go.RowKit Go.Lib Go.Sort
variable {P : Program} {α : Type} [Inhabited α]

set_option maxHeartbeats 4000000 in
set_option maxRecDepth 1000000 in
theorem symMerge_left {k : Nat} (L : SrtP P k) (enc : α → List Value) (cf : α → α → Int) (g : Nat) (cb : Array Value) (blk off cap a b : Nat) (d0 d : Array α) (w0 w : World) (Q : α → α → Prop) (ht : ∀ x y z, Q x y → Q y z → Q x z)
    (eg : ∀ args w, (callFunc g args).run P w = .ok (.enter g args) w) (hC : CmpLays P g cb enc k cf blk off d0.size w0)
    (R : RowK enc k w0 blk off d0) (hs : d0.size = d.size) (S : SWK enc k w0 blk off d w) (hm : a + 1 < b) (hb : b ≤ d.size) (hsz : d.size < 2305843009213693952) (T : Two Q (ltOf cf) a (a + 1) b d) :
    Calls P 104 #[.slice (some ⟨blk, off, none⟩) d.size cap, .int .i64 a, .int .i64 (a + 1 : Nat), .int .i64 b, .func (.func g) #[] cb] w fun e w' => e = .returned (.tuple #[]) ∧ ∃ d', PermIn a b d d' ∧ RIn Q a b d' ∧ SWK enc k w0 blk off d' w' := by
  have mixed := L.mixed; have t0 := L.t0; have a0 := L.a0; have z0 := L.z0; have v0 := L.v0; have t3 := L.t3; have a3 := L.a3; have z3 := L.z3; have v3 := L.v3; have t4 := L.t4; have a4 := L.a4; have z4 := L.z4; have v4 := L.v4; have t22 := L.t22; have a22 := L.a22; have z22 := L.z22; have v22 := L.v22; have t25 := L.t25; have a25 := L.a25; have z25 := L.z25; have v25 := L.v25; have aE := L.aE; have zE := L.zE; have t9 := L.t9; have a9 := L.a9; have z9 := L.z9; have v9 := L.v9
  have S0 : Aside (SWK enc k w0 blk off d w) := S
  have HT : Hid (Two Q (ltOf cf) a (a + 1) b d) := T
  have HC : Aside _ := hC
  have HQ : Hid (∀ x y z, Q x y → Q y z → Q x z) := ht
  clear S T hC ht
  have r0 : IntKind.i64.wrap ((a : Int) + 1 - (a : Int)) = 1 := by rw [IntKind.wrap_i64]; omega
  go_enter L.fSym, Tryz.ntmps104
  go_wp2
  go_loopg [10, 11] (b - (a + 1)) (fun kx s10 s11 wr => ∃ i j : Nat, s10 = .int .i64 i ∧ s11 = .int .i64 j ∧ a + 1 ≤ i ∧ i ≤ j ∧ j ≤ b ∧ j - i ≤ kx ∧ Hid ((i = a + 1 ∨ ltOf cf d[i - 1]! d[a]! = true) ∧ (j = b ∨ ltOf cf d[j]! d[a]! = false)) ∧ Aside (SWK enc k w0 blk off d wr))
  case atStart => exact ⟨a + 1, b, by first | rfl | simp, rfl, by omega, by omega, by omega, by omega, hid ⟨.inl rfl, .inl rfl⟩, S0⟩
  case round =>
    clear S0
    obtain ⟨i, j, rfl, rfl, hi, hij, hjb, hkx, HB, S1⟩ := hrel
    by_cases hlt : i < j
    · have hltz : (i : Int) < (j : Int) := by omega
      obtain ⟨h, hh⟩ : ∃ h : Nat, h = (i + j) / 2 := ⟨_, rfl⟩
      have rh : ((i : Int) + (j : Int)) / 2 = (h : Int) := by omega
      have h1 : i ≤ h := by omega
      have h2 : h < j := by omega
      have rw1 : IntKind.i64.wrap ((i : Int) + (j : Int)) = (i : Int) + (j : Int) := by rw [IntKind.wrap_i64]; omega
      have rw2 : IntKind.u64.wrap ((i : Int) + (j : Int)) = (i : Int) + (j : Int) := by rw [IntKind.wrap_u64]; omega
      have rw3 : IntKind.i64.wrap (h : Int) = (h : Int) := by rw [IntKind.wrap_i64]; omega
      have rw4 : IntKind.u64.wrap (h : Int) = (h : Int) := by rw [IntKind.wrap_u64]; omega
      clear hh
      have ba : (h : Int) < (d.size : Int) := by omega
      have bb : (a : Int) < (d.size : Int) := by omega
      obtain ⟨x, hx⟩ : ∃ x, x = d[h]! := ⟨_, rfl⟩
      obtain ⟨y, hy⟩ : ∃ x, x = d[a]! := ⟨_, rfl⟩
      have la := S1.out.ld R (by omega) P h (by omega)
      have lb := S1.out.ld R (by omega) P a (by omega)
      rw [← hx] at la
      rw [← hy] at lb
      have hc := S1.out.cmp HC.out (by omega) x y
      have HXY : Hid (x = d[h]! ∧ y = d[a]!) := ⟨hx, hy⟩
      clear hx hy
      cases hlv : ltOf cf x y with
      | true =>
        have hv : cf x y < 0 := of_decide_eq_true hlv
        have hd : decide (cf x y < 0) = true := hlv
        go_wp2_with fail
        go_quiet_grown (first | (go_at_fn g; refine Calls.grown_of (hc _ _)))
        have S2 : Aside (SWK enc k w0 blk off d (grow (wr.drewN nq) osq)) := S1.out.grown nq osq
        clear la lb hc S1
        generalize grow (wr.drewN nq) osq = w2 at S2 ⊢
        go_wp2
        go_roundg (j - (h + 1))
        case measure => omega
        case rel => exact ⟨h + 1, j, by first | rfl | simp, rfl, by omega, by omega, by omega, Nat.le_refl _, hid ⟨.inr (by simp only [Nat.add_sub_cancel]; rw [← HXY.out.1, ← HXY.out.2]; exact hlv), HB.out.2⟩, S2⟩
      | false =>
        have hv : ¬ cf x y < 0 := of_decide_eq_false hlv
        have hd : decide (cf x y < 0) = false := hlv
        go_wp2_with fail
        go_quiet_grown (first | (go_at_fn g; refine Calls.grown_of (hc _ _)))
        have S2 : Aside (SWK enc k w0 blk off d (grow (wr.drewN nq) osq)) := S1.out.grown nq osq
        clear la lb hc S1
        generalize grow (wr.drewN nq) osq = w2 at S2 ⊢
        go_wp2
        go_roundg (h - i)
        case measure => omega
        case rel => exact ⟨i, h, rfl, by first | rfl | simp, by omega, by omega, by omega, Nat.le_refl _, hid ⟨HB.out.1, .inr (by rw [← HXY.out.1, ← HXY.out.2]; exact hlv)⟩, S2⟩
    · have hltz : ¬ (i : Int) < (j : Int) := by omega
      obtain rfl : i = j := by omega
      have r1 : IntKind.i64.wrap ((i : Int) - 1) = (i : Int) - 1 := by rw [IntKind.wrap_i64]; omega
      go_wp2
      go_loopg [13] (i - 1 - a) (fun kx s13 wq => ∃ (y : Nat) (dk : Array α), s13 = .int .i64 y ∧ a ≤ y ∧ y ≤ i - 1 ∧ i - 1 - y ≤ kx ∧ dk.size = d.size ∧ Hid (UpInv a b y d dk) ∧ Aside (SWK enc k w0 blk off dk wq))
      case atStart => exact ⟨a, d, rfl, Nat.le_refl _, by omega, by omega, rfl, hid (UpInv.start a b d), S1⟩
      case round =>
        clear S1
        obtain ⟨y, dk, rfl, hy, hyi, hkx, hds, HU, S2⟩ := hrel
        by_cases hlt : y < i - 1
        · have hltz2 : (y : Int) < (i : Int) - 1 := by omega
          have ea : ((y : Int)).toNat = y := by omega
          have ba : (y : Int) < (d.size : Int) := by omega
          have ec : ((y : Int) + 1).toNat = y + 1 := by omega
          have pc : (0 : Int) ≤ (y : Int) + 1 := by omega
          have bc : (y : Int) + 1 < (d.size : Int) := by omega
          have rc : IntKind.i64.wrap ((y : Int) + 1) = (y : Int) + 1 := by rw [IntKind.wrap_i64]; omega
          have S3 : Aside (SWK enc k w0 blk off (swp dk y (y + 1)) ((wr.drew.setCells blk (off + y * k) (enc dk[y + 1]!)).setCells blk (off + (y + 1) * k) (enc dk[y]!))) := S2.out.swapped R y (y + 1) (by omega) (by omega)
          have la := S2.out.ld1 R (by omega) P y (by omega)
          have lb := S2.out.ld1 R (by omega) P (y + 1) (by omega)
          have sa := S2.out.st1 R (by omega) P y (by omega) dk[y + 1]!
          have sb := S2.out.st2 R (by omega) P y (y + 1) (by omega) (by omega) dk[y + 1]! dk[y]!
          have na : (enc dk[y]!).length = k := R.hk _
          have nb : (enc dk[y + 1]!).length = k := R.hk _
          generalize enc dk[y]! = cI at S3 la sb na
          generalize enc dk[y + 1]! = cJ at S3 lb sa sb nb
          clear S2
          go_wp2_with fail
          go_big_region_o
          clear la lb sa sb
          generalize (wr.drew.setCells blk (off + y * k) cJ).setCells blk (off + (y + 1) * k) cI = w2 at S3 ⊢
          go_wp2
          go_roundg (i - 1 - (y + 1))
          case measure => omega
          case rel => exact ⟨y + 1, swp dk y (y + 1), by first | rfl | simp, by omega, by omega, Nat.le_refl _, by rw [swp_size]; exact hds, hid (HU.out.step hy (by omega) hb), S3⟩
        · have hltz2 : ¬ (y : Int) < (i : Int) - 1 := by omega
          obtain rfl : y = i - 1 := by omega
          go_wp2
          refine bodyPost_ret (results_none rfl _ _ _) rfl ?_
          obtain ⟨_, u2, u3⟩ := HU.out
          rw [show i - 1 + 1 = i by omega] at u3
          exact ⟨rfl, dk, u2, HT.out.one_left HQ.out (by omega) hjb hb HB.out.1 HB.out.2 u3, S2.out⟩
set_option maxHeartbeats 4000000 in
set_option maxRecDepth 1000000 in
theorem symMerge_right {k : Nat} (L : SrtP P k) (enc : α → List Value) (cf : α → α → Int) (g : Nat) (cb : Array Value) (blk off cap a m b : Nat) (d0 d : Array α) (w0 w : World) (Q : α → α → Prop) (ht : ∀ x y z, Q x y → Q y z → Q x z)
    (eg : ∀ args w, (callFunc g args).run P w = .ok (.enter g args) w) (hC : CmpLays P g cb enc k cf blk off d0.size w0)
    (R : RowK enc k w0 blk off d0) (hs : d0.size = d.size) (S : SWK enc k w0 blk off d w) (hm : a + 1 < m) (hbm : b = m + 1) (hb : m + 1 ≤ d.size) (hsz : d.size < 2305843009213693952) (T : Two Q (ltOf cf) a m b d) :
    Calls P 104 #[.slice (some ⟨blk, off, none⟩) d.size cap, .int .i64 a, .int .i64 m, .int .i64 b, .func (.func g) #[] cb] w fun e w' => e = .returned (.tuple #[]) ∧ ∃ d', PermIn a b d d' ∧ RIn Q a b d' ∧ SWK enc k w0 blk off d' w' := by
  have mixed := L.mixed; have t0 := L.t0; have a0 := L.a0; have z0 := L.z0; have v0 := L.v0; have t3 := L.t3; have a3 := L.a3; have z3 := L.z3; have v3 := L.v3; have t4 := L.t4; have a4 := L.a4; have z4 := L.z4; have v4 := L.v4; have t22 := L.t22; have a22 := L.a22; have z22 := L.z22; have v22 := L.v22; have t25 := L.t25; have a25 := L.a25; have z25 := L.z25; have v25 := L.v25; have aE := L.aE; have zE := L.zE; have t9 := L.t9; have a9 := L.a9; have z9 := L.z9; have v9 := L.v9
  have S0 : Aside (SWK enc k w0 blk off d w) := S
  have HT : Hid (Two Q (ltOf cf) a m (m + 1) d) := hbm ▸ T
  have HBM : Hid (b = m + 1) := hbm
  have HC : Aside _ := hC
  have HQ : Hid (∀ x y z, Q x y → Q y z → Q x z) := ht
  clear S T hC ht
  have r0 : IntKind.i64.wrap ((m : Int) - (a : Int)) = (m : Int) - (a : Int) := by rw [IntKind.wrap_i64]; omega
  have r0' : ((m : Int) - (a : Int) == 1) = false := by simp; omega
  have r0'' : IntKind.i64.wrap ((b : Int) - (m : Int)) = 1 := by rw [IntKind.wrap_i64]; omega
  clear hbm
  go_enter L.fSym, Tryz.ntmps104
  go_wp2
  go_loopg [14, 15] (m - a) (fun kx s10 s11 wr => ∃ i j : Nat, s10 = .int .i64 i ∧ s11 = .int .i64 j ∧ a ≤ i ∧ i ≤ j ∧ j ≤ m ∧ j - i ≤ kx ∧ Hid ((i = a ∨ ltOf cf d[m]! d[i - 1]! = false) ∧ (j = m ∨ ltOf cf d[m]! d[j]! = true)) ∧ Aside (SWK enc k w0 blk off d wr))
  case atStart => exact ⟨a, m, rfl, rfl, by omega, by omega, by omega, by omega, hid ⟨.inl rfl, .inl rfl⟩, S0⟩
  case round =>
    clear S0
    obtain ⟨i, j, rfl, rfl, hi, hij, hjb, hkx, HB, S1⟩ := hrel
    by_cases hlt : i < j
    · have hltz : (i : Int) < (j : Int) := by omega
      obtain ⟨h, hh⟩ : ∃ h : Nat, h = (i + j) / 2 := ⟨_, rfl⟩
      have rh : ((i : Int) + (j : Int)) / 2 = (h : Int) := by omega
      have h1 : i ≤ h := by omega
      have h2 : h < j := by omega
      have rw1 : IntKind.i64.wrap ((i : Int) + (j : Int)) = (i : Int) + (j : Int) := by rw [IntKind.wrap_i64]; omega
      have rw2 : IntKind.u64.wrap ((i : Int) + (j : Int)) = (i : Int) + (j : Int) := by rw [IntKind.wrap_u64]; omega
      have rw3 : IntKind.i64.wrap (h : Int) = (h : Int) := by rw [IntKind.wrap_i64]; omega
      have rw4 : IntKind.u64.wrap (h : Int) = (h : Int) := by rw [IntKind.wrap_u64]; omega
      clear hh
      have ba : (h : Int) < (d.size : Int) := by omega
      have bb : (m : Int) < (d.size : Int) := by omega
      obtain ⟨x, hx⟩ : ∃ x, x = d[h]! := ⟨_, rfl⟩
      obtain ⟨y, hy⟩ : ∃ x, x = d[m]! := ⟨_, rfl⟩
      have la := S1.out.ld R (by omega) P h (by omega)
      have lb := S1.out.ld R (by omega) P m (by omega)
      rw [← hx] at la
      rw [← hy] at lb
      have hc := S1.out.cmp HC.out (by omega) y x
      have HXY : Hid (x = d[h]! ∧ y = d[m]!) := ⟨hx, hy⟩
      clear hx hy
      cases hlv : ltOf cf y x with
      | true =>
        have hv : cf y x < 0 := of_decide_eq_true hlv
        have hd : decide (cf y x < 0) = true := hlv
        go_wp2_with fail
        go_quiet_grown (first | (go_at_fn g; refine Calls.grown_of (hc _ _)))
        have S2 : Aside (SWK enc k w0 blk off d (grow (wr.drewN nq) osq)) := S1.out.grown nq osq
        clear la lb hc S1
        generalize grow (wr.drewN nq) osq = w2 at S2 ⊢
        go_wp2
        go_roundg (h - i)
        case measure => omega
        case rel => exact ⟨i, h, rfl, by first | rfl | simp, by omega, by omega, by omega, Nat.le_refl _, hid ⟨HB.out.1, .inr (by rw [← HXY.out.1, ← HXY.out.2]; exact hlv)⟩, S2⟩
      | false =>
        have hv : ¬ cf y x < 0 := of_decide_eq_false hlv
        have hd : decide (cf y x < 0) = false := hlv
        go_wp2_with fail
        go_quiet_grown (first | (go_at_fn g; refine Calls.grown_of (hc _ _)))
        have S2 : Aside (SWK enc k w0 blk off d (grow (wr.drewN nq) osq)) := S1.out.grown nq osq
        clear la lb hc S1
        generalize grow (wr.drewN nq) osq = w2 at S2 ⊢
        go_wp2
        go_roundg (j - (h + 1))
        case measure => omega
        case rel => exact ⟨h + 1, j, by first | rfl | simp, rfl, by omega, by omega, by omega, Nat.le_refl _, hid ⟨.inr (by simp only [Nat.add_sub_cancel]; rw [← HXY.out.1, ← HXY.out.2]; exact hlv), HB.out.2⟩, S2⟩
    · have hltz : ¬ (i : Int) < (j : Int) := by omega
      obtain rfl : i = j := by omega
      go_wp2
      go_loopg [17] (m - i) (fun kx s13 wq => ∃ (y : Nat) (dk : Array α), s13 = .int .i64 y ∧ i ≤ y ∧ y ≤ m ∧ y - i ≤ kx ∧ dk.size = d.size ∧ Hid (DownInv a m y d dk) ∧ Aside (SWK enc k w0 blk off dk wq))
      case atStart => exact ⟨m, d, rfl, by omega, by omega, by omega, rfl, hid (DownInv.start a m d), S1⟩
      case round =>
        clear S1
        obtain ⟨y1, dk, rfl, hy, hyi, hkx, hds, HU, S2⟩ := hrel
        by_cases hlt : i < y1
        · obtain ⟨y, rfl⟩ : ∃ y, y1 = y + 1 := ⟨y1 - 1, by omega⟩
          have hltz2 : (i : Int) < (y : Int) + 1 := by omega
          have ea : ((y : Int)).toNat = y := by omega
          have ba : (y : Int) < (d.size : Int) := by omega
          have ec : ((y : Int) + 1).toNat = y + 1 := by omega
          have pc : (0 : Int) ≤ (y : Int) + 1 := by omega
          have bc : (y : Int) + 1 < (d.size : Int) := by omega
          have rc : IntKind.i64.wrap ((y : Int)) = (y : Int) := by rw [IntKind.wrap_i64]; omega
          have S3 : Aside (SWK enc k w0 blk off (swp dk (y + 1) y) ((wr.drew.setCells blk (off + (y + 1) * k) (enc dk[y]!)).setCells blk (off + y * k) (enc dk[y + 1]!))) := S2.out.swapped R (y + 1) y (by omega) (by omega)
          have la := S2.out.ld1 R (by omega) P (y + 1) (by omega)
          have lb := S2.out.ld1 R (by omega) P y (by omega)
          have sa := S2.out.st1 R (by omega) P (y + 1) (by omega) dk[y]!
          have sb := S2.out.st2 R (by omega) P (y + 1) y (by omega) (by omega) dk[y]! dk[y + 1]!
          have na : (enc dk[y]!).length = k := R.hk _
          have nb : (enc dk[y + 1]!).length = k := R.hk _
          generalize enc dk[y]! = cI at S3 lb sa sb na
          generalize enc dk[y + 1]! = cJ at S3 la sb nb
          clear S2
          go_wp2_with fail
          go_big_region_o
          clear la lb sa sb
          generalize (wr.drew.setCells blk (off + (y + 1) * k) cI).setCells blk (off + y * k) cJ = w2 at S3 ⊢
          go_wp2
          go_roundg (y - i)
          case measure => omega
          case rel => exact ⟨y, swp dk (y + 1) y, by first | rfl | simp, by omega, by omega, Nat.le_refl _, by rw [swp_size]; exact hds, hid (HU.out.step (by omega) (by omega) hb), S3⟩
        · have hltz2 : ¬ (i : Int) < (y1 : Int) := by omega
          obtain rfl : y1 = i := by omega
          go_wp2
          refine bodyPost_ret (results_none rfl _ _ _) rfl ?_
          obtain ⟨_, u2, u3⟩ := HU.out
          exact HBM.out ▸ ⟨rfl, dk, u2, HT.out.one_right HQ.out (by omega) hjb hb HB.out.1 HB.out.2 u3, S2.out⟩
end Go.Proofs.YtlkjimfkapcenaaGreatDoor
namespace Go.Proofs.YtlkjimfkapcenaaGreatDoor
open Go.Shelf Go.RowKit Go.Lib Go.Sort
variable {P : Program} {α : Type} [Inhabited α]

theorem Two.same {Q : α → α → Prop} {lt : α → α → Bool} {a m b : Nat} {d d' : Array α} (h : Two Q lt a m b d) (hh : ∀ x, a ≤ x → x < b → d'[x]! = d[x]!) (h1 : a ≤ m) (h2 : m ≤ b) : Two Q lt a m b d' :=
  ⟨fun i j hi hij hj => by rw [hh i hi (by omega), hh j (by omega) (by omega)]; exact h.left i j hi hij hj, fun i j hi hij hj => by rw [hh i (by omega) (by omega), hh j (by omega) hj]; exact h.right i j hi hij hj,
   fun i j hi hi' hj hj' => by rw [hh i hi (by omega), hh j (by omega) hj']; exact h.yes i j hi hi' hj hj', fun i j hi hi' hj hj' => by rw [hh i hi (by omega), hh j (by omega) hj']; exact h.no i j hi hi' hj hj'⟩
theorem moved_same (s m e : Nat) (d : Array α) (h : ¬ (s < m ∧ m < e)) (h1 : s ≤ m) (h2 : m ≤ e) : Moved (rotI s m e) d d := fun x _ => by
  congr 1
  unfold rotI
  (repeat' split) <;> omega
theorem Two.alone {Q : α → α → Prop} {lt : α → α → Bool} {a m b : Nat} {d : Array α} (h : Two Q lt a m b d) (hn : ¬ (a < m ∧ m < b)) (h1 : a ≤ m) (h2 : m ≤ b) : RIn Q a b d := by
  by_cases e : m = a
  · subst e; exact h.right
  · obtain rfl : m = b := by omega
    exact h.left

/-- What a call of the merge gives. -/
def SymGives (P : Program) (f : FuncId) (enc : α → List Value) (k : Nat) (fn : Value) (blk off cap : Nat) (w0 : World) (Q : α → α → Prop) (a m b : Nat) (d : Array α) (w : World) : Prop :=
  Calls P f #[.slice (some ⟨blk, off, none⟩) d.size cap, .int .i64 a, .int .i64 m, .int .i64 b, fn] w fun e w' => e = .returned (.tuple #[]) ∧ ∃ d', PermIn a b d d' ∧ RIn Q a b d' ∧ SWK enc k w0 blk off d' w'

set_option maxHeartbeats 8000000 in
set_option maxRecDepth 1000000 in
theorem symMerge_mid {k : Nat} (L : SrtP P k) (enc : α → List Value) (cf : α → α → Int) (g : Nat) (cb : Array Value) (blk off cap a m b : Nat) (d0 d : Array α) (w0 w : World) (Q : α → α → Prop) (ht : ∀ x y z, Q x y → Q y z → Q x z)
    (eg : ∀ args w, (callFunc g args).run P w = .ok (.enter g args) w) (hC : CmpLays P g cb enc k cf blk off d0.size w0)
    (R : RowK enc k w0 blk off d0) (hs : d0.size = d.size) (S : SWK enc k w0 blk off d w) (hm : a + 1 < m) (hm2 : m + 1 < b) (hb : b ≤ d.size) (hsz : d.size < 2305843009213693952) (T : Two Q (ltOf cf) a m b d)
    (IH : ∀ a' m' b' (d' : Array α) w', b' - a' < b - a → a' < m' → m' < b' → b' ≤ d'.size → d0.size = d'.size → SWK enc k w0 blk off d' w' → Two Q (ltOf cf) a' m' b' d' →
      SymGives P 104 enc k (.func (.func g) #[] cb) blk off cap w0 Q a' m' b' d' w') :
    SymGives P 104 enc k (.func (.func g) #[] cb) blk off cap w0 Q a m b d w := by
  have mixed := L.mixed; have t0 := L.t0; have a0 := L.a0; have z0 := L.z0; have v0 := L.v0; have t3 := L.t3; have a3 := L.a3; have z3 := L.z3; have v3 := L.v3; have t4 := L.t4; have a4 := L.a4; have z4 := L.z4; have v4 := L.v4; have t22 := L.t22; have a22 := L.a22; have z22 := L.z22; have v22 := L.v22; have t25 := L.t25; have a25 := L.a25; have z25 := L.z25; have v25 := L.v25; have aE := L.aE; have zE := L.zE; have t9 := L.t9; have a9 := L.a9; have z9 := L.z9; have v9 := L.v9
  have HS0 : Hid (SWK enc k w0 blk off d w) := S
  have HT : Hid (Two Q (ltOf cf) a m b d) := T
  have HC : Aside _ := hC
  have HQ : Hid (∀ x y z, Q x y → Q y z → Q x z) := ht
  have HR : Hid (∀ (x y z : Nat) (dk : Array α) (W : World), x < y → y < z → z ≤ dk.size → dk.size = d.size → SWK enc k w0 blk off dk W → Calls P 106 #[.slice (some ⟨blk, off, none⟩) d.size cap, .int .i64 x, .int .i64 y, .int .i64 z, .func (.func g) #[] cb] W fun e w' => e = .returned (.tuple #[]) ∧ ∃ d', PermIn x z dk d' ∧ Moved (rotI x y z) dk d' ∧ SWK enc k w0 blk off d' w') :=
    fun x y z dk W h1 h2 h3 h4 h5 => h4 ▸ rotate_k L enc (.func (.func g) #[] cb) blk off cap x y z d0 dk w0 W R (by omega) h5 h1 h2 h3 (by omega)
  have HI : Hid (∀ a' m' b' (d' : Array α) w', d'.size = d.size → b' - a' < b - a → a' < m' → m' < b' → b' ≤ d.size → SWK enc k w0 blk off d' w' → Two Q (ltOf cf) a' m' b' d' →
      Calls P 104 #[.slice (some ⟨blk, off, none⟩) d.size cap, .int .i64 a', .int .i64 m', .int .i64 b', .func (.func g) #[] cb] w' fun e w'' => e = .returned (.tuple #[]) ∧ ∃ d'', PermIn a' b' d' d'' ∧ RIn Q a' b' d'' ∧ SWK enc k w0 blk off d'' w'') :=
    fun a' m' b' d' w' h0 h1 h2 h3 h4 h5 h6 => h0 ▸ IH a' m' b' d' w' h1 h2 h3 (by omega) (by omega) h5 h6
  clear S T hC ht IH
  unfold SymGives
  have r0 : IntKind.i64.wrap ((m : Int) - (a : Int)) = (m : Int) - (a : Int) := by rw [IntKind.wrap_i64]; omega
  have r0' : ((m : Int) - (a : Int) == 1) = false := by simp; omega
  have r1 : IntKind.i64.wrap ((b : Int) - (m : Int)) = (b : Int) - (m : Int) := by rw [IntKind.wrap_i64]; omega
  have r1' : ((b : Int) - (m : Int) == 1) = false := by simp; omega
  obtain ⟨mi, hmi⟩ : ∃ mi : Nat, mi = (a + b) / 2 := ⟨_, rfl⟩
  have HMI := hid hmi
  have rmi : ((a : Int) + (b : Int)) / 2 = (mi : Int) := by omega
  have mi1 : 2 * mi ≤ a + b := by omega
  have mi2 : a + b ≤ 2 * mi + 1 := by omega
  clear hmi
  have r2 : IntKind.i64.wrap ((a : Int) + (b : Int)) = (a : Int) + (b : Int) := by rw [IntKind.wrap_i64]; omega
  have r3 : IntKind.u64.wrap ((a : Int) + (b : Int)) = (a : Int) + (b : Int) := by rw [IntKind.wrap_u64]; omega
  have r4 : IntKind.i64.wrap (mi : Int) = (mi : Int) := by rw [IntKind.wrap_i64]; omega
  have r5 : IntKind.u64.wrap (mi : Int) = (mi : Int) := by rw [IntKind.wrap_u64]; omega
  have r6 : IntKind.i64.wrap ((mi : Int) + (m : Int)) = (mi : Int) + (m : Int) := by rw [IntKind.wrap_i64]; omega
  have r7 : IntKind.i64.wrap ((mi : Int) + (m : Int) - 1) = (mi : Int) + (m : Int) - 1 := by rw [IntKind.wrap_i64]; omega
  have eR : ∀ args w, (callFunc 106 args).run P w = .ok (.enter 106 args) w := enters_of L.fRot (by kernel_rfl) rfl
  have eM : ∀ args w, (callFunc 104 args).run P w = .ok (.enter 104 args) w := enters_of L.fSym (by kernel_rfl) rfl
  go_enter L.fSym, Tryz.ntmps104
  go_upto_if 140 with fail
  go_cut [20, 21] (fun s20 s21 wx => ∃ s0 r0 : Nat, s20 = .int .i64 s0 ∧ s21 = .int .i64 r0 ∧ ((m > mi ∧ s0 = mi + m - b ∧ r0 = mi) ∨ (m ≤ mi ∧ s0 = a ∧ r0 = m)) ∧ wx = w)
  case first => as_aux_lemma =>
    by_cases hmid : mi < m
    · have hz : (mi : Int) < (m : Int) := by omega
      have r8 : IntKind.i64.wrap ((mi : Int) + (m : Int) - (b : Int)) = (mi : Int) + (m : Int) - (b : Int) := by rw [IntKind.wrap_i64]; omega
      go_wp2_with fail
      go_meet
      exact ⟨mi + m - b, mi, by congr 1; omega, rfl, .inl ⟨hmid, rfl, rfl⟩, rfl⟩
    · have hz : ¬ (mi : Int) < (m : Int) := by omega
      go_wp2_with fail
      go_meet
      exact ⟨a, m, rfl, rfl, .inr ⟨by omega, rfl, rfl⟩, rfl⟩
  case rest => as_aux_lemma =>
    obtain ⟨s0, r0, rfl, rfl, h0, rfl⟩ := hcut
    have hs0 : a ≤ s0 ∧ s0 ≤ r0 ∧ r0 ≤ m ∧ r0 ≤ mi ∧ m ≤ mi + m - r0 ∧ mi + m - s0 ≤ b := by omega
    obtain ⟨q1, q2, q3, q4, q5, q6⟩ := hs0
    have H0 := hid h0
    clear h0
    go_wp2_with fail
    go_loopg [20, 21] (r0 - s0) (fun kx s20 s21 wr => ∃ s r : Nat, s20 = .int .i64 s ∧ s21 = .int .i64 r ∧ s0 ≤ s ∧ s ≤ r ∧ r ≤ r0 ∧ r - s ≤ kx ∧ Hid ((s = s0 ∨ ltOf cf d[mi + m - 1 - (s - 1)]! d[s - 1]! = false) ∧ (r = r0 ∨ ltOf cf d[mi + m - 1 - r]! d[r]! = true)) ∧ Aside (SWK enc k w0 blk off d wr))
    case atStart => exact ⟨s0, r0, rfl, rfl, by omega, by omega, by omega, by omega, hid ⟨.inl rfl, .inl rfl⟩, HS0.out⟩
    case round =>
      clear HS0
      obtain ⟨s, r, rfl, rfl, hi, hij, hjb, hkx, HB, S1⟩ := hrel
      by_cases hlt : s < r
      · have hltz : (s : Int) < (r : Int) := by omega
        obtain ⟨h, hh⟩ : ∃ h : Nat, h = (s + r) / 2 := ⟨_, rfl⟩
        have rh : ((s : Int) + (r : Int)) / 2 = (h : Int) := by omega
        have h1 : s ≤ h := by omega
        have h2 : h < r := by omega
        obtain ⟨o, ho⟩ : ∃ o : Nat, o = mi + m - 1 - h := ⟨_, rfl⟩
        have HO : Hid (o = mi + m - 1 - h) := ho
        have o1 : o < d.size := by omega
        have o2 : (mi : Int) + (m : Int) - 1 - (h : Int) = (o : Int) := by omega
        clear hh ho
        have rw1 : IntKind.i64.wrap ((s : Int) + (r : Int)) = (s : Int) + (r : Int) := by rw [IntKind.wrap_i64]; omega
        have rw2 : IntKind.u64.wrap ((s : Int) + (r : Int)) = (s : Int) + (r : Int) := by rw [IntKind.wrap_u64]; omega
        have rw3 : IntKind.i64.wrap (h : Int) = (h : Int) := by rw [IntKind.wrap_i64]; omega
        have rw4 : IntKind.u64.wrap (h : Int) = (h : Int) := by rw [IntKind.wrap_u64]; omega
        have rw5 : IntKind.i64.wrap (o : Int) = (o : Int) := by rw [IntKind.wrap_i64]; omega
        have ba : (h : Int) < (d.size : Int) := by omega
        have bb : (o : Int) < (d.size : Int) := by omega
        obtain ⟨x, hx⟩ : ∃ x, x = d[h]! := ⟨_, rfl⟩
        obtain ⟨y, hy⟩ : ∃ x, x = d[o]! := ⟨_, rfl⟩
        have la := S1.out.ld R (by omega) P h (by omega)
        have lb := S1.out.ld R (by omega) P o (by omega)
        rw [← hx] at la
        rw [← hy] at lb
        have hc := S1.out.cmp HC.out (by omega) y x
        have HXY : Hid (x = d[h]! ∧ y = d[o]!) := ⟨hx, hy⟩
        clear hx hy
        cases hlv : ltOf cf y x with
        | true => as_aux_lemma =>
          have hv : cf y x < 0 := of_decide_eq_true hlv
          have hd : decide (cf y x < 0) = true := hlv
          go_wp2_with fail
          go_quiet_grown (first | (go_at_fn g; refine Calls.grown_of (hc _ _)))
          have S2 : Aside (SWK enc k w0 blk off d (grow (wr.drewN nq) osq)) := S1.out.grown nq osq
          clear la lb hc S1
          generalize grow (wr.drewN nq) osq = w2 at S2 ⊢
          go_wp2
          go_roundg (h - s)
          case measure => omega
          case rel => exact ⟨s, h, rfl, by first | rfl | simp, by omega, by omega, by omega, Nat.le_refl _, hid ⟨HB.out.1, .inr (by rw [← HO.out, ← HXY.out.1, ← HXY.out.2]; exact hlv)⟩, S2⟩
        | false => as_aux_lemma =>
          have hv : ¬ cf y x < 0 := of_decide_eq_false hlv
          have hd : decide (cf y x < 0) = false := hlv
          go_wp2_with fail
          go_quiet_grown (first | (go_at_fn g; refine Calls.grown_of (hc _ _)))
          have S2 : Aside (SWK enc k w0 blk off d (grow (wr.drewN nq) osq)) := S1.out.grown nq osq
          clear la lb hc S1
          generalize grow (wr.drewN nq) osq = w2 at S2 ⊢
          go_wp2
          go_roundg (r - (h + 1))
          case measure => omega
          case rel => exact ⟨h + 1, r, by first | rfl | simp, rfl, by omega, by omega, by omega, Nat.le_refl _, hid ⟨.inr (by simp only [Nat.add_sub_cancel]; rw [← HO.out, ← HXY.out.1, ← HXY.out.2]; exact hlv), HB.out.2⟩, S2⟩
      · have hltz : ¬ (s : Int) < (r : Int) := by omega
        obtain rfl : s = r := by omega
        have HCut : Hid (Cut Q a m b mi s (mi + m - s) d) := by
          have e := HMI.out
          subst e
          exact HT.out.cut HQ.out (by omega) (by omega) H0.out hi hjb HB.out.1 HB.out.2
        clear HB H0 HMI
        obtain ⟨e, he⟩ : ∃ e : Nat, e = mi + m - s := ⟨_, rfl⟩
        have e1 : (mi : Int) + (m : Int) - (s : Int) = (e : Int) := by omega
        have e2 : m ≤ e := by omega
        have e3 : e ≤ b := by omega
        have e4 : mi ≤ e := by omega
        have e5 : s ≤ mi := by omega
        have e6 : s ≤ m := by omega
        have e7 : a ≤ s := by omega
        rw [← he] at HCut
        clear he
        have r9 : IntKind.i64.wrap (e : Int) = (e : Int) := by rw [IntKind.wrap_i64]; omega
        go_upto_region 39 with fail
        go_cut [185] (fun s185 wx => ∃ v : Bool, s185 = .bool v ∧ Hid (v = true ↔ s < m ∧ m < e) ∧ wx = wr)
        case first => as_aux_lemma =>
          by_cases k1 : s < m
          · have z1 : (s : Int) < (m : Int) := by omega
            by_cases k2 : m < e
            · have z2 : (m : Int) < (e : Int) := by omega
              go_wp2_with fail
              go_meet
              exact ⟨true, rfl, hid (by simp [k1, k2]), rfl⟩
            · have z2 : ¬ (m : Int) < (e : Int) := by omega
              go_wp2_with fail
              go_meet
              exact ⟨false, rfl, hid (by simp [k2]), rfl⟩
          · have z1 : ¬ (s : Int) < (m : Int) := by omega
            go_wp2_with fail
            go_meet
            exact ⟨false, rfl, hid (by simp [k1]), rfl⟩
        case rest => as_aux_lemma =>
          obtain ⟨v, rfl, HV, rfl⟩ := hcut
          go_upto_if 185 with fail
          go_cut [] (fun wx => ∃ d1 : Array α, d1.size = d.size ∧ Hid (PermIn s e d d1 ∧ Moved (rotI s m e) d d1) ∧ Aside (SWK enc k w0 blk off d1 wx))
          case first => as_aux_lemma =>
            cases v with
            | false =>
              go_wp2_with fail
              go_meet
              exact ⟨d, rfl, hid ⟨permIn_refl _ _ _, moved_same s m e d (fun c => absurd (HV.out.2 c) (by simp)) e6 e2⟩, S1⟩
            | true =>
              have HC1 := hid (HR.out s m e d wc (HV.out.1 rfl).1 (HV.out.1 rfl).2 (by omega) rfl S1.out)
              go_wp2_with (go_at_fn 106; refine HC1.out.mono ?_; rintro e w1 ⟨rfl, d1, T1, T2, S2⟩; have S2 : Aside (SWK enc k w0 blk off d1 w1) := S2; have T3 := hid (And.intro T1 T2); have T4 : d1.size = d.size := T1.1; clear T1 T2)
              go_meet
              exact ⟨d1, T4, T3, S2⟩
          case rest => as_aux_lemma =>
            clear S1
            obtain ⟨d1, ds1, HM, S1⟩ := hcut
            have HT1 := hid (HCut.out.turned HT.out hb HM.out.2)
            have HP1 := hid (permIn_mono _ _ _ _ _ _ e7 e3 hb HM.out.1)
            clear HM HCut HT HV
            go_upto_region 41 with fail
            go_cut [199] (fun s199 wx => ∃ v : Bool, s199 = .bool v ∧ Hid (v = true ↔ a < s ∧ s < mi) ∧ wx = wc)
            case first => as_aux_lemma =>
              by_cases k1 : a < s
              · have z1 : (a : Int) < (s : Int) := by omega
                by_cases k2 : s < mi
                · have z2 : (s : Int) < (mi : Int) := by omega
                  go_wp2_with fail
                  go_meet
                  exact ⟨true, rfl, hid (by simp [k1, k2]), rfl⟩
                · have z2 : ¬ (s : Int) < (mi : Int) := by omega
                  go_wp2_with fail
                  go_meet
                  exact ⟨false, rfl, hid (by simp [k2]), rfl⟩
              · have z1 : ¬ (a : Int) < (s : Int) := by omega
                go_wp2_with fail
                go_meet
                exact ⟨false, rfl, hid (by simp [k1]), rfl⟩
            case rest => as_aux_lemma =>
              obtain ⟨v, rfl, HV, rfl⟩ := hcut
              go_upto_if 199 with fail
              go_cut [] (fun wx => ∃ d2 : Array α, d2.size = d.size ∧ Hid (PermIn a mi d1 d2 ∧ RIn Q a mi d2) ∧ Aside (SWK enc k w0 blk off d2 wx))
              case first => as_aux_lemma =>
                cases v with
                | false =>
                  go_wp2_with fail
                  go_meet
                  exact ⟨d1, ds1, hid ⟨permIn_refl _ _ _, HT1.out.1.alone (fun c => absurd (HV.out.2 c) (by simp)) e7 e5⟩, S1⟩
                | true =>
                  have HC1 := hid (HI.out a s mi d1 _ ds1 (by omega) (HV.out.1 rfl).1 (HV.out.1 rfl).2 (by omega) S1.out HT1.out.1)
                  go_wp2_with (go_at_fn 104; refine HC1.out.mono ?_; rintro e w1 ⟨rfl, d2, T1, T2, S2⟩; have S2 : Aside (SWK enc k w0 blk off d2 w1) := S2; have T3 := hid (And.intro T1 T2); have T4 : d2.size = d.size := T1.1.trans ds1; clear T1 T2)
                  go_meet
                  exact ⟨d2, T4, T3, S2⟩
              case rest => as_aux_lemma =>
                clear S1
                obtain ⟨d2, ds2, HM, S1⟩ := hcut
                have HT2 := hid (HT1.out.2.1.same (fun x hx _ => HM.out.1.2.1 x (Or.inr hx)) e4 e3)
                clear HV
                go_upto_region 43 with fail
                go_cut [213] (fun s213 wx => ∃ v : Bool, s213 = .bool v ∧ Hid (v = true ↔ mi < e ∧ e < b) ∧ wx = wc)
                case first => as_aux_lemma =>
                  by_cases k1 : mi < e
                  · have z1 : (mi : Int) < (e : Int) := by omega
                    by_cases k2 : e < b
                    · have z2 : (e : Int) < (b : Int) := by omega
                      go_wp2_with fail
                      go_meet
                      exact ⟨true, rfl, hid (by simp [k1, k2]), rfl⟩
                    · have z2 : ¬ (e : Int) < (b : Int) := by omega
                      go_wp2_with fail
                      go_meet
                      exact ⟨false, rfl, hid (by simp [k2]), rfl⟩
                  · have z1 : ¬ (mi : Int) < (e : Int) := by omega
                    go_wp2_with fail
                    go_meet
                    exact ⟨false, rfl, hid (by simp [k1]), rfl⟩
                case rest => as_aux_lemma =>
                  obtain ⟨v, rfl, HV, rfl⟩ := hcut
                  cases v with
                  | false =>
                    go_wp2_with fail
                    go_end0
                    have q := merged (by omega) (by omega) (by omega) HM.out.1 HM.out.2 (permIn_refl _ _ _) (HT2.out.alone (fun c => absurd (HV.out.2 c) (by simp)) e4 e3) HT1.out.2.2
                    exact ⟨rfl, d2, permIn_trans _ _ _ _ _ HP1.out q.1, q.2, S1.out⟩
                  | true =>
                    have HC1 := hid (HI.out mi e b d2 _ ds2 (by omega) (HV.out.1 rfl).1 (HV.out.1 rfl).2 (by omega) S1.out HT2.out)
                    go_wp2_with (go_at_fn 104; refine HC1.out.mono ?_; rintro e w1 ⟨rfl, d3, T1, T2, S2⟩; have T3 := hid (And.intro T1 T2); have S3 : Aside (SWK enc k w0 blk off d3 w1) := S2; clear T1 T2 S2)
                    go_end0
                    have q := merged (by omega) (by omega) (by omega) HM.out.1 HM.out.2 T3.out.1 T3.out.2 HT1.out.2.2
                    exact ⟨rfl, d3, permIn_trans _ _ _ _ _ HP1.out q.1, q.2, S3.out⟩
end Go.Proofs.YtlkjimfkapcenaaGreatDoor
