/- The merge in Go's stable sort, at elements of k cells. For any order. -/
import Derived.Deep.CutRange
import Derived.Deep.DeepCutAuto
import Derived.WalkArith
import Derived.Test.YtliehlefpodhaaaDoorOTrSrtP
namespace Go.Proofs.YtliehlefpodhaaaDoor
open Go.Shelf Go.RowKit Go.Lib Go.Sort
variable {P : Program} {α : Type} [Inhabited α]

set_option maxHeartbeats 4000000 in
set_option maxRecDepth 1000000 in
theorem symMerge_left {k : Nat} (L : SrtP P k) (enc : α → List Value) (cf : α → α → Int) (g : Nat) (cb : Array Value) (blk off cap a b : Nat) (d0 d : Array α) (w0 w : World) (Q : α → α → Prop) (ht : ∀ x y z, Q x y → Q y z → Q x z)
    (eg : ∀ args w, (callFunc g args).run P w = .ok (.enter g args) w) (hC : CmpLays P g cb enc k cf blk off d0.size w0)
    (R : RowK enc k w0 blk off d0) (hs : d0.size = d.size) (S : SWK enc k w0 blk off d w) (hm : a + 1 < b) (hb : b ≤ d.size) (hsz : d.size < 2305843009213693952) (T : Two Q (ltOf cf) a (a + 1) b d) :
    Calls P 83 #[.slice (some ⟨blk, off, none⟩) d.size cap, .int .i64 a, .int .i64 (a + 1 : Nat), .int .i64 b, .func (.func g) #[] cb] w fun e w' => e = .returned (.tuple #[]) ∧ ∃ d', PermIn a b d d' ∧ RIn Q a b d' ∧ SWK enc k w0 blk off d' w' := by
  have mixed := L.mixed; have t0 := L.t0; have a0 := L.a0; have z0 := L.z0; have v0 := L.v0; have t3 := L.t3; have a3 := L.a3; have z3 := L.z3; have v3 := L.v3; have t4 := L.t4; have a4 := L.a4; have z4 := L.z4; have v4 := L.v4; have t22 := L.t22; have a22 := L.a22; have z22 := L.z22; have v22 := L.v22; have t25 := L.t25; have a25 := L.a25; have z25 := L.z25; have v25 := L.v25; have aE := L.aE; have zE := L.zE; have t9 := L.t9; have a9 := L.a9; have z9 := L.z9; have v9 := L.v9
  have S0 : Aside (SWK enc k w0 blk off d w) := S
  have HT : Hid (Two Q (ltOf cf) a (a + 1) b d) := T
  have HC : Aside _ := hC
  have HQ : Hid (∀ x y z, Q x y → Q y z → Q x z) := ht
  clear S T hC ht
  have r0 : IntKind.i64.wrap ((a : Int) + 1 - (a : Int)) = 1 := by rw [IntKind.wrap_i64]; omega
  go_enter L.fSym, Tryd.ntmps83
  go_wp2
  go_loopg [10, 11] (b - (a + 1)) (fun kx s10 s11 wr => ∃ i j : Nat, s10 = .int .i64 i ∧ s11 = .int .i64 j ∧ a + 1 ≤ i ∧ i ≤ j ∧ j ≤ b ∧ j - i ≤ kx ∧ Hid ((i = a + 1 ∨ ltOf cf d[i - 1]! d[a]! = true) ∧ (j = b ∨ ltOf cf d[j]! d[a]! = false)) ∧ Aside (SWK enc k w0 blk off d wr))
  case atStart => exact ⟨a + 1, b, by first | rfl | simp, rfl, by omega, by omega, by omega, by omega, hid ⟨.inl rfl, .inl rfl⟩, S0⟩
  case round =>
    clear S0
    obtain ⟨i, j, rfl, rfl, hi, hij, hjb, hkx, HB, S1⟩ := hrel
    by_cases hlt : i < j
    · have hltz : (i : Int) < (j : Int) := by omega
      obtain ⟨h, hh⟩ : ∃ h : Nat, h = (i + j) / 2 := ⟨_, rfl⟩
      have rh : ((i : Int) + (j : Int)) / 2 = (h : Int) := by omega
      have h1 : i ≤ h := by omega
      have h2 : h < j := by omega
      have rw1 : IntKind.i64.wrap ((i : Int) + (j : Int)) = (i : Int) + (j : Int) := by rw [IntKind.wrap_i64]; omega
      have rw2 : IntKind.u64.wrap ((i : Int) + (j : Int)) = (i : Int) + (j : Int) := by rw [IntKind.wrap_u64]; omega
      have rw3 : IntKind.i64.wrap (h : Int) = (h : Int) := by rw [IntKind.wrap_i64]; omega
      have rw4 : IntKind.u64.wrap (h : Int) = (h : Int) := by rw [IntKind.wrap_u64]; omega
      clear hh
      have ba : (h : Int) < (d.size : Int) := by omega
      have bb : (a : Int) < (d.size : Int) := by omega
      obtain ⟨x, hx⟩ : ∃ x, x = d[h]! := ⟨_, rfl⟩
      obtain ⟨y, hy⟩ : ∃ x, x = d[a]! := ⟨_, rfl⟩
      have la := S1.out.ld R (by omega) P h (by omega)
      have lb := S1.out.ld R (by omega) P a (by omega)
      rw [← hx] at la
      rw [← hy] at lb
      have hc := S1.out.cmp HC.out (by omega) x y
      have HXY : Hid (x = d[h]! ∧ y = d[a]!) := ⟨hx, hy⟩
      clear hx hy
      cases hlv : ltOf cf x y with
      | true =>
        have hv : cf x y < 0 := of_decide_eq_true hlv
        have hd : decide (cf x y < 0) = true := hlv
        go_wp2_with fail
        go_quiet_grown (first | (go_at_fn g; refine Calls.grown_of (hc _ _)))
        have S2 : Aside (SWK enc k w0 blk off d (grow (wr.drewN nq) osq)) := S1.out.grown nq osq
        clear la lb hc S1
        generalize grow (wr.drewN nq) osq = w2 at S2 ⊢
        go_wp2
        go_roundg (j - (h + 1))
        case measure => omega
        case rel => exact ⟨h + 1, j, by first | rfl | simp, rfl, by omega, by omega, by omega, Nat.le_refl _, hid ⟨.inr (by simp only [Nat.add_sub_cancel]; rw [← HXY.out.1, ← HXY.out.2]; exact hlv), HB.out.2⟩, S2⟩
      | false =>
        have hv : ¬ cf x y < 0 := of_decide_eq_false hlv
        have hd : decide (cf x y < 0) = false := hlv
        go_wp2_with fail
        go_quiet_grown (first | (go_at_fn g; refine Calls.grown_of (hc _ _)))
        have S2 : Aside (SWK enc k w0 blk off d (grow (wr.drewN nq) osq)) := S1.out.grown nq osq
        clear la lb hc S1
        generalize grow (wr.drewN nq) osq = w2 at S2 ⊢
        go_wp2
        go_roundg (h - i)
        case measure => omega
        case rel => exact ⟨i, h, rfl, by first | rfl | simp, by omega, by omega, by omega, Nat.le_refl _, hid ⟨HB.out.1, .inr (by rw [← HXY.out.1, ← HXY.out.2]; exact hlv)⟩, S2⟩
    · have hltz : ¬ (i : Int) < (j : Int) := by omega
      obtain rfl : i = j := by omega
      have r1 : IntKind.i64.wrap ((i : Int) - 1) = (i : Int) - 1 := by rw [IntKind.wrap_i64]; omega
      go_wp2
      go_loopg [13] (i - 1 - a) (fun kx s13 wq => ∃ (y : Nat) (dk : Array α), s13 = .int .i64 y ∧ a ≤ y ∧ y ≤ i - 1 ∧ i - 1 - y ≤ kx ∧ dk.size = d.size ∧ Hid (UpInv a b y d dk) ∧ Aside (SWK enc k w0 blk off dk wq))
      case atStart => exact ⟨a, d, rfl, Nat.le_refl _, by omega, by omega, rfl, hid (UpInv.start a b d), S1⟩
      case round =>
        clear S1
        obtain ⟨y, dk, rfl, hy, hyi, hkx, hds, HU, S2⟩ := hrel
        by_cases hlt : y < i - 1
        · have hltz2 : (y : Int) < (i : Int) - 1 := by omega
          have ea : ((y : Int)).toNat = y := by omega
          have ba : (y : Int) < (d.size : Int) := by omega
          have ec : ((y : Int) + 1).toNat = y + 1 := by omega
          have pc : (0 : Int) ≤ (y : Int) + 1 := by omega
          have bc : (y : Int) + 1 < (d.size : Int) := by omega
          have rc : IntKind.i64.wrap ((y : Int) + 1) = (y : Int) + 1 := by rw [IntKind.wrap_i64]; omega
          have S3 : Aside (SWK enc k w0 blk off (swp dk y (y + 1)) ((wr.drew.setCells blk (off + y * k) (enc dk[y + 1]!)).setCells blk (off + (y + 1) * k) (enc dk[y]!))) := S2.out.swapped R y (y + 1) (by omega) (by omega)
          have la := S2.out.ld1 R (by omega) P y (by omega)
          have lb := S2.out.ld1 R (by omega) P (y + 1) (by omega)
          have sa := S2.out.st1 R (by omega) P y (by omega) dk[y + 1]!
          have sb := S2.out.st2 R (by omega) P y (y + 1) (by omega) (by omega) dk[y + 1]! dk[y]!
          have na : (enc dk[y]!).length = k := R.hk _
          have nb : (enc dk[y + 1]!).length = k := R.hk _
          generalize enc dk[y]! = cI at S3 la sb na
          generalize enc dk[y + 1]! = cJ at S3 lb sa sb nb
          clear S2
          go_wp2_with fail
          go_big_region_o
          clear la lb sa sb
          generalize (wr.drew.setCells blk (off + y * k) cJ).setCells blk (off + (y + 1) * k) cI = w2 at S3 ⊢
          go_wp2
          go_roundg (i - 1 - (y + 1))
          case measure => omega
          case rel => exact ⟨y + 1, swp dk y (y + 1), by first | rfl | simp, by omega, by omega, Nat.le_refl _, by rw [swp_size]; exact hds, hid (HU.out.step hy (by omega) hb), S3⟩
        · have hltz2 : ¬ (y : Int) < (i : Int) - 1 := by omega
          obtain rfl : y = i - 1 := by omega
          go_wp2
          refine bodyPost_ret (results_none rfl _ _ _) rfl ?_
          obtain ⟨_, u2, u3⟩ := HU.out
          rw [show i - 1 + 1 = i by omega] at u3
          exact ⟨rfl, dk, u2, HT.out.one_left HQ.out (by omega) hjb hb HB.out.1 HB.out.2 u3, S2.out⟩
set_option maxHeartbeats 4000000 in
set_option maxRecDepth 1000000 in
theorem symMerge_right {k : Nat} (L : SrtP P k) (enc : α → List Value) (cf : α → α → Int) (g : Nat) (cb : Array Value) (blk off cap a m b : Nat) (d0 d : Array α) (w0 w : World) (Q : α → α → Prop) (ht : ∀ x y z, Q x y → Q y z → Q x z)
    (eg : ∀ args w, (callFunc g args).run P w = .ok (.enter g args) w) (hC : CmpLays P g cb enc k cf blk off d0.size w0)
    (R : RowK enc k w0 blk off d0) (hs : d0.size = d.size) (S : SWK enc k w0 blk off d w) (hm : a + 1 < m) (hbm : b = m + 1) (hb : m + 1 ≤ d.size) (hsz : d.size < 2305843009213693952) (T : Two Q (ltOf cf) a m b d) :
    Calls P 83 #[.slice (some ⟨blk, off, none⟩) d.size cap, .int .i64 a, .int .i64 m, .int .i64 b, .func (.func g) #[] cb] w fun e w' => e = .returned (.tuple #[]) ∧ ∃ d', PermIn a b d d' ∧ RIn Q a b d' ∧ SWK enc k w0 blk off d' w' := by
  have mixed := L.mixed; have t0 := L.t0; have a0 := L.a0; have z0 := L.z0; have v0 := L.v0; have t3 := L.t3; have a3 := L.a3; have z3 := L.z3; have v3 := L.v3; have t4 := L.t4; have a4 := L.a4; have z4 := L.z4; have v4 := L.v4; have t22 := L.t22; have a22 := L.a22; have z22 := L.z22; have v22 := L.v22; have t25 := L.t25; have a25 := L.a25; have z25 := L.z25; have v25 := L.v25; have aE := L.aE; have zE := L.zE; have t9 := L.t9; have a9 := L.a9; have z9 := L.z9; have v9 := L.v9
  have S0 : Aside (SWK enc k w0 blk off d w) := S
  have HT : Hid (Two Q (ltOf cf) a m (m + 1) d) := hbm ▸ T
  have HBM : Hid (b = m + 1) := hbm
  have HC : Aside _ := hC
  have HQ : Hid (∀ x y z, Q x y → Q y z → Q x z) := ht
  clear S T hC ht
  have r0 : IntKind.i64.wrap ((m : Int) - (a : Int)) = (m : Int) - (a : Int) := by rw [IntKind.wrap_i64]; omega
  have r0' : ((m : Int) - (a : Int) == 1) = false := by simp; omega
  have r0'' : IntKind.i64.wrap ((b : Int) - (m : Int)) = 1 := by rw [IntKind.wrap_i64]; omega
  clear hbm
  go_enter L.fSym, Tryd.ntmps83
  go_wp2
  go_loopg [14, 15] (m - a) (fun kx s10 s11 wr => ∃ i j : Nat, s10 = .int .i64 i ∧ s11 = .int .i64 j ∧ a ≤ i ∧ i ≤ j ∧ j ≤ m ∧ j - i ≤ kx ∧ Hid ((i = a ∨ ltOf cf d[m]! d[i - 1]! = false) ∧ (j = m ∨ ltOf cf d[m]! d[j]! = true)) ∧ Aside (SWK enc k w0 blk off d wr))
  case atStart => exact ⟨a, m, rfl, rfl, by omega, by omega, by omega, by omega, hid ⟨.inl rfl, .inl rfl⟩, S0⟩
  case round =>
    clear S0
    obtain ⟨i, j, rfl, rfl, hi, hij, hjb, hkx, HB, S1⟩ := hrel
    by_cases hlt : i < j
    · have hltz : (i : Int) < (j : Int) := by omega
      obtain ⟨h, hh⟩ : ∃ h : Nat, h = (i + j) / 2 := ⟨_, rfl⟩
      have rh : ((i : Int) + (j : Int)) / 2 = (h : Int) := by omega
      have h1 : i ≤ h := by omega
      have h2 : h < j := by omega
      have rw1 : IntKind.i64.wrap ((i : Int) + (j : Int)) = (i : Int) + (j : Int) := by rw [IntKind.wrap_i64]; omega
      have rw2 : IntKind.u64.wrap ((i : Int) + (j : Int)) = (i : Int) + (j : Int) := by rw [IntKind.wrap_u64]; omega
      have rw3 : IntKind.i64.wrap (h : Int) = (h : Int) := by rw [IntKind.wrap_i64]; omega
      have rw4 : IntKind.u64.wrap (h : Int) = (h : Int) := by rw [IntKind.wrap_u64]; omega
      clear hh
      have ba : (h : Int) < (d.size : Int) := by omega
      have bb : (m : Int) < (d.size : Int) := by omega
      obtain ⟨x, hx⟩ : ∃ x, x = d[h]! := ⟨_, rfl⟩
      obtain ⟨y, hy⟩ : ∃ x, x = d[m]! := ⟨_, rfl⟩
      have la := S1.out.ld R (by omega) P h (by omega)
      have lb := S1.out.ld R (by omega) P m (by omega)
      rw [← hx] at la
      rw [← hy] at lb
      have hc := S1.out.cmp HC.out (by omega) y x
      have HXY : Hid (x = d[h]! ∧ y = d[m]!) := ⟨hx, hy⟩
      clear hx hy
      cases hlv : ltOf cf y x with
      | true =>
        have hv : cf y x < 0 := of_decide_eq_true hlv
        have hd : decide (cf y x < 0) = true := hlv
        go_wp2_with fail
        go_quiet_grown (first | (go_at_fn g; refine Calls.grown_of (hc _ _)))
        have S2 : Aside (SWK enc k w0 blk off d (grow (wr.drewN nq) osq)) := S1.out.grown nq osq
        clear la lb hc S1
        generalize grow (wr.drewN nq) osq = w2 at S2 ⊢
        go_wp2
        go_roundg (h - i)
        case measure => omega
        case rel => exact ⟨i, h, rfl, by first | rfl | simp, by omega, by omega, by omega, Nat.le_refl _, hid ⟨HB.out.1, .inr (by rw [← HXY.out.1, ← HXY.out.2]; exact hlv)⟩, S2⟩
      | false =>
        have hv : ¬ cf y x < 0 := of_decide_eq_false hlv
        have hd : decide (cf y x < 0) = false := hlv
        go_wp2_with fail
        go_quiet_grown (first | (go_at_fn g; refine Calls.grown_of (hc _ _)))
        have S2 : Aside (SWK enc k w0 blk off d (grow (wr.drewN nq) osq)) := S1.out.grown nq osq
        clear la lb hc S1
        generalize grow (wr.drewN nq) osq = w2 at S2 ⊢
        go_wp2
        go_roundg (j - (h + 1))
        case measure => omega
        case rel => exact ⟨h + 1, j, by first | rfl | simp, rfl, by omega, by omega, by omega, Nat.le_refl _, hid ⟨.inr (by simp only [Nat.add_sub_cancel]; rw [← HXY.out.1, ← HXY.out.2]; exact hlv), HB.out.2⟩, S2⟩
    · have hltz : ¬ (i : Int) < (j : Int) := by omega
      obtain rfl : i = j := by omega
      go_wp2
      go_loopg [17] (m - i) (fun kx s13 wq => ∃ (y : Nat) (dk : Array α), s13 = .int .i64 y ∧ i ≤ y ∧ y ≤ m ∧ y - i ≤ kx ∧ dk.size = d.size ∧ Hid (DownInv a m y d dk) ∧ Aside (SWK enc k w0 blk off dk wq))
      case atStart => exact ⟨m, d, rfl, by omega, by omega, by omega, rfl, hid (DownInv.start a m d), S1⟩
      case round =>
        clear S1
        obtain ⟨y1, dk, rfl, hy, hyi, hkx, hds, HU, S2⟩ := hrel
        by_cases hlt : i < y1
        · obtain ⟨y, rfl⟩ : ∃ y, y1 = y + 1 := ⟨y1 - 1, by omega⟩
          have hltz2 : (i : Int) < (y : Int) + 1 := by omega
          have ea : ((y : Int)).toNat = y := by omega
          have ba : (y : Int) < (d.size : Int) := by omega
          have ec : ((y : Int) + 1).toNat = y + 1 := by omega
          have pc : (0 : Int) ≤ (y : Int) + 1 := by omega
          have bc : (y : Int) + 1 < (d.size : Int) := by omega
          have rc : IntKind.i64.wrap ((y : Int)) = (y : Int) := by rw [IntKind.wrap_i64]; omega
          have S3 : Aside (SWK enc k w0 blk off (swp dk (y + 1) y) ((wr.drew.setCells blk (off + (y + 1) * k) (enc dk[y]!)).setCells blk (off + y * k) (enc dk[y + 1]!))) := S2.out.swapped R (y + 1) y (by omega) (by omega)
          have la := S2.out.ld1 R (by omega) P (y + 1) (by omega)
          have lb := S2.out.ld1 R (by omega) P y (by omega)
          have sa := S2.out.st1 R (by omega) P (y + 1) (by omega) dk[y]!
          have sb := S2.out.st2 R (by omega) P (y + 1) y (by omega) (by omega) dk[y]! dk[y + 1]!
          have na : (enc dk[y]!).length = k := R.hk _
          have nb : (enc dk[y + 1]!).length = k := R.hk _
          generalize enc dk[y]! = cI at S3 lb sa sb na
          generalize enc dk[y + 1]! = cJ at S3 la sb nb
          clear S2
          go_wp2_with fail
          go_big_region_o
          clear la lb sa sb
          generalize (wr.drew.setCells blk (off + (y + 1) * k) cI).setCells blk (off + y * k) cJ = w2 at S3 ⊢
          go_wp2
          go_roundg (y - i)
          case measure => omega
          case rel => exact ⟨y, swp dk (y + 1) y, by first | rfl | simp, by omega, by omega, Nat.le_refl _, by rw [swp_size]; exact hds, hid (HU.out.step (by omega) (by omega) hb), S3⟩
        · have hltz2 : ¬ (i : Int) < (y1 : Int) := by omega
          obtain rfl : y1 = i := by omega
          go_wp2
          refine bodyPost_ret (results_none rfl _ _ _) rfl ?_
          obtain ⟨_, u2, u3⟩ := HU.out
          exact HBM.out ▸ ⟨rfl, dk, u2, HT.out.one_right HQ.out (by omega) hjb hb HB.out.1 HB.out.2 u3, S2.out⟩
end Go.Proofs.YtliehlefpodhaaaDoor
