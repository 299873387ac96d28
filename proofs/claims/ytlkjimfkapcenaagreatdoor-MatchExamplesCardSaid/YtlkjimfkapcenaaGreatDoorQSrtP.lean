/- What the walks of Go's stable sort at records lean on, of a program that bears its functions; and its exchange of ranges. For elements of k cells. -/
import Derived.BigFrame
import Derived.BigRegion
import Derived.Deep.LoopGhost
import Derived.Shelf.SlSortCmp.KitK
import Derived.Test.YtlkjimfkapcenaaGreatDoorProg
import Derived.Test.YtlkjimfkapcenaaGreatDoorQBase
import Derived.Test.YtlkjimfkapcenaaGreatDoorQSymPure
namespace Go.Proofs.YtlkjimfkapcenaaGreatDoor
open Go.Shelf Go.RowKit Go.Lib Go.Sort

structure SrtP (P : Program) (k : Nat) : Prop where
  mixed : P.follows .mixedOrders = true
  fSwap : P.funcs[107]? = some Tryz.f107
  fRot : P.funcs[106]? = some Tryz.f106
  fSym : P.funcs[104]? = some Tryz.f104
  t0 : P.underlying 0 = some (TypeDesc.tuple #[])
  a0 : ∀ w, (isAgg 0).run P w = .ok false w
  z0 : ∀ w, (Go.sizeOf 0).run P w = .ok 1 w
  v0 : ∀ w, (zeroValue 0).run P w = .ok (Value.tuple #[]) w
  t3 : P.underlying 3 = some (TypeDesc.int IntKind.i64)
  a3 : ∀ w, (isAgg 3).run P w = .ok false w
  z3 : ∀ w, (Go.sizeOf 3).run P w = .ok 1 w
  v3 : ∀ w, (zeroValue 3).run P w = .ok (Value.int IntKind.i64 0) w
  t4 : P.underlying 4 = some (TypeDesc.bool)
  a4 : ∀ w, (isAgg 4).run P w = .ok false w
  z4 : ∀ w, (Go.sizeOf 4).run P w = .ok 1 w
  v4 : ∀ w, (zeroValue 4).run P w = .ok (Value.bool false) w
  t22 : P.underlying 25 = some (TypeDesc.slice 41)
  a22 : ∀ w, (isAgg 25).run P w = .ok false w
  z22 : ∀ w, (Go.sizeOf 25).run P w = .ok 1 w
  v22 : ∀ w, (zeroValue 25).run P w = .ok (Value.slice none 0 0) w
  t25 : P.underlying 101 = some (TypeDesc.func #[41, 41] #[3] false)
  a25 : ∀ w, (isAgg 101).run P w = .ok false w
  z25 : ∀ w, (Go.sizeOf 101).run P w = .ok 1 w
  v25 : ∀ w, (zeroValue 101).run P w = .ok (Value.nilFunc) w
  t9 : P.underlying 105 = some (TypeDesc.int IntKind.u64)
  a9 : ∀ w, (isAgg 105).run P w = .ok false w
  z9 : ∀ w, (Go.sizeOf 105).run P w = .ok 1 w
  v9 : ∀ w, (zeroValue 105).run P w = .ok (Value.int IntKind.u64 0) w
  aE : ∀ w, (isAgg 41).run P w = .ok true w
  zE : ∀ w, (Go.sizeOf 41).run P w = .ok k w

theorem srtP_here : SrtP Tryz.prog 8 := {
  mixed := by rfl
  fSwap := Tryz.func107
  fRot := Tryz.func106
  fSym := Tryz.func104
  t0 := Tryz.underlying0
  a0 := Tryz.isAgg0
  z0 := Tryz.sizeOf0
  v0 := Tryz.zeroValue0
  t3 := Tryz.underlying3
  a3 := Tryz.isAgg3
  z3 := Tryz.sizeOf3
  v3 := Tryz.zeroValue3
  t4 := Tryz.underlying4
  a4 := Tryz.isAgg4
  z4 := Tryz.sizeOf4
  v4 := Tryz.zeroValue4
  t22 := Tryz.underlying25
  a22 := Tryz.isAgg25
  z22 := Tryz.sizeOf25
  v22 := Tryz.zeroValue25
  t25 := Tryz.underlying101
  a25 := Tryz.isAgg101
  z25 := Tryz.sizeOf101
  v25 := Tryz.zeroValue101
  t9 := Tryz.underlying105
  a9 := Tryz.isAgg105
  z9 := Tryz.sizeOf105
  v9 := Tryz.zeroValue105
  aE := Tryz.isAgg41
  zE := Tryz.sizeOf41 }

variable {P : Program} {α : Type} [Inhabited α]
theorem swR_more (d : Array α) (a b n : Nat) : swp (swR d a b n) (a + n) (b + n) = swR d a b (n + 1) := rfl

set_option maxHeartbeats 4000000 in
set_option maxRecDepth 1000000 in
theorem swapRange_k {k : Nat} (L : SrtP P k) (enc : α → List Value) (fn : Value) (blk off cap a b n : Nat) (d0 d : Array α) (w0 w : World)
    (R : RowK enc k w0 blk off d0) (hs : d0.size = d.size) (S : SWK enc k w0 blk off d w) (ha : a + n ≤ d.size) (hb : b + n ≤ d.size) (hsz : d.size < 4611686018427387904) :
    Calls P 107 #[.slice (some ⟨blk, off, none⟩) d.size cap, .int .i64 a, .int .i64 b, .int .i64 n, fn] w fun e w' => e = .returned (.tuple #[]) ∧ SWK enc k w0 blk off (swR d a b n) w' := by
  have mixed := L.mixed; have t0 := L.t0; have a0 := L.a0; have z0 := L.z0; have v0 := L.v0; have t3 := L.t3; have a3 := L.a3; have z3 := L.z3; have v3 := L.v3; have t4 := L.t4; have a4 := L.a4; have z4 := L.z4; have v4 := L.v4; have t22 := L.t22; have a22 := L.a22; have z22 := L.z22; have v22 := L.v22; have t25 := L.t25; have a25 := L.a25; have z25 := L.z25; have v25 := L.v25; have aE := L.aE; have zE := L.zE
  have S0 : Aside (SWK enc k w0 blk off d w) := S
  clear S
  go_enter L.fSwap, Tryz.ntmps107
  go_wp2
  go_loopg [10] n (fun kx s10 wr => ∃ i : Nat, s10 = .int .i64 i ∧ i ≤ n ∧ n - i ≤ kx ∧ Aside (SWK enc k w0 blk off (swR d a b i) wr))
  case atStart => exact ⟨0, rfl, Nat.zero_le _, by omega, S0⟩
  case round =>
    clear S0
    obtain ⟨i, rfl, hin, hkx, S1⟩ := hrel
    by_cases hlt : i < n
    · have hds : (swR d a b i).size = d.size := swR_size d a b i
      have HM : Aside (swp (swR d a b i) (a + i) (b + i) = swR d a b (i + 1)) := swR_more d a b i
      generalize swR d a b i = dk at S1 hds HM
      have hltz : (i : Int) < (n : Int) := by omega
      have ea : ((a : Int) + (i : Int)).toNat = a + i := by omega
      have pa : (0 : Int) ≤ (a : Int) + (i : Int) := by omega
      have ba : (a : Int) + (i : Int) < (d.size : Int) := by omega
      have ra : IntKind.i64.wrap ((a : Int) + (i : Int)) = (a : Int) + (i : Int) := by rw [IntKind.wrap_i64]; omega
      have ec : ((b : Int) + (i : Int)).toNat = b + i := by omega
      have pc : (0 : Int) ≤ (b : Int) + (i : Int) := by omega
      have bc : (b : Int) + (i : Int) < (d.size : Int) := by omega
      have rc : IntKind.i64.wrap ((b : Int) + (i : Int)) = (b : Int) + (i : Int) := by rw [IntKind.wrap_i64]; omega
      have S2 : Aside (SWK enc k w0 blk off (swp dk (a + i) (b + i)) ((wr.drew.setCells blk (off + (a + i) * k) (enc dk[b + i]!)).setCells blk (off + (b + i) * k) (enc dk[a + i]!))) := S1.out.swapped R (a + i) (b + i) (by omega) (by omega)
      have la := S1.out.ld1 R (by omega) P (a + i) (by omega)
      have lb := S1.out.ld1 R (by omega) P (b + i) (by omega)
      have sa := S1.out.st1 R (by omega) P (a + i) (by omega) dk[b + i]!
      have sb := S1.out.st2 R (by omega) P (a + i) (b + i) (by omega) (by omega) dk[b + i]! dk[a + i]!
      have na : (enc dk[a + i]!).length = k := R.hk _
      have nb : (enc dk[b + i]!).length = k := R.hk _
      generalize enc dk[a + i]! = cI at S2 la sb na
      generalize enc dk[b + i]! = cJ at S2 lb sa sb nb
      clear S1
      go_wp2_with fail
      go_big_region_o
      clear la lb sa sb
      generalize (wr.drew.setCells blk (off + (a + i) * k) cJ).setCells blk (off + (b + i) * k) cI = w2 at S2 ⊢
      go_wp2
      go_roundg (n - (i + 1))
      case measure => omega
      case rel => exact ⟨i + 1, by first | rfl | simp, by omega, Nat.le_refl _, HM.out ▸ S2⟩
    · have hltz : ¬ (i : Int) < (n : Int) := by omega
      obtain rfl : i = n := by omega
      go_wp2
      go_end0
      exact ⟨rfl, S1.out⟩

set_option maxHeartbeats 4000000 in
set_option maxRecDepth 1000000 in
theorem rotate_k {k : Nat} (L : SrtP P k) (enc : α → List Value) (fn : Value) (blk off cap a m b : Nat) (d0 d : Array α) (w0 w : World)
    (R : RowK enc k w0 blk off d0) (hs : d0.size = d.size) (S : SWK enc k w0 blk off d w) (ha : a < m) (hm : m < b) (hb : b ≤ d.size) (hsz : d.size < 4611686018427387904) :
    Calls P 106 #[.slice (some ⟨blk, off, none⟩) d.size cap, .int .i64 a, .int .i64 m, .int .i64 b, fn] w fun e w' => e = .returned (.tuple #[]) ∧ ∃ d', PermIn a b d d' ∧ Moved (rotI a m b) d d' ∧ SWK enc k w0 blk off d' w' := by
  have mixed := L.mixed; have t0 := L.t0; have a0 := L.a0; have z0 := L.z0; have v0 := L.v0; have t3 := L.t3; have a3 := L.a3; have z3 := L.z3; have v3 := L.v3; have t4 := L.t4; have a4 := L.a4; have z4 := L.z4; have v4 := L.v4; have t22 := L.t22; have a22 := L.a22; have z22 := L.z22; have v22 := L.v22; have t25 := L.t25; have a25 := L.a25; have z25 := L.z25; have v25 := L.v25; have aE := L.aE; have zE := L.zE
  have HS := hid (fun (x y n : Nat) (dk : Array α) (W : World) (h : dk.size = d.size) (S : SWK enc k w0 blk off dk W) (hx : x + n ≤ d.size) (hy : y + n ≤ d.size) => swapRange_k L enc fn blk off cap x y n d0 dk w0 W R (by omega) S (by omega) (by omega) (by omega))
  have S0 : Aside (SWK enc k w0 blk off d w) := S
  clear S
  have r1 : IntKind.i64.wrap ((m : Int) - (a : Int)) = ((m - a : Nat) : Int) := by rw [IntKind.wrap_i64]; omega
  have r2 : IntKind.i64.wrap ((b : Int) - (m : Int)) = ((b - m : Nat) : Int) := by rw [IntKind.wrap_i64]; omega
  have eS : ∀ args w, (callFunc 107 args).run P w = .ok (.enter 107 args) w := enters_of L.fSwap (by kernel_rfl) rfl
  go_enter L.fRot, Tryz.ntmps106
  go_wp2
  go_loopg [10, 11] ((m - a) + (b - m)) (fun kx s10 s11 wr => ∃ (i j : Nat) (dk : Array α), s10 = .int .i64 i ∧ s11 = .int .i64 j ∧ 0 < i ∧ 0 < j ∧ a + i ≤ m ∧ m + j ≤ b ∧ i + j ≤ kx ∧ dk.size = d.size ∧ Hid (RotInv a m b d i j dk) ∧ Aside (SWK enc k w0 blk off dk wr))
  case atStart => exact ⟨m - a, b - m, d, by first | rfl | simp, by first | rfl | simp, by omega, by omega, by omega, by omega, by omega, rfl, hid (RotInv.start d (by omega) (by omega)), S0⟩
  case round =>
    clear S0 r1 r2
    obtain ⟨i, j, dk, rfl, rfl, hi, hj, him, hjb, hkx, hds, HR, S1⟩ := hrel
    have r3 : IntKind.i64.wrap ((m : Int) - (i : Int)) = ((m - i : Nat) : Int) := by rw [IntKind.wrap_i64]; omega
    rcases Nat.lt_trichotomy i j with hlt | heq | hgt
    · have q1 : ¬ (i : Int) = (j : Int) := by omega
      have q2 : ¬ (j : Int) < (i : Int) := by omega
      have r4 : IntKind.i64.wrap ((m : Int) + (j : Int)) = (m : Int) + (j : Int) := by rw [IntKind.wrap_i64]; omega
      have r5 : IntKind.i64.wrap ((m : Int) + (j : Int) - (i : Int)) = (m : Int) + (j : Int) - (i : Int) := by rw [IntKind.wrap_i64]; omega
      have r7 : ((m + j - i : Nat) : Int) = (m : Int) + (j : Int) - (i : Int) := by omega
      have r6 : IntKind.i64.wrap ((j : Int) - (i : Int)) = ((j - i : Nat) : Int) := by rw [IntKind.wrap_i64]; omega
      have HC : Hid (Calls P 107 #[.slice (some ⟨blk, off, none⟩) d.size cap, .int .i64 (m - i : Nat), .int .i64 ((m : Int) + (j : Int) - (i : Int)), .int .i64 i, fn] wr fun e w' => e = .returned (.tuple #[]) ∧ SWK enc k w0 blk off (swR dk (m - i) (m + j - i) i) w') := r7 ▸ hds ▸ HS.out (m - i) (m + j - i) i dk wr hds S1.out (by omega) (by omega)
      go_wp2_with (go_at_fn 107; refine HC.out.mono ?_; rintro e w1 ⟨rfl, S2⟩; have S2 : Aside (SWK enc k w0 blk off _ w1) := S2)
      go_roundg (j - 1 + i)
      case measure => omega
      case rel => exact ⟨i, j - i, _, rfl, rfl, hi, by omega, by omega, by omega, by omega, by rw [swR_size]; exact hds, hid (HR.out.lt hlt him hjb hb), S2⟩
    · subst heq
      have HC : Hid (Calls P 107 #[.slice (some ⟨blk, off, none⟩) d.size cap, .int .i64 (m - i : Nat), .int .i64 m, .int .i64 i, fn] wr fun e w' => e = .returned (.tuple #[]) ∧ SWK enc k w0 blk off (swR dk (m - i) m i) w') := hds ▸ HS.out (m - i) m i dk wr hds S1.out (by omega) (by omega)
      go_wp2_with (go_at_fn 107; refine HC.out.mono ?_; rintro e w1 ⟨rfl, S2⟩; have S2 : Aside (SWK enc k w0 blk off _ w1) := S2)
      go_end0
      have q := HR.out.done him hjb hb
      exact ⟨rfl, _, q.1, q.2, S2.out⟩
    · have q1 : ¬ (i : Int) = (j : Int) := by omega
      have q2 : (j : Int) < (i : Int) := by omega
      have r6 : IntKind.i64.wrap ((i : Int) - (j : Int)) = ((i - j : Nat) : Int) := by rw [IntKind.wrap_i64]; omega
      have HC : Hid (Calls P 107 #[.slice (some ⟨blk, off, none⟩) d.size cap, .int .i64 (m - i : Nat), .int .i64 m, .int .i64 j, fn] wr fun e w' => e = .returned (.tuple #[]) ∧ SWK enc k w0 blk off (swR dk (m - i) m j) w') := hds ▸ HS.out (m - i) m j dk wr hds S1.out (by omega) (by omega)
      go_wp2_with (go_at_fn 107; refine HC.out.mono ?_; rintro e w1 ⟨rfl, S2⟩; have S2 : Aside (SWK enc k w0 blk off _ w1) := S2)
      go_roundg (i - 1 + j)
      case measure => omega
      case rel => exact ⟨i - j, j, _, rfl, rfl, by omega, hj, by omega, by omega, by omega, by rw [swR_size]; exact hds, hid (HR.out.gt hgt him hjb hb), S2⟩
end Go.Proofs.YtlkjimfkapcenaaGreatDoor
