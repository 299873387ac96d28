/- SameTable and SameQuestions of the reference of layer 10: at tables, and at questions, that are alike they are true. -/
import Derived.Test.YtimhkkijoelmhaaLike10
import Derived.Test.YtimhkkijoelmhaaSameInts10
namespace Go.Proofs.Ytimhkkijoelmhaa
open Go.RowKit

set_option maxRecDepth 100000 in
set_option maxHeartbeats 4000000 in
theorem sameTable_any (B : Option Addr) (d : Nat) (es : List Sbj) (A : Option Addr) (n c : Nat) (zs : List Sbj) (w : World) (hj : SbjsIn w B n es) (hi : SbjsIn w A n zs) (hl : es.map Sbj.bare = zs.map Sbj.bare) :
    Calls Try.prog 23 #[.slice B n d, .slice A n c] w fun e w' => e = .returned (.bool true) ∧ Gr w w' := by
  have HI := hid hi
  have HJ := hid hj
  have HK := hid (fun j (h : j < zs.length) => like_get hl h)
  have hbig := hi.big
  have hbig' : (n : Int) ≤ 9223372036854775807 := by omega
  clear hi hj hl
  go_enter Try.func23, Try.ntmps23
  go_wp2_with fail
  go_loopg [5, 6] n (fun gg s5 s6 wr => ∃ k : Nat, k ≤ n ∧ n - k ≤ gg ∧ s5 = .int .i64 k ∧ Gr w wr)
  case atStart => exact ⟨0, Nat.zero_le _, by omega, rfl, Gr.refl w⟩
  case round =>
    obtain ⟨k, hk, hgk, rfl, BW⟩ := hrel
    by_cases hkl : k < n
    · obtain ⟨hk', b, off, rfl, hbl, c0, c1⟩ := (HI.out.gr BW).rd.sbj hkl
      obtain ⟨hq', b', off', rfl, hbl', d0, d1⟩ := (HJ.out.gr BW).rd.sbj hkl
      obtain ⟨e1, e2, e3⟩ := HK.out k hk'
      have HV := hid (HI.out.vals _ (mem_get hk'))
      have HV' := hid (HJ.out.vals _ (mem_get hq'))
      rw [e1] at d0
      rw [e2] at d1 HV'
      rw [e3] at HV'
      generalize zs[k]! = s at c0 c1 d0 d1 HV HV'
      generalize es[k]!.a = a' at d1 HV'
      generalize es[k]!.c = cc' at d1
      obtain ⟨id, a, m, cc, vs⟩ := s
      dsimp only at *
      have hm := HV.out.2
      have hm' : (m : Int) ≤ 9223372036854775807 := by omega
      have hkn : (k : Int) < (n : Int) := by omega
      have hk0 : (0 : Int) ≤ (k : Int) := by omega
      clear hk' hq' e1 e2 e3
      have HC := hid (And.intro c0 (And.intro c1 (And.intro d0 d1)))
      go_wp2_with fail
      go_quiet (fail)
      clear c0 c1 d0 d1
      go_wp2_with fail
      go_loopg [6] m (fun gg s6 wq => ∃ j : Nat, j ≤ m ∧ m - j ≤ gg ∧ s6 = .int .i64 j ∧ Gr wr wq)
      case atStart => exact ⟨0, Nat.zero_le _, by omega, rfl, (Gr.refl _).drewN _⟩
      case round =>
        obtain ⟨j, hj, hgj, rfl, BW2⟩ := hrel
        obtain ⟨c0, c1, d0, d1⟩ := HC.out
        replace c1 := row_cell c1 BW2
        replace d1 := row_cell d1 BW2
        clear c0 d0
        by_cases hjl : j < m
        · obtain ⟨hv1, b1, o1, rfl, hb1, f0⟩ := (HV.out.1.gr (BW.trans BW2)).int_at hjl
          obtain ⟨hv2, b2, o2, rfl, hb2, f1⟩ := (HV'.out.1.gr (BW.trans BW2)).int_at hjl
          generalize vs[j]! = y at f0 f1
          have hjn : (j : Int) < (m : Int) := by omega
          have hj0 : (0 : Int) ≤ (j : Int) := by omega
          clear hv1 hv2
          go_wp2_with fail
          go_quiet (fail)
          go_wp2
          go_roundg (m - (j + 1))
          case measure => omega
          case rel => exact ⟨j + 1, by omega, by omega, by go_num, BW2.drewN _⟩
        · have hjn : ¬ (j : Int) < (m : Int) := by omega
          go_wp2
          go_roundg (n - (k + 1))
          case measure => omega
          case rel => exact ⟨k + 1, by omega, by omega, by go_num, BW.trans BW2⟩
    · have hkn : ¬ (k : Int) < (n : Int) := by omega
      go_wp2
      go_ret
      exact ⟨rfl, BW⟩
end Go.Proofs.Ytimhkkijoelmhaa
