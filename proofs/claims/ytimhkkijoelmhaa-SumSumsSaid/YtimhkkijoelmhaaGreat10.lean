/- Great of the reference of layer 10: whether a table and questions are more than the statements consider. For every table and list of questions. -/
import Derived.Test.YtimhkkijoelmhaaLike10
namespace Go.Proofs.Ytimhkkijoelmhaa
open Go.RowKit

def greatT (n m : Nat) (zs : List Sbj) (qs : List Qst) : Bool := decide (24 < n) || decide (12 < m) || zs.any (fun s => decide (10 < s.n)) || qs.any (fun q => decide (10 < q.n))
theorem greatT_false {n m : Nat} {zs : List Sbj} {qs : List Qst} (h : greatT n m zs qs = false) : n ≤ 24 ∧ m ≤ 12 ∧ (∀ s ∈ zs, s.n ≤ 10) ∧ ∀ q ∈ qs, q.n ≤ 10 := by
  unfold greatT at h
  simp only [Bool.or_eq_false_iff, decide_eq_false_iff_not, List.any_eq_false, decide_eq_true_eq] at h
  exact ⟨by omega, by omega, fun s hs => by have := h.1.2 s hs; omega, fun s hs => by have := h.2 s hs; omega⟩
theorem any_take_snoc {α : Type} [Inhabited α] (f : α → Bool) {l : List α} {k : Nat} (hk : k < l.length) : (l.take (k + 1)).any f = ((l.take k).any f || f l[k]!) := by
  rw [List.take_succ_eq_append_getElem hk, List.any_append, ← getElem!_pos l k hk]
  simp

set_option maxRecDepth 100000 in
set_option maxHeartbeats 4000000 in
theorem great10_any (A : Option Addr) (n c : Nat) (zs : List Sbj) (B : Option Addr) (m d : Nat) (qs : List Qst) (w : World) (hi : SbjsIn w A n zs) (hq : QstsIn w B m qs) :
    Calls Try.prog 13 #[.slice A n c, .slice B m d] w fun e w' => e = .returned (.bool (greatT n m zs qs)) ∧ Gr w w' := by
  obtain ⟨G, hG⟩ : ∃ G, greatT n m zs qs = G := ⟨_, rfl⟩
  rw [hG]
  have HG := hid hG
  have HI := hid hi
  have HQ := hid hq
  have hbig := hi.big
  have hbig' : (n : Int) ≤ 9223372036854775807 := by omega
  have hbm := hq.big
  have hbm' : (m : Int) ≤ 9223372036854775807 := by omega
  have HL := hid (And.intro hi.len hq.len)
  clear hi hq hG
  by_cases h1 : 24 < n
  · have hr : G = true := by rw [← HG.out]; unfold greatT; simp [h1]
    have h1' : (24 : Int) < (n : Int) := by omega
    subst hr
    go_enter Try.func13, Try.ntmps13
    go_wp2
    go_ret
    exact ⟨by first | rfl | simp, by (repeat (first | with_reducible exact Gr.refl _ | with_reducible refine Gr.alloc ?_ _ | with_reducible refine Gr.setCell ?_ (by simp) _ | with_reducible refine Gr.setCell ?_ (by simp; omega) _ | with_reducible refine Gr.drew ?_ | with_reducible refine Gr.drewN ?_ _))⟩
  by_cases h2 : 12 < m
  · have hr : G = true := by rw [← HG.out]; unfold greatT; simp [h2]
    have h1' : ¬ (24 : Int) < (n : Int) := by omega
    have h2' : (12 : Int) < (m : Int) := by omega
    subst hr
    go_enter Try.func13, Try.ntmps13
    go_wp2
    go_ret
    exact ⟨by first | rfl | simp, by (repeat (first | with_reducible exact Gr.refl _ | with_reducible refine Gr.alloc ?_ _ | with_reducible refine Gr.setCell ?_ (by simp) _ | with_reducible refine Gr.setCell ?_ (by simp; omega) _ | with_reducible refine Gr.drew ?_ | with_reducible refine Gr.drewN ?_ _))⟩
  have h1' : ¬ (24 : Int) < (n : Int) := by omega
  have h2' : ¬ (12 : Int) < (m : Int) := by omega
  have HB : Hid (G = (zs.any (fun s => decide (10 < s.n)) || qs.any (fun q => decide (10 < q.n)))) := by
    show _ = _
    rw [← HG.out]
    unfold greatT
    simp [h1, h2]
  clear HG h1 h2
  go_enter Try.func13, Try.ntmps13
  go_wp2_with fail
  go_loopg [5] n (fun gg s5 wr => ∃ k : Nat, k ≤ n ∧ n - k ≤ gg ∧ s5 = .int .i64 k ∧ Gr w wr ∧ Hid ((zs.take k).any (fun s => decide (10 < s.n)) = false))
  case atStart => exact ⟨0, Nat.zero_le _, by omega, rfl, Gr.refl w, rfl⟩
  case round =>
    obtain ⟨k, hk, hgk, rfl, BW, HA⟩ := hrel
    by_cases hkl : k < n
    · obtain ⟨hk', b, off, rfl, hbl, c0, c1⟩ := (HI.out.gr BW).rd.sbj hkl
      have HS := hid (any_take_snoc (fun s : Sbj => decide (10 < s.n)) hk')
      have HMem := hid (mem_get hk')
      generalize zs[k]! = s at c0 c1 HS HMem
      have hkn : (k : Int) < (n : Int) := by omega
      have hk0 : (0 : Int) ≤ (k : Int) := by omega
      clear hk'
      by_cases hs : 10 < s.n
      · have hs' : (10 : Int) < (s.n : Int) := by omega
        have hr : G = true := by
          rw [HB.out]
          have : zs.any (fun s => decide (10 < s.n)) = true := List.any_eq_true.2 ⟨s, HMem.out, by simpa using hs⟩
          rw [this]; rfl
        subst hr
        go_wp2
        go_ret
        exact ⟨by first | rfl | simp, BW⟩
      · have hs' : ¬ (10 : Int) < (s.n : Int) := by omega
        go_wp2
        go_roundg (n - (k + 1))
        case measure => omega
        case rel => exact ⟨k + 1, by omega, by omega, by go_num, BW, by unfold Hid; rw [HS.out, HA.out]; simpa using hs⟩
    · have hkn : ¬ (k : Int) < (n : Int) := by omega
      have htk : zs.take k = zs := by rw [show k = zs.length by have := HL.out.1; omega, List.take_length]
      rw [htk] at HA
      have HB2 : Hid (G = qs.any (fun q => decide (10 < q.n))) := by
        show _ = _
        rw [HB.out, HA.out]; rfl
      clear htk HA HB
      obtain ⟨wp, rfl⟩ : ∃ wp : World, wp = wr := ⟨_, rfl⟩
      go_wp2_with fail
      go_loopg [6] m (fun gg s6 wr => ∃ j : Nat, j ≤ m ∧ m - j ≤ gg ∧ s6 = .int .i64 j ∧ Gr w wr ∧ Hid ((qs.take j).any (fun q => decide (10 < q.n)) = false))
      case atStart => exact ⟨0, Nat.zero_le _, by omega, rfl, BW, rfl⟩
      case round =>
        obtain ⟨j, hj, hgj, rfl, BW2, HA⟩ := hrel
        by_cases hjl : j < m
        · obtain ⟨hj', b, off, rfl, hbl, c0, c1, c2, c3⟩ := (HQ.out.gr BW2).rd.qst hjl
          have HS := hid (any_take_snoc (fun q : Qst => decide (10 < q.n)) hj')
          have HMem := hid (mem_get hj')
          generalize qs[j]! = s at c0 c1 c2 c3 HS HMem
          have hjn : (j : Int) < (m : Int) := by omega
          have hj0 : (0 : Int) ≤ (j : Int) := by omega
          clear hj'
          by_cases hs : 10 < s.n
          · have hs' : (10 : Int) < (s.n : Int) := by omega
            have hr : G = true := by
              rw [HB2.out]
              exact List.any_eq_true.2 ⟨s, HMem.out, by simpa using hs⟩
            subst hr
            go_wp2
            go_ret
            exact ⟨by first | rfl | simp, BW2⟩
          · have hs' : ¬ (10 : Int) < (s.n : Int) := by omega
            go_wp2
            go_roundg (m - (j + 1))
            case measure => omega
            case rel => exact ⟨j + 1, by omega, by omega, by go_num, BW2, by unfold Hid; rw [HS.out, HA.out]; simpa using hs⟩
        · have hjn : ¬ (j : Int) < (m : Int) := by omega
          have hr : G = false := by
            have htk : qs.take j = qs := by rw [show j = qs.length by have := HL.out.2; omega, List.take_length]
            rw [HB2.out]
            have h := HA.out
            rwa [htk] at h
          subst hr
          go_wp2
          go_ret
          exact ⟨by first | rfl | simp, BW2⟩
end Go.Proofs.Ytimhkkijoelmhaa
