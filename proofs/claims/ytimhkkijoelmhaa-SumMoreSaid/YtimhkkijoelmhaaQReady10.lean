/- Whether a table and an audit are valid, and not great; what divides all of some numbers. -/
import Derived.Test.YtimhkkijoelmhaaQOpenErr10
import Derived.Test.YtimhkkijoelmhaaQWithin10
import Derived.Test.YtimhkkijoelmhaaQOrd10
import Derived.Test.YtimhkkijoelmhaaQLow10
import Derived.WalkSmall
import Derived.Deep.LoopGhost
namespace Go.Proofs.Ytimhkkijoelmhaa
open Go.RowKit

set_option maxRecDepth 100000 in
set_option maxHeartbeats 4000000 in
theorem common_any (A : Option Addr) (n c : Nat) (xs : List Int) (w : World) (h : Rd w 1 A n (xs.map (Value.int .i64))) (hn : n ≤ 9223372036854775807) (hx : ∀ x ∈ xs, x.natAbs ≤ 9223372036854775807) :
    Calls Try.prog 39 #[.slice A n c] w fun e w' => e = .returned (.int .i64 (gcdL xs)) ∧ Gr w w' := by
  have hl : xs.length = n := by have := h.len; simpa using this
  have HR := hid h
  have HX := hid hx
  have HG := hid (fun k => gcdL_le (xs.take k) (fun x hh => hx x (List.mem_of_mem_take hh)))
  have hnz : (n : Int) ≤ 9223372036854775807 := by omega
  clear h hx hn
  go_enter Try.func39, Try.ntmps39
  go_wp2_with fail
  go_loopg [3, 5, 8] n (fun gg s3 s5 s8 wr => ∃ k : Nat, k ≤ n ∧ n - k ≤ gg ∧ s3 = .int .i64 (gcdL (xs.take k)) ∧ s8 = .int .i64 k ∧ Gr w wr)
  case atStart => exact ⟨0, Nat.zero_le _, by omega, rfl, rfl, Gr.refl w⟩
  case round =>
    obtain ⟨k, hk, hgk, rfl, rfl, BW⟩ := hrel
    by_cases hkl : k < n
    · obtain ⟨hk', b, off, rfl, hbl, c0⟩ := (HR.out.gr BW).int_at hkl
      have HS : Hid (gcdL (xs.take (k + 1)) = Nat.gcd (gcdL (xs.take k)) (xs[k]!).natAbs) := by
        show _ = _
        rw [List.take_succ_eq_append_getElem hk', gcdL_snoc, ← getElem!_pos xs k hk']
      have hb := HX.out _ (mem_get hk')
      have hgb := HG.out k
      generalize xs[k]! = x at c0 HS hb
      generalize gcdL (xs.take k) = g at HS hgb
      have hkn : (k : Int) < (n : Int) := by omega
      have hk0 : (0 : Int) ≤ (k : Int) := by omega
      have hw1 : IntKind.i64.wrap (-x) = -x := by rw [IntKind.wrap_i64]; omega
      have hmx : max x (-x) = (x.natAbs : Int) := by omega
      clear hk'
      obtain ⟨wp, rfl⟩ : ∃ wp : World, wp = wr := ⟨_, rfl⟩
      go_wp2_with fail
      all_goals
        go_loopg [3, 5] x.natAbs (fun gg s3 s5 wq => ∃ a b : Nat, s3 = .int .i64 a ∧ s5 = .int .i64 b ∧ b ≤ gg ∧ Nat.gcd a b = Nat.gcd g x.natAbs ∧ a ≤ 9223372036854775807 ∧ b ≤ 9223372036854775807 ∧ Gr w wq)
        case atStart => exact ⟨g, x.natAbs, rfl, congrArg (Value.int .i64) (by omega), Nat.le_refl _, rfl, hgb, hb, BW⟩
        case round =>
          obtain ⟨p, q, rfl, rfl, hqg, hpq, hp, hq, BW2⟩ := hrel
          by_cases hq0 : q = 0
          · subst hq0
            rw [Nat.gcd_zero_right] at hpq
            go_wp2
            go_roundg (n - (k + 1))
            case measure => omega
            case rel => exact ⟨k + 1, by omega, by omega, by rw [HS.out, hpq], by go_num, BW2⟩
          · have hq0' : ¬ (q : Int) = 0 := by omega
            have hml := Nat.mod_lt p (show q > 0 by omega)
            have hgs : Nat.gcd q (p % q) = Nat.gcd p q := gcd_step p q
            obtain ⟨m, hm0⟩ : ∃ m, p % q = m := ⟨_, rfl⟩
            have hm : Int.tmod (p : Int) (q : Int) = (m : Int) := by rw [Int.tmod_eq_emod_of_nonneg (by omega), ← hm0]; rfl
            rw [hm0] at hml hgs
            have hw2 : IntKind.i64.wrap (m : Int) = (m : Int) := by rw [IntKind.wrap_i64]; omega
            have HGS := hid hgs
            clear hm0 hgs
            have HPQ := hid hpq
            go_wp2_with fail
            go_quiet (fail)
            go_wp2
            go_roundg m
            case measure => omega
            case rel => exact ⟨q, m, rfl, by first | rfl | (rw [hm, hw2]) | (rw [hm]), Nat.le_refl _, by rw [HGS.out]; exact HPQ.out, hq, by omega, BW2.drewN _⟩
    · have hkn : ¬ (k : Int) < (n : Int) := by omega
      have htk : xs.take k = xs := by rw [show k = xs.length by omega, List.take_length]
      rw [htk]
      go_wp2
      go_ret
      exact ⟨rfl, BW⟩
def readyB (columns : Int) (n qn : Nat) (zs : List Sbj) (qs : List Qst) : Bool := !greatT n qn zs qs && (tableB columns zs && auditB columns qs)
theorem ready_audit {columns : Int} {n qn : Nat} {zs : List Sbj} {qs : List Qst} (h : readyB columns n qn zs qs = true) : auditN columns zs qs = 0 ∧ tableB columns zs = true ∧ auditB columns qs = true := by
  unfold readyB at h
  simp only [Bool.and_eq_true] at h
  unfold auditN
  rw [if_pos h.2.1, if_pos h.2.2]
  exact ⟨rfl, h.2⟩

set_option maxRecDepth 100000 in
set_option maxHeartbeats 4000000 in
theorem ready_any (columns : Int) (A : Option Addr) (n c : Nat) (zs : List Sbj) (QA : Option Addr) (qn qc : Nat) (qs : List Qst) (w : World) (hi : SbjsIn w A n zs) (hq : QstsIn w QA qn qs) :
    Calls Try.prog 38 #[.int .i64 columns, .slice A n c, .slice QA qn qc] w fun e w' => e = .returned (.bool (readyB columns n qn zs qs)) ∧ Gr w w' := by
  have HG := hid (fun W (g : Gr w W) => great10_any A n c zs QA qn qc qs W (hi.gr g) (hq.gr g))
  have HC := hid (fun W (k : Gr w W) => refCheck_any columns A n c zs W (hi.gr k))
  have HQ := hid (fun W (k : Gr w W) (h : tableB columns zs = true) => refaudit_any columns QA qn qc qs W (hq.gr k) (table_cols h))
  unfold readyB
  unfold tableN at HC
  obtain ⟨G, hG⟩ : ∃ G, greatT n qn zs qs = G := ⟨_, rfl⟩
  rw [hG] at HG ⊢
  obtain ⟨tb, htb⟩ : ∃ tb, tableB columns zs = tb := ⟨_, rfl⟩
  rw [htb] at HC HQ ⊢
  obtain ⟨qb, hqb⟩ : ∃ qb, auditB columns qs = qb := ⟨_, rfl⟩
  rw [hqb] at HQ ⊢
  clear hi hq hG htb hqb
  cases G with
  | true =>
    go_enter Try.func38, Try.ntmps38
    go_wp2_with (go_at_call 13; (with_reducible refine (HG.out _ (Gr.refl w)).mono ?_); rintro e w1 ⟨rfl, hb1⟩)
    go_ret
    exact ⟨rfl, hb1⟩
  | false =>
    cases tb with
    | false =>
      go_enter Try.func38, Try.ntmps38
      go_wp2_with (first
        | (go_at_call 13; (with_reducible refine (HG.out _ (Gr.refl w)).mono ?_); rintro e w1 ⟨rfl, hb1⟩)
        | (go_at_call 21; (with_reducible refine (HC.out _ hb1).mono ?_); rintro e w2 ⟨rfl, hb2⟩))
      go_ret
      exact ⟨rfl, hb1.trans hb2⟩
    | true =>
      have HQ2 := hid (fun W k => HQ.out W k rfl)
      clear HQ
      go_enter Try.func38, Try.ntmps38
      go_wp2_with (first
        | (go_at_call 13; (with_reducible refine (HG.out _ (Gr.refl w)).mono ?_); rintro e w1 ⟨rfl, hb1⟩)
        | (go_at_call 21; (with_reducible refine (HC.out _ hb1).mono ?_); rintro e w2 ⟨rfl, hb2⟩)
        | (go_at_call 67; (with_reducible refine (HQ2.out _ (hb1.trans hb2)).mono ?_); rintro e w3 ⟨rfl, hb3⟩))
      go_ret
      exact ⟨rfl, (hb1.trans hb2).trans hb3⟩
end Go.Proofs.Ytimhkkijoelmhaa
