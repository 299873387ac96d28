/- Check of the reference of layer 10: whether subjects are a table. For every list of subjects and number of columns. -/
import Derived.Test.YtimhkkijoelmhaaWithin10
namespace Go.Proofs.Ytimhkkijoelmhaa
open Go.RowKit

theorem tableN_parts {columns : Int} {zs : List Sbj} {n : Nat} (hl : zs.length = n) : (inB 1 5 columns = false → tableN columns zs = 100) ∧ (16 < n → tableN columns zs = 100) ∧ (∀ k, k < n → sbjBad columns zs k = true → tableN columns zs = 100) ∧
    (inB 1 5 columns = true → n ≤ 16 → (∀ k, k < n → sbjBad columns zs k = false) → tableN columns zs = 0) := by
  unfold tableN tableB
  refine ⟨fun h => by rw [h]; simp, fun h => by rw [if_neg]; simp; omega, fun k hk h => ?_, fun h1 h2 h3 => ?_⟩
  · rw [if_neg]
    intro hh
    simp only [Bool.and_eq_true, Bool.not_eq_true', List.any_eq_false, List.mem_range] at hh
    have := hh.2 k (by omega)
    rw [h] at this
    exact this rfl
  · rw [if_pos]
    simp only [Bool.and_eq_true, Bool.not_eq_true', List.any_eq_false, List.mem_range, decide_eq_true_eq]
    exact ⟨⟨h1, by omega⟩, fun k hk => by rw [h3 k (by omega)]; simp⟩

set_option maxRecDepth 100000 in
set_option maxHeartbeats 16000000 in
theorem refCheck_any (columns : Int) (A : Option Addr) (n c : Nat) (zs : List Sbj) (w : World) (hi : SbjsIn w A n zs) :
    Calls Try.prog 21 #[.int .i64 columns, .slice A n c] w fun e w' => e = .returned (.int .i64 (tableN columns zs)) ∧ Gr w w' := by
  have HI := hid hi
  have HL := hid hi.len
  have hbig := hi.big
  have hbig' : (n : Int) ≤ 9223372036854775807 := by omega
  have HT := hid (tableN_parts (columns := columns) hi.len)
  generalize tableN columns zs = R at HT ⊢
  have HW := hid (fun n lo hi W => within10_any n lo hi W)
  clear hi
  obtain ⟨cb, hcb⟩ : ∃ cb, inB 1 5 columns = cb := ⟨_, rfl⟩
  have HWc := hid (fun W => HW.out columns 1 5 W)
  rw [hcb] at HWc HT
  cases cb with
  | false =>
    have HR := hid (HT.out.1 rfl)
    clear hcb HT
    go_enter Try.func21, Try.ntmps21
    go_wp2_with (first
      | (go_at_call 50; (with_reducible refine (HWc.out _).mono ?_); rotate_right; rintro e w' ⟨rfl, rfl⟩))
    go_ret
    exact ⟨by rw [HR.out]; rfl, Gr.refl w⟩
  | true =>
  by_cases h16 : (16 : Int) < (n : Int)
  · have HR := hid (HT.out.2.1 (by omega))
    clear hcb HT
    go_enter Try.func21, Try.ntmps21
    go_wp2_with (first
      | (go_at_call 50; (with_reducible refine (HWc.out _).mono ?_); rotate_right; rintro e w' ⟨rfl, rfl⟩))
    go_ret
    exact ⟨by rw [HR.out]; rfl, Gr.refl w⟩
  have hcc : 1 ≤ columns ∧ columns ≤ 5 := by unfold inB at hcb; simpa using hcb
  obtain ⟨cn, hcn⟩ : ∃ cn : Nat, columns = cn := ⟨columns.toNat, by omega⟩
  subst hcn
  have HBad := hid HT.out.2.2.1
  have HAll := hid (HT.out.2.2.2 rfl (by omega))
  clear hcb HT
  go_enter Try.func21, Try.ntmps21
  go_wp2_with (first
    | (go_at_call 50; (with_reducible refine (HWc.out _).mono ?_); rotate_right; rintro e w' ⟨rfl, rfl⟩))
  go_loopg [5] n (fun gg s5 wr => ∃ k : Nat, k ≤ n ∧ n - k ≤ gg ∧ s5 = .int .i64 k ∧ Gr w wr ∧ Hid (∀ j, j < k → sbjBad cn zs j = false))
  case atStart => exact ⟨0, Nat.zero_le _, by omega, rfl, Gr.refl w, fun j hj => absurd hj (Nat.not_lt_zero _)⟩
  case round =>
    obtain ⟨k, hk, hgk, rfl, BW, HA⟩ := hrel
    by_cases hkl : k < n
    · obtain ⟨hk', b, off, hAe, hbl, c0, c1⟩ := (HI.out.gr BW).rd.sbj hkl
      have HV := hid ((HI.out.gr BW).vals _ (mem_get hk'))
      have HB := hid (HBad.out k hkl)
      have HDef : Hid (sbjBad cn zs k = ((zs.take k).any (fun x => x.id == zs[k]!.id) || !(inB 0 999999 zs[k]!.id && (zs[k]!.vals.length : Int) == (cn : Int) && zs[k]!.vals.all (inB 0 1000000)))) := rfl
      obtain ⟨x, hx⟩ : ∃ x, zs[k]! = x := ⟨_, rfl⟩
      rw [hx] at c0 c1 HV HDef
      clear hx
      obtain ⟨id, a, vn, vc, vals⟩ := x
      dsimp only at *
      subst hAe
      obtain ⟨ib, hib⟩ : ∃ ib, inB 0 999999 id = ib := ⟨_, rfl⟩
      have HWi := hid (fun W => HW.out id 0 999999 W)
      rw [hib] at HWi HDef
      have hvl : vals.length = vn := by have := HV.out.1.len; simpa using this
      have HVL := hid hvl
      have hvb := HV.out.2
      have hkn : (k : Int) < (n : Int) := by omega
      have hk0 : (0 : Int) ≤ (k : Int) := by omega
      clear hib hvl
      cases ib with
      | false =>
        have HR := hid (HB.out (by rw [HDef.out]; simp))
        go_wp2_with (first
          | (go_at_call 50; (with_reducible refine (HWi.out _).mono ?_); rotate_right; rintro e w' ⟨rfl, rfl⟩))
        go_ret
        exact ⟨by rw [HR.out]; rfl, BW⟩
      | true =>
      by_cases hvc : (vn : Int) = (cn : Int)
      case neg =>
        have HR := hid (HB.out (by rw [HDef.out, HVL.out]; simp; omega))
        go_wp2_with (first
          | (go_at_call 50; (with_reducible refine (HWi.out _).mono ?_); rotate_right; rintro e w' ⟨rfl, rfl⟩))
        go_ret
        exact ⟨by rw [HR.out]; rfl, BW⟩
      case pos =>
      have hvc' : vn = cn := by omega
      subst hvc'
      obtain ⟨wo, rfl⟩ : ∃ wo : World, wo = wr := ⟨_, rfl⟩
      go_wp2_with (first
        | (go_at_call 50; (with_reducible refine (HWi.out _).mono ?_); rotate_right; rintro e w' ⟨rfl, rfl⟩))
      go_loopg [6] vn (fun gg s6 wr => ∃ j : Nat, j ≤ vn ∧ vn - j ≤ gg ∧ s6 = .int .i64 j ∧ Gr wo wr ∧ Hid (∀ i, i < j → inB 0 1000000 vals[i]! = true))
      case atStart => exact ⟨0, Nat.zero_le _, by omega, rfl, Gr.refl wo, fun j hj => absurd hj (Nat.not_lt_zero _)⟩
      case round =>
        obtain ⟨j, hj, hgj, rfl, BW2, HA2⟩ := hrel
        have c0 := row_cell c0 BW2
        have c1 := row_cell c1 BW2
        by_cases hjl : j < vn
        · obtain ⟨hj', b2, off2, hA2, hbl2, d0⟩ := (HV.out.1.gr BW2).int_at hjl
          obtain ⟨y, hy⟩ : ∃ y, vals[j]! = y := ⟨_, rfl⟩
          rw [hy] at d0
          have HY := hid hy
          subst hA2
          obtain ⟨yb, hyb⟩ : ∃ yb, inB 0 1000000 y = yb := ⟨_, rfl⟩
          have HWy := hid (fun W => HW.out y 0 1000000 W)
          rw [hyb] at HWy
          have HYB := hid hyb
          have hjn : (j : Int) < (vn : Int) := by omega
          have hj0 : (0 : Int) ≤ (j : Int) := by omega
          clear hy hyb
          cases yb with
          | false =>
            have HR := hid (HB.out (by
              have : vals.all (inB 0 1000000) = false := by
                rw [List.all_eq_false]
                exact ⟨_, mem_get hj', by rw [HY.out, HYB.out]; simp⟩
              rw [HDef.out, this]; simp))
            go_wp2_with (first
              | (go_at_call 50; (with_reducible refine (HWy.out _).mono ?_); rotate_right; rintro e w' ⟨rfl, rfl⟩))
            go_ret
            exact ⟨by rw [HR.out]; rfl, BW.trans BW2⟩
          | true =>
            go_wp2_with (first
              | (go_at_call 50; (with_reducible refine (HWy.out _).mono ?_); rotate_right; rintro e w' ⟨rfl, rfl⟩))
            go_roundg (vn - (j + 1))
            case measure => omega
            case rel =>
              refine ⟨j + 1, by omega, by omega, by go_num, BW2, fun i hi => ?_⟩
              rcases Nat.lt_succ_iff_lt_or_eq.1 hi with h1 | rfl
              · exact HA2.out i h1
              · rw [HY.out]; exact HYB.out
        · have hjn : ¬ (j : Int) < (vn : Int) := by omega
          have HVal : Hid (vals.all (inB 0 1000000) = true) := by
            show _ = _
            rw [List.all_eq_true]
            intro v hv
            obtain ⟨i, hi', rfl⟩ := List.getElem_of_mem hv
            have := HA2.out i (by have := HVL.out; omega)
            rw [getElem!_pos vals i hi'] at this
            exact this
          have HDef2 : Hid (sbjBad vn zs k = (zs.take k).any (fun x => x.id == id)) := by
            show _ = _
            rw [HDef.out, HVal.out, HVL.out]
            simp
          clear HA2 HDef HVal
          obtain ⟨w2, rfl⟩ : ∃ w2 : World, w2 = wr := ⟨_, rfl⟩
          go_wp2_with fail
          go_loopg [7] k (fun gg s7 wr => ∃ m : Nat, m ≤ k ∧ k - m ≤ gg ∧ s7 = .int .i64 m ∧ Gr w2 wr ∧ Hid (∀ i, i < m → ¬ zs[i]!.id = id))
          case atStart => exact ⟨0, Nat.zero_le _, by omega, rfl, Gr.refl w2, fun j hj => absurd hj (Nat.not_lt_zero _)⟩
          case round =>
            obtain ⟨m, hm, hgm, rfl, BW3, HA3⟩ := hrel
            have c0 := row_cell c0 BW3
            by_cases hml : m < k
            · obtain ⟨hm', b3, off3, hA3, hbl3, f0, _⟩ := (HI.out.gr ((BW.trans BW2).trans BW3)).rd.sbj (k := m) (by omega)
              cases hA3
              obtain ⟨y, hy⟩ : ∃ y, zs[m]!.id = y := ⟨_, rfl⟩
              rw [hy] at f0
              have HY := hid hy
              clear hy
              have hmk : (m : Int) < (k : Int) := by omega
              have hmn : (m : Int) < (n : Int) := by omega
              have hm0 : (0 : Int) ≤ (m : Int) := by omega
              by_cases hyi : y = id
              · subst hyi
                have HR := hid (HB.out (by
                  rw [HDef2.out, List.any_eq_true]
                  refine ⟨zs[m]!, ?_, by rw [HY.out]; simp⟩
                  rw [getElem!_pos zs m hm']
                  exact List.mem_take_iff_getElem.2 ⟨m, by omega, rfl⟩))
                go_wp2_with fail
                go_quiet (fail)
                go_wp2
                go_ret
                exact ⟨by rw [HR.out]; rfl, ((BW.trans BW2).trans BW3).trans (by first | exact (Gr.refl _).drewN _ | exact (Gr.refl _).drew)⟩
              · go_wp2_with fail
                go_quiet (fail)
                go_wp2
                go_roundg (k - (m + 1))
                case measure => omega
                case rel =>
                  refine ⟨m + 1, by omega, by omega, by go_num, by first | exact BW3.drewN _ | exact BW3.drew, fun i hi => ?_⟩
                  rcases Nat.lt_succ_iff_lt_or_eq.1 hi with h1 | rfl
                  · exact HA3.out i h1
                  · rw [HY.out]; exact hyi
            · have hmk : ¬ (m : Int) < (k : Int) := by omega
              go_wp2
              go_roundg (n - (k + 1))
              case measure => omega
              case rel =>
                refine ⟨k + 1, by omega, by omega, by go_num, (BW.trans BW2).trans BW3, fun i hi => ?_⟩
                rcases Nat.lt_succ_iff_lt_or_eq.1 hi with h1 | rfl
                · exact HA.out i h1
                · rw [HDef2.out, List.any_eq_false]
                  intro z hz
                  obtain ⟨r, hr, rfl⟩ := List.mem_take_iff_getElem.1 hz
                  have hr2 : r < zs.length := by omega
                  have := HA3.out r (by omega)
                  rw [getElem!_pos zs r hr2] at this
                  simpa using this
    · have hkn : ¬ (k : Int) < (n : Int) := by omega
      have HR := hid (HAll.out (fun i hi => HA.out i (by omega)))
      go_wp2
      go_ret
      exact ⟨by rw [HR.out]; rfl, BW⟩
end Go.Proofs.Ytimhkkijoelmhaa
