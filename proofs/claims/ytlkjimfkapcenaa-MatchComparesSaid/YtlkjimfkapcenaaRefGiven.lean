/- given of the reference: whether given names are some of others, in their order. For all words of one to twenty letters. -/
import Derived.Test.YtlkjimfkapcenaaCmpSpec
import Derived.Test.YtlkjimfkapcenaaAlike
import Derived.Test.YtlkjimfkapcenaaRegGr
import Derived.Test.YtlkjimfkapcenaaWithin
import Derived.Deep.LoopGhost
namespace Go.Proofs.Ytlkjimfkapcenaa
open Go.RowKit

theorem keep2 {W W' : World} {b0 p b1 q : Nat} {u v : Value} (h : W.cell? ⟨b0, p, none⟩ = some u ∧ W.cell? ⟨b1, q, none⟩ = some v) (g : Gr W W') : W'.cell? ⟨b0, p, none⟩ = some u ∧ W'.cell? ⟨b1, q, none⟩ = some v :=
  ⟨(g.cell (block_lt_of_cell h.1)).trans h.1, (g.cell (block_lt_of_cell h.2)).trans h.2⟩
theorem refEdits20 (p q : ByteArray) (W : World) (hp : p.size ≤ 20) (hq : q.size ≤ 20) :
    Calls Try.prog 32 #[.string p, .string q] W fun e w' => e = .returned (.int .i64 (lev p q p.size q.size)) ∧ Gr W w' := refEdits_any p q W (by omega) (by omega)

theorem get_drop (ys : List ByteArray) (a j : Nat) (hj : a + j < ys.length) : (ys.drop a)[j]! = ys[a + j]! := by
  rw [getElem!_pos _ j (by simp; omega), getElem!_pos ys (a + j) hj, List.getElem_drop]
theorem step_stuck {k : Int} {ys : List ByteArray} {x : ByteArray} {a : Nat} (h : ∀ j, a ≤ j → j < ys.length → alikeB x ys[j]! k = false) : amStep k (ys.drop a) x = none := by
  refine amStep_none (fun j hj => ?_)
  have hj' : a + j < ys.length := by simp at hj; omega
  rw [get_drop ys a j hj']
  exact h _ (by omega) hj'
theorem step_hit {k : Int} {ys : List ByteArray} {x : ByteArray} {a q : Nat} (ha : a ≤ q) (hq : q < ys.length) (h : alikeB x ys[q]! k = true) (hb : ∀ j, a ≤ j → j < q → alikeB x ys[j]! k = false) : amStep k (ys.drop a) x = some (ys.drop (q + 1)) := by
  have e := amStep_some (k := k) (l := ys.drop a) (x := x) (i := q - a) (by simp; omega) (by rw [get_drop ys a _ (by omega), show a + (q - a) = q by omega]; exact h)
    (fun j hj => by rw [get_drop ys a j (by omega)]; exact hb _ (by omega) (by omega))
  rw [e, List.drop_drop, show a + (q - a + 1) = q + 1 by omega]
theorem among_next {k : Int} {xs ys l : List ByteArray} {i : Nat} (hi : i < xs.length) (h : (xs.take i).foldlM (amStep k) ys = some l) : (xs.take (i + 1)).foldlM (amStep k) ys = amStep k l xs[i]! := by
  rw [List.take_succ_eq_append_getElem hi, among_snoc, h, getElem!_pos xs i hi]
  rfl
theorem among_stuck {k : Int} {xs ys l : List ByteArray} {i : Nat} (hi : i < xs.length) (h : (xs.take i).foldlM (amStep k) ys = some l) (hn : amStep k l xs[i]! = none) : amongB k xs ys = false := by
  unfold amongB
  rw [← List.take_append_drop (i + 1) xs, List.foldlM_append, among_next hi h, hn]
  rfl

set_option maxRecDepth 100000 in
set_option maxHeartbeats 8000000 in
theorem refGiven_any (k : Int) (A : Option Addr) (n c : Nat) (xs : List ByteArray) (A' : Option Addr) (n' c' : Nat) (ys : List ByteArray) (w : World)
    (ha : Rd w 1 A n (xs.map Value.string)) (hb : Rd w 1 A' n' (ys.map Value.string)) (hn : n ≤ 100) (hn' : n' ≤ 100) (wa : ∀ s ∈ xs, 0 < s.size ∧ s.size ≤ 20) (wb : ∀ s ∈ ys, 0 < s.size ∧ s.size ≤ 20) :
    Calls Try.prog 84 #[.slice A n c, .slice A' n' c', .int .i64 k] w fun e w' => e = .returned (.bool (amongB k xs ys)) ∧ Gr w w' := by
  have hl := ha.len
  have hl' := hb.len
  simp only [List.length_map, Nat.mul_one] at hl hl'
  have HL := hid hl
  have HL' := hid hl'
  clear hl hl'
  have in1 : (n : Int) ≤ 100 := by omega
  have in2 : (n' : Int) ≤ 100 := by omega
  obtain ⟨Q', hQ⟩ : ∃ Q' : Bool, Q' = amongB k xs ys := ⟨_, rfl⟩
  rw [← hQ]
  have HQ := hid hQ
  clear hQ
  go_enter Try.func84, Try.ntmps84
  go_wp2
  go_loopg [7, 8] n (fun gg s7 s8 wr => ∃ i a : Nat, i ≤ n ∧ a ≤ n' ∧ n - i ≤ gg ∧ s7 = .int .i64 a ∧ s8 = .int .i64 i ∧ Gr w wr ∧ Hid ((xs.take i).foldlM (amStep k) ys = some (ys.drop a)))
  case atStart => exact ⟨0, 0, Nat.zero_le _, Nat.zero_le _, by omega, rfl, rfl, Gr.refl w, hid rfl⟩
  case round =>
    obtain ⟨i, a, hi, hai, hgi, rfl, rfl, BW, HI⟩ := hrel
    by_cases hli : i < n
    case neg =>
      have hli' : (n : Int) ≤ i := by omega
      go_wp2
      go_ret
      refine ⟨?_, BW⟩
      have e : xs.take i = xs := List.take_of_length_le (by have := HL.out; omega)
      have h := HI.out
      rw [e] at h
      rw [HQ.out, show amongB k xs ys = true by unfold amongB; rw [h]; rfl]
      rfl
    have hli' : (i : Int) < n := by omega
    go_wp2
    obtain ⟨wm, rfl⟩ : ∃ wm : World, wm = wr := ⟨_, rfl⟩
    go_loopg [7] n' (fun gg s7 wq => ∃ q : Nat, a ≤ q ∧ q ≤ n' ∧ n' - q ≤ gg ∧ s7 = .int .i64 q ∧ Gr w wq ∧ Hid (∀ j, a ≤ j → j < q → alikeB xs[i]! ys[j]! k = false))
    case atStart => exact ⟨a, Nat.le_refl _, hai, by omega, rfl, BW, hid fun j h1 h2 => absurd h1 (by omega)⟩
    case round =>
      clear BW
      obtain ⟨q, haq, hq, hgq, rfl, BW, HJ⟩ := hrel
      by_cases hlq : q < n'
      case neg =>
        have eq : q = n' := by omega
        subst eq
        go_wp2
        go_quiet (fail)
        go_wp2
        go_ret
        refine ⟨?_, BW.drewN _⟩
        rw [HQ.out, among_stuck (by have := HL.out; omega) HI.out (step_stuck (fun j h1 h2 => HJ.out j h1 (by have := HL'.out; omega)))]
        rfl
      have hlq' : (q : Int) < n' := by omega
      have hlq2 : decide (q < n') = true := decide_eq_true hlq
      have i0 : (0 : Int) ≤ i := by omega
      have q0 : (0 : Int) ≤ q := by omega
      obtain ⟨b0, o0, rfl, hb0, hc0⟩ := (ha.gr BW).at_ (by omega)
      obtain ⟨b1, o1, rfl, hb1, hc1⟩ := (hb.gr BW).at_ (by omega)
      have h0 : wr.cell? ⟨b0, o0 + i, none⟩ = some (.string xs[i]!) := hc0 i _ (Rd.get (by have := HL.out; omega))
      have h1 : wr.cell? ⟨b1, o1 + q, none⟩ = some (.string ys[q]!) := hc1 q _ (Rd.get (by have := HL'.out; omega))
      clear hc0 hc1
      have wx := wa xs[i]! (mem_get (by have := HL.out; omega))
      have wy := wb ys[q]! (mem_get (by have := HL'.out; omega))
      generalize hx : xs[i]! = x at h0 wx
      generalize hy : ys[q]! = y at h1 wy
      have h0 := GrW.cell h0
      have h1 := GrW.cell h1
      have HX := hid hx
      have HY := hid hy
      have HC := hid (fun W => same_any x y W wx.1 wy.1)
      have HE := hid (fun W => refEdits20 x y W wx.2 wy.2)
      have WX := hid wx
      have WY := hid wy
      clear hx hy wx wy
      have HAL := hid (show alikeB x y k = (oneB x y || (decide (0 ≤ k) && decide ((lev x y x.size y.size : Int) ≤ k))) from rfl)
      generalize lev x y x.size y.size = v at HE HAL
      cases ho : oneB x y with
      | true =>
        rw [ho] at HC HAL
        have HA2 := hid (show alikeB x y k = true by rw [HAL.out]; rfl)
        clear ho HAL
        go_wp2
        (refine wp_region_gr (by kernel_rfl) (by kernel_rfl) ?_; (repeat (first | go_big_quiet_step ((first | (go_at_call 95; exact calls_gr (HC.out _)) | (go_at_call 32; exact calls_gr (HE.out _)))) | quiet_step ((first | (go_at_call 95; exact calls_gr (HC.out _)) | (go_at_call 32; exact calls_gr (HE.out _)))))); refine wpQuiet_nil ?_; intro wq hw; obtain ⟨⟨_, hbwq⟩, hw⟩ := hw; subst hw; obtain ⟨hcwq, hfwq, hzwq⟩ := hbwq.rules; (try simp at hzwq))
        have hqe : ((q : Int) == n') = false := by simp; omega
        have hqf : (q == n') = false := by simp; omega
        go_wp2
        go_roundg (n - (i + 1))
        case measure => omega
        case rel =>
          refine ⟨i + 1, q + 1, by omega, by omega, by omega, by go_num, by go_num, BW.trans hbwq, hid ?_⟩
          rw [among_next (by have := HL.out; omega) HI.out]
          exact step_hit haq (by have := HL'.out; omega) (by rw [HX.out, HY.out]; exact HA2.out) HJ.out
      | false =>
        rw [ho] at HC HAL
        clear ho
        by_cases hk : k < 0
        · have hk2 : decide (k < 0) = true := decide_eq_true hk
          have HA2 := hid (show alikeB x y k = false by rw [HAL.out, decide_eq_false (show ¬ 0 ≤ k by omega)]; rfl)
          clear HAL
          go_wp2
          (refine wp_region_gr (by kernel_rfl) (by kernel_rfl) ?_; (repeat (first | go_big_quiet_step ((first | (go_at_call 95; exact calls_gr (HC.out _)) | (go_at_call 32; exact calls_gr (HE.out _)))) | quiet_step ((first | (go_at_call 95; exact calls_gr (HC.out _)) | (go_at_call 32; exact calls_gr (HE.out _)))))); refine wpQuiet_nil ?_; intro wq hw; obtain ⟨⟨_, hbwq⟩, hw⟩ := hw; subst hw; obtain ⟨hcwq, hfwq, hzwq⟩ := hbwq.rules; (try simp at hzwq))
          go_wp2
          go_roundg (n' - (q + 1))
          case measure => omega
          case rel =>
            refine ⟨q + 1, by omega, by omega, by omega, by go_num, BW.trans hbwq, hid fun j h1 h2 => ?_⟩
            by_cases e : j = q
            · subst e
              rw [HX.out, HY.out]; exact HA2.out
            · exact HJ.out j h1 (by omega)
        · have hk2 : decide (k < 0) = false := decide_eq_false hk
          by_cases hv : k < v
          · have hv2 : decide (k < (v : Int)) = true := decide_eq_true hv
            have HA2 := hid (show alikeB x y k = false by rw [HAL.out, decide_eq_true (show 0 ≤ k by omega), decide_eq_false (show ¬ (v : Int) ≤ k by omega)]; rfl)
            clear HAL
            go_wp2
            (refine wp_region_gr (by kernel_rfl) (by kernel_rfl) ?_; (repeat (first | go_big_quiet_step ((first | (go_at_call 95; exact calls_gr (HC.out _)) | (go_at_call 32; exact calls_gr (HE.out _)))) | quiet_step ((first | (go_at_call 95; exact calls_gr (HC.out _)) | (go_at_call 32; exact calls_gr (HE.out _)))))); refine wpQuiet_nil ?_; intro wq hw; obtain ⟨⟨_, hbwq⟩, hw⟩ := hw; subst hw; obtain ⟨hcwq, hfwq, hzwq⟩ := hbwq.rules; (try simp at hzwq))
            go_wp2
            go_roundg (n' - (q + 1))
            case measure => omega
            case rel =>
              refine ⟨q + 1, by omega, by omega, by omega, by go_num, BW.trans hbwq, hid fun j h1 h2 => ?_⟩
              by_cases e : j = q
              · subst e
                rw [HX.out, HY.out]; exact HA2.out
              · exact HJ.out j h1 (by omega)
          · have hv2 : decide (k < (v : Int)) = false := decide_eq_false hv
            have HA2 := hid (show alikeB x y k = true by rw [HAL.out, decide_eq_true (show 0 ≤ k by omega), decide_eq_true (show (v : Int) ≤ k by omega)]; rfl)
            clear HAL
            go_wp2
            (refine wp_region_gr (by kernel_rfl) (by kernel_rfl) ?_; (repeat (first | go_big_quiet_step ((first | (go_at_call 95; exact calls_gr (HC.out _)) | (go_at_call 32; exact calls_gr (HE.out _)))) | quiet_step ((first | (go_at_call 95; exact calls_gr (HC.out _)) | (go_at_call 32; exact calls_gr (HE.out _)))))); refine wpQuiet_nil ?_; intro wq hw; obtain ⟨⟨_, hbwq⟩, hw⟩ := hw; subst hw; obtain ⟨hcwq, hfwq, hzwq⟩ := hbwq.rules; (try simp at hzwq))
            have hqe : ((q : Int) == n') = false := by simp; omega
            have hqf : (q == n') = false := by simp; omega
            go_wp2
            go_roundg (n - (i + 1))
            case measure => omega
            case rel =>
              refine ⟨i + 1, q + 1, by omega, by omega, by omega, by go_num, by go_num, BW.trans hbwq, hid ?_⟩
              rw [among_next (by have := HL.out; omega) HI.out]
              exact step_hit haq (by have := HL'.out; omega) (by rw [HX.out, HY.out]; exact HA2.out) HJ.out
end Go.Proofs.Ytlkjimfkapcenaa
