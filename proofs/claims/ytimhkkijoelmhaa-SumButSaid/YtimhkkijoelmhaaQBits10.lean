/- bits and units of the package sum: who is asked for, as bits; bits as fractions. units of the package sum: bits as fractions. -/
import Derived.Test.YtimhkkijoelmhaaQWithin10
import Derived.Test.YtimhkkijoelmhaaQOrd10
import Derived.Test.YtimhkkijoelmhaaQLine10
namespace Go.Proofs.Ytimhkkijoelmhaa
open Go.RowKit

def setB (f : Nat → Bool) : Nat → Nat
  | 0 => 0
  | k + 1 => if f k = true then setB f k ||| 2 ^ k else setB f k
theorem setB_lt (f : Nat → Bool) (k : Nat) : setB f k < 2 ^ k := by
  induction k with
  | zero => simp [setB]
  | succ k ih =>
    unfold setB
    have h1 : setB f k < 2 ^ (k + 1) := by rw [Nat.pow_succ]; omega
    split
    · exact Nat.or_lt_two_pow h1 (Nat.pow_lt_pow_right (by omega) (by omega))
    · exact h1
theorem setB_bit (f : Nat → Bool) (k i : Nat) : (setB f k).testBit i = (decide (i < k) && f i) := by
  induction k with
  | zero => simp [setB]
  | succ k ih =>
    unfold setB
    by_cases h : f k = true
    · rw [if_pos h, Nat.testBit_or, ih, Nat.testBit_two_pow]
      by_cases e : k = i
      · subst e; simp [h]
      · have : (i < k + 1) = (i < k) := by rw [eq_iff_iff]; omega
        simp [e, this]
    · rw [if_neg h, ih]
      by_cases e : i = k
      · subst e; simp [h]
      · have : (i < k + 1) = (i < k) := by rw [eq_iff_iff]; omega
        simp [this]
theorem bits_or_i64 (a b : Nat) (ha : a < 4611686018427387904) (hb : b < 4611686018427387904) : bits .or .i64 (a : Int) (b : Int) = ((a ||| b : Nat) : Int) := by
  have hx : a ||| b < 2 ^ 62 := Nat.or_lt_two_pow (by omega) (by omega)
  have h1 : (BitVec.ofInt 64 (a : Int)).toNat = a := by
    rw [BitVec.ofInt_natCast, BitVec.toNat_ofNat]; exact Nat.mod_eq_of_lt (by omega)
  have h2 : (BitVec.ofInt 64 (b : Int)).toNat = b := by
    rw [BitVec.ofInt_natCast, BitVec.toNat_ofNat]; exact Nat.mod_eq_of_lt (by omega)
  show IntKind.i64.wrap ((BitVec.ofInt 64 (a : Int) ||| BitVec.ofInt 64 (b : Int)).toNat : Int) = _
  rw [BitVec.toNat_or, h1, h2, IntKind.wrap_i64]
  omega
theorem bits_and_i64 (a b : Nat) (ha : a < 4611686018427387904) (hb : b < 4611686018427387904) : bits .and .i64 (a : Int) (b : Int) = ((a &&& b : Nat) : Int) := by
  have hx : a &&& b < 2 ^ 62 := Nat.and_lt_two_pow _ (by omega)
  have h1 : (BitVec.ofInt 64 (a : Int)).toNat = a := by
    rw [BitVec.ofInt_natCast, BitVec.toNat_ofNat]; exact Nat.mod_eq_of_lt (by omega)
  have h2 : (BitVec.ofInt 64 (b : Int)).toNat = b := by
    rw [BitVec.ofInt_natCast, BitVec.toNat_ofNat]; exact Nat.mod_eq_of_lt (by omega)
  show IntKind.i64.wrap ((BitVec.ofInt 64 (a : Int) &&& BitVec.ofInt 64 (b : Int)).toNat : Int) = _
  rw [BitVec.toNat_and, h1, h2, IntKind.wrap_i64]
  omega
theorem setB_congr {f g : Nat → Bool} (k : Nat) (h : ∀ i, i < k → f i = g i) : setB f k = setB g k := by
  induction k with
  | zero => rfl
  | succ k ih => unfold setB; rw [ih (fun i hi => h i (by omega)), h k (by omega)]

/-- A table at an open audit: its box. -/
structure BkIn (w : World) (bk : Nat) (QA : Option Addr) (qn qc : Nat) (A : Option Addr) (n c : Nat) (ma ml : Nat) : Prop where
  row : w.heap[bk]? = some (.cells #[.slice QA qn qc, .slice A n c, .map (some ma), .map (some ml)] 87 (0, 0))
theorem BkIn.gr {w w' : World} {bk : Nat} {QA : Option Addr} {qn qc : Nat} {A : Option Addr} {n c ma ml : Nat} (h : BkIn w bk QA qn qc A n c ma ml) (g : Gr w w') : BkIn w' bk QA qn qc A n c ma ml := ⟨row_gr h.row g⟩

set_option maxRecDepth 100000 in
set_option maxHeartbeats 8000000 in
theorem bits_any (bk : Nat) (QA : Option Addr) (qn qc : Nat) (A : Option Addr) (n c ma ml : Nat) (zs : List Sbj) (q : Qst) (w : World) (hb : BkIn w bk QA qn qc A n c ma ml) (hi : SbjsIn w A n zs) (hq : QstIn w q)
    (hx : ∀ s ∈ zs, ∀ x ∈ q.whs, 0 ≤ x.col ∧ x.col < s.n) (hn : n ≤ 24) :
    Calls Try.prog 101 #[.pointer (some ⟨bk, 0, none⟩), q.val] w fun e w' => e = .returned (.int .i64 (setB (fun i => askedB zs[i]! q) n)) ∧ Gr w w' := by
  have HAs := hid (fun s (hs : s ∈ zs) W (k : Gr w W) => asked_any s q W ((hi.vals s hs).1.gr k) (hq.gr k) (hx s hs) (hi.vals s hs).2)
  have HI := hid hi
  have hln := hi.len
  have b0 := row_cell_at (v := .slice QA qn qc) hb.row 0 rfl
  have b1 := row_cell_at (v := .slice A n c) hb.row 1 rfl
  have hnz : (n : Int) ≤ 24 := by omega
  have hbk : bk < w.heap.size := block_lt_of_cell b0
  clear hi hq hx hb
  obtain ⟨qa, qqn, qqc, whs, col, clip, step⟩ := q
  unfold Qst.val at *
  dsimp only at *
  have hr0 := heap_alloc_new w (.cells #[.slice qa qqn qqc, .int .i64 col, .int .i64 clip, .int .i64 step] 25)
  have HR0 := hid hr0
  clear hr0
  go_enter Try.func101, Try.ntmps101
  go_wp2_with fail
  have g1 : Gr w (w.alloc (.cells #[.slice qa qqn qqc, .int .i64 col, .int .i64 clip, .int .i64 step] 25)) := (Gr.refl w).alloc _
  have HG1 := hid g1
  clear g1
  generalize w.alloc (.cells #[.slice qa qqn qqc, .int .i64 col, .int .i64 clip, .int .i64 step] 25) = w1 at *
  go_loopg [5, 13] n (fun gg s5 s13 wr => ∃ k : Nat, k ≤ n ∧ n - k ≤ gg ∧ s5 = .int .i64 (setB (fun i => askedB zs[i]! ⟨qa, qqn, qqc, whs, col, clip, step⟩) k) ∧ s13 = .int .i64 k ∧ Gr w1 wr)
  case atStart => exact ⟨0, Nat.zero_le _, by omega, rfl, rfl, Gr.refl w1⟩
  case round =>
    obtain ⟨k, hk, hgk, rfl, rfl, BW⟩ := hrel
    have rq := row_gr HR0.out BW
    have u0 := row_cell_at (v := .slice qa qqn qqc) rq 0 rfl
    have u1 := row_cell_at (v := .int .i64 col) rq 1 rfl
    have u2 := row_cell_at (v := .int .i64 clip) rq 2 rfl
    have u3 := row_cell_at (v := .int .i64 step) rq 3 rfl
    have hzr : w.heap.size < wr.heap.size := block_lt_of_cell u0
    clear rq
    by_cases hkl : k < n
    · obtain ⟨hk', b, off, rfl, hbl, c0, c1⟩ := (HI.out.gr (HG1.out.trans BW)).rd.sbj hkl
      have hm := mem_get hk'
      have HA := hid (HAs.out _ hm)
      have HSn : Hid (setB (fun i => askedB zs[i]! ⟨qa, qqn, qqc, whs, col, clip, step⟩) (k + 1) = if askedB zs[k]! ⟨qa, qqn, qqc, whs, col, clip, step⟩ = true then setB (fun i => askedB zs[i]! ⟨qa, qqn, qqc, whs, col, clip, step⟩) k ||| 2 ^ k else setB (fun i => askedB zs[i]! ⟨qa, qqn, qqc, whs, col, clip, step⟩) k) := rfl
      have hlt := setB_lt (fun i => askedB zs[i]! ⟨qa, qqn, qqc, whs, col, clip, step⟩) k
      have hp2 : (2 : Nat) ^ k ≤ 2 ^ 24 := Nat.pow_le_pow_right (by omega) (by omega)
      generalize setB (fun i => askedB zs[i]! ⟨qa, qqn, qqc, whs, col, clip, step⟩) k = st at *
      have HW : Hid (wrap64 ((2 : Int) ^ k) = ((2 ^ k : Nat) : Int)) := by
        have e : (2 : Int) ^ k = ((2 ^ k : Nat) : Int) := by rw [Int.natCast_pow]; rfl
        show wrap64 ((2 : Int) ^ k) = ((2 ^ k : Nat) : Int)
        rw [e]
        unfold wrap64
        omega
      have HOr := hid (bits_or_i64 st (2 ^ k) (by omega) (by omega))
      generalize zs[k]! = s at c0 c1 HSn HA
      obtain ⟨id, a, vn, vc, vals⟩ := s
      unfold Sbj.val at HA
      dsimp only at *
      obtain ⟨r, hr⟩ : ∃ r, askedB ⟨id, a, vn, vc, vals⟩ ⟨qa, qqn, qqc, whs, col, clip, step⟩ = r := ⟨_, rfl⟩
      rw [hr] at HA HSn
      have hkn : (k : Int) < (n : Int) := by omega
      have hk0 : (0 : Int) ≤ (k : Int) := by omega
      clear hr hm hk' hlt hp2
      cases r with
      | false =>
        simp only [Bool.false_eq_true, if_false] at HSn
        go_wp2_with (first
          | (go_at_call 44; (with_reducible refine (HA.out _ ?_).mono ?_); rotate_right; rintro e w3 ⟨rfl, hbw3⟩; obtain ⟨hcw3, hfw3, hzw3⟩ := hbw3.rules; (try simp at hzw3); have hzw3_0 : wr.heap.size < w3.heap.size := (by omega); have hyw3_0 : wr.heap.size ≤ w3.heap.size := (by omega)))
        all_goals try (exact (HG1.out.trans BW).trans ((Gr.refl _).alloc _); done)
        have gg := ((Gr.refl wr).alloc (.cells #[.int .i64 id, .slice a vn vc] 60)).trans hbw3
        go_roundg (n - (k + 1))
        case measure => omega
        case rel => exact ⟨k + 1, by omega, by omega, by rw [HSn.out], by go_num, BW.trans gg⟩
      | true =>
        simp only [if_true] at HSn
        go_wp2_with (first
          | (go_at_call 44; (with_reducible refine (HA.out _ ?_).mono ?_); rotate_right; rintro e w3 ⟨rfl, hbw3⟩; obtain ⟨hcw3, hfw3, hzw3⟩ := hbw3.rules; (try simp at hzw3); have hzw3_0 : wr.heap.size < w3.heap.size := (by omega); have hyw3_0 : wr.heap.size ≤ w3.heap.size := (by omega)))
        all_goals try (exact (HG1.out.trans BW).trans ((Gr.refl _).alloc _); done)
        have gg := ((Gr.refl wr).alloc (.cells #[.int .i64 id, .slice a vn vc] 60)).trans hbw3
        go_roundg (n - (k + 1))
        case measure => omega
        case rel => exact ⟨k + 1, by omega, by omega, by rw [HSn.out, HW.out, HOr.out], by go_num, BW.trans gg⟩
    · have hkn : ¬ (k : Int) < (n : Int) := by omega
      have hkn' : k = n := by omega
      subst hkn'
      go_wp2
      go_ret
      exact ⟨rfl, HG1.out.trans BW⟩
end Go.Proofs.Ytimhkkijoelmhaa
namespace Go.Proofs.Ytimhkkijoelmhaa
open Go.RowKit

theorem bit_cells (s k : Nat) : frC (bitR (s.testBit k)) = [.int .i64 ((s / 2 ^ k &&& 1 : Nat) : Int), .int .i64 1] := by
  rw [Nat.and_one_is_mod, Nat.testBit_eq_decide_div_mod_eq]
  have := Nat.mod_lt (s / 2 ^ k) (show 2 > 0 by omega)
  by_cases h : s / 2 ^ k % 2 = 1
  · rw [h]; rfl
  · have h0 : s / 2 ^ k % 2 = 0 := by omega
    rw [h0]; rfl
def unitsR (s n : Nat) : List Rat := (List.range n).map fun i => bitR (s.testBit i)
theorem unitsR_len (s n : Nat) : (unitsR s n).length = n := by simp [unitsR]
theorem unitsR_succ (s k : Nat) : unitsR s (k + 1) = unitsR s k ++ [bitR (s.testBit k)] := by
  unfold unitsR
  rw [List.range_succ, List.map_append]
  rfl
set_option maxRecDepth 100000 in
set_option maxHeartbeats 8000000 in
theorem units_any (s n : Nat) (w : World) (hs : s < 4611686018427387904) (hn : n ≤ 24) :
    Calls Try.prog 99 #[.int .i64 s, .int .i64 n] w (FrRet (unitsR s n) w) := by
  unfold FrRet
  rw [unitsR_len]
  have hnz : (n : Int) ≤ 24 := by omega
  obtain ⟨i0, hi0, hz0, hs0, hy0⟩ := info_parts info_fr10
  have HI0 := hid hi0
  have HZ0 := hid hz0
  have HS0 := hid hs0
  have HY0 := hid hy0
  clear hi0 hz0 hs0 hy0
  go_enter Try.func99, Try.ntmps99
  go_wp2_with fail
  go_loopg [5, 8] n (fun gg s5 s8 wr => ∃ k : Nat, k ≤ n ∧ n - k ≤ gg ∧ s8 = .int .i64 k ∧ Gr w wr ∧ Hid (wr.ownsRow w.heap.size 107 2 s5 k ((unitsR s k).flatMap frC)))
  case atStart => exact ⟨0, Nat.zero_le _, by omega, rfl, Gr.refl w, ⟨rfl, .inl ⟨rfl, rfl⟩⟩⟩
  case round =>
    obtain ⟨k, hk, hgk, rfl, BW, HOw⟩ := hrel
    by_cases hkl : k < n
    · have HSn : Hid ((unitsR s (k + 1)).flatMap frC = (unitsR s k).flatMap frC ++ frC (bitR (s.testBit k))) := by
        show _ = _
        rw [unitsR_succ, List.flatMap_append]; simp
      rw [bit_cells] at HSn
      generalize (unitsR s k).flatMap frC = o at *
      have hdl : s / 2 ^ k < 4611686018427387904 := Nat.lt_of_le_of_lt (Nat.div_le_self _ _) hs
      have HAnd := hid (bits_and_i64 (s / 2 ^ k) 1 hdl (by omega))
      have hdv : (s : Int) / 2 ^ k = ((s / 2 ^ k : Nat) : Int) := by
        rw [Int.natCast_ediv, Int.natCast_pow]; rfl
      have HDv := hid hdv
      have hkn : (k : Int) < (n : Int) := by omega
      have hk0 : (0 : Int) ≤ (k : Int) := by omega
      have HV : Hid (bits .and .i64 ((s : Int) / 2 ^ k) 1 = ((s / 2 ^ k &&& 1 : Nat) : Int)) := by
        show bits .and .i64 ((s : Int) / 2 ^ k) 1 = _
        rw [HDv.out]; exact HAnd.out
      have BWr := hid BW
      clear hdv
      go_wp2_with ((with_reducible show wpList _ _ _ (⟨some 18, _, _, _, _, _⟩ :: _) _ _); refine wpList_append_rd _ rfl (.tmp 11) (.tmp 17) 88 rfl w.heap.size 107 i0 (.agg #[.int .i64 0, .int .i64 0]) 2 16 Try.underlying88 HI0.out HZ0.out HS0.out HY0.out rfl (by decide) _ _ _ rfl (ownT_gf HOw.out ((Gr.refl wr).alloc _)) (some ⟨wr.heap.size, 0, none⟩) 1 1 [.int .i64 (bits .and .i64 ((s : Int) / 2 ^ k) 1), .int .i64 1] rfl (rd_row10 (heap_alloc_new wr _) 2 1 rfl) (by intro u hu; simp at hu; rcases hu with rfl | rfl <;> rfl) (by have : maxLen = 9223372036854775807 := rfl; omega) (by omega) (by have h1 := BWr.out.size; simp at h1 ⊢; omega) ?_; intro A' c' w9 hown' hbel; have HW9 := hid (And.intro hown' hbel); clear hown' hbel)
      go_roundg (n - (k + 1))
      case measure => omega
      case rel =>
        refine ⟨k + 1, by omega, by omega, by go_num, (show Below w.heap.size w w9 from Below.trans (BW.alloc _) HW9.out.2), ?_⟩
        unfold Hid
        rw [HSn.out, ← HV.out]
        exact HW9.out.1
    · have hkn : ¬ (k : Int) < (n : Int) := by omega
      have hkn' : k = n := by omega
      subst hkn'
      have hOw := HOw.out
      obtain ⟨A', c', rfl⟩ := own_slice hOw
      have HF' := hid hOw
      clear HOw hOw
      go_wp2
      go_ret
      exact ⟨A', c', rfl, HF'.out, BW⟩
end Go.Proofs.Ytimhkkijoelmhaa
