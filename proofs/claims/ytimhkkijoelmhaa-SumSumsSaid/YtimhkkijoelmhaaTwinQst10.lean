/- TwinQuestions of the reference of layer 10: questions in new memory. For lists that are not great. (Printed by gen_twin10.py.) -/
import Derived.Test.YtimhkkijoelmhaaTwinKit10
import Derived.Test.YtimhkkijoelmhaaMeets10
import Derived.Test.YtimhkkijoelmhaaMixTail
import Derived.Test.YtimhkkijoelmhaaPlan
import Derived.Test.YtimhkkijoelmhaaCollectS
namespace Go.Proofs.Ytimhkkijoelmhaa
open Go.RowKit

/-- What it hands back. -/
def TwinQRet (zs : List Qst) (n : Nat) (w : World) (e : Ending) (w' : World) : Prop := ∃ B cap es, e = .returned (.slice B n cap) ∧ (Gr w w' ∧ QstsIn w' B n es ∧ es.map Qst.bare = zs.map Qst.bare)

set_option maxRecDepth 100000 in
set_option maxHeartbeats 8000000 in
theorem twinQ10_any (A : Option Addr) (n c : Nat) (zs : List Qst) (w : World) (hi : QstsIn w A n zs) (hn : n ≤ 1000) (hv : ∀ s ∈ zs, s.n ≤ 1000) :
    Calls Try.prog 15 #[.slice A n c] w (TwinQRet zs n w) := by
  obtain ⟨i0, hi0, hz0, hs0, hy0⟩ := info_parts info_qst10
  have HI0 := hid hi0
  have HZ0 := hid hz0
  have HS0 := hid hs0
  have HY0 := hid hy0
  obtain ⟨i1, hi1, hz1, hs1, hy1⟩ := info_parts info_whr10
  have HI1 := hid hi1
  have HZ1 := hid hz1
  have HS1 := hid hs1
  have HY1 := hid hy1
  have HRd := hid (hi.rd.gr ((Gr.refl w).alloc (.cells #[] 25)))
  have HI := hid hi
  have HV := hid hv
  have hl := hi.len
  clear hi hv hi0 hz0 hs0 hy0 hi1 hz1 hs1 hy1
  go_enter Try.func15, Try.ntmps15
  go_wp2_with (first
    | ((with_reducible show wpList _ _ _ (⟨some 7, _, _, _, _, _⟩ :: _) _ _); refine wpList_append_rd _ rfl (.tmp 5) (.tmp 6) 27 rfl w.heap.size 25 i0 (.agg #[.slice none 0 0, .int .i64 0, .int .i64 0, .int .i64 0]) 4 48 Try.underlying27 HI0.out HZ0.out HS0.out HY0.out rfl (by decide) _ _ _ rfl (own_new w w.heap.size 25 4 rfl) A n c (zs.flatMap Qst.cells) rfl HRd.out (flatQ_one zs) (by have : maxLen = 9223372036854775807 := rfl; omega) (by omega) (by simp) ?_; intro B cap w9 hown hbel; rw [Nat.zero_add, List.nil_append] at hown; have HO := hid hown; have hb9 : Below w.heap.size w w9 := Below.trans ((Gr.refl w).alloc _) hbel; have HB := hid hb9; clear hown hbel hb9; simp only [Nat.zero_add]))
  rcases Nat.eq_zero_or_pos n with h0 | h0
  · subst h0
    have hz : zs = [] := List.length_eq_zero_iff.1 hl
    subst hz
    go_wp2_with fail
    go_loopg [4] 0 (fun gg s4 wr => s4 = .int .i64 0 ∧ wr = w9)
    case atStart => exact ⟨rfl, rfl⟩
    case round =>
      obtain ⟨rfl, rfl⟩ := hrel
      go_wp2
      go_ret
      unfold TwinQRet
      exact ⟨B, cap, [], rfl, HB.out, ⟨Rd.nil_, by omega, fun s hs => absurd hs (by simp)⟩, rfl⟩
  · obtain ⟨g, hBg, hbg, HL0⟩ : ∃ g, B = some ⟨g, 0, none⟩ ∧ w.heap.size ≤ g ∧ Hid (Lies w9 g 25 (zs.flatMap Qst.cells)) := lies_of_own HO.out h0
    subst hBg
    clear HO HRd
    have hn' : (n : Int) ≤ 1000 := by omega
    go_wp2_with fail
    go_loopg [4] n (fun gg s4 wr => ∃ (i : Nat) (es : List Qst), i ≤ n ∧ n - i ≤ gg ∧ s4 = .int .i64 i ∧ Gr w wr ∧ Hid (es.length = i ∧ Lies wr g 25 ((es ++ zs.drop i).flatMap Qst.cells) ∧ es.map Qst.bare = (zs.take i).map Qst.bare ∧ ∀ s ∈ es, KeptRd wr g 3 s.a s.n (s.whs.flatMap Whr.cells)))
    case atStart => exact ⟨0, [], Nat.zero_le _, by omega, rfl, HB.out, rfl, by simpa using HL0.out, rfl, fun s hs => absurd hs (by simp)⟩
    case round =>
      obtain ⟨i, es, hin, hgi, rfl, BW, HE⟩ := hrel
      by_cases hil : i < n
      · have hik : i < zs.length := by omega
        have hin' : (i : Int) < (n : Int) := by omega
        have hi0 : (0 : Int) ≤ (i : Int) := by omega
        obtain ⟨he, hL, hB, hK⟩ := HE.out
        have HDr : Hid (zs.drop i = zs[i]! :: zs.drop (i + 1)) := by
          show _ = _
          rw [List.drop_eq_getElem_cons hik, getElem!_pos zs i hik]
        have HTk : Hid (zs.take (i + 1) = zs.take i ++ [zs[i]!]) := by
          show _ = _
          rw [List.take_succ_eq_append_getElem hik, ← getElem!_pos zs i hik]
        have HRi := hid (((HI.out.whs _ (mem_get hik)).rd).gr BW)
        have hsn := HV.out _ (mem_get hik)
        rw [HDr.out] at hL
        generalize zs[i]! = s at hL HTk HRi hsn HDr
        obtain ⟨sa, sn, sc, whs, col, clip, step⟩ := s
        dsimp only at *
        have hat := lies_at Qst.len he hL
        have d0 : wr.cell? ⟨g, i * 4, none⟩ = some (.slice sa sn sc) := hat 0 _ rfl
        have hf : wr.frozen? ⟨g, i * 4, none⟩ = false := hL.frozen _
        have hgl := hL.lt
        have hzl : w.heap.size ≤ wr.heap.size := BW.size
        have HL2 := hid hL
        have HB2 := hid hB
        have HK2 := hid hK
        have HEl := hid he
        clear HE hL hB hK he hat
        go_wp2_with ((with_reducible show wpList _ _ _ (⟨some 22, _, _, _, _, _⟩ :: _) _ _); refine wpList_append_rd _ rfl (.tmp 16) (.tmp 21) 23 rfl wr.heap.size 72 i1 (.agg #[.int .i64 0, .int .i64 0, .int .i64 0]) 3 24 Try.underlying23 HI1.out HZ1.out HS1.out HY1.out rfl (by decide) _ _ _ rfl (own_new wr wr.heap.size 72 3 rfl) sa sn sc (whs.flatMap Whr.cells) rfl (HRi.out.gr ((Gr.refl wr).alloc _)) (flatW_one whs) (by have : maxLen = 9223372036854775807 := rfl; omega) (by omega) (by simp) ?_; intro A3 c3 w3 hown hbel; rw [Nat.zero_add, List.nil_append] at hown; have HG3 : Hid (Gr wr w3) := (Below.trans ((Gr.refl wr).alloc _) hbel : Gr wr w3); have K3 := hid hown; have d1 : w3.cell? ⟨g, i * 4, none⟩ = some (.slice sa sn sc) := row_cell d0 HG3.out; have f1 : w3.frozen? ⟨g, i * 4, none⟩ = false := (Gr.frozen HG3.out hgl).trans hf; clear hown hbel; simp only [Nat.zero_add])
        go_roundg (n - (i + 1))
        case measure => omega
        case rel =>
          have hk9 : ∀ k, g < k → k < wr.heap.size → (w3.setCell ⟨g, i * 4, none⟩ (.slice A3 sn c3)).heap[k]? = wr.heap[k]? := fun k h1 h2 => (Below.heap_setCell _ _ _ _ (by show k ≠ g; omega)).trans (HG3.out.heap h2)
          have hz9 : w3.heap.size ≤ (w3.setCell ⟨g, i * 4, none⟩ (.slice A3 sn c3)).heap.size := by simp [World.setCell]
          refine ⟨i + 1, es ++ [⟨A3, sn, c3, whs, col, clip, step⟩], by omega, by omega, by go_num, (BW.trans HG3.out).setCell hbg _, by simp [HEl.out], ?_, ?_, ?_⟩
          · rw [← flat_set (f := Qst.cells) Qst.len (s := ⟨sa, sn, sc, whs, col, clip, step⟩) (s' := ⟨A3, sn, c3, whs, col, clip, step⟩) (v := .slice A3 sn c3) HEl.out (show 0 < 4 by decide) rfl]
            exact (HL2.out.keep (HG3.out.heap hgl)).set _ _
          · rw [List.map_append, HB2.out, HTk.out, List.map_append]
            rfl
          · intro t ht
            rcases List.mem_append.1 ht with ht | ht
            · exact (HK2.out t ht).keep hk9 (Nat.le_trans HG3.out.size hz9)
            · rw [List.mem_singleton] at ht
              subst ht
              exact (KeptRd.of_own K3.out hgl).keep (fun k h1 h2 => Below.heap_setCell _ _ _ _ (by show k ≠ g; omega)) hz9
      · have hin' : ¬ (i : Int) < (n : Int) := by omega
        obtain ⟨he, hL, hB, hK⟩ := HE.out
        have htk : zs.take i = zs := by rw [show i = zs.length by omega, List.take_length]
        have hdk : zs.drop i = [] := by rw [show i = zs.length by omega, List.drop_length]
        rw [hdk, List.append_nil] at hL
        rw [htk] at hB
        have hin2 : i = n := by omega
        have HF : Hid (QstsIn wr (some ⟨g, 0, none⟩) n es) := ⟨lies_rd hL (by rw [flatMap_len Qst.len, he, hin2]), by omega, fun s hs => ⟨(hK s hs).rd, qlike_n hB (fun s hs => (HI.out.whs s hs).big) s hs⟩⟩
        have HB2 := hid hB
        clear HE he hL hB hK htk hdk
        go_wp2
        go_ret
        unfold TwinQRet
        exact ⟨_, cap, es, rfl, BW, HF.out, HB2.out⟩
end Go.Proofs.Ytimhkkijoelmhaa
