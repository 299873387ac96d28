/- Ordered of the reference of layer 10: subjects by their Ids, in new memory. For up to a thousand subjects, no two of one Id. -/
import Derived.Test.YtimhkkijoelmhaaPutI10
import Derived.Test.YtimhkkijoelmhaaWithin10
import Derived.Test.YtimhkkijoelmhaaCollectS
namespace Go.Proofs.Ytimhkkijoelmhaa
open Go.RowKit Go.Shelf Go.Sort Go.Lib

theorem drew_setCells10 (b : Nat) : ∀ (vs : List Value) (o : Nat) (W : World), W.drew.setCells b o vs = (W.setCells b o vs).drew
  | [], _, _ => rfl
  | v :: r, o, W => by
    show (W.drew.setCell ⟨b, o, none⟩ v).setCells b (o + 1) r = ((W.setCell ⟨b, o, none⟩ v).setCells b (o + 1) r).drew
    rw [World.setCell_drew]
    exact drew_setCells10 b r (o + 1) _
theorem ordI_take {zs : List Sbj} {i : Nat} (hi : i < zs.length) : ordI (zs.take (i + 1)) = putI zs[i]! (ordI (zs.take i)) := by
  unfold ordI
  rw [List.take_succ_eq_append_getElem hi, List.foldl_append, ← getElem!_pos zs i hi]
  rfl
theorem ordI_len (l : List Sbj) : (ordI l).length = l.length := (ordI_perm l).length_eq

/-- What Ordered hands back. -/
def RefOrdRet (zs : List Sbj) (n : Nat) (w : World) (e : Ending) (w' : World) : Prop := ∃ B cap, e = .returned (.slice B n cap) ∧ (Gr w w' ∧ Rd w' 2 B n ((ordI zs).flatMap Sbj.cells))

set_option maxRecDepth 100000 in
set_option maxHeartbeats 16000000 in
theorem refOrdered_any (A : Option Addr) (n c : Nat) (zs : List Sbj) (w : World) (hi : SbjsIn w A n zs) (hn : n ≤ 1000) (hap : zs.Pairwise (fun x y => x.id ≠ y.id)) :
    Calls Try.prog 46 #[.slice A n c] w (RefOrdRet zs n w) := by
  obtain ⟨i0, hi0, hz0, hs0, hy0⟩ := info_parts info_sbj
  have HI0 := hid hi0
  have HZ0 := hid hz0
  have HS0 := hid hs0
  have HY0 := hid hy0
  have HRd := hid (hi.rd.gr ((Gr.refl w).alloc (.cells #[] 60)))
  have HL := hid hi.len
  have HAp := hid hap
  clear hi hap hi0 hz0 hs0 hy0
  go_enter Try.func46, Try.ntmps46
  go_wp2_with (first
    | ((with_reducible show wpList _ _ _ (⟨some 8, _, _, _, _, _⟩ :: _) _ _); refine wpList_append_rd _ rfl (.tmp 6) (.tmp 7) 22 rfl w.heap.size 60 i0 (.agg #[.int .i64 0, .slice none 0 0]) 2 32 Try.underlying22 HI0.out HZ0.out HS0.out HY0.out rfl (by decide) _ _ _ rfl (own_new w w.heap.size 60 2 rfl) A n c (zs.flatMap Sbj.cells) rfl HRd.out (flatE_one zs) (by have : maxLen = 9223372036854775807 := rfl; omega) (by omega) (by simp) ?_; intro B cap w9 hown hbel; rw [Nat.zero_add, List.nil_append] at hown; have HO := hid hown; have hb9 : Below w.heap.size w w9 := Below.trans ((Gr.refl w).alloc _) hbel; have HB := hid hb9; clear hown hbel hb9; simp only [Nat.zero_add]))
  rcases Nat.eq_zero_or_pos n with h0 | h0
  · subst h0
    have hz : zs = [] := List.length_eq_zero_iff.1 HL.out
    subst hz
    go_wp2_with fail
    go_loopg [4] 0 (fun gg s4 wr => s4 = .int .i64 1 ∧ wr = w9)
    case atStart => exact ⟨rfl, rfl⟩
    case round =>
      obtain ⟨rfl, rfl⟩ := hrel
      go_wp2
      go_ret
      unfold RefOrdRet
      exact ⟨B, cap, rfl, HB.out, Rd.nil_⟩
  · obtain ⟨g, hBg, hbg, hgl, hnc, hcm, HH0⟩ : ∃ g, B = some ⟨g, 0, none⟩ ∧ w.heap.size ≤ g ∧ g < w9.heap.size ∧ n ≤ cap ∧ cap ≤ 9223372036854775807 ∧ Hid (HoldsK Sbj.cells 2 w9 g 0 zs.toArray) := by
      rcases HO.out.2 with ⟨_, h⟩ | ⟨g, cap', cur, hv, h1, h2, h3, h4, h5, h6⟩
      · omega
      · injection hv with e1 e2 e3
        subst e1 e3
        refine ⟨g, rfl, h1, (Array.getElem?_eq_some_iff.1 h2).1, h3, h4, holdsK_own Sbj.len h2 ?_⟩
        rw [show zs.length = n from HL.out]
        exact h6
    subst hBg
    have HGl := hid hgl
    have HGb := hid hbg
    have hl := HL.out
    go_wp2_with fail
    go_loopg [4] n (fun gg s4 wr => ∃ (i : Nat) (d : Array Sbj), 1 ≤ i ∧ i ≤ n ∧ n - i ≤ gg ∧ s4 = .int .i64 i ∧ Hid (SWK Sbj.cells 2 w9 g 0 d wr ∧ d.toList = ordI (zs.take i) ++ zs.drop i))
    case atStart =>
      refine ⟨1, zs.toArray, Nat.le_refl _, h0, by omega, rfl, SWK.start HH0.out, ?_⟩
      rw [show (1 : Nat) = 0 + 1 from rfl, ordI_take (by omega), List.take_zero]
      show zs = putI zs[0]! [] ++ zs.drop (0 + 1)
      have e1 : zs[0]! :: zs.drop 1 = zs := by
        rw [getElem!_pos zs 0 (by omega)]
        cases zs with
        | nil => simp at hl; omega
        | cons a r => rfl
      exact e1.symm
    case round =>
      obtain ⟨i, d, hi1, hin, hgi, rfl, HD⟩ := hrel
      by_cases hil : i < n
      · have hik : i < zs.length := by omega
        have hin' : (i : Int) < (n : Int) := by omega
        have HDr : Hid (zs.drop i = zs[i]! :: zs.drop (i + 1)) := by
          show _ = _
          rw [List.drop_eq_getElem_cons hik, getElem!_pos zs i hik]
        have HT2 := hid (ordI_take hik)
        have HSo : Hid ((ordI (zs.take i)).Pairwise (fun x y => x.id < y.id)) := ordI_sorted (HAp.out.sublist (List.take_sublist _ _))
        have HM : Hid ((ordI (zs.take i)).length = i) := by show _ = _; rw [ordI_len, List.length_take]; omega
        have HR9 : Hid ((zs.drop (i + 1)).length = n - (i + 1)) := by show _ = _; rw [List.length_drop]; omega
        generalize zs[i]! = t at HDr HT2
        generalize ordI (zs.take i) = o at *
        generalize hrest : zs.drop (i + 1) = rest at *
        have HRest := hid hrest
        clear hrest
        obtain ⟨wp, rfl⟩ : ∃ wp : World, wp = wr := ⟨_, rfl⟩
        go_wp2_with fail
        go_loopg [5] i (fun gg s5 wq => ∃ (k : Nat) (e : Array Sbj), s5 = .int .i64 k ∧ k ≤ i ∧ k ≤ gg ∧ Hid (PutI t o rest k e ∧ SWK Sbj.cells 2 w9 g 0 e wq))
        case atStart =>
          refine ⟨i, d, rfl, Nat.le_refl _, Nat.le_refl _, ?_, HD.out.1⟩
          have h := PutI.start t o rest
          rw [HM.out] at h
          have e1 : d = (o ++ t :: rest).toArray := by
            apply Array.ext'
            rw [HD.out.2, HDr.out]
          rw [e1]
          exact h
        case round =>
          obtain ⟨q, e, rfl, hq, hqg, HQ⟩ := hrel
          obtain ⟨hq1, hq2⟩ := HQ.out
          obtain ⟨hs1, hs2⟩ := hq1.size
          have hsn : e.size = n := by have h1 := HM.out; have h2 := HR9.out; omega
          have hs0 : e.size = zs.toArray.size := by simp; omega
          have HEnd : Hid ((q = 0 ∨ ¬ t.id < e[q - 1]!.id) → ∀ W', SWK Sbj.cells 2 w9 g 0 e W' → (SWK Sbj.cells 2 w9 g 0 (putI t o ++ rest).toArray W')) := fun h W' S => by
            have ee := hq1.done HSo.out h
            rw [← ee]
            exact S
          by_cases hq0 : q = 0
          · subst hq0
            have HF2 := hid (fun n' => HEnd.out (.inl rfl) _ (hq2.drewN n'))
            clear hq1 hq2 hs1 hs2 hs0 HEnd
            go_wp2_with fail
            go_quiet (fail)
            go_wp2
            go_roundg (n - (i + 1))
            case measure => omega
            case rel => exact ⟨i + 1, (putI t o ++ rest).toArray, by omega, by omega, by omega, by go_num, HF2.out _, by rw [HT2.out, HRest.out]⟩
          · obtain ⟨j, rfl⟩ : ∃ j, q = j + 1 := ⟨q - 1, by omega⟩
            clear hq0
            rw [Nat.add_sub_cancel] at HEnd
            have hat := hq1.at_
            obtain ⟨y, hy⟩ : ∃ y, e[j]! = y := ⟨_, rfl⟩
            obtain ⟨⟨a0, a1⟩, _⟩ := holds10_cells (hq2.holds HGl.out HH0.out hs0) hs2
            obtain ⟨⟨b0, b1⟩, _⟩ := holds10_cells (hq2.holds HGl.out HH0.out hs0) (i := j) (by omega)
            rw [hat] at a0 a1
            rw [hy] at b0 b1 HEnd
            have HY := hid hy
            have HAt2 := hid hat
            have HQ1 := hid hq1
            have HQ22 := hid hq2
            have HSz := hid (And.intro hs2 hs0)
            have hj0 : (0 : Int) ≤ (j : Int) := by omega
            have hj1 : (0 : Int) ≤ (j : Int) + 1 := by omega
            have hjp : (0 : Int) < (j : Int) + 1 := by omega
            have hjm1 : (j : Int) < (n : Int) := by omega
            have hjm2 : (j : Int) + 1 < (n : Int) := by omega
            have hjt : ((j : Int) + 1).toNat = j + 1 := by omega
            have hjw : IntKind.i64.wrap ((j : Int) + 1 - 1) = (j : Int) := by rw [IntKind.wrap_i64]; omega
            have hjw2 : IntKind.i64.wrap (j : Int) = (j : Int) := by rw [IntKind.wrap_i64]; omega
            by_cases hty : t.id < y.id
            · have HPQ := hid (hq1.step (k := j) (by rw [hy]; exact hty))
              clear hq1 hq2 hs1 hs2 hs0 hat hy HEnd
              go_wp2_with fail
              go_quiet (fail)
              go_wp2_with fail
              have HG2 := hid (HQ22.out.drewN nq)
              clear a0 a1 b0 b1
              generalize wr.drewN nq = wz at HG2 ⊢
              have S2 := hid (HG2.out.swapped (⟨Sbj.len, Sbj.one, HH0.out, HGl.out⟩ : RowK Sbj.cells 2 w9 g 0 zs.toArray) (j + 1) j HSz.out.1 (by have := HSz.out.1; omega))
              obtain ⟨⟨a0, a1⟩, f0, f1⟩ := holds10_cells (HG2.out.holds HGl.out HH0.out HSz.out.2) HSz.out.1
              obtain ⟨⟨b0, b1⟩, g0, g1⟩ := holds10_cells (HG2.out.holds HGl.out HH0.out HSz.out.2) (i := j) (by have := HSz.out.1; omega)
              simp only [Nat.zero_add] at S2
              rw [HAt2.out] at a0 a1 S2
              rw [HY.out] at b0 b1 S2
              go_region
              all_goals go_wp2
              go_roundg j
              case measure => omega
              case rel =>
                refine ⟨j, swp e (j + 1) j, by first | rfl | go_num, by omega, Nat.le_refl _, HPQ.out, ?_⟩
                have h := S2.out
                rw [drew_setCells10, drew_setCells10] at h
                exact h
            · have HF2 := hid (fun n' => HEnd.out (.inr hty) _ (hq2.drewN n'))
              clear hq1 hq2 hs1 hs2 hs0 hat hy HEnd
              go_wp2_with fail
              go_quiet (fail)
              go_wp2
              go_roundg (n - (i + 1))
              case measure => omega
              case rel => exact ⟨i + 1, (putI t o ++ rest).toArray, by omega, by omega, by omega, by go_num, HF2.out _, by rw [HT2.out, HRest.out]⟩
      · have hin' : ¬ (i : Int) < (n : Int) := by omega
        have htk : zs.take i = zs := by rw [show i = zs.length by omega, List.take_length]
        have hdk : zs.drop i = [] := by rw [show i = zs.length by omega, List.drop_length]
        obtain ⟨hS, hd⟩ := HD.out
        rw [htk, hdk, List.append_nil] at hd
        have hdn : d.size = n := by
          have h := congrArg List.length hd
          rw [ordI_len] at h
          simp at h
          omega
        have hr := rdK_holds Sbj.len (hS.holds HGl.out HH0.out (by simp; omega)) (hS.lt HGl.out)
        rw [hdn, hd] at hr
        have HF := hid hr
        have HGr := hid (gr_sortK (show Gr w w9 from HB.out) hS HGb.out)
        clear htk hdk hS hd hr HD
        go_wp2
        go_ret
        unfold RefOrdRet
        exact ⟨_, cap, rfl, HGr.out, HF.out⟩
end Go.Proofs.Ytimhkkijoelmhaa
