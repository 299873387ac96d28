/- away: a row of fractions less so much of another row. For numbers that are not great. -/
import Derived.Deep.CutRange
import Derived.Deep.DeepCutAuto
import Derived.Test.YtimhkkijoelmhaaQEltS
import Derived.Test.YtimhkkijoelmhaaQMix
import Derived.Test.YtimhkkijoelmhaaQCheck10
import Derived.Test.YtimhkkijoelmhaaQAppend
import Derived.Test.YtimhkkijoelmhaaQAmong9
import Derived.Test.YtimhkkijoelmhaaQPlan
import Derived.Test.YtimhkkijoelmhaaQLow10
namespace Go.Proofs.Ytimhkkijoelmhaa
open Go.RowKit

theorem info_fr10 : (Try.prog.info? 107).map (fun i => (i.zero, i.size, i.bytes)) = some (some (.agg #[.int .i64 0, .int .i64 0]), 2, 16) := by kernel_rfl
theorem fr_cells (l : List Rat) : ∀ u ∈ l.flatMap frC, u.oneCell' = true := by
  intro u hu
  obtain ⟨x, _, hx⟩ := List.mem_flatMap.1 hu
  exact one_C x u hx
theorem own_cap10 {w : World} {base : Nat} {e : TypeId} {size n c : Nat} {A : Option Addr} {xs : List Value} (h : w.ownsRow base e size (.slice A n c) n xs) : n ≤ c ∧ c ≤ 9223372036854775807 := by
  rcases h.2 with ⟨hv, h0⟩ | ⟨g, cap, cur, hv, _, _, hnc, hcm, _⟩
  · injection hv with _ _ hc
    omega
  · injection hv with _ _ hc
    unfold maxLen at hcm
    omega
/-- A row just read. -/
theorem rd_row10 {W : World} {b : Nat} {cs : Array Value} {t : TypeId} {fr : Nat × Nat} (h : W.heap[b]? = some (.cells cs t fr)) (size n : Nat) (hn : cs.size = n * size) : Rd W size (some ⟨b, 0, none⟩) n cs.toList := by
  refine ⟨by simpa using hn, fun _ => ⟨b, 0, rfl, (Array.getElem?_eq_some_iff.1 h).1, fun j u hu => ?_⟩⟩
  rw [Nat.zero_add, cell_of_row W b j cs t fr h]
  simpa using hu
theorem ownT_gf {W W' : World} {base : Nat} {e : TypeId} {size n : Nat} {v : Value} {xs : List Value} (h : W.ownsRow base e size v n xs) (g : Gr W W') : W'.ownsRow base e size v n xs :=
  h.kept (grown_of_gr g) (by
    cases v.ownBlock with
    | none => exact .inl rfl
    | some _ => exact .inr (by simp))
/-- Fractions that were made. -/
def FrRet (zs : List Rat) (w : World) (e : Ending) (w' : World) : Prop := ∃ A c, e = .returned (.slice A zs.length c) ∧ w'.ownsRow w.heap.size 107 2 (.slice A zs.length c) zs.length (zs.flatMap frC) ∧ Gr w w'
theorem fr_take_succ {zs : List Rat} {k : Nat} (hk : k < zs.length) : (zs.take (k + 1)).flatMap frC = (zs.take k).flatMap frC ++ frC zs[k]! := by
  rw [List.take_succ_eq_append_getElem hk, List.flatMap_append, ← getElem!_pos zs k hk]
  simp

set_option maxRecDepth 100000 in
set_option maxHeartbeats 8000000 in
theorem away_any (A : Option Addr) (n c : Nat) (xs : List Rat) (B : Option Addr) (m d : Nat) (ys : List Rat) (g : Nat) (f : Rat) (w : World) (hx : Rd w 2 A n (xs.flatMap frC)) (hy : Rd w 2 B m (ys.flatMap frC)) (hnm : n = m)
    (hf : w.heap[g]? = some (.cells #[.int .i64 f.num, .int .i64 f.den] 107 (0, 0))) (B1 B2 B3 : Nat) (h1 : ∀ x ∈ xs, Sm B1 x) (h2 : ∀ y ∈ ys, Sm B2 y) (h3 : Sm B3 f)
    (hb : B1 * (B2 * B3) ≤ 2305843009213693952) (hb2 : B2 * B3 ≤ 4611686018427387904) (hn : n ≤ 1000) :
    Calls Try.prog 102 #[.slice A n c, .slice B m d, .pointer (some ⟨g, 0, none⟩)] w (FrRet (subR xs ys f) w) := by
  subst hnm
  have hlx : xs.length = n := by have := hx.len; rw [flatMap_len frC_len] at this; omega
  have hly : ys.length = n := by have := hy.len; rw [flatMap_len frC_len] at this; omega
  have hlz : (subR xs ys f).length = n := by rw [subR_len _ _ _ (by omega), hlx]
  have HE := hid (fun k (hk : k < n) => show (subR xs ys f)[k]! = xs[k]! - ys[k]! * f by
    rw [getElem!_pos _ k (by omega), getElem!_pos _ k (by omega), getElem!_pos _ k (by omega)]
    simp [subR])
  have HT := hid (fun k (hk : k < n) W => times_any ys[k]! f B2 B3 W (h2 _ (mem_get (by omega))) h3 hb2)
  have HLs := hid (fun k (hk : k < n) W => less_any xs[k]! (ys[k]! * f) B1 (B2 * B3) W (h1 _ (mem_get (by omega))) ((h2 _ (mem_get (by omega))).mul h3).1 hb)
  generalize subR xs ys f = zs at *
  have HX := hid hx
  have HY := hid hy
  have HF := hid hf
  have HLZ := hid hlz
  have hnz : (n : Int) ≤ 1000 := by omega
  unfold FrRet
  rw [hlz]
  obtain ⟨i0, hi0, hz0, hs0, hy0⟩ := info_parts info_fr10
  have HI0 := hid hi0
  have HZ0 := hid hz0
  have HS0 := hid hs0
  have HY0 := hid hy0
  clear hi0 hz0 hs0 hy0 hx hy hf h1 h2 h3 hb hb2 hlx hly hlz
  go_enter Try.func102, Try.ntmps102
  go_wp2_with fail
  go_loopg [6, 10] n (fun gg s6 s10 wr => ∃ k : Nat, k ≤ n ∧ n - k ≤ gg ∧ s10 = .int .i64 k ∧ Gr w wr ∧ Hid (wr.ownsRow w.heap.size 107 2 s6 k ((zs.take k).flatMap frC)))
  case atStart => exact ⟨0, Nat.zero_le _, by omega, rfl, Gr.refl w, ⟨rfl, .inl ⟨rfl, rfl⟩⟩⟩
  case round =>
    obtain ⟨k, hk, hgk, rfl, BW, HOw⟩ := hrel
    by_cases hkl : k < n
    · obtain ⟨hk', b, off, rfl, hbl, c0, c1⟩ := HX.out.fr hkl
      obtain ⟨hk'', b', off', rfl, hbl', d0, d1⟩ := HY.out.fr hkl
      have HSn : Hid ((zs.take (k + 1)).flatMap frC = (zs.take k).flatMap frC ++ frC zs[k]!) := fr_take_succ (by have := HLZ.out; omega)
      have HEk := hid (HE.out k hkl)
      rw [HEk.out] at HSn
      have HTk := hid (HT.out k hkl)
      have HLk := hid (HLs.out k hkl)
      clear HT HLs HE HEk
      generalize (zs.take k).flatMap frC = o at *
      obtain ⟨v, hv⟩ : ∃ v, ys[k]! * f = v := ⟨_, rfl⟩
      rw [hv] at HTk HLk HSn
      clear hv
      generalize ys[k]! = y at d0 d1 HTk
      obtain ⟨u, hu⟩ : ∃ u, xs[k]! - v = u := ⟨_, rfl⟩
      rw [hu] at HLk HSn
      clear hu
      generalize xs[k]! = x at c0 c1 HLk
      unfold frV at *
      have hkn : (k : Int) < (n : Int) := by omega
      have hk0 : (0 : Int) ≤ (k : Int) := by omega
      have hsz : w.heap.size ≤ wr.heap.size := BW.size
      have BWr := hid BW
      clear hk' hk''
      have p0 : ∀ p : GrW w, p.W.cell? ⟨b, off + k * 2, none⟩ = some (.int .i64 x.num) := GrW.cell c0
      have p1 : ∀ p : GrW w, p.W.cell? ⟨b, off + k * 2 + 1, none⟩ = some (.int .i64 x.den) := GrW.cell c1
      have q0 : ∀ p : GrW w, p.W.cell? ⟨b', off' + k * 2, none⟩ = some (.int .i64 y.num) := GrW.cell d0
      have q1 : ∀ p : GrW w, p.W.cell? ⟨b', off' + k * 2 + 1, none⟩ = some (.int .i64 y.den) := GrW.cell d1
      have r0 : ∀ p : GrW w, p.W.cell? ⟨g, 0, none⟩ = some (.int .i64 f.num) := GrW.cell (row_cell_at HF.out 0 rfl)
      have r1 : ∀ p : GrW w, p.W.cell? ⟨g, 1, none⟩ = some (.int .i64 f.den) := GrW.cell (row_cell_at HF.out 1 rfl)
      clear c0 c1 d0 d1
      go_upto_region 5 with fail
      refine wp_region_mixN (C := fun w' => ∃ p : GrW w, w' = p.W) [10, 11, 12, 13] (by rfl) (by kernel_rfl) ⟨⟨_, BWr.out.drew⟩, rfl⟩ ?_
      (repeat (first | ((with_reducible refine mixL_read0 ?_ ?_ (fun K hK => ?_)); rfl; rfl; go_big_quiet_op; (with_reducible refine hK _ ?_); clear hK K) | ((with_reducible refine' mixL_skipG ?_ ?_ ?_ ?_ ?_); rotate_left 4; rfl; rfl; rfl; rfl; simp only [Act.put, List.setIfInBounds_toArray, List.set_cons_zero, List.set_cons_succ]) | ((with_reducible refine' mixL_skipU ?_ ?_ ?_ ?_); rotate_left 3; rfl; rfl; rfl; simp only [Act.put, List.setIfInBounds_toArray, List.set_cons_zero, List.set_cons_succ]) | ((with_reducible refine' mixL_readG ?_ ?_ ?_ ?_ ?_ (fun K hK => ?_)); rotate_left 4; rfl; rfl; rfl; rfl; rfl; go_big_quiet_op; (with_reducible refine hK _ ?_); clear hK K)))
      (first | ((with_reducible refine mixL_mut0 ?_ ?_ (fun K hK => ?_)); rfl; rfl) | ((with_reducible refine' mixL_mutG ?_ ?_ ?_ ?_ ?_ (fun K hK => ?_)); rotate_left 4; rfl; rfl; rfl; rfl; rfl))
      go_simp
      refine (HTk.out _).mono ?_
      rintro e w1 ⟨rfl, hb1⟩
      have G1 := hid (show Gr wr w1 from (Gr.refl wr).drew.trans hb1)
      refine hK.out _ _ ⟨⟨w1, BWr.out.trans G1.out⟩, rfl⟩ ?_
      clear hK K hb1
      (first | ((with_reducible refine mixL_mut0 ?_ ?_ (fun K hK => ?_)); rfl; rfl) | ((with_reducible refine' mixL_mutG ?_ ?_ ?_ ?_ ?_ (fun K hK => ?_)); rotate_left 4; rfl; rfl; rfl; rfl; rfl))
      go_simp
      refine (HLk.out _).mono ?_
      rintro e w2 ⟨rfl, hb2⟩
      have G2 := hid (G1.out.trans hb2)
      refine hK.out _ _ ⟨⟨w2, BWr.out.trans G2.out⟩, rfl⟩ ?_
      clear hK K hb2
      (first | ((with_reducible refine mixL_mut0 ?_ ?_ (fun K hK => ?_)); rfl; rfl) | ((with_reducible refine' mixL_mutG ?_ ?_ ?_ ?_ ?_ (fun K hK => ?_)); rotate_left 4; rfl; rfl; rfl; rfl; rfl))
      go_simp
      have R3 := hid (heap_alloc_new w2 (.cells #[.int .i64 u.num, .int .i64 u.den] 107))
      have G3 := hid (G2.out.alloc (.cells #[.int .i64 u.num, .int .i64 u.den] 107))
      refine hK.out _ _ ⟨⟨_, BWr.out.trans G3.out⟩, rfl⟩ ?_
      clear hK K
      (first | ((with_reducible refine mixL_mut0 ?_ ?_ (fun K hK => ?_)); rfl; rfl) | ((with_reducible refine' mixL_mutG ?_ ?_ ?_ ?_ ?_ (fun K hK => ?_)); rotate_left 4; rfl; rfl; rfl; rfl; rfl))
      refine wp_append_rd (.tmp 13) (.tmp 25) 88 rfl w.heap.size 107 i0 (.agg #[.int .i64 0, .int .i64 0]) 2 16 Try.underlying88 HI0.out HZ0.out HS0.out HY0.out rfl (by decide) _ _ _ rfl (ownT_gf HOw.out G3.out) (some ⟨w2.heap.size, 0, none⟩) 1 1 (frC u) rfl (rd_row10 R3.out 2 1 rfl) (one_C u) (by have : maxLen = 9223372036854775807 := rfl; omega) (by omega) (by have h1 := BWr.out.size; have h2 := G2.out.size; simp; omega) ?_
      intro A' c' w3 hown hgrow hbel
      have G4 := hid (show Gr w w3 from Below.trans (BWr.out.trans G3.out) hbel)
      have K4 := hid hown
      refine hK.out _ _ ⟨⟨w3, G4.out⟩, rfl⟩ ?_
      clear hK K hown hgrow hbel p0 p1 q0 q1 r0 r1
      simp only [Act.put, List.setIfInBounds_toArray, List.set_cons_zero, List.set_cons_succ]
      (repeat (first | ((with_reducible refine mixL_read0 ?_ ?_ (fun K hK => ?_)); rfl; rfl; go_big_quiet_op; (with_reducible refine hK _ ?_); clear hK K) | ((with_reducible refine' mixL_skipG ?_ ?_ ?_ ?_ ?_); rotate_left 4; rfl; rfl; rfl; rfl; simp only [Act.put, List.setIfInBounds_toArray, List.set_cons_zero, List.set_cons_succ]) | ((with_reducible refine' mixL_skipU ?_ ?_ ?_ ?_); rotate_left 3; rfl; rfl; rfl; simp only [Act.put, List.setIfInBounds_toArray, List.set_cons_zero, List.set_cons_succ]) | ((with_reducible refine' mixL_readG ?_ ?_ ?_ ?_ ?_ (fun K hK => ?_)); rotate_left 4; rfl; rfl; rfl; rfl; rfl; go_big_quiet_op; (with_reducible refine hK _ ?_); clear hK K)))
      (with_reducible refine mixN_nil ?_)
      go_wp2
      go_roundg (n - (k + 1))
      case measure => omega
      case rel => exact ⟨k + 1, by omega, by omega, by go_num, G4.out, by unfold Hid; rw [HSn.out]; exact K4.out⟩
    · have hkn : ¬ (k : Int) < (n : Int) := by omega
      have htk : zs.take k = zs := by rw [show k = zs.length by have := HLZ.out; omega, List.take_length]
      have hOw := HOw.out
      rw [htk] at hOw
      obtain ⟨A', c', rfl⟩ := own_slice hOw
      have hkn' : k = n := by omega
      subst hkn'
      have HF' := hid hOw
      clear HOw hOw htk
      go_wp2
      go_ret
      exact ⟨A', c', rfl, HF'.out, BW⟩
end Go.Proofs.Ytimhkkijoelmhaa
