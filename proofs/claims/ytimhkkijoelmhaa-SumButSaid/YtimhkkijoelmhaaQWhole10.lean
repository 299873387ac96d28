/- whole of the package sum: fractions made whole. numbers of the reference: fractions made whole. -/
import Derived.Laws.OwnMore
import Derived.Test.YtimhkkijoelmhaaQEltS
import Derived.Test.YtimhkkijoelmhaaQRound10
import Derived.Test.YtimhkkijoelmhaaQLine10
import Derived.Test.YtimhkkijoelmhaaQBits10
namespace Go.Proofs.Ytimhkkijoelmhaa
open Go.RowKit

/-- A world in which one block is as it was. -/
structure OneW (b : Nat) (W0 : World) where
  W : World
  at_ : ∀ o, W.cell? ⟨b, o, none⟩ = W0.cell? ⟨b, o, none⟩
instance (b : Nat) (W0 : World) : Inhabited (OneW b W0) := ⟨⟨W0, fun _ => rfl⟩⟩
theorem OneW.cell {b : Nat} {W0 : World} {o : Nat} {v : Value} (h : W0.cell? ⟨b, o, none⟩ = some v) (p : OneW b W0) : p.W.cell? ⟨b, o, none⟩ = some v := (p.at_ o).trans h
theorem at_gr {b : Nat} {W0 W : World} (h : Gr W0 W) (hb : b < W0.heap.size) (o : Nat) : W.cell? ⟨b, o, none⟩ = W0.cell? ⟨b, o, none⟩ := Below.cell h (p := ⟨b, o, none⟩) hb
theorem at_grown {w0 w w' : World} {base : Nat} {e : TypeId} {size n : Nat} {v : Value} {xs : List Value} (hown : w0.ownsRow base e size v n xs) (hg : w.grownBy w' v.ownBlock) {b : Nat} (h1 : w0.heap.size ≤ b) (h2 : b < w.heap.size) (o : Nat) : w'.cell? ⟨b, o, none⟩ = w.cell? ⟨b, o, none⟩ :=
  World.cell?_of_block (a := ⟨b, o, none⟩) (hg.block b h2 (fun h => by have := (hown.lt b h.symm).2; omega))
def intsC (l : List Int) : List Value := l.map (Value.int .i64)
theorem intsC_len (l : List Int) : (intsC l).length = l.length := by simp [intsC]
theorem intsC_take {l : List Int} {k : Nat} (hk : k < l.length) : intsC (l.take (k + 1)) = intsC (l.take k) ++ [.int .i64 l[k]!] := by
  unfold intsC
  rw [List.take_succ_eq_append_getElem hk, List.map_append, ← getElem!_pos l k hk]
  rfl
theorem info_intW10 : (Try.prog.info? 3).map (fun i => (i.zero, i.size, i.bytes)) = some (some (.int .i64 0), 1, 8) := by kernel_rfl
/-- The first k numbers by g, the others as they are. -/
def divK (l : List Int) (g : Int) (k : Nat) : List Int := (l.take k).map (fun z => z.tdiv g) ++ l.drop k
theorem divK_len (l : List Int) (g : Int) (k : Nat) : (divK l g k).length = l.length := by
  simp [divK]; omega
theorem divK_get {l : List Int} {g : Int} {k : Nat} (hk : k < l.length) : (divK l g k)[k]? = some l[k]! := by
  unfold divK
  rw [List.getElem?_append_right (by simp; omega), getElem!_pos l k hk]
  simp [Nat.min_eq_left (Nat.le_of_lt hk), hk]
theorem divK_succ {l : List Int} {g : Int} {k : Nat} (hk : k < l.length) : divK l g (k + 1) = (divK l g k).set k (l[k]!.tdiv g) := by
  apply List.ext_getElem?
  intro i
  unfold divK
  rw [List.getElem?_set]
  have e1 : ((l.take k).map (fun z => z.tdiv g)).length = k := by simp; omega
  have e2 : ((l.take (k + 1)).map (fun z => z.tdiv g)).length = k + 1 := by simp; omega
  rcases Nat.lt_trichotomy i k with h | h | h
  · rw [if_neg (by omega), List.getElem?_append_left (by omega), List.getElem?_append_left (by omega)]
    simp [show i < k + 1 by omega, h]
  · subst h
    rw [if_pos rfl, if_pos (by simp; omega), List.getElem?_append_left (by omega), getElem!_pos l i hk]
    simp [hk]
  · rw [if_neg (by omega), List.getElem?_append_right (by omega), List.getElem?_append_right (by omega), e1, e2]
    simp only [List.getElem?_drop]
    congr 1; omega
theorem divK_cells {l : List Int} {g : Int} {k : Nat} (hk : k < l.length) : (intsC (divK l g k)).set k (.int .i64 (l[k]!.tdiv g)) = intsC (divK l g (k + 1)) := by
  unfold intsC
  rw [divK_succ hk, List.map_set]
theorem divK_cell {l : List Int} {g : Int} {k : Nat} (hk : k < l.length) : (intsC (divK l g k))[k]? = some (.int .i64 l[k]!) := by
  unfold intsC
  rw [List.getElem?_map, divK_get hk]
  rfl

set_option maxRecDepth 100000 in
set_option maxHeartbeats 8000000 in
theorem whole_any (A : Option Addr) (n c D : Nat) (xs : List Rat) (w : World) (hx : Rd w 2 A n (xs.flatMap frC)) (hl : xs.length = n) (hn : n ≤ 1000) (hD : ∀ x ∈ xs, x.den ∣ D) (hD0 : 0 < D) (hD1 : D ≤ 1000000) (hB : ∀ x ∈ xs, x.num.natAbs ≤ 1000000) :
    Calls Try.prog 58 #[.slice A n c] w fun e w' => ∃ A' c', e = .returned (.slice A' n c') ∧ w'.ownsRow w.heap.size 3 1 (.slice A' n c') n ((wholeR xs).map (Value.int .i64)) ∧ Gr w w' := by
  have hnz : (n : Int) ≤ 1000 := by omega
  have HX := hid hx
  have HDv := hid (fun x y b c W hb h h' hx hy => divisor_two x y _ rfl b c W hb h h' hx hy)
  clear hx
  go_enter Try.func58, Try.ntmps58
  go_wp2_with fail
  go_loopg [3, 13] n (fun gg s3 s13 wr => ∃ k : Nat, k ≤ n ∧ n - k ≤ gg ∧ s3 = .int .i64 (lcmL (xs.take k)) ∧ s13 = .int .i64 k ∧ Gr w wr)
  case atStart => exact ⟨0, Nat.zero_le _, by omega, rfl, rfl, Gr.refl w⟩
  case round =>
    obtain ⟨k, hk, hgk, rfl, rfl, BW⟩ := hrel
    by_cases hkl : k < n
    · have hkn : (k : Int) < (n : Int) := by omega
      have hk0 : (0 : Int) ≤ (k : Int) := by omega
      obtain ⟨hkx, b, off, rfl, hb, hc0, hc1⟩ := Rd.fr (HX.out.gr BW) hkl
      have hxm : xs[k]! ∈ xs := by rw [getElem!_pos xs k hkx]; exact List.getElem_mem hkx
      have h1 := lcmL_le (l := xs.take k) (fun x hh => hD x (List.mem_of_mem_take hh)) hD0
      have h2 := lcmL_le (l := xs.take (k + 1)) (fun x hh => hD x (List.mem_of_mem_take hh)) hD0
      have h3 : xs[k]!.den ≤ D := Nat.le_of_dvd hD0 (hD _ hxm)
      have h4 := den_pos xs[k]!
      have h5 := hB _ hxm
      have hls := lcm_step (lcmL (xs.take k)) xs[k]!.den
      rw [← lcmL_take hkx] at hls
      obtain ⟨d', hd'⟩ : ∃ d', lcmL (xs.take (k + 1)) = d' := ⟨_, rfl⟩
      rw [hd'] at hls h2
      have HSt := hid hd'
      clear hd'
      generalize lcmL (xs.take k) = d at *
      generalize xs[k]!.num = p at *
      generalize xs[k]!.den = q at *
      have hgp := Nat.gcd_pos_of_pos_right d h4
      have hgl := Nat.gcd_le_right d h4
      have HDq := hid (fun b c W hb h h' => divisor_two (d : Int) (q : Int) (Nat.gcd d q) (by simp) b c W hb h h' (by omega) (by omega))
      generalize Nat.gcd d q = g at *
      obtain ⟨e, he⟩ : ∃ e, d / g = e := ⟨_, rfl⟩
      rw [he] at hls
      have hel : e ≤ d := by rw [← he]; exact Nat.div_le_self _ _
      have e1 : Int.tdiv (d : Int) (g : Int) = (e : Int) := by rw [tdiv_nat, he]
      have e2 : IntKind.i64.wrap (e : Int) = (e : Int) := by rw [IntKind.wrap_i64]; omega
      have e3 : (e : Int) * (q : Int) = (d' : Int) := by rw [← Int.natCast_mul, hls]
      have e4 : IntKind.i64.wrap (d' : Int) = (d' : Int) := by rw [IntKind.wrap_i64]; omega
      have hgz : ¬ (g : Int) = 0 := by omega
      clear hls he
      go_wp2_with fail
      have hrow := heap_alloc_new wr (.cells #[.int .i64 p, .int .i64 q] 107)
      have g2 : Gr wr (wr.alloc (.cells #[.int .i64 p, .int .i64 q] 107)) := (Gr.refl wr).alloc _
      generalize wr.alloc (.cells #[.int .i64 p, .int .i64 q] 107) = w2 at *
      have q1 := GrW.cell (row_cell_at (v := .int .i64 q) hrow 1 rfl)
      have G2 := hid g2
      clear g2 hrow
      refine wp_region_ord (C := fun w' => ∃ p : GrW w2, w' = p.W) [(0, false), (1, false), (2, false), (3, false), (7, false), (8, false), (4, true), (5, true), (6, false), (9, false), (10, false)] (by rfl) (by kernel_rfl) (by kernel_rfl) ⟨⟨_, (Gr.refl w2).drew⟩, rfl⟩ ?_
      (repeat (first | ((refine ord_read0 rfl rfl rfl (fun K hK => ?_)); go_big_quiet_op; (with_reducible refine hK _ ?_); clear hK K) | ((refine ord_skipG rfl rfl rfl rfl rfl ?_); simp only [Act.put, List.setIfInBounds_toArray, List.set_cons_zero, List.set_cons_succ]) | ((refine ord_readG rfl rfl rfl rfl rfl rfl (fun K hK => ?_)); go_big_quiet_op; (with_reducible refine hK _ ?_); clear hK K) | ((refine ord_nilc rfl rfl rfl rfl ?_); simp only [Act.put, List.setIfInBounds_toArray, List.set_cons_zero, List.set_cons_succ])))
      (first | (refine ord_mem0 rfl rfl (fun K hK => ?_)) | (refine ord_memG rfl rfl rfl rfl rfl (fun K hK => ?_)))
      go_simp
      have hrw := heap_alloc_new w2 (.cells #[.int .i64 d, .int .i64 q] 3)
      have g3 : Gr w2 ((w2.alloc (.cells #[.int .i64 d, .int .i64 q] 3)).drew) := ((Gr.refl w2).alloc _).drew
      have hz3 : w2.heap.size < ((w2.alloc (.cells #[.int .i64 d, .int .i64 q] 3)).drew).heap.size := by show w2.heap.size < (w2.heap.push _).size; simp only [Array.size_push]; omega
      have c0 : ((w2.alloc (.cells #[.int .i64 d, .int .i64 q] 3)).drew).cell? ⟨w2.heap.size, 0, none⟩ = some (.int .i64 d) := row_cell_at hrw 0 rfl
      have c1 : ((w2.alloc (.cells #[.int .i64 d, .int .i64 q] 3)).drew).cell? ⟨w2.heap.size, 1, none⟩ = some (.int .i64 q) := row_cell_at hrw 1 rfl
      refine hK.out _ _ ⟨⟨_, g3⟩, rfl⟩ ?_
      clear hK K
      (first | (refine ord_mem0 rfl rfl (fun K hK => ?_)) | (refine ord_memG rfl rfl rfl rfl rfl (fun K hK => ?_)))
      go_simp
      refine (HDq.out _ _ _ hz3 c0 c1).mono ?_
      rintro e' w4 ⟨rfl, h4⟩
      have G4 := hid (g3.trans h4)
      refine hK.out _ _ ⟨⟨w4, G4.out⟩, rfl⟩ ?_
      clear hK K hrw g3 hz3 c0 c1 h4
      (repeat (first | ((refine ord_read0 rfl rfl rfl (fun K hK => ?_)); go_big_quiet_op; (with_reducible refine hK _ ?_); clear hK K) | ((refine ord_skipG rfl rfl rfl rfl rfl ?_); simp only [Act.put, List.setIfInBounds_toArray, List.set_cons_zero, List.set_cons_succ]) | ((refine ord_readG rfl rfl rfl rfl rfl rfl (fun K hK => ?_)); go_big_quiet_op; (with_reducible refine hK _ ?_); clear hK K) | ((refine ord_nilc rfl rfl rfl rfl ?_); simp only [Act.put, List.setIfInBounds_toArray, List.set_cons_zero, List.set_cons_succ])))
      (with_reducible refine ord_nil ?_)
      go_wp2
      go_roundg (n - (k + 1))
      case measure => omega
      case rel => exact ⟨k + 1, by omega, by omega, by rw [HSt.out], by go_num, BW.trans (G2.out.trans G4.out)⟩
    · have hkn : ¬ (k : Int) < (n : Int) := by omega
      have htk : xs.take k = xs := by rw [show k = xs.length by omega, List.take_length]
      rw [htk]
      have hd1 := lcmL_le hD hD0
      have hd0 := lcmL_pos xs
      have HN := hid (fun k (hk : k < xs.length) => numsR_get hk)
      have HNl := hid (numsR_le hD hD0 hB)
      have hNz : (numsR xs).length = n := by rw [numsR_len, hl]
      have HW := hid (show (if 1 < gcdL (numsR xs) then (numsR xs).map (fun z => z.tdiv (gcdL (numsR xs) : Int)) else numsR xs) = wholeR xs from rfl)
      have HDV := hid (fun A c W h => divisor_any A n c (numsR xs) W h (by omega) (fun x hx => by have := HNl.out x hx; have : D * 1000000 ≤ 1000000 * 1000000 := Nat.mul_le_mul_right _ hD1; omega))
      have HGl := hid (gcdL_le (B := 1000000000000) (numsR xs) (fun x hx => by have := HNl.out x hx; have : D * 1000000 ≤ 1000000 * 1000000 := Nat.mul_le_mul_right _ hD1; omega))
      generalize lcmL xs = d at *
      obtain ⟨ws, hws⟩ : ∃ ws, wholeR xs = ws := ⟨_, rfl⟩
      rw [hws] at HW
      have HWX := hid hws
      clear hws
      generalize numsR xs = ns at *
      obtain ⟨i0, hi0, hz0, hs0, hy0⟩ := info_parts info_intW10
      have HI0 := hid hi0
      have HZ0 := hid hz0
      have HS0 := hid hs0
      have HY0 := hid hy0
      clear hi0 hz0 hs0 hy0 htk hgk
      go_wp2_with fail
      go_loopg [6, 30] n (fun gg s6 s30 wq => ∃ k : Nat, k ≤ n ∧ n - k ≤ gg ∧ s30 = .int .i64 k ∧ Gr w wq ∧ Hid (wq.ownsRow w.heap.size 3 1 s6 k (intsC (ns.take k))))
      case atStart => exact ⟨0, Nat.zero_le _, by omega, rfl, BW, ⟨rfl, .inl ⟨rfl, rfl⟩⟩⟩
      case round =>
        obtain ⟨j, hj, hgj, rfl, BW2, HOw⟩ := hrel
        by_cases hjl : j < n
        · have hjn : (j : Int) < (n : Int) := by omega
          have hj0 : (0 : Int) ≤ (j : Int) := by omega
          obtain ⟨hjx, b, off, rfl, hb, hc0, hc1⟩ := Rd.fr (HX.out.gr BW2) hjl
          have hxm : xs[j]! ∈ xs := by rw [getElem!_pos xs j hjx]; exact List.getElem_mem hjx
          have h4 := den_pos xs[j]!
          have h5 := hB _ hxm
          have HSn := hid (intsC_take (l := ns) (k := j) (by omega))
          have hnj := HN.out j hjx
          rw [hnj] at HSn
          clear hnj
          generalize intsC (ns.take j) = o at *
          generalize xs[j]!.num = p at *
          generalize xs[j]!.den = q at *
          obtain ⟨e, he⟩ : ∃ e, d / q = e := ⟨_, rfl⟩
          rw [he] at HSn
          have hel : e ≤ d := by rw [← he]; exact Nat.div_le_self _ _
          have e1 : Int.tdiv (d : Int) (q : Int) = (e : Int) := by rw [tdiv_nat, he]
          have e2 : IntKind.i64.wrap (e : Int) = (e : Int) := by rw [IntKind.wrap_i64]; omega
          have hab : ((e : Int) * p).natAbs ≤ 1000000 * 1000000 := by rw [Int.natAbs_mul, Int.natAbs_natCast]; exact Nat.mul_le_mul (by omega) h5
          obtain ⟨z, hz⟩ : ∃ z, (e : Int) * p = z := ⟨_, rfl⟩
          rw [hz] at hab HSn
          have e4 : IntKind.i64.wrap z = z := by rw [IntKind.wrap_i64]; omega
          have hqz : ¬ (q : Int) = 0 := by omega
          clear he
          go_wp2_with fail
          have hrow := heap_alloc_new wr (.cells #[.int .i64 p, .int .i64 q] 107)
          have g2 : Gr wr (wr.alloc (.cells #[.int .i64 p, .int .i64 q] 107)) := (Gr.refl wr).alloc _
          have hz2 : wr.heap.size < (wr.alloc (.cells #[.int .i64 p, .int .i64 q] 107)).heap.size := by show wr.heap.size < (wr.heap.push _).size; simp only [Array.size_push]; omega
          generalize wr.alloc (.cells #[.int .i64 p, .int .i64 q] 107) = w2 at *
          have q0 := OneW.cell (row_cell_at (v := .int .i64 p) hrow 0 rfl)
          have q1 := OneW.cell (row_cell_at (v := .int .i64 q) hrow 1 rfl)
          have G2 := hid g2
          have BWr := hid BW2
          clear g2 hrow
          refine wp_region_ord (C := fun w' => ∃ p : OneW wr.heap.size w2, w' = p.W) [(0, false), (1, false), (2, false), (3, false), (4, false), (5, false), (6, false), (7, false), (8, true), (9, true), (10, false)] (by rfl) (by kernel_rfl) (by kernel_rfl) ⟨⟨w2.drew, fun _ => rfl⟩, rfl⟩ ?_
          (repeat (first | ((refine ord_read0 rfl rfl rfl (fun K hK => ?_)); go_big_quiet_op; (with_reducible refine hK _ ?_); clear hK K) | ((refine ord_skipG rfl rfl rfl rfl rfl ?_); simp only [Act.put, List.setIfInBounds_toArray, List.set_cons_zero, List.set_cons_succ]) | ((refine ord_readG rfl rfl rfl rfl rfl rfl (fun K hK => ?_)); go_big_quiet_op; (with_reducible refine hK _ ?_); clear hK K) | ((refine ord_nilc rfl rfl rfl rfl ?_); simp only [Act.put, List.setIfInBounds_toArray, List.set_cons_zero, List.set_cons_succ])))
          (first | (refine ord_mem0 rfl rfl (fun K hK => ?_)) | (refine ord_memG rfl rfl rfl rfl rfl (fun K hK => ?_)))
          go_simp
          have hrw := heap_alloc_new w2 (.cells #[.int .i64 z] 3)
          have g3 : Gr w2 ((w2.alloc (.cells #[.int .i64 z] 3)).drew) := ((Gr.refl w2).alloc _).drew
          have hz3 : w2.heap.size < ((w2.alloc (.cells #[.int .i64 z] 3)).drew).heap.size := by show w2.heap.size < (w2.heap.push _).size; simp only [Array.size_push]; omega
          refine hK.out _ _ ⟨⟨_, at_gr g3 hz2⟩, rfl⟩ ?_
          clear hK K
          replace hrw : ((w2.alloc (.cells #[.int .i64 z] 3)).drew).heap[w2.heap.size]? = some (.cells #[.int .i64 z] 3 (0, 0)) := hrw
          generalize (w2.alloc (.cells #[.int .i64 z] 3)).drew = w3 at *
          have G3 := hid (G2.out.trans g3)
          (first | (refine ord_mem0 rfl rfl (fun K hK => ?_)) | (refine ord_memG rfl rfl rfl rfl rfl (fun K hK => ?_)))
          have hbs := BWr.out.size
          refine wp_append_rd (.tmp 34) (.tmp 42) 30 rfl w.heap.size 3 i0 (.int .i64 0) 1 8 Try.underlying30 HI0.out HZ0.out HS0.out HY0.out rfl (by decide) _ _ _ rfl (ownT_gf HOw.out G3.out) (some ⟨w2.heap.size, 0, none⟩) 1 1 [.int .i64 z] rfl (rd_row10 hrw 1 1 rfl) (by intro u hu; simp at hu; subst hu; rfl) (by have : maxLen = 9223372036854775807 := rfl; omega) (by omega) (by omega) ?_
          intro A' c' w4 hown hgrow hbel
          have G4 := hid (show Gr w w4 from Below.trans (BWr.out.trans G3.out) hbel)
          have K4 := hid hown
          refine hK.out _ _ ⟨⟨w4, fun o => (at_grown HOw.out hgrow (Nat.le_refl _) (by omega) o).trans (at_gr g3 hz2 o)⟩, rfl⟩ ?_
          clear hK K hown hgrow hbel q0 q1 g3 hrw
          simp only [Act.put, List.setIfInBounds_toArray, List.set_cons_zero, List.set_cons_succ]
          (repeat (first | ((refine ord_read0 rfl rfl rfl (fun K hK => ?_)); go_big_quiet_op; (with_reducible refine hK _ ?_); clear hK K) | ((refine ord_skipG rfl rfl rfl rfl rfl ?_); simp only [Act.put, List.setIfInBounds_toArray, List.set_cons_zero, List.set_cons_succ]) | ((refine ord_readG rfl rfl rfl rfl rfl rfl (fun K hK => ?_)); go_big_quiet_op; (with_reducible refine hK _ ?_); clear hK K) | ((refine ord_nilc rfl rfl rfl rfl ?_); simp only [Act.put, List.setIfInBounds_toArray, List.set_cons_zero, List.set_cons_succ])))
          (with_reducible refine ord_nil ?_)
          go_wp2
          go_roundg (n - (j + 1))
          case measure => omega
          case rel => exact ⟨j + 1, by omega, by omega, by go_num, G4.out, by unfold Hid; rw [HSn.out]; exact K4.out⟩
        · have hjn : ¬ (j : Int) < (n : Int) := by omega
          have htk2 : ns.take j = ns := by rw [show j = ns.length by omega, List.take_length]
          have hOw := HOw.out
          rw [htk2] at hOw
          obtain ⟨A', c', rfl⟩ := own_slice hOw
          have hjn2 : j = n := by omega
          subst hjn2
          have HOw2 := hid hOw
          have BWr := hid BW2
          have HR := hid (fun W (g : Gr wr W) => Rd.gr (Rd.of_own hOw) g)
          clear hOw HOw htk2 BW BW2
          have HDVr := hid (fun W (g : Gr wr W) => HDV.out A' c' W (HR.out W g))
          clear HN HDV
          by_cases hg1 : 1 < gcdL ns
          · have hw := HW.out
            rw [if_pos hg1] at hw
            have HWs := hid hw
            have hgl := HGl.out
            clear hw
            generalize gcdL ns = g at *
            have hgi : (1 : Int) < (g : Int) := by omega
            have hgz : ¬ (g : Int) = 0 := by omega
            go_wp2_with (first | (go_at_call 86; (with_reducible refine (HDVr.out _ (Gr.refl _)).mono ?_); rotate_right; rintro e w1 ⟨rfl, hbw1⟩; obtain ⟨hcw1, hfw1, hzw1⟩ := hbw1.rules; (try simp at hzw1)))
            have HO1 := hid (ownT_gf HOw2.out hbw1)
            have BW1 := hid (BWr.out.trans hbw1)
            clear HOw2
            go_loopg [51] j (fun gg s51 wq => ∃ k : Nat, k ≤ j ∧ j - k ≤ gg ∧ s51 = .int .i64 k ∧ Gr w wq ∧ Hid (wq.ownsRow w.heap.size 3 1 (.slice A' j c') j (intsC (divK ns g k))))
            case atStart => exact ⟨0, Nat.zero_le _, by omega, rfl, BW1.out, by simpa [divK] using HO1⟩
            case round =>
              obtain ⟨i, hi, hgi2, rfl, BW3, HO⟩ := hrel
              by_cases hil : i < j
              · have hin : (i : Int) < (j : Int) := by omega
                have hi0 : (0 : Int) ≤ (i : Int) := by omega
                obtain ⟨b, cap, hv, hbb, hbl⟩ := HO.out.form (by omega)
                injection hv with hv1 _ hv2
                subst hv1 hv2
                have c0 := HO.out.cellAt i (by omega)
                rw [divK_cell (by omega)] at c0
                have f0 := HO.out.frozenAt i
                have HSt := hid (HO.out.stored i (.int .i64 (ns[i]!.tdiv g))).1
                rw [divK_cells (by omega)] at HSt
                have hzb : ns[i]!.natAbs ≤ D * 1000000 := HNl.out _ (by rw [getElem!_pos ns i (by omega)]; exact List.getElem_mem _)
                have hDD : D * 1000000 ≤ 1000000 * 1000000 := Nat.mul_le_mul_right _ hD1
                generalize ns[i]! = z at *
                obtain ⟨y, hy⟩ : ∃ y, Int.tdiv z (g : Int) = y := ⟨_, rfl⟩
                have hyl : y.natAbs ≤ z.natAbs := by rw [← hy, Int.natAbs_tdiv]; exact Nat.div_le_self _ _
                have hyw : IntKind.i64.wrap y = y := by rw [IntKind.wrap_i64]; omega
                rw [hy] at HSt
                go_wp2_with fail
                go_roundg (j - (i + 1))
                case measure => omega
                case rel => exact ⟨i + 1, by omega, by omega, by go_num, Gr.setCell BW3 hbb _, HSt⟩
              · have hin : ¬ (i : Int) < (j : Int) := by omega
                have hij : i = j := by omega
                have hO := HO.out
                rw [hij, show divK ns g j = ws by rw [← HWs.out]; unfold divK; rw [show j = ns.length by omega, List.take_length, List.drop_length, List.append_nil]] at hO
                have HO4 := hid hO
                clear hO HO
                go_wp2
                go_ret
                exact ⟨A', c', rfl, by rw [HWX.out]; exact HO4.out, BW3⟩
          · have hw := HW.out
            rw [if_neg hg1] at hw
            subst hw
            generalize gcdL ns = g at *
            have hgi : ¬ (1 : Int) < (g : Int) := by omega
            go_wp2_with (first | (go_at_call 86; (with_reducible refine (HDVr.out _ (Gr.refl _)).mono ?_); rotate_right; rintro e w1 ⟨rfl, hbw1⟩; obtain ⟨hcw1, hfw1, hzw1⟩ := hbw1.rules; (try simp at hzw1)))
            go_ret
            exact ⟨A', c', rfl, by rw [HWX.out]; exact ownT_gf HOw2.out hbw1, BWr.out.trans hbw1⟩
end Go.Proofs.Ytimhkkijoelmhaa
namespace Go.Proofs.Ytimhkkijoelmhaa
open Go.RowKit

set_option maxRecDepth 100000 in
set_option maxHeartbeats 8000000 in
theorem numbers10_any (A : Option Addr) (n c D : Nat) (xs : List Rat) (w : World) (hx : Rd w 2 A n (xs.flatMap frC)) (hl : xs.length = n) (hn : n ≤ 1000) (hD : ∀ x ∈ xs, x.den ∣ D) (hD0 : 0 < D) (hD1 : D ≤ 1000000) (hB : ∀ x ∈ xs, x.num.natAbs ≤ 1000000) :
    Calls Try.prog 61 #[.slice A n c] w fun e w' => ∃ A' c', e = .returned (.slice A' n c') ∧ w'.ownsRow w.heap.size 3 1 (.slice A' n c') n ((wholeR xs).map (Value.int .i64)) ∧ Gr w w' := by
  have hnz : (n : Int) ≤ 1000 := by omega
  have HX := hid hx
  clear hx
  go_enter Try.func61, Try.ntmps61
  go_wp2_with fail
  go_loopg [3, 4] n (fun gg s3 s4 wr => ∃ k : Nat, k ≤ n ∧ n - k ≤ gg ∧ s3 = .int .i64 (lcmL (xs.take k)) ∧ s4 = .int .i64 k ∧ Gr w wr)
  case atStart => exact ⟨0, Nat.zero_le _, by omega, rfl, rfl, Gr.refl w⟩
  case round =>
    obtain ⟨k, hk, hgk, rfl, rfl, BW⟩ := hrel
    by_cases hkl : k < n
    · have hkn : (k : Int) < (n : Int) := by omega
      have hk0 : (0 : Int) ≤ (k : Int) := by omega
      obtain ⟨hkx, b, off, rfl, hb, hc0, hc1⟩ := Rd.fr (HX.out.gr BW) hkl
      have hxm : xs[k]! ∈ xs := by rw [getElem!_pos xs k hkx]; exact List.getElem_mem hkx
      have h1 := lcmL_le (l := xs.take k) (fun x hh => hD x (List.mem_of_mem_take hh)) hD0
      have h2 := lcmL_le (l := xs.take (k + 1)) (fun x hh => hD x (List.mem_of_mem_take hh)) hD0
      have h3 : xs[k]!.den ≤ D := Nat.le_of_dvd hD0 (hD _ hxm)
      have h4 := den_pos xs[k]!
      have hls := lcm_step (lcmL (xs.take k)) xs[k]!.den
      rw [← lcmL_take hkx] at hls
      obtain ⟨d', hd'⟩ : ∃ d', lcmL (xs.take (k + 1)) = d' := ⟨_, rfl⟩
      rw [hd'] at hls h2
      have HSt := hid hd'
      clear hd'
      generalize lcmL (xs.take k) = d at *
      generalize xs[k]!.num = p at *
      generalize xs[k]!.den = q at *
      have hgp := Nat.gcd_pos_of_pos_right d h4
      have hgl := Nat.gcd_le_right d h4
      have HDq := hid (fun W => refgcd_any d q W (by omega) (by omega))
      generalize Nat.gcd d q = g at *
      obtain ⟨e, he⟩ : ∃ e, d / g = e := ⟨_, rfl⟩
      rw [he] at hls
      have hel : e ≤ d := by rw [← he]; exact Nat.div_le_self _ _
      have e1 : Int.tdiv (d : Int) (g : Int) = (e : Int) := by rw [tdiv_nat, he]
      have e2 : IntKind.i64.wrap (e : Int) = (e : Int) := by rw [IntKind.wrap_i64]; omega
      have e3 : (e : Int) * (q : Int) = (d' : Int) := by rw [← Int.natCast_mul, hls]
      have e4 : IntKind.i64.wrap (d' : Int) = (d' : Int) := by rw [IntKind.wrap_i64]; omega
      have hgz : ¬ (g : Int) = 0 := by omega
      clear hls he
      have q1 := GrW.cell hc1
      have q0 := GrW.cell hc0
      go_upto_region 5 with fail
      refine wp_region_ord (C := fun w' => ∃ p : GrW wr, w' = p.W) [(0, false), (1, false), (2, false), (3, false), (4, false), (5, false), (6, false), (9, false), (10, false), (11, false), (12, false), (13, false), (7, true), (8, false), (14, false), (15, false)] (by rfl) (by kernel_rfl) (by kernel_rfl) ⟨⟨_, (Gr.refl wr).drew⟩, rfl⟩ ?_
      (repeat (first | ((refine ord_read0 rfl rfl rfl (fun K hK => ?_)); go_big_quiet_op; (with_reducible refine hK _ ?_); clear hK K) | ((refine ord_skipG rfl rfl rfl rfl rfl ?_); simp only [Act.put, List.setIfInBounds_toArray, List.set_cons_zero, List.set_cons_succ]) | ((refine ord_readG rfl rfl rfl rfl rfl rfl (fun K hK => ?_)); go_big_quiet_op; (with_reducible refine hK _ ?_); clear hK K) | ((refine ord_nilc rfl rfl rfl rfl ?_); simp only [Act.put, List.setIfInBounds_toArray, List.set_cons_zero, List.set_cons_succ])))
      (first | (refine ord_mem0 rfl rfl (fun K hK => ?_)) | (refine ord_memG rfl rfl rfl rfl rfl (fun K hK => ?_)))
      go_simp
      refine (HDq.out _).mono ?_
      rintro e' w4 ⟨rfl, h4⟩
      have G4 := hid (show Gr wr w4 from (Gr.refl wr).drew.trans h4)
      refine hK.out _ _ ⟨⟨w4, G4.out⟩, rfl⟩ ?_
      clear hK K h4
      (repeat (first | ((refine ord_read0 rfl rfl rfl (fun K hK => ?_)); go_big_quiet_op; (with_reducible refine hK _ ?_); clear hK K) | ((refine ord_skipG rfl rfl rfl rfl rfl ?_); simp only [Act.put, List.setIfInBounds_toArray, List.set_cons_zero, List.set_cons_succ]) | ((refine ord_readG rfl rfl rfl rfl rfl rfl (fun K hK => ?_)); go_big_quiet_op; (with_reducible refine hK _ ?_); clear hK K) | ((refine ord_nilc rfl rfl rfl rfl ?_); simp only [Act.put, List.setIfInBounds_toArray, List.set_cons_zero, List.set_cons_succ])))
      (with_reducible refine ord_nil ?_)
      go_wp2
      go_roundg (n - (k + 1))
      case measure => omega
      case rel => exact ⟨k + 1, by omega, by omega, by rw [HSt.out], by go_num, BW.trans G4.out⟩
    · have hkn : ¬ (k : Int) < (n : Int) := by omega
      have htk : xs.take k = xs := by rw [show k = xs.length by omega, List.take_length]
      rw [htk]
      have hd1 := lcmL_le hD hD0
      have hd0 := lcmL_pos xs
      have HN := hid (fun k (hk : k < xs.length) => numsR_get hk)
      have HNl := hid (fun (x : Int) (hx : x ∈ numsR xs) => show x.natAbs ≤ 1000000000000 by have := numsR_le hD hD0 hB x hx; have : D * 1000000 ≤ 1000000 * 1000000 := Nat.mul_le_mul_right _ hD1; omega)
      have hNz : (numsR xs).length = n := by rw [numsR_len, hl]
      have HW := hid (show (if 1 < gcdL (numsR xs) then (numsR xs).map (fun z => z.tdiv (gcdL (numsR xs) : Int)) else numsR xs) = wholeR xs from rfl)
      have HGl := hid (fun k => gcdL_le (B := 1000000000000) ((numsR xs).take k) (fun x hx => HNl.out x (List.mem_of_mem_take hx)))
      generalize lcmL xs = d at *
      obtain ⟨ws, hws⟩ : ∃ ws, wholeR xs = ws := ⟨_, rfl⟩
      rw [hws] at HW
      have HWX := hid hws
      clear hws
      generalize numsR xs = ns at *
      obtain ⟨i0, hi0, hz0, hs0, hy0⟩ := info_parts info_intW10
      have HI0 := hid hi0
      have HZ0 := hid hz0
      have HS0 := hid hs0
      have HY0 := hid hy0
      clear hi0 hz0 hs0 hy0 htk hgk
      go_wp2_with fail
      go_loopg [5, 6, 7] n (fun gg s5 s6 s7 wq => ∃ k : Nat, k ≤ n ∧ n - k ≤ gg ∧ s5 = .int .i64 (gcdL (ns.take k)) ∧ s7 = .int .i64 k ∧ Gr w wq ∧ Hid (wq.ownsRow w.heap.size 3 1 s6 k (intsC (ns.take k))))
      case atStart => exact ⟨0, Nat.zero_le _, by omega, rfl, rfl, BW, ⟨rfl, .inl ⟨rfl, rfl⟩⟩⟩
      case round =>
        obtain ⟨j, hj, hgj, rfl, rfl, BW2, HOw⟩ := hrel
        by_cases hjl : j < n
        · have hjn : (j : Int) < (n : Int) := by omega
          have hj0 : (0 : Int) ≤ (j : Int) := by omega
          obtain ⟨hjx, b, off, rfl, hb, hc0, hc1⟩ := Rd.fr (HX.out.gr BW2) hjl
          have hxm : xs[j]! ∈ xs := by rw [getElem!_pos xs j hjx]; exact List.getElem_mem hjx
          have h4 := den_pos xs[j]!
          have h5 := hB _ hxm
          have HSn := hid (intsC_take (l := ns) (k := j) (by omega))
          have HSg : Hid (gcdL (ns.take (j + 1)) = Nat.gcd (gcdL (ns.take j)) (ns[j]!).natAbs) := by
            show _ = _
            rw [List.take_succ_eq_append_getElem (show j < ns.length by omega), gcdL_snoc, ← getElem!_pos ns j (by omega)]
          have hgb := HGl.out j
          have hnj := HN.out j hjx
          rw [hnj] at HSn HSg
          clear hnj
          generalize gcdL (ns.take j) = g at *
          generalize intsC (ns.take j) = o at *
          generalize xs[j]!.num = p at *
          generalize xs[j]!.den = q at *
          obtain ⟨e, he⟩ : ∃ e, d / q = e := ⟨_, rfl⟩
          rw [he] at HSn HSg
          have hel : e ≤ d := by rw [← he]; exact Nat.div_le_self _ _
          have e1 : Int.tdiv (d : Int) (q : Int) = (e : Int) := by rw [tdiv_nat, he]
          have e2 : IntKind.i64.wrap (e : Int) = (e : Int) := by rw [IntKind.wrap_i64]; omega
          have hab : ((e : Int) * p).natAbs ≤ 1000000 * 1000000 := by rw [Int.natAbs_mul, Int.natAbs_natCast]; exact Nat.mul_le_mul (by omega) h5
          rw [Int.mul_comm] at hab HSn HSg
          obtain ⟨z, hz⟩ : ∃ z, p * (e : Int) = z := ⟨_, rfl⟩
          rw [hz] at hab HSn HSg
          have e4 : IntKind.i64.wrap z = z := by rw [IntKind.wrap_i64]; omega
          have hqz : ¬ (q : Int) = 0 := by omega
          have HAb := hid (fun W => refabs_any z W (by omega))
          have HGc := hid (fun W => refgcd_any g z.natAbs W (by omega) (by omega))
          clear he
          have q1 := GrW.cell hc1
          have q0 := GrW.cell hc0
          go_upto_region 11 with fail
          refine wp_region_ord (C := fun w' => ∃ p : GrW wr, w' = p.W) [(0, false), (1, false), (2, false), (3, false), (4, false), (5, false), (6, false), (7, false), (8, false), (9, false), (10, false), (11, false), (12, false), (13, false)] (by rfl) (by kernel_rfl) (by kernel_rfl) ⟨⟨_, (Gr.refl wr).drew⟩, rfl⟩ ?_
          (repeat (first | ((refine ord_read0 rfl rfl rfl (fun K hK => ?_)); go_big_quiet_op; (with_reducible refine hK _ ?_); clear hK K) | ((refine ord_skipG rfl rfl rfl rfl rfl ?_); simp only [Act.put, List.setIfInBounds_toArray, List.set_cons_zero, List.set_cons_succ]) | ((refine ord_readG rfl rfl rfl rfl rfl rfl (fun K hK => ?_)); go_big_quiet_op; (with_reducible refine hK _ ?_); clear hK K) | ((refine ord_nilc rfl rfl rfl rfl ?_); simp only [Act.put, List.setIfInBounds_toArray, List.set_cons_zero, List.set_cons_succ])))
          (with_reducible refine ord_nil ?_)
          have gd := (Gr.refl wr).drew
          generalize wr.drew = w2 at *
          have HO2 := hid (ownT_gf HOw.out gd)
          go_wp2_with (first
            | ((with_reducible show wpList _ _ _ (⟨some 53, _, _, _, _, _⟩ :: _) _ _); refine wpList_append_rd _ rfl (.tmp 50) (.tmp 52) 30 rfl w.heap.size 3 i0 (.int .i64 0) 1 8 Try.underlying30 HI0.out HZ0.out HS0.out HY0.out rfl (by decide) _ _ _ rfl (ownT_gf HO2.out ((Gr.refl w2).alloc _)) (some ⟨w2.heap.size, 0, none⟩) 1 1 [.int .i64 z] rfl (rd_row10 (heap_alloc_new w2 _) 1 1 rfl) (by intro u hu; simp at hu; subst hu; rfl) (by have : maxLen = 9223372036854775807 := rfl; omega) (by omega) (by have h1 := BW2.size; have h2 := gd.size; simp at h1 h2 ⊢; omega) ?_; intro A' c' w3 hown' hbel; have HW3 := hid (And.intro hown' hbel); clear hown' hbel)
            | (go_at_call 88; (with_reducible refine (HAb.out _).mono ?_); rotate_right; rintro e w4 ⟨rfl, hbw4⟩; obtain ⟨hcw4, hfw4, hzw4⟩ := hbw4.rules; (try simp at hzw4))
            | (go_at_call 87; (with_reducible refine (HGc.out _).mono ?_); rotate_right; rintro e w5 ⟨rfl, hbw5⟩; obtain ⟨hcw5, hfw5, hzw5⟩ := hbw5.rules; (try simp at hzw5)))
          go_roundg (n - (j + 1))
          case measure => omega
          case rel =>
            have gg : Gr w3 w5 := hbw4.trans hbw5
            refine ⟨j + 1, by omega, by omega, by rw [HSg.out], by go_num, ?_, by unfold Hid; rw [HSn.out]; exact ownT_gf HW3.out.1 gg⟩
            exact Gr.trans (show Gr w w3 from Below.trans ((BW2.trans gd).alloc _) HW3.out.2) gg
        · have hjn : ¬ (j : Int) < (n : Int) := by omega
          have htk2 : ns.take j = ns := by rw [show j = ns.length by omega, List.take_length]
          have hOw := HOw.out
          rw [htk2] at hOw ⊢
          have HGl2 := HGl.out ns.length
          rw [List.take_length] at HGl2
          obtain ⟨A', c', rfl⟩ := own_slice hOw
          have hjn2 : j = n := by omega
          subst hjn2
          have HOw2 := hid hOw
          have BWr := hid BW2
          clear hOw HOw htk2 BW BW2 HN
          have hw := HW.out
          have hwf : ¬ 1 < gcdL ns → ns = ws := by intro h; rw [if_neg h] at hw; exact hw
          have hwt : 1 < gcdL ns → divK ns (gcdL ns) j = ws := by
            intro h; rw [if_pos h] at hw; rw [← hw]; unfold divK; rw [show j = ns.length by omega, List.take_length, List.drop_length, List.append_nil]
          have HWf := hid hwf
          have HWt := hid hwt
          clear hw hwf hwt HW HGl
          generalize gcdL ns = g at *
          have hdz : divK ns (g : Int) 0 = ns := by simp [divK]
          have HDz := hid hdz
          clear hdz
          go_wp2_with fail
          go_loopg [9] j (fun gg s9 wq => ∃ k : Nat, k ≤ j ∧ j - k ≤ gg ∧ s9 = .int .i64 k ∧ (1 < g ∨ k = 0) ∧ Gr w wq ∧ Hid (wq.ownsRow w.heap.size 3 1 (.slice A' j c') j (intsC (divK ns g k))))
          case atStart => exact ⟨0, Nat.zero_le _, by omega, rfl, .inr rfl, BWr.out, by rw [HDz.out]; exact HOw2⟩
          case round =>
            obtain ⟨i, hi, hgi2, rfl, hgk, BW3, HO⟩ := hrel
            by_cases hg1 : 1 < g
            · have hgi : (1 : Int) < (g : Int) := by omega
              have hgz : ¬ (g : Int) = 0 := by omega
              by_cases hil : i < j
              · have hin : (i : Int) < (j : Int) := by omega
                have hi0 : (0 : Int) ≤ (i : Int) := by omega
                obtain ⟨b, cap, hv, hbb, hbl⟩ := HO.out.form (by omega)
                injection hv with hv1 _ hv2
                subst hv1 hv2
                have c0 := HO.out.cellAt i (by omega)
                rw [divK_cell (by omega)] at c0
                have f0 := HO.out.frozenAt i
                have HSt := hid (HO.out.stored i (.int .i64 (ns[i]!.tdiv g))).1
                rw [divK_cells (by omega)] at HSt
                have hzb : ns[i]!.natAbs ≤ 1000000000000 := HNl.out _ (by rw [getElem!_pos ns i (by omega)]; exact List.getElem_mem _)
                generalize ns[i]! = z at *
                obtain ⟨y, hy⟩ : ∃ y, Int.tdiv z (g : Int) = y := ⟨_, rfl⟩
                have hyl : y.natAbs ≤ z.natAbs := by rw [← hy, Int.natAbs_tdiv]; exact Nat.div_le_self _ _
                have hyw : IntKind.i64.wrap y = y := by rw [IntKind.wrap_i64]; omega
                rw [hy] at HSt
                go_wp2_with fail
                go_roundg (j - (i + 1))
                case measure => omega
                case rel => exact ⟨i + 1, by omega, by omega, by go_num, .inl hg1, Gr.setCell BW3 hbb _, HSt⟩
              · have hin : ¬ (i : Int) < (j : Int) := by omega
                have hij : i = j := by omega
                have hO := HO.out
                rw [hij, HWt.out hg1] at hO
                have HO4 := hid hO
                clear hO HO
                go_wp2
                go_ret
                exact ⟨A', c', rfl, by rw [HWX.out]; exact HO4.out, BW3⟩
            · have hgi : ¬ (1 : Int) < (g : Int) := by omega
              have hi0 : i = 0 := by omega
              subst hi0
              have hO := HO.out
              rw [HDz.out, HWf.out hg1] at hO
              have HO4 := hid hO
              clear hO HO
              by_cases hj0 : (0 : Int) < (j : Int)
              · go_wp2
                go_ret
                exact ⟨A', c', rfl, by rw [HWX.out]; exact HO4.out, BW3⟩
              · go_wp2
                go_ret
                exact ⟨A', c', rfl, by rw [HWX.out]; exact HO4.out, BW3⟩
end Go.Proofs.Ytimhkkijoelmhaa
