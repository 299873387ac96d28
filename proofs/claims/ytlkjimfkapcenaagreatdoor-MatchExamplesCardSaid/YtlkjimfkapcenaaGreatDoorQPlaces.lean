/- How places agree, in the package match. For all valid stays. -/
import Derived.Carry
import Derived.Deep.AppendLies
import Derived.Deep.RegionHeld3
import Derived.Test.YtlkjimfkapcenaaGreatDoorQWithin
import Derived.Test.YtlkjimfkapcenaaGreatDoorQTwin
import Derived.Test.YtlkjimfkapcenaaGreatDoorQRefPlaces
import Derived.Test.YtlkjimfkapcenaaGreatDoorQGrps
namespace Go.Proofs.YtlkjimfkapcenaaGreatDoor
open Go.RowKit Go.Maps

theorem keyed_int : Keyed Tryz.prog 3 := int_keyed Tryz.underlying3
theorem zero_stays (w : World) : (zeroValue 39).run Tryz.prog w = .ok (.slice none 0 0) w := by kernel_rfl
theorem key_int (x : Int) (h : -9223372036854775808 ≤ x ∧ x ≤ 9223372036854775807) : keyOf Tryz.prog 3 (Value.int .i64 x) = some (.int .i64 x) :=
  keyOf_int_mk Tryz.underlying3 (WalkArith.wf_i64 (by omega))
/-- The cells of the stays at a place. -/
def cellsAt (xs : List Sty) (q : Int) : List Value := (xs.filter fun o => decide (o.place = q)).flatMap Sty.cells
theorem cellsAt_next {xs : List Sty} {i : Nat} (hi : i < xs.length) (q : Int) : cellsAt (xs.take (i + 1)) q = if q = xs[i]!.place then cellsAt (xs.take i) xs[i]!.place ++ xs[i]!.cells else cellsAt (xs.take i) q := by
  unfold cellsAt
  rw [List.take_succ_eq_append_getElem hi, getElem!_pos xs i hi, List.filter_append, List.flatMap_append]
  by_cases h : q = xs[i].place
  · subst h; simp
  · have h' : ¬ xs[i].place = q := fun e => h e.symm
    simp [h, h']
theorem any_at (t : Int) (xs : List Sty) (s : Sty) : (xs.filter fun o => decide (o.place = s.place)).any (overB t s) = (xs.filter fun o => decide (o.place = s.place)).any fun o => overB t s o := rfl
theorem keep3 {W W' : World} {g : Nat} {u0 u1 u2 : Value} (h : W.cell? ⟨g, 0, none⟩ = some u0 ∧ W.cell? ⟨g, 1, none⟩ = some u1 ∧ W.cell? ⟨g, 2, none⟩ = some u2) (k : Gr W W') : W'.cell? ⟨g, 0, none⟩ = some u0 ∧ W'.cell? ⟨g, 1, none⟩ = some u1 ∧ W'.cell? ⟨g, 2, none⟩ = some u2 :=
  ⟨row_cell h.1 k, row_cell h.2.1 k, row_cell h.2.2 k⟩
theorem keep3g {W W' : World} {row : Option Nat} {g : Nat} {u0 u1 u2 : Value} (h : W.cell? ⟨g, 0, none⟩ = some u0 ∧ W.cell? ⟨g, 1, none⟩ = some u1 ∧ W.cell? ⟨g, 2, none⟩ = some u2) (k : W.grownBy W' row) (hne : some g ≠ row) : W'.cell? ⟨g, 0, none⟩ = some u0 ∧ W'.cell? ⟨g, 1, none⟩ = some u1 ∧ W'.cell? ⟨g, 2, none⟩ = some u2 :=
  have hl := block_lt_of_cell h.1
  ⟨(k.cell_far ⟨g, 0, none⟩ hl hne).trans h.1, (k.cell_far ⟨g, 1, none⟩ hl hne).trans h.2.1, (k.cell_far ⟨g, 2, none⟩ hl hne).trans h.2.2⟩
theorem own_far {w : World} {base : Nat} {e : TypeId} {size n : Nat} {v : Value} {xs : List Value} (h : w.ownsRow base e size v n xs) {g : Nat} (hg : w.heap.size ≤ g) : some g ≠ v.ownBlock := fun e => by
  have := (h.lt g e.symm).2
  omega
theorem grps_map {κ : Type} {P : Program} {k : TypeId} {enc : κ → Value} {w w1 : World} {base bm : Nat} {e : TypeId} {size : Nat} {F : κ → List Value} {S : κ → Value} {q : κ} {v : Value} (h : Grps P k enc w base bm e size F S) (hv : S q = v)
    (g : w.grownBy w1 v.ownBlock) : MapIs P k enc w1 bm (fun q => if F q = [] then none else some (S q)) := by
  subst hv
  refine h.1.keep (g.block bm h.lt (fun e => ?_))
  obtain ⟨n, hn⟩ := h.row q
  have := (hn.lt bm e.symm).1
  have := h.2.1
  omega
theorem filt_len (xs : List Sty) (p : Sty → Bool) : (xs.filter p).length ≤ xs.length := List.length_filter_le _ _

set_option maxRecDepth 100000 in
set_option maxHeartbeats 1000000 in
theorem places_any (r : Rul) (a b : Rcd) (A : Option Addr) (n c : Nat) (B : Option Addr) (m d : Nat) (A' : Option Addr) (n' c' : Nat) (B' : Option Addr) (m' d' : Nat) (w : World)
    (ha : Rd w 3 B m (a.stays.flatMap Sty.cells)) (hb : Rd w 3 B' m' (b.stays.flatMap Sty.cells)) (hm : m ≤ 1000) (hm' : m' ≤ 1000) (ht : 0 ≤ r.together ∧ r.together ≤ 1000000) (va : ∀ s ∈ a.stays, Rng s ∧ 0 ≤ s.place ∧ s.place ≤ 99999) (vb : ∀ s ∈ b.stays, Rng s ∧ 0 ≤ s.place ∧ s.place ≤ 99999) :
    Calls Tryz.prog 33 #[r.val, a.val A n c B m d, b.val A' n' c' B' m' d'] w fun e w' => e = .returned (.int .u8 (placesN r.together a.stays b.stays)) ∧ Gr w w' := by
  have hl := ha.len
  have hl' := hb.len
  rw [flatMap_len Sty.len] at hl hl'
  have HL := hid (show a.stays.length = m by omega)
  have HL' := hid (show b.stays.length = m' by omega)
  clear hl hl'
  have in1 : (m : Int) ≤ 1000 := by omega
  have in2 : (m' : Int) ≤ 1000 := by omega
  obtain ⟨l, dg, dy, t⟩ := r
  obtain ⟨id, names, suf, l1, h1, p, tw, xs⟩ := a
  obtain ⟨id', names', suf', l2, h2, q, tw', ys⟩ := b
  unfold Rcd.val Rul.val
  dsimp only at ht ha hb va vb HL HL' ⊢
  obtain ⟨t0, t1⟩ := ht
  obtain ⟨NV, hNV⟩ : ∃ z : Int, z = placesN t xs ys := ⟨_, rfl⟩
  rw [← hNV]
  have HNV := hid hNV
  clear hNV
  obtain ⟨i1, hi1, hz1, hs1, hy1⟩ := info_parts info_stay
  have HI1 := hid hi1
  have HZ1 := hid hz1
  have HS1 := hid hs1
  have HY1 := hid hy1
  clear hi1 hz1 hs1 hy1
  have hmm := @run_makeMap Tryz.prog
  go_enter Tryz.func33, Tryz.ntmps33
  go_wp2
  obtain ⟨E1, E2, E3⟩ := rows3 w (.cells #[.int .i64 l, .int .i64 dg, .int .i64 dy, .int .i64 t] 34) (.cells #[.int .i64 id, .slice A n c, .int .u8 suf, .int .i64 l1, .int .i64 h1, .string p, .bool tw, .slice B m d] 75) (.cells #[.int .i64 id', .slice A' n' c', .int .u8 suf', .int .i64 l2, .int .i64 h2, .string q, .bool tw', .slice B' m' d'] 75)
  have G3 : Gr w (((w.alloc (.cells #[.int .i64 l, .int .i64 dg, .int .i64 dy, .int .i64 t] 34)).alloc (.cells #[.int .i64 id, .slice A n c, .int .u8 suf, .int .i64 l1, .int .i64 h1, .string p, .bool tw, .slice B m d] 75)).alloc (.cells #[.int .i64 id', .slice A' n' c', .int .u8 suf', .int .i64 l2, .int .i64 h2, .string q, .bool tw', .slice B' m' d'] 75)) := (((Gr.refl w).alloc _).alloc _).alloc _
  have hz3 : (((w.alloc (.cells #[.int .i64 l, .int .i64 dg, .int .i64 dy, .int .i64 t] 34)).alloc (.cells #[.int .i64 id, .slice A n c, .int .u8 suf, .int .i64 l1, .int .i64 h1, .string p, .bool tw, .slice B m d] 75)).alloc (.cells #[.int .i64 id', .slice A' n' c', .int .u8 suf', .int .i64 l2, .int .i64 h2, .string q, .bool tw', .slice B' m' d'] 75)).heap.size = w.heap.size + 1 + 1 + 1 := by simp
  generalize ((w.alloc (.cells #[.int .i64 l, .int .i64 dg, .int .i64 dy, .int .i64 t] 34)).alloc (.cells #[.int .i64 id, .slice A n c, .int .u8 suf, .int .i64 l1, .int .i64 h1, .string p, .bool tw, .slice B m d] 75)).alloc (.cells #[.int .i64 id', .slice A' n' c', .int .u8 suf', .int .i64 l2, .int .i64 h2, .string q, .bool tw', .slice B' m' d'] 75) = W3 at E1 E2 E3 G3 hz3 ⊢
  have M0 : Grps Tryz.prog 3 (Value.int .i64) (W3.alloc (.map #[] 0)) (w.heap.size + 1 + 1 + 1 + 1) (w.heap.size + 1 + 1 + 1) 55 3 (fun q => cellsAt (xs.take 0) q) (fun _ => .slice none 0 0) := by
    have h := Grps.made (P := Tryz.prog) (k := 3) W3 (Value.int .i64) 55 3
    rw [hz3] at h
    exact h
  have HE1 := hid E1
  have HE2 := hid E2
  have HE3 := hid E3
  have HZ3 := hid hz3
  have HG3 := hid G3
  have HM0 := hid M0
  have ha3 := ha.gr G3
  have hb3 := hb.gr G3
  have hmz : w.heap.size + 1 + 1 + 1 + 1 ≤ (W3.alloc (.map #[] 0)).heap.size := by simp [hz3]
  have HMZ := hid hmz
  clear E1 E2 E3 hz3 G3 M0 ha hb hmz
  go_loopg [17] m (fun gg s17 wr => ∃ i : Nat, i ≤ m ∧ m - i ≤ gg ∧ s17 = .int .i64 i ∧ Gr W3 wr ∧ Hid (w.heap.size + 1 + 1 + 1 + 1 ≤ wr.heap.size) ∧ Hid (∃ S, Grps Tryz.prog 3 (Value.int .i64) wr (w.heap.size + 1 + 1 + 1 + 1) (w.heap.size + 1 + 1 + 1) 55 3 (cellsAt (xs.take i)) S))
  case atStart => exact ⟨0, Nat.zero_le _, by omega, rfl, (Gr.refl _).alloc _, HMZ, ⟨_, HM0.out⟩⟩
  case round =>
    clear HM0 HMZ
    obtain ⟨i, hi, hgi, rfl, BW, HZ, HM⟩ := hrel
    by_cases hli : i < m
    · have hli' : (i : Int) < m := by omega
      have i0 : (0 : Int) ≤ i := by omega
      obtain ⟨hxl, b0, o0, rfl, hb0, c0, c1, c2⟩ := (ha3.gr BW).sty hli
      obtain ⟨S, hG⟩ := HM.out
      have hN := HZ.out
      have rx := (va xs[i]! (mem_get hxl)).2
      have HNX := hid (cellsAt_next hxl)
      obtain ⟨Ar, nr, cr, hSv, hown⟩ := hG.slice xs[i]!.place
      have hnr : nr ≤ m := by
        have h1 := hown.1
        unfold cellsAt at h1
        rw [flatMap_len Sty.len] at h1
        have h2 := filt_len (xs.take i) (fun o => decide (o.place = xs[i]!.place))
        have h3 : (xs.take i).length ≤ i := List.length_take_le _ _
        omega
      generalize hx : xs[i]! = x at c0 c1 c2 rx HNX hSv hown
      obtain ⟨p1, f1, u1⟩ := x
      unfold Sty.cells at HNX
      dsimp only at c0 c1 c2 rx HNX hSv hown
      have hk1 := key_int p1 (by omega)
      have GA : ∀ o, Grps Tryz.prog 3 (Value.int .i64) (wr.alloc o) (w.heap.size + 1 + 1 + 1 + 1) (w.heap.size + 1 + 1 + 1) 55 3 (cellsAt (xs.take i)) S := fun o => hG.gr ((Gr.refl wr).alloc o)
      have hlk : ∀ o, (Instr.lookup 94 (.map (some (w.heap.size + 1 + 1 + 1))) (.int .i64 p1) false).run Tryz.prog (wr.alloc o).drew = .ok (.slice Ar nr cr) (wr.alloc o).drew := fun o => by
        rw [← hSv]
        exact ((GA o).gr ((Gr.refl _).drew)).look keyed_int (fun p q h => int_inj p q h) Tryz.underlying94 hk1 (zero_stays _)
      have hlk2 : ∀ o o2, (Instr.lookup 94 (.map (some (w.heap.size + 1 + 1 + 1))) (.int .i64 p1) false).run Tryz.prog ((wr.alloc o).alloc o2).drew = .ok (.slice Ar nr cr) ((wr.alloc o).alloc o2).drew := fun o o2 => by
        rw [← hSv]
        exact ((GA o).gr (((Gr.refl _).alloc _).drew)).look keyed_int (fun p q h => int_inj p q h) Tryz.underlying94 hk1 (zero_stays _)
      have HX := hid hx
      have HSV := hid hSv
      have HOWN := hid hown
      have HG := hid hG
      have HK := hid hk1
      have GA := hid GA
      clear hx hSv hown hG HM HZ hk1 hxl
      go_wp2
      have d0 : (wr.alloc (.cells #[.int .i64 p1, .int .i64 f1, .int .i64 u1] 55)).cell? ⟨wr.heap.size, 0, none⟩ = some (.int .i64 p1) := by simp
      have d1 : (wr.alloc (.cells #[.int .i64 p1, .int .i64 f1, .int .i64 u1] 55)).cell? ⟨wr.heap.size, 1, none⟩ = some (.int .i64 f1) := by simp
      have d2 : (wr.alloc (.cells #[.int .i64 p1, .int .i64 f1, .int .i64 u1] 55)).cell? ⟨wr.heap.size, 2, none⟩ = some (.int .i64 u1) := by simp
      go_region_held3 (fun W => W.cell? ⟨wr.heap.size, 0, none⟩ = some (.int .i64 p1) ∧ W.cell? ⟨wr.heap.size, 1, none⟩ = some (.int .i64 f1) ∧ W.cell? ⟨wr.heap.size, 2, none⟩ = some (.int .i64 u1))
        (first
          | exact ⟨d0, d1, d2⟩
          | exact keep3 ⟨d0, d1, d2⟩ (Gr.drew (Gr.alloc (Gr.refl _) _))
          | exact keep3 (by assumption) (Gr.alloc (Gr.refl _) _)
          | exact keep3 (by assumption) (Gr.alloc (Gr.drew (Gr.refl _)) _)
          | exact keep3g (by assumption) hgrow (own_far HOWN.out (Nat.le_refl _))
          | exact keep3g (by assumption) hg2 (fun e => by injection e with e; omega))
        (first
          | (refine step_append_lies _ (by rfl) (.tmp 27) (.tmp 29) 39 (by rfl) (w.heap.size + 1 + 1 + 1 + 1) 55 i1 _ 3 24 Tryz.underlying39 HI1.out HZ1.out HS1.out HY1.out rfl (by decide) (.slice Ar nr cr) nr _ (by rfl) (((HOWN.out.alloc _).alloc _).drew)
              ⟨wr.heap.size + 1, 0, none⟩ 1 1 [.int .i64 p1, .int .i64 f1, .int .i64 u1] (by rfl) (by rfl) (World.news_of_block (cs := #[.int .i64 p1, .int .i64 f1, .int .i64 u1]) (t := 55) (fr := (0, 0)) (heap_alloc2_new wr _ _)) (by simp [Value.oneCell'])
              (by omega) (by unfold maxLen; omega) (by omega) (by simp; omega) (wr.heap.size + 2) (by simp) ?_; intro gq cap w1 hown1 hgrow hat hlt; obtain ⟨w2, hrun, hM2, hg2, hs2⟩ := (grps_map ((GA.out _).gr ((Gr.alloc (Gr.refl _) _).drew)) HSV.out hgrow).put keyed_int (fun p q h => int_inj p q h) Tryz.underlying94 HK.out (.slice (some ⟨gq, 0, none⟩) (nr + 1) cap)))
      all_goals
        have g1 : ((wr.alloc (.cells #[.int .i64 p1, .int .i64 f1, .int .i64 u1] 55)).alloc (.cells #[.int .i64 p1, .int .i64 f1, .int .i64 u1] 55)).drew.grownBy w1 (S p1).ownBlock := by rw [HSV.out]; exact hgrow
        have gw1 : Gr W3 w1 := Gr.grown (Gr.drew (Gr.alloc (Gr.alloc BW _) _)) hgrow (fun k hk => by have := HOWN.out.lt k hk; have := HZ3.out; omega)
        have gw2 : Gr W3 w2 := Gr.grown gw1 hg2 (fun k hk => by injection hk with hk; have := HZ3.out; omega)
        have hz2 : w.heap.size + 1 + 1 + 1 + 1 ≤ w2.heap.size := by have h1 := hgrow.size; simp at h1; omega
        have hB := ((GA.out _).gr ((Gr.alloc (Gr.refl _) _).drew)).back g1 hown1 (by simp) (by
          rcases hat with h | h
          · exact .inl (by rw [HSV.out]; exact h.symm)
          · exact .inr ⟨gq, rfl, by simp; omega⟩) hM2 hg2
        rw [show (fun q => if q = p1 then cellsAt (List.take i xs) p1 ++ [Value.int .i64 p1, Value.int .i64 f1, Value.int .i64 u1] else cellsAt (List.take i xs) q) = cellsAt (List.take (i + 1) xs) from funext fun q => (HNX.out q).symm] at hB
        have HB := hid hB
        have HZ2 := hid hz2
        have HW2 := hid gw2
        clear hB hz2 gw2 gw1 g1 hM2 hg2 hs2 hown1 hgrow hat hlt hrun hlk hlk2 d0 d1 d2
        go_wp2
        go_roundg (m - (i + 1))
        case measure => omega
        case rel => exact ⟨i + 1, by omega, by omega, by go_num, HW2.out, HZ2, hid ⟨_, HB.out⟩⟩
    · obtain rfl : i = m := by omega
      rw [show xs.take i = xs from List.take_of_length_le (by have := HL.out; omega)] at HM
      obtain ⟨S, hG⟩ := HM.out
      have HG := hid hG
      have HBW := hid BW
      clear hG HM
      have c7 : wr.cell? ⟨w.heap.size + 1 + 1, 7, none⟩ = some (.slice B' m' d') := row_cell_at (row_gr HE3.out BW) 7 rfl
      go_wp2
      obtain ⟨wm, rfl⟩ : ∃ wm : World, wm = wr := ⟨_, rfl⟩
      go_loopg [36] m' (fun gg s36 wq => ∃ k : Nat, k ≤ m' ∧ m' - k ≤ gg ∧ s36 = .int .i64 k ∧ Gr wm wq ∧ Hid (∀ j, j < k → ((xs.filter fun o => decide (o.place = ys[j]!.place)).any (overB t ys[j]!)) = false))
      case atStart => exact ⟨0, Nat.zero_le _, by omega, rfl, Gr.refl _, hid fun j h => absurd h (Nat.not_lt_zero _)⟩
      case round =>
        clear BW c7
        obtain ⟨k, hk, hgk, rfl, BW, HJ⟩ := hrel
        by_cases hlk : k < m'
        · have hlk' : (k : Int) < m' := by omega
          have k0 : (0 : Int) ≤ k := by omega
          have GB := hid (HBW.out.trans BW)
          obtain ⟨hyl, b1, o1, rfl, hb1, c0, c1, c2⟩ := (hb3.gr GB.out).sty hlk
          have ry := vb ys[k]! (mem_get hyl)
          have hGk := HG.out.gr BW
          obtain ⟨Ar, nr, cr, hSv, hown⟩ := hGk.slice ys[k]!.place
          have hnl : (xs.filter fun o => decide (o.place = ys[k]!.place)).length = nr := by
            have h1 := hown.1
            unfold cellsAt at h1
            rw [flatMap_len Sty.len] at h1
            omega
          have hrd : Rd wr 3 Ar nr ((xs.filter fun o => decide (o.place = ys[k]!.place)).flatMap Sty.cells) := Rd.of_own hown
          have hfl := filt_len xs (fun o => decide (o.place = ys[k]!.place))
          have HF : Hid (∀ s ∈ (xs.filter fun o => decide (o.place = ys[k]!.place)), Rng s) := hid (fun s hs => (va s (List.mem_filter.1 hs).1).1)
          have HA : Hid (∀ j, j < k + 1 → (((xs.filter fun o => decide (o.place = ys[k]!.place)).any (overB t ys[k]!)) = false) → ((xs.filter fun o => decide (o.place = ys[j]!.place)).any (overB t ys[j]!)) = false) := hid (fun j h1 h2 => by
            by_cases e : j = k
            · subst e; exact h2
            · exact HJ.out j (by omega))
          have HT : Hid (((xs.filter fun o => decide (o.place = ys[k]!.place)).any (overB t ys[k]!)) = true → placesN t xs ys = 3) := hid (fun h => by
            unfold placesN
            rw [if_pos (by unfold placesB; exact any_true_of hyl h)])
          generalize hy : ys[k]! = y at c0 c1 c2 ry hSv hnl hrd hfl HF HA HT
          obtain ⟨p1, f1, u1⟩ := y
          dsimp only at c0 c1 c2 ry hSv hnl hrd hfl HF HA HT
          unfold Rng at ry
          dsimp only at ry
          obtain ⟨⟨y1, y2, y3, y4⟩, y5, y6⟩ := ry
          have hk1 := key_int p1 (by omega)
          have hlk : (Instr.lookup 94 (.map (some (w.heap.size + 1 + 1 + 1))) (.int .i64 p1) false).run Tryz.prog (wr.alloc (.cells #[.int .i64 p1, .int .i64 f1, .int .i64 u1] 55)) = .ok (.slice Ar nr cr) (wr.alloc (.cells #[.int .i64 p1, .int .i64 f1, .int .i64 u1] 55)) := by
            rw [← hSv]
            exact (hGk.gr ((Gr.refl wr).alloc _)).look keyed_int (fun p q h => int_inj p q h) Tryz.underlying94 hk1 (zero_stays _)
          have HC := hid (containsFunc_sty 48 #[.pointer (some ⟨wr.heap.size, 0, none⟩), .pointer (some ⟨w.heap.size, 0, none⟩)] (enters_of Tryz.func48 (by kernel_rfl) rfl) (overB t ⟨p1, f1, u1⟩) Ar nr cr (xs.filter fun o => decide (o.place = p1)) (wr.alloc (.cells #[.int .i64 p1, .int .i64 f1, .int .i64 u1] 55))
            (fun W x hx g => places1_any t ⟨p1, f1, u1⟩ x wr.heap.size w.heap.size W ⟨t0, t1⟩ ⟨y1, y2⟩ ⟨y3, y4⟩ ⟨(HF.out x hx).1, (HF.out x hx).2.1⟩ ⟨(HF.out x hx).2.2.1, (HF.out x hx).2.2.2⟩
              (row_cell (by simp) g) (row_cell (by simp) g) (row_cell_at (row_gr HE1.out (GB.out.trans (((Gr.refl wr).alloc _).trans g))) 3 rfl)) (hrd.gr ((Gr.refl wr).alloc _)) (by have := HL.out; omega))
          have HY := hid hy
          generalize ((xs.filter fun o => decide (o.place = p1)).any (overB t ⟨p1, f1, u1⟩)) = v at HC HA HT
          clear hy hSv hown hGk hk1 hnl hrd hfl
          cases v
          · have HA2 := hid (fun j h => HA.out j h rfl)
            clear HA HT
            go_wp2_with ((go_at_call 46; (with_reducible refine (HC.out).mono ?_); rotate_right; rintro e w1 ⟨rfl, hbw1⟩; obtain ⟨hcw1, hfw1, hzw1⟩ := hbw1.rules; (try simp at hzw1)))
            go_roundg (m' - (k + 1))
            case measure => omega
            case rel => exact ⟨k + 1, by omega, by omega, by go_num, BW.trans (((Gr.refl wr).alloc _).trans hbw1), HA2⟩
          · have HT2 := hid (HT.out rfl)
            clear HA HT
            go_wp2_with ((go_at_call 46; (with_reducible refine (HC.out).mono ?_); rotate_right; rintro e w1 ⟨rfl, hbw1⟩; obtain ⟨hcw1, hfw1, hzw1⟩ := hbw1.rules; (try simp at hzw1)))
            go_ret
            exact ⟨by rw [HNV.out, HT2.out]; rfl, HG3.out.trans (GB.out.trans (((Gr.refl wr).alloc _).trans hbw1))⟩
        · have hlk' : (m' : Int) ≤ k := by omega
          go_wp2
          go_ret
          refine ⟨?_, HG3.out.trans (HBW.out.trans BW)⟩
          rw [HNV.out, show placesN t xs ys = 1 by
            unfold placesN
            rw [if_neg]
            unfold placesB
            rw [any_false_of (fun j hj => HJ.out j (by have := HL'.out; omega))]
            exact Bool.false_ne_true]
          rfl
end Go.Proofs.YtlkjimfkapcenaaGreatDoor
