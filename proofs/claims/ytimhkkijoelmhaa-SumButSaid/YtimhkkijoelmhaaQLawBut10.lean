/- SumBut of the statements on sums: the walk: whatever the input, it answers true. -/
import Derived.Test.YtimhkkijoelmhaaQButPure10
import Derived.Test.YtimhkkijoelmhaaQAlive10
import Derived.Test.YtimhkkijoelmhaaQSameInts10
import Derived.Test.YtimhkkijoelmhaaQAsks10
import Derived.Test.YtimhkkijoelmhaaQCutFrom
import Derived.Test.YtimhkkijoelmhaaQOrd10
import Derived.Deep.DeepCutAuto
import Derived.Deep.CutRange
namespace Go.Proofs.Ytimhkkijoelmhaa
open Go.RowKit

theorem u16_at {w : World} {A : Option Addr} {n : Nat} {xs : List Int} (h : Rd w 1 A n (xs.map (Value.int .u16))) {j : Nat} (hj : j < n) : ∃ b off, A = some ⟨b, off, none⟩ ∧ b < w.heap.size ∧ w.cell? ⟨b, off + j, none⟩ = some (.int .u16 xs[j]!) := by
  have hl : xs.length = n := by have := h.len; simpa using this
  obtain ⟨b, off, hA, hb, hc⟩ := h.2 (by omega)
  refine ⟨b, off, hA, hb, hc j _ ?_⟩
  rw [List.getElem?_map, List.getElem?_eq_getElem (by omega), getElem!_pos xs j (by omega)]
  rfl

/-- append in a walk, with what it leaves alone and where it lies. -/
theorem wpList_append_rd_at {P : Program} {w : World} {ops : Array Oper} {rest : List Oper} {o : Oper} {a : Act} {Q : Exit → Act → World → Prop} (hgd : o.guard = none) (s x : Operand) (t : TypeId)
    (ho : o.op = .call { callee := .builtin .append, args := #[s, x], argTypes := #[t, t] })
    (base : Nat) (e : TypeId) (i : TypeInfo) (z : Value) (size bytes : Nat) (ht : P.underlying t = some (.slice e)) (hi : P.info? e = some i) (hz : i.zero = some z)
    (hsize : i.size = size) (hby : i.bytes = bytes) (hzs : z.cells.size = size) (hsz : 0 < size)
    (v : Value) (n : Nat) (xs : List Value) (hs : a.eval s = v) (hown : w.ownsRow base e size v n xs)
    (A : Option Addr) (m c : Nat) (news : List Value) (hx : a.eval x = .slice A m c) (hr : Rd w size A m news) (h1 : ∀ u ∈ news, u.oneCell' = true)
    (h63 : n + m ≤ maxLen) (hbytes : (n + m) * bytes ≤ 140737488355328) (hbase : base ≤ w.heap.size)
    (h : ∀ A' c' w', w'.ownsRow base e size (.slice A' (n + m) c') (n + m) (xs ++ news) → w.grownBy w' v.ownBlock → ((Value.slice A' (n + m) c').ownBlock = v.ownBlock ∨ (Value.slice A' (n + m) c').ownBlock = some w.heap.size) → Below base w w' → wpList P ops Q rest (a.put o.dst (.slice A' (n + m) c')) w') : wpList P ops Q (o :: rest) a w :=
  wpList_plain hgd fun _ hK => by
    obtain ⟨v', w', hrun, h2, h3, h4⟩ := run_append_rd (P := P) w base t o.type e i z size bytes ht hi hz hsize hby hzs hsz v n xs hown A m c news hr h1 h63 hbytes hbase
    obtain ⟨A', c', rfl⟩ := own_slice h2
    unfold Oper.wp execOp
    simp only [ho, resolve, invoke, builtin, Sem.run_bind, Sem.run_pure, Result.andThen_ok, List.map_toArray, List.map_cons, List.map_nil, hs, hx, hrun]
    refine hK _ _ (h A' c' w' h2 h3 h4 ((Below.refl _ _).grown h3 hbase (fun k hk => ?_)))
    rcases hown.2 with ⟨rfl, _⟩ | ⟨g, cap, cur, rfl, hbg, _⟩
    · simp [Value.ownBlock] at hk
    · simp [Value.ownBlock] at hk; omega

theorem set4_row {W : World} {g : Nat} {t : TypeId} {z0 z1 z2 z3 y0 y1 y2 y3 : Value} (h : W.heap[g]? = some (.cells #[z0, z1, z2, z3] t (0, 0))) :
    ((((W.setCell ⟨g, 0, none⟩ y0).setCell ⟨g, 1, none⟩ y1).setCell ⟨g, 2, none⟩ y2).setCell ⟨g, 3, none⟩ y3).heap[g]? = some (.cells #[y0, y1, y2, y3] t (0, 0)) := by
  have a0 : (W.setCell ⟨g, 0, none⟩ y0).heap[g]? = some (.cells #[y0, z1, z2, z3] t (0, 0)) := (heap_setCell_same W g 0 _ t y0 h).trans (by simp)
  have a1 : ((W.setCell ⟨g, 0, none⟩ y0).setCell ⟨g, 1, none⟩ y1).heap[g]? = some (.cells #[y0, y1, z2, z3] t (0, 0)) := (heap_setCell_same (W.setCell ⟨g, 0, none⟩ y0) g 1 _ t y1 a0).trans (by simp)
  have a2 : (((W.setCell ⟨g, 0, none⟩ y0).setCell ⟨g, 1, none⟩ y1).setCell ⟨g, 2, none⟩ y2).heap[g]? = some (.cells #[y0, y1, y2, z3] t (0, 0)) := (heap_setCell_same ((W.setCell ⟨g, 0, none⟩ y0).setCell ⟨g, 1, none⟩ y1) g 2 _ t y2 a1).trans (by simp)
  exact (heap_setCell_same (((W.setCell ⟨g, 0, none⟩ y0).setCell ⟨g, 1, none⟩ y1).setCell ⟨g, 2, none⟩ y2) g 3 _ t y3 a2).trans (by simp)
theorem frozen4 {W : World} {g : Nat} {t : TypeId} {cs : Array Value} (h : W.heap[g]? = some (.cells cs t (0, 0))) : W.frozen? ⟨g, 0, none⟩ = false ∧ W.frozen? ⟨g, 1, none⟩ = false ∧ W.frozen? ⟨g, 2, none⟩ = false ∧ W.frozen? ⟨g, 3, none⟩ = false := by
  simp [World.frozen?, h]
theorem set4_other {W : World} {g b : Nat} {o : Obj} {y0 y1 y2 y3 : Value} (h : W.heap[b]? = some o) (hne : b ≠ g) :
    ((((W.setCell ⟨g, 0, none⟩ y0).setCell ⟨g, 1, none⟩ y1).setCell ⟨g, 2, none⟩ y2).setCell ⟨g, 3, none⟩ y3).heap[b]? = some o := by
  rw [heap_setCell_other _ _ _ _ (by show b ≠ g; exact hne), heap_setCell_other _ _ _ _ (by show b ≠ g; exact hne), heap_setCell_other _ _ _ _ (by show b ≠ g; exact hne), heap_setCell_other _ _ _ _ (by show b ≠ g; exact hne)]
  exact h
theorem set4_gr {w W : World} {g : Nat} (h : Gr w W) (hg : w.heap.size ≤ g) (y0 y1 y2 y3 : Value) : Gr w ((((W.setCell ⟨g, 0, none⟩ y0).setCell ⟨g, 1, none⟩ y1).setCell ⟨g, 2, none⟩ y2).setCell ⟨g, 3, none⟩ y3) :=
  (((h.setCell hg _).setCell hg _).setCell hg _).setCell hg _

set_option maxRecDepth 100000 in
set_option maxHeartbeats 4000000 in
theorem sumBut_any (A : Option Addr) (n c : Nat) (xs : List Int) (x clip : Int) (w : World) (hr : Rd w 1 A n (xs.map (Value.int .u16))) (hxs : ∀ i, i < n → 0 ≤ xs[i]! ∧ xs[i]! ≤ 65535) (hn63 : n ≤ 9223372036854775807) (hx : 0 ≤ x ∧ x ≤ 255) (hcl : 0 ≤ clip ∧ clip ≤ 65535) :
    Calls Try.prog 12 #[.slice A n c, .int .u8 x, .int .u16 clip] w fun e w' => e = .returned (.bool true) ∧ Gr w w' := by
  have HR := hid hr
  have HAl := hid (fun W => alive10_any W)
  have HX0 := hid (heap_alloc_new w (.cells #[.int .u16 clip] 70))
  have G0 := hid (show Gr w (w.alloc (.cells #[.int .u16 clip] 70)) from (Gr.refl w).alloc _)
  obtain ⟨hx0, hx1⟩ := hx
  by_cases h0 : n = 0
  · subst h0
    go_enter Try.func12, Try.ntmps12
    go_wp2_with (go_at_call 31; (with_reducible refine (HAl.out _).mono ?_); rintro e w1 ⟨rfl, hb1⟩)
    go_ret
    exact ⟨rfl, G0.out.trans hb1⟩
  by_cases h16 : 16 < n
  · have hb0 : ((n : Int) == 0) = false := by simp; omega
    have hb1 : (16 : Int) < (n : Int) := by omega
    go_enter Try.func12, Try.ntmps12
    go_wp2_with (go_at_call 31; (with_reducible refine (HAl.out _).mono ?_); rintro e w1 ⟨rfl, hb1⟩)
    go_ret
    exact ⟨rfl, G0.out.trans hb1⟩
  have hb0 : ((n : Int) == 0) = false := by simp; omega
  have hb1' : ¬ (16 : Int) < (n : Int) := by omega
  have hn0 : 0 < n := by omega
  have hnz : ¬ (n : Int) = 0 := by omega
  obtain ⟨k, hk⟩ : ∃ k : Nat, x.toNat % n = k := ⟨_, rfl⟩
  have hkn : k < n := by rw [← hk]; exact Nat.mod_lt _ hn0
  have hw8 : IntKind.i64.wrap x = x := by rw [IntKind.wrap_i64]; omega
  have hk1 : Int.tmod x (n : Int) = (k : Int) := by
    rw [Int.tmod_eq_emod_of_nonneg hx0, ← hk, Int.natCast_emod]
    congr 1
    omega
  have hk2 : x % (n : Int) = (k : Int) := by rw [← Int.tmod_eq_emod_of_nonneg hx0]; exact hk1
  have hk3 : IntKind.i64.wrap (k : Int) = (k : Int) := by rw [IntKind.wrap_i64]; omega
  obtain ⟨i0, hi0', hz0, hs0, hy0⟩ := info_parts info_sbj
  have HI0 := hid hi0'
  have HZ0 := hid hz0
  have HS0 := hid hs0
  have HY0 := hid hy0
  clear hi0' hz0 hs0 hy0
  obtain ⟨v, hv⟩ : ∃ v : Nat → Int, (fun i => xs[i]!) = v := ⟨_, rfl⟩
  have hvv : ∀ i, xs[i]! = v i := fun i => congrFun hv i
  have HV := hid (show ∀ i, i < n → 0 ≤ v i ∧ v i ≤ 65535 from fun i hi => by rw [← hvv i]; exact hxs i hi)
  have HRv := hid (fun W (g : Gr w W) j (hj : j < n) => (by have h := u16_at (hr.gr g) hj; rw [hvv j] at h; exact h : ∃ b off, A = some ⟨b, off, none⟩ ∧ b < W.heap.size ∧ W.cell? ⟨b, off + j, none⟩ = some (.int .u16 (v j))))
  clear hr HR hxs hv hvv hk
  go_enter Try.func12, Try.ntmps12
  go_upto_region 8 with (go_at_call 31; (with_reducible refine (HAl.out _).mono ?_); rintro e w1 ⟨rfl, hb1⟩)
  have G1 := hid (G0.out.trans hb1)
  have HX1 := hid (row_gr HX0.out hb1)
  clear hb1 HX0 HAl
  go_wp2_with fail
  go_loopg [9, 43] n (fun gg s9 s43 wr => ∃ (t : Nat) (v9 : Value) (zs : List Sbj), t ≤ n ∧ n - t ≤ gg ∧ s9 = v9 ∧ s43 = .int .i64 t ∧ Gr w1 wr ∧ Hid (ButL wr w1.heap.size v t v9 zs))
  case atStart => exact ⟨0, _, [], Nat.zero_le _, by omega, rfl, rfl, Gr.refl w1, ButL.start _ _ _⟩
  case round =>
    obtain ⟨t, v9, zs, ht, hgt, rfl, rfl, BW, HB⟩ := hrel
    obtain ⟨OA, oc, hov⟩ := own_slice HB.out.own
    subst hov
    by_cases htn : t < n
    · have htn2 : (t : Int) < (n : Int) := by omega
      have htz : (0 : Int) ≤ (t : Int) := by omega
      obtain ⟨b, off, hA, hbl, c0⟩ := HRv.out wr (G1.out.trans BW) t htn
      subst hA
      obtain ⟨hv0, hv1⟩ := HV.out t htn
      have hwv : IntKind.i64.wrap (v t) = v t := by rw [IntKind.wrap_i64]; omega
      have hw7 : IntKind.i64.wrap (7 * (t : Int)) = 7 * (t : Int) := by rw [IntKind.wrap_i64]; omega
      have GA := hid (show Gr wr ((wr.alloc (.cells #[.int .i64 t, .int .i64 (v t)] 3)).alloc (.cells #[.int .i64 (7 * (t : Int)), .slice (some ⟨wr.heap.size, 0, none⟩) 2 2] 60)) from ((Gr.refl wr).alloc _).alloc _)
      have HT := hid (rows2 wr (.cells #[.int .i64 t, .int .i64 (v t)] 3) (.cells #[.int .i64 (7 * (t : Int)), .slice (some ⟨wr.heap.size, 0, none⟩) 2 2] 60))
      have HNe := hid (show (Value.slice OA t oc).ownBlock ≠ some wr.heap.size from fun e => by have := (HB.out.own.lt _ e).2; omega)
      go_wp2_with (((with_reducible show wpList _ _ _ (⟨some 57, _, _, _, _, _⟩ :: _) _ _); refine wpList_append_rd_at rfl (.tmp 48) (.tmp 56) 22 rfl w1.heap.size 60 i0 (.agg #[.int .i64 0, .slice none 0 0]) 2 32 Try.underlying22 HI0.out HZ0.out HS0.out HY0.out rfl (by decide) _ _ _ rfl (ownT_gf HB.out.own GA.out) (some ⟨wr.heap.size + 1, 0, none⟩) 1 1 [.int .i64 (7 * (t : Int)), .slice (some ⟨wr.heap.size, 0, none⟩) 2 2] rfl (rd_row10 HT.out.2 2 1 rfl) (by intro u hu; simp at hu; rcases hu with rfl | rfl <;> rfl) (by have : maxLen = 9223372036854775807 := rfl; omega) (by omega) (by have h1 := BW.size; have h2 := GA.out.size; omega) ?_; intro A' c' w9 hown' hgrow hat hbel; have HB9 := hid ((HB.out.gr GA.out).push HT.out.1 HNe.out hown' hgrow hat); have HG9 := hid (show Gr w1 w9 from Below.trans (show Below w1.heap.size w1 _ from BW.trans GA.out) hbel); clear hown' hgrow hat hbel))
      go_roundg (n - (t + 1))
      case measure => omega
      case rel => exact ⟨t + 1, _, _, by omega, by omega, rfl, by go_num, HG9.out, HB9.out⟩
    · obtain rfl : t = n := by omega
      obtain ⟨_, hS⟩ := HB.out.inn (by omega)
      have HS := hid hS
      have HBr := hid HB.out.bare
      have HAsk := hid (fun lo hi W (g : Gr w1 W) => butAsk_any clip lo hi w.heap.size W (row_cell (row_cell_at (v := .int .u16 clip) HX1.out 0 rfl) g) hcl)
      have hwl : w.heap.size < w1.heap.size := (Array.getElem?_eq_some_iff.1 HX1.out).1
      have htn2 : ¬ (t : Int) < (t : Int) := by omega
      have hwk1 : IntKind.i64.wrap ((k : Int) + 1) = (k : Int) + 1 := by rw [IntKind.wrap_i64]; omega
      go_upto_region 15 with (first
        | (go_at_call 41; (with_reducible refine (HAsk.out 0 t _ BW).mono ?_); rintro e w3 ⟨b3, rfl, hb3, hl3, hq3⟩; have G3 := hid (BW.trans hb3); have GB3 := hid hb3; have HQ3 := hid (butG_in (c := 1 + clip) hq3))
        | (go_at_call 41; (with_reducible refine (HAsk.out ((k : Int) + 1) 1000000 _ G3.out).mono ?_); rintro e w4 ⟨b4, rfl, hb4, hl4, hq4⟩; have G4 := hid (G3.out.trans hb4); have GB4 := hid hb4; have HQ4 := hid (butG_in (c := 1 + clip) hq4)))
      clear HI0 HZ0 HS0 HY0 HRv hq3 hq4 hl3 hl4
      have hr5 := rows2 w4 (.cells #[.slice (some ⟨b3, 0, none⟩) 1 1, .int .i64 1, .int .i64 (1 + clip), .int .i64 1] 25) (.cells #[.slice (some ⟨b4, 0, none⟩) 1 1, .int .i64 1, .int .i64 (1 + clip), .int .i64 1] 25)
      have hg5 : Gr w4 ((w4.alloc (.cells #[.slice (some ⟨b3, 0, none⟩) 1 1, .int .i64 1, .int .i64 (1 + clip), .int .i64 1] 25)).alloc (.cells #[.slice (some ⟨b4, 0, none⟩) 1 1, .int .i64 1, .int .i64 (1 + clip), .int .i64 1] 25)) := ((Gr.refl w4).alloc _).alloc _
      generalize (w4.alloc (.cells #[.slice (some ⟨b3, 0, none⟩) 1 1, .int .i64 1, .int .i64 (1 + clip), .int .i64 1] 25)).alloc (.cells #[.slice (some ⟨b4, 0, none⟩) 1 1, .int .i64 1, .int .i64 (1 + clip), .int .i64 1] 25) = w5 at hr5 hg5 ⊢
      have HR5 := hid hr5
      have G5 := hid (G4.out.trans hg5)
      have HW5 := hid hg5
      clear hr5 hg5
      go_upto_if 71 with (go_at_call 41; (with_reducible refine (HAsk.out 1 0 _ G5.out).mono ?_); rintro e w6 ⟨b6, rfl, hb6, hl6, hq6⟩; have G6 := hid hb6; have HQ6 := hid (butG_in (c := 1 + clip) hq6); clear hb6 hq6 hl6)
      have hr7 := heap_alloc_new w6 (.cells #[.slice (some ⟨b6, 0, none⟩) 1 1, .int .i64 1, .int .i64 (1 + clip), .int .i64 1] 25)
      have hg7 : Gr w6 (w6.alloc (.cells #[.slice (some ⟨b6, 0, none⟩) 1 1, .int .i64 1, .int .i64 (1 + clip), .int .i64 1] 25)) := (Gr.refl w6).alloc _
      generalize w6.alloc (.cells #[.slice (some ⟨b6, 0, none⟩) 1 1, .int .i64 1, .int .i64 (1 + clip), .int .i64 1] 25) = w7 at hr7 hg7 ⊢
      have HR7 := hid hr7
      have HG7 := hid hg7
      have G7 := hid (G6.out.trans hg7)
      clear hr7 hg7
      go_cut [71] (fun s71 wx => ∃ bF lo hi, Hid (butQ (1 + clip) lo hi = butF (1 + clip) k) ∧ Gr w6 wx ∧ Hid (wx.heap[w6.heap.size]? = some (.cells #[.slice (some ⟨bF, 0, none⟩) 1 1, .int .i64 1, .int .i64 (1 + clip), .int .i64 1] 25 (0, 0))) ∧ QstIn wx (butG bF (1 + clip) lo hi))
      case first =>
        by_cases hk0 : 0 < k
        · have HK0 := hid (show ¬ k = 0 by omega)
          have hwk2 : IntKind.i64.wrap ((k : Int) - 1) = (k : Int) - 1 := by rw [IntKind.wrap_i64]; omega
          go_wp2_with (go_at_call 41; (with_reducible refine (HAsk.out 0 ((k : Int) - 1) _ (G5.out.trans G7.out)).mono ?_); rintro e w8 ⟨b8, rfl, hb8, hl8, hq8⟩; have G8 := hid hb8; have HQ8 := hid hq8; have HL8 := hid (show w6.heap.size < b8 by have := (Array.getElem?_eq_some_iff.1 HR7.out).1; omega); have HR8 := hid (row_gr HR7.out hb8); obtain ⟨d0, d1, d2, d3⟩ := cellsat4 (row_gr HR7.out hb8); obtain ⟨f0, f1, f2, f3⟩ := frozen4 (row_gr HR7.out hb8); clear hb8 hq8 hl8)
          go_meet
          exact ⟨b8, 0, (k : Int) - 1, by unfold butF; rw [if_neg HK0.out]; exact hid rfl, set4_gr (HG7.out.trans G8.out) (Nat.le_refl _) _ _ _ _, set4_row HR8.out, butG_in (set4_other HQ8.out (by have := HL8.out; omega))⟩
        · go_wp2_with fail
          go_meet
          exact ⟨b6, 1, 0, by unfold butF; rw [if_pos (by omega)]; exact hid rfl, HG7.out, HR7, HQ6.out.gr HG7.out⟩
      case rest =>
        obtain ⟨bF, lo, hi, HF, GX, HRF, hqF⟩ := hcut
        have HQF := hid hqF
        clear hqF
        go_upto_region 18 with fail
        obtain ⟨a0, a1, a2, a3⟩ := cellsat4 (row_gr HR5.out.1 (G6.out.trans GX))
        obtain ⟨e0, e1, e2, e3⟩ := cellsat4 (row_gr HR5.out.2 (G6.out.trans GX))
        obtain ⟨d0, d1, d2, d3⟩ := cellsat4 HRF.out
        have hba := block_lt_of_cell a0
        have hbe := block_lt_of_cell e0
        have hbd := block_lt_of_cell d0
        go_upto_region 19 with fail
        have hr9 := heap_alloc_new wc (.cells #[.slice (some ⟨b3, 0, none⟩) 1 1, .int .i64 1, .int .i64 (1 + clip), .int .i64 1, .slice (some ⟨bF, 0, none⟩) 1 1, .int .i64 1, .int .i64 (1 + clip), .int .i64 1, .slice (some ⟨b4, 0, none⟩) 1 1, .int .i64 1, .int .i64 (1 + clip), .int .i64 1] 25)
        have hg9 : Gr wc (wc.alloc (.cells #[.slice (some ⟨b3, 0, none⟩) 1 1, .int .i64 1, .int .i64 (1 + clip), .int .i64 1, .slice (some ⟨bF, 0, none⟩) 1 1, .int .i64 1, .int .i64 (1 + clip), .int .i64 1, .slice (some ⟨b4, 0, none⟩) 1 1, .int .i64 1, .int .i64 (1 + clip), .int .i64 1] 25)) := (Gr.refl wc).alloc _
        generalize wc.alloc (.cells #[.slice (some ⟨b3, 0, none⟩) 1 1, .int .i64 1, .int .i64 (1 + clip), .int .i64 1, .slice (some ⟨bF, 0, none⟩) 1 1, .int .i64 1, .int .i64 (1 + clip), .int .i64 1, .slice (some ⟨b4, 0, none⟩) 1 1, .int .i64 1, .int .i64 (1 + clip), .int .i64 1] 25) = w9 at hr9 hg9 ⊢
        have HR9 := hid hr9
        have HE9 := hid (row_gr (row_gr HR5.out.2 (G6.out.trans GX)) hg9)
        have G9w := hid (G1.out.trans (G5.out.trans ((G6.out.trans GX).trans hg9)))
        have HS9 := hid (HS.out.gr (((((GB3.out.trans GB4.out).trans HW5.out).trans G6.out).trans GX).trans hg9))
        have HA9 := hid (HQ3.out.gr (((GB4.out.trans HW5.out).trans (G6.out.trans GX)).trans hg9))
        have HB9 := hid (HQ4.out.gr ((HW5.out.trans (G6.out.trans GX)).trans hg9))
        have HF9 := hid (HQF.out.gr hg9)
        have hsz9 := hg9.size
        clear hr9 hg9 HRF HS HQ3 HQ4 HQF HQ6 HR5 HR7 HG7 G7 G6 GX HW5 GB3 GB4 a0 a1 a2 a3 d0 d1 d2 d3 e0 e1 e2 e3 HAsk
        have HL9 := hid (show QstsIn w9 (some ⟨wc.heap.size, 0, none⟩) 3 [butG b3 (1 + clip) 0 t, butG bF (1 + clip) lo hi, butG b4 (1 + clip) ((k : Int) + 1) 1000000] from
          ⟨rd_row10 HR9.out 4 3 rfl, by omega, fun q hq => by
            simp only [List.mem_cons, List.not_mem_nil, or_false] at hq
            rcases hq with rfl | rfl | rfl
            · exact HA9.out
            · exact HF9.out
            · exact HB9.out⟩)
        have hkt : k < t := hkn
        have hC : 1 ≤ 1 + clip ∧ 1 + clip ≤ 65536 := by omega
        have hbz : zs.map Sbj.bare = (butT v t).map Sbj.bare := by
          rw [HBr.out]
          unfold butT
          rw [List.map_map]
          rfl
        have hq3 : [butG b3 (1 + clip) 0 t, butG bF (1 + clip) lo hi, butG b4 (1 + clip) ((k : Int) + 1) 1000000].map Qst.bare = (but3 (1 + clip) t k).map Qst.bare := by
          unfold but3
          rw [← HF.out]
          rfl
        have hq2 : [butG bF (1 + clip) lo hi, butG b4 (1 + clip) ((k : Int) + 1) 1000000].map Qst.bare = [butF (1 + clip) k, butQ (1 + clip) ((k : Int) + 1) 1000000].map Qst.bare := by
          rw [← HF.out]
          rfl
        have hq1 : [butG b4 (1 + clip) ((k : Int) + 1) 1000000].map Qst.bare = [butQ (1 + clip) ((k : Int) + 1) 1000000].map Qst.bare := rfl
        obtain ⟨P1, hP1⟩ : ∃ P1 : Int, (if k = 0 then 0 else -1) = P1 := ⟨_, rfl⟩
        obtain ⟨P2, hP2⟩ : ∃ P2 : Int, (if k + 1 = t then 0 else -1) = P2 := ⟨_, rfl⟩
        obtain ⟨D, hD⟩ : ∃ D : List Int, (if k + 2 = t then [7 * ((k : Int) + 1)] else []) = D := ⟨_, rfl⟩
        have HH := hid (fun W (g : Gr w9 W) => show Calls Try.prog 27 #[.int .i64 2, .slice OA t oc, .slice (some ⟨wc.heap.size, 0, none⟩) 3 3, .int .i64 (7 * (k : Int))] W (HowRet ([1, P1, P2], 1, 0) W) from by
          have h := how_any 2 OA t oc zs _ 3 3 _ (7 * (k : Int)) W (HS9.out.gr g) (HL9.out.gr g) (by omega)
          rw [like_how hbz hq3, but_how (by omega) hkt HV.out hC, hP1, hP2] at h
          exact h)
        obtain ⟨M, hM⟩ : ∃ M, (hideT 2 (butT v t) [butF (1 + clip) k, butQ (1 + clip) ((k : Int) + 1) 1000000] (7 * (k : Int))).1 = M := ⟨_, rfl⟩
        have HHd := hid (fun (A' : Option Addr) W (g : Gr w9 W) (hr : Rd w9 4 A' 2 ([butG bF (1 + clip) lo hi, butG b4 (1 + clip) ((k : Int) + 1) 1000000].flatMap Qst.cells)) => show Calls Try.prog 29 #[.int .i64 2, .slice OA t oc, .slice A' 2 2, .int .i64 (7 * (k : Int))] W (MeetsRet M 0 W) from by
          have h := hide_any 2 OA t oc zs A' 2 2 [butG bF (1 + clip) lo hi, butG b4 (1 + clip) ((k : Int) + 1) 1000000] (7 * (k : Int)) W (HS9.out.gr g) ⟨hr.gr g, by omega, fun q hq => by
            simp only [List.mem_cons, List.not_mem_nil, or_false] at hq
            rcases hq with rfl | rfl
            · exact HF9.out.gr g
            · exact HB9.out.gr g⟩ (by omega)
          rw [like_hide hbz hq2, hM, but_hide (by omega) hkt HV.out hC] at h
          exact h)
        have HDe := hid (fun (X : Nat) W (g : Gr w9 W) (hb : W.heap[X]? = some (.cells #[.slice (some ⟨b4, 0, none⟩) 1 1, .int .i64 1, .int .i64 (1 + clip), .int .i64 1] 25 (0, 0))) => show Calls Try.prog 25 #[.int .i64 2, .slice OA t oc, .slice (some ⟨X, 0, none⟩) 1 1] W (MeetsRet D 0 W) from by
          have h := deduced_any 2 OA t oc zs _ 1 1 _ W (HS9.out.gr g) (qsts_one (q := butG b4 (1 + clip) ((k : Int) + 1) 1000000) HB9.out g hb)
          obtain ⟨h1, h2⟩ := but_ded (by omega) hkt HV.out hC
          rw [like_deduced hbz hq1, like_audit hbz hq1, h1, h2, hD] at h
          exact h)
        unfold HowRet at HH
        unfold MeetsRet at HHd HDe
        clear hbz hq3 hq2 hq1 hM hC
        have hw7 : IntKind.i64.wrap (7 * (k : Int)) = 7 * (k : Int) := by rw [IntKind.wrap_i64]; omega
        obtain ⟨j0, hj0', hz0, hs0, hy0⟩ := info_parts info_qst10
        have HJ0 := hid hj0'
        have HZ0 := hid hs0
        clear hj0' hz0 hs0 hy0
        go_upto_region 22 with (first
          | (go_at_call 27; (with_reducible refine (HH.out _ (Gr.refl w9)).mono ?_); rintro e wh ⟨A6, n6, c6, rfl, hb, hr6, b6'⟩; have GH := hid hb; have R6 := hid hr6; clear hr6 hb)
          | ((with_reducible show wpList _ _ _ (⟨some 92, _, _, _, _, _⟩ :: _) _ _); refine wpList_slice_from rfl (.tmp 91) (.const (.int .i64 1)) 27 rfl 25 j0 4 Try.underlying27 HJ0.out HZ0.out (some ⟨wc.heap.size, 0, none⟩) 3 3 1 _ _ rfl rfl rfl (by omega) (by omega) ?_; intro KA hKA; have HKA := hid (hKA _ _ HL9.out.rd); clear hKA)
          | (go_at_call 29; (with_reducible refine (HHd.out _ _ GH.out HKA.out).mono ?_); rintro e wi ⟨A7, n7, c7, rfl, hb, hr7, b7'⟩; have GI := hid (GH.out.trans hb); clear hr7 b7'; have GHi := hid hb; obtain ⟨e0, e1, e2, e3⟩ := cellsat4 (row_gr HE9.out GI.out); clear hb)
          | (go_at_call 25; (with_reducible refine (HDe.out _ _ (GI.out.alloc _) (heap_alloc_new wi _)).mono ?_); rintro e wz ⟨A8, n8, c8, rfl, hb, hr8, b8'⟩; have GZ := hid ((GI.out.alloc _).trans hb); have R8 := hid hr8; have R6z := hid (R6.out.gr (GHi.out.trans (((Gr.refl wi).alloc _).trans hb))); clear hb hr8))
        clear HH HHd HDe HL9 HA9 HB9 HF9 HS9 HR9 HE9 HKA GHi GI GH R6 e0 e1 e2 e3 b6' hsz9 HJ0 HZ0 HBr HB HV HF
        have GF := hid (G9w.out.trans GZ.out)
        clear GZ G9w G5 G4 G3 BW G1 G0
        unfold intsC at R6z
        have hl6 := R6z.out.len
        obtain rfl : 3 = n6 := by simpa using hl6
        obtain ⟨y, oy, hA6, hby, hcy⟩ := R6z.out.2 (by omega)
        subst hA6
        have y0 := hcy 0 (.int .i64 1) rfl
        have y1 := hcy 1 (.int .i64 P1) rfl
        have y2 := hcy 2 (.int .i64 P2) rfl
        simp only [Nat.add_zero] at y0
        clear hcy hl6 R6z HX1
        have hk2' : IntKind.i64.wrap ((k : Int) + 2) = (k : Int) + 2 := by rw [IntKind.wrap_i64]; omega
        have hk7 : IntKind.i64.wrap (7 * ((k : Int) + 1)) = 7 * ((k : Int) + 1) := by rw [IntKind.wrap_i64]; omega
        have hl8 := R8.out.len
        have HD := hid hD
        have HP1 := hid hP1
        have HP2 := hid hP2
        clear hD hP1 hP2
        have HKT := hid hkt
        clear hkt hkn
        by_cases hk : k = 0
        · have HK := hid hk
          clear hk
          by_cases ht1 : k + 1 = t
          · have HT := hid ht1
            clear ht1
            have ha : ¬ 0 < k := by have := HK.out; omega
            have hb : ((k : Int) == 0) = true := by rw [beq_iff_eq]; omega
            obtain rfl : 0 = P1 := (if_pos HK.out).symm.trans HP1.out
            have hc : ¬ (k : Int) + 1 < (t : Int) := by have := HT.out; omega
            have hd : ((k : Int) + 1 == (t : Int)) = true := by rw [beq_iff_eq]; have := HT.out; omega
            have he : ((k : Int) + 2 == (t : Int)) = false := by rw [beq_eq_false_iff_ne]; have := HT.out; omega
            obtain rfl : 0 = P2 := (if_pos HT.out).symm.trans HP2.out
            obtain rfl : [] = D := (if_neg (by have := HT.out; omega)).symm.trans HD.out
            obtain rfl : 0 = n8 := by simpa using hl8
            go_wp2_with fail
            go_ret
            exact ⟨rfl, GF.out⟩
          · have HT := hid ht1
            clear ht1
            by_cases ht2 : k + 2 = t
            · have HT2 := hid ht2
              clear ht2
              have ha : ¬ 0 < k := by have := HK.out; omega
              have hb : ((k : Int) == 0) = true := by rw [beq_iff_eq]; omega
              obtain rfl : 0 = P1 := (if_pos HK.out).symm.trans HP1.out
              have hc : (k : Int) + 1 < (t : Int) := by have := HT.out; have := HKT.out; omega
              have hd : ((k : Int) + 1 == (t : Int)) = false := by rw [beq_eq_false_iff_ne]; have := HT.out; omega
              obtain rfl : -1 = P2 := (if_neg HT.out).symm.trans HP2.out
              have he : ((k : Int) + 2 == (t : Int)) = true := by rw [beq_iff_eq]; have := HT2.out; omega
              obtain rfl : [7 * ((k : Int) + 1)] = D := (if_pos HT2.out).symm.trans HD.out
              obtain rfl : 1 = n8 := by simpa using hl8
              have HNz := hid (show Rd (wz.alloc (.cells #[.int .i64 (7 * ((k : Int) + 1))] 3)) 1 (some ⟨wz.heap.size, 0, none⟩) 1 ([7 * ((k : Int) + 1)].map (Value.int .i64)) from rd_row10 (heap_alloc_new wz (.cells #[.int .i64 (7 * ((k : Int) + 1))] 3)) 1 1 rfl)
              go_wp2_with (go_at_call 22; (with_reducible refine (sameInts_any [7 * ((k : Int) + 1)] 1 A8 c8 (some ⟨wz.heap.size, 0, none⟩) 1 (wz.alloc (.cells #[.int .i64 (7 * ((k : Int) + 1))] 3)) (R8.out.gr ((Gr.refl wz).alloc _)) HNz.out (by omega)).mono ?_); rintro e wy ⟨rfl, hy⟩)
              go_ret
              exact ⟨rfl, (GF.out.alloc _).trans hy⟩
            · have HT2 := hid ht2
              clear ht2
              have ha : ¬ 0 < k := by have := HK.out; omega
              have hb : ((k : Int) == 0) = true := by rw [beq_iff_eq]; omega
              obtain rfl : 0 = P1 := (if_pos HK.out).symm.trans HP1.out
              have hc : (k : Int) + 1 < (t : Int) := by have := HT.out; have := HKT.out; omega
              have hd : ((k : Int) + 1 == (t : Int)) = false := by rw [beq_eq_false_iff_ne]; have := HT.out; omega
              obtain rfl : -1 = P2 := (if_neg HT.out).symm.trans HP2.out
              have he : ((k : Int) + 2 == (t : Int)) = false := by rw [beq_eq_false_iff_ne]; have := HT2.out; omega
              obtain rfl : [] = D := (if_neg HT2.out).symm.trans HD.out
              obtain rfl : 0 = n8 := by simpa using hl8
              go_wp2_with fail
              go_ret
              exact ⟨rfl, GF.out⟩
        · have HK := hid hk
          clear hk
          by_cases ht1 : k + 1 = t
          · have HT := hid ht1
            clear ht1
            have ha : 0 < k := by have := HK.out; omega
            have hb : ((k : Int) == 0) = false := by rw [beq_eq_false_iff_ne]; omega
            obtain rfl : -1 = P1 := (if_neg HK.out).symm.trans HP1.out
            have hc : ¬ (k : Int) + 1 < (t : Int) := by have := HT.out; omega
            have hd : ((k : Int) + 1 == (t : Int)) = true := by rw [beq_iff_eq]; have := HT.out; omega
            have he : ((k : Int) + 2 == (t : Int)) = false := by rw [beq_eq_false_iff_ne]; have := HT.out; omega
            obtain rfl : 0 = P2 := (if_pos HT.out).symm.trans HP2.out
            obtain rfl : [] = D := (if_neg (by have := HT.out; omega)).symm.trans HD.out
            obtain rfl : 0 = n8 := by simpa using hl8
            go_wp2_with fail
            go_ret
            exact ⟨rfl, GF.out⟩
          · have HT := hid ht1
            clear ht1
            by_cases ht2 : k + 2 = t
            · have HT2 := hid ht2
              clear ht2
              have ha : 0 < k := by have := HK.out; omega
              have hb : ((k : Int) == 0) = false := by rw [beq_eq_false_iff_ne]; omega
              obtain rfl : -1 = P1 := (if_neg HK.out).symm.trans HP1.out
              have hc : (k : Int) + 1 < (t : Int) := by have := HT.out; have := HKT.out; omega
              have hd : ((k : Int) + 1 == (t : Int)) = false := by rw [beq_eq_false_iff_ne]; have := HT.out; omega
              obtain rfl : -1 = P2 := (if_neg HT.out).symm.trans HP2.out
              have he : ((k : Int) + 2 == (t : Int)) = true := by rw [beq_iff_eq]; have := HT2.out; omega
              obtain rfl : [7 * ((k : Int) + 1)] = D := (if_pos HT2.out).symm.trans HD.out
              obtain rfl : 1 = n8 := by simpa using hl8
              have HNz := hid (show Rd (wz.alloc (.cells #[.int .i64 (7 * ((k : Int) + 1))] 3)) 1 (some ⟨wz.heap.size, 0, none⟩) 1 ([7 * ((k : Int) + 1)].map (Value.int .i64)) from rd_row10 (heap_alloc_new wz (.cells #[.int .i64 (7 * ((k : Int) + 1))] 3)) 1 1 rfl)
              go_wp2_with (go_at_call 22; (with_reducible refine (sameInts_any [7 * ((k : Int) + 1)] 1 A8 c8 (some ⟨wz.heap.size, 0, none⟩) 1 (wz.alloc (.cells #[.int .i64 (7 * ((k : Int) + 1))] 3)) (R8.out.gr ((Gr.refl wz).alloc _)) HNz.out (by omega)).mono ?_); rintro e wy ⟨rfl, hy⟩)
              go_ret
              exact ⟨rfl, (GF.out.alloc _).trans hy⟩
            · have HT2 := hid ht2
              clear ht2
              have ha : 0 < k := by have := HK.out; omega
              have hb : ((k : Int) == 0) = false := by rw [beq_eq_false_iff_ne]; omega
              obtain rfl : -1 = P1 := (if_neg HK.out).symm.trans HP1.out
              have hc : (k : Int) + 1 < (t : Int) := by have := HT.out; have := HKT.out; omega
              have hd : ((k : Int) + 1 == (t : Int)) = false := by rw [beq_eq_false_iff_ne]; have := HT.out; omega
              obtain rfl : -1 = P2 := (if_neg HT.out).symm.trans HP2.out
              have he : ((k : Int) + 2 == (t : Int)) = false := by rw [beq_eq_false_iff_ne]; have := HT2.out; omega
              obtain rfl : [] = D := (if_neg HT2.out).symm.trans HD.out
              obtain rfl : 0 = n8 := by simpa using hl8
              go_wp2_with fail
              go_ret
              exact ⟨rfl, GF.out⟩
end Go.Proofs.Ytimhkkijoelmhaa
