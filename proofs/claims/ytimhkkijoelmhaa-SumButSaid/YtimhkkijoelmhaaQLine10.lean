/- A line of an audit, and a line less so much of another one. For numbers that are not great. less of the reference: a row less another one times a factor. The reference's rows: which one a subject leads, whether it is alone; and where a subject stands. The package slices at fractions. For every slice of fractions. (Printed by gen_sl10.py.) -/
import Derived.Test.YtimhkkijoelmhaaQEltS
import Derived.Test.YtimhkkijoelmhaaQMix
import Derived.Test.YtimhkkijoelmhaaQLow10
import Derived.Test.YtimhkkijoelmhaaQRound10
import Derived.Test.YtimhkkijoelmhaaQAway10
namespace Go.Proofs.Ytimhkkijoelmhaa
open Go.RowKit

/-- A line as it lies: the factors of n subjects and of m questions. -/
def LnIn (w : World) (n m : Nat) (v : Value) (x : List Rat) : Prop :=
  ∃ A c B d, v = .agg #[.slice A n c, .slice B m d] ∧ Rd w 2 A n ((x.take n).flatMap frC) ∧ Rd w 2 B m ((x.drop n).flatMap frC) ∧ (n ≤ c ∧ c ≤ 9223372036854775807) ∧ (m ≤ d ∧ d ≤ 9223372036854775807) ∧ x.length = n + m
theorem LnIn.gr {w w' : World} {n m : Nat} {v : Value} {x : List Rat} (h : LnIn w n m v x) (g : Gr w w') : LnIn w' n m v x := by
  obtain ⟨A, c, B, d, e, h1, h2, h3⟩ := h
  exact ⟨A, c, B, d, e, h1.gr g, h2.gr g, h3⟩
/-- A world in which all that lies below a block is as it was. -/
structure BlW (B : Nat) (W0 : World) where
  W : World
  bl : Below B W0 W
instance (B : Nat) (W0 : World) : Inhabited (BlW B W0) := ⟨⟨W0, Below.refl _ _⟩⟩
theorem BlW.cell {B : Nat} {W0 : World} {b o : Nat} {v : Value} (h : W0.cell? ⟨b, o, none⟩ = some v) (hb : b < B) (p : BlW B W0) : p.W.cell? ⟨b, o, none⟩ = some v := (p.bl.cell (p := ⟨b, o, none⟩) hb).trans h
theorem Below.gr_left {B : Nat} {a b c : World} (h : Below B a b) (k : Gr b c) (hB : B ≤ b.heap.size) : Below B a c := Below.trans h (Below.mono k hB)
theorem subR_take (x y : List Rat) (f : Rat) (n : Nat) : (subR x y f).take n = subR (x.take n) (y.take n) f := List.take_zipWith
theorem subR_drop (x y : List Rat) (f : Rat) (n : Nat) : (subR x y f).drop n = subR (x.drop n) (y.drop n) f := List.drop_zipWith
theorem ret_ln {fn : Func} {p : Tmp} (h : fn.results = #[.cell p 90]) (tmps : Array Value) (w : World) (g : Nat) (a b : Value) (hp : tmps.getD p undef = .pointer (some ⟨g, 0, none⟩)) (hg : w.heap[g]? = some (.cells #[a, b] 90 (0, 0))) :
    (results fn tmps).run Try.prog w = .ok (.agg #[a, b]) w :=
  results_cell_row h tmps w g _ _ (0, 0) _ hp hg Try.underlying90 rfl (by kernel_rfl)

set_option maxRecDepth 100000 in
set_option maxHeartbeats 8000000 in
theorem lineLess_any (n m : Nat) (v : Value) (x : List Rat) (u : Value) (y : List Rat) (f : Rat) (w : World) (hx : LnIn w n m v x) (hy : LnIn w n m u y) (B1 B2 B3 : Nat) (h1 : ∀ z ∈ x, Sm B1 z) (h2 : ∀ z ∈ y, Sm B2 z) (h3 : Sm B3 f)
    (hb : B1 * (B2 * B3) ≤ 2305843009213693952) (hb2 : B2 * B3 ≤ 4611686018427387904) (hn : n ≤ 1000) (hm : m ≤ 1000) :
    Calls Try.prog 82 #[v, u, frV f] w fun e w' => ∃ v', e = .returned v' ∧ (LnIn w' n m v' (subR x y f) ∧ Gr w w') := by
  obtain ⟨A, c, B, d, rfl, ra, rb, ca, cb, hlx⟩ := hx
  obtain ⟨A', c', B', d', rfl, ra', rb', ca', cb', hly⟩ := hy
  have HA1 := hid (fun g W (k : Gr w W) hf => away_any A n c (x.take n) A' n c' (y.take n) g f W (ra.gr k) (ra'.gr k) rfl hf B1 B2 B3 (fun z hz => h1 z (List.mem_of_mem_take hz)) (fun z hz => h2 z (List.mem_of_mem_take hz)) h3 hb hb2 hn)
  have HA2 := hid (fun g W (k : Gr w W) hf => away_any B m d (x.drop n) B' m d' (y.drop n) g f W (rb.gr k) (rb'.gr k) rfl hf B1 B2 B3 (fun z hz => h1 z (List.mem_of_mem_drop hz)) (fun z hz => h2 z (List.mem_of_mem_drop hz)) h3 hb hb2 hm)
  have HL := hid (show (subR x y f).length = n + m by rw [subR_len _ _ _ (by omega), hlx])
  rw [← subR_take] at HA1
  rw [← subR_drop] at HA2
  have hl1 : ((subR x y f).take n).length = n := by rw [List.length_take]; have := HL.out; omega
  have hl2 : ((subR x y f).drop n).length = m := by rw [List.length_drop]; have := HL.out; omega
  unfold FrRet at HA1 HA2
  rw [hl1] at HA1
  rw [hl2] at HA2
  unfold LnIn
  generalize subR x y f = z at *
  clear ra rb ra' rb' h1 h2 h3 hb hb2 hl1 hl2 hlx hly
  unfold frV
  have hr := rows3 w (.cells #[.slice A n c, .slice B m d] 90) (.cells #[.slice A' n c', .slice B' m d'] 90) (.cells #[.int .i64 f.num, .int .i64 f.den] 107)
  obtain ⟨hr1, hr2, hr3⟩ := hr
  go_enter Try.func82, Try.ntmps82
  go_upto_region 2 with fail
  have hr4 : (((((w.alloc (.cells #[.slice A n c, .slice B m d] 90)).alloc (.cells #[.slice A' n c', .slice B' m d'] 90)).alloc (.cells #[.int .i64 f.num, .int .i64 f.den] 107)).alloc (.cells #[.slice none 0 0, .slice none 0 0] 90)).heap[w.heap.size + 3]? = some (.cells #[.slice none 0 0, .slice none 0 0] 90 (0, 0))) := by
    have h := heap_alloc_new (((w.alloc (.cells #[.slice A n c, .slice B m d] 90)).alloc (.cells #[.slice A' n c', .slice B' m d'] 90)).alloc (.cells #[.int .i64 f.num, .int .i64 f.den] 107)) (.cells #[.slice none 0 0, .slice none 0 0] 90)
    simpa using h
  have gq := Gr.alloc (Gr.refl (((w.alloc (.cells #[.slice A n c, .slice B m d] 90)).alloc (.cells #[.slice A' n c', .slice B' m d'] 90)).alloc (.cells #[.int .i64 f.num, .int .i64 f.den] 107))) (.cells #[.slice none 0 0, .slice none 0 0] 90)
  have e1 := row_gr hr1 gq
  have e2 := row_gr hr2 gq
  have e3 := row_gr hr3 gq
  have g0 : Gr w ((((w.alloc (.cells #[.slice A n c, .slice B m d] 90)).alloc (.cells #[.slice A' n c', .slice B' m d'] 90)).alloc (.cells #[.int .i64 f.num, .int .i64 f.den] 107)).alloc (.cells #[.slice none 0 0, .slice none 0 0] 90)) := ((((Gr.refl w).alloc _).alloc _).alloc _).alloc _
  clear hr1 hr2 hr3 gq
  generalize ((((w.alloc (.cells #[.slice A n c, .slice B m d] 90)).alloc (.cells #[.slice A' n c', .slice B' m d'] 90)).alloc (.cells #[.int .i64 f.num, .int .i64 f.den] 107)).alloc (.cells #[.slice none 0 0, .slice none 0 0] 90)) = w4 at *
  have hz4 : w.heap.size + 3 < w4.heap.size := block_lt_of_cell (row_cell_at (v := .slice none 0 0) hr4 0 rfl)
  have p0 : ∀ p : BlW (w.heap.size + 3) w4, p.W.cell? ⟨w.heap.size, 0, none⟩ = some (.slice A n c) := BlW.cell (row_cell_at e1 0 rfl) (by omega)
  have p1 : ∀ p : BlW (w.heap.size + 3) w4, p.W.cell? ⟨w.heap.size, 1, none⟩ = some (.slice B m d) := BlW.cell (row_cell_at e1 1 rfl) (by omega)
  have q0 : ∀ p : BlW (w.heap.size + 3) w4, p.W.cell? ⟨w.heap.size + 1, 0, none⟩ = some (.slice A' n c') := BlW.cell (row_cell_at e2 0 rfl) (by omega)
  have q1 : ∀ p : BlW (w.heap.size + 3) w4, p.W.cell? ⟨w.heap.size + 1, 1, none⟩ = some (.slice B' m d') := BlW.cell (row_cell_at e2 1 rfl) (by omega)
  refine wp_region_plan (C := fun w' => ∃ p : BlW (w.heap.size + 3) w4, w' = p.W) (.take 0 (.take 1 (.take 2 (.take 3 (.take 4 (.take 6 (.take 7 (.take 8 (.take 9 (.take 10 (.one 5 (.one 11 (.take 12 (.one 13 .done)))))))))))))) (by rfl) (by kernel_rfl) (by kernel_rfl) ⟨⟨_, (Below.refl _ w4).drew⟩, rfl⟩ ?_
  (iterate 10 (refine plan_read2 rfl rfl (fun K hK => ?_); go_big_quiet_op; (with_reducible refine hK _ ?_); clear hK K))
  have HR4 := hid hr4
  have HE3 := hid e3
  have HG0 := hid g0
  clear p0 p1 q0 q1 hr4 e1 e2 e3 g0
  (refine plan_one rfl (fun K hK => ?_))
  go_simp
  refine (HA1.out (w.heap.size + 2) _ (HG0.out.trans (Gr.refl w4).drew) HE3.out).mono ?_
  rintro e w5 ⟨R1, s1, rfl, hA, hb1⟩
  have G1 := hid (show Gr w4 w5 from (Gr.refl w4).drew.trans hb1)
  have K1 := hid hA
  refine hK.out _ _ ⟨⟨w5, Below.gr_left (Below.refl _ w4) G1.out (by omega)⟩, rfl⟩ ?_
  clear hK K hA hb1
  (refine plan_one rfl (fun K hK => ?_))
  go_simp
  refine (HA2.out (w.heap.size + 2) _ (HG0.out.trans G1.out) (row_gr HE3.out G1.out)).mono ?_
  rintro e w6 ⟨R2, s2, rfl, hA, hb2⟩
  have G2 := hid (show Gr w4 w6 from G1.out.trans hb2)
  have K2 := hid hA
  have K12 := hid hb2
  refine hK.out _ _ ⟨⟨w6, Below.gr_left (Below.refl _ w4) G2.out (by omega)⟩, rfl⟩ ?_
  clear hK K hA hb2
  (iterate 1 (refine plan_read2 rfl rfl (fun K hK => ?_); go_big_quiet_op; (with_reducible refine hK _ ?_); clear hK K))
  have f0 := frozen_of_row w6 (w.heap.size + 3) 0 _ _ (row_gr HR4.out G2.out)
  have f1 := frozen_of_row w6 (w.heap.size + 3) 1 _ _ (row_gr HR4.out G2.out)
  have c0 := row_cell_at (v := .slice none 0 0) (row_gr HR4.out G2.out) 0 rfl
  have c1 := row_cell_at (v := .slice none 0 0) (row_gr HR4.out G2.out) 1 rfl
  (refine plan_one rfl (fun K hK => ?_))
  go_simp
  have hBl : Below (w.heap.size + 3) w4 w6 := Below.gr_left (Below.refl _ w4) G2.out (by omega)
  refine hK.out _ _ ⟨⟨_, (hBl.setCell (p := ⟨w.heap.size + 3, 0, none⟩) (Nat.le_refl _) (.slice R1 n s1)).setCell (p := ⟨w.heap.size + 3, 1, none⟩) (Nat.le_refl _) (.slice R2 m s2)⟩, rfl⟩ ?_
  clear hK K f0 f1 c0 c1
  (with_reducible refine plan_done ?_)
  go_wp2
  have hfin := set2_gr (w := w) (W := w6) (g := w.heap.size + 3) (HG0.out.trans G2.out) (Nat.le_add_right _ _) (.slice R1 n s1) (.slice R2 m s2)
  have hk3 : ∀ k, w.heap.size + 4 ≤ k → ((w6.setCell ⟨w.heap.size + 3, 0, none⟩ (.slice R1 n s1)).setCell ⟨w.heap.size + 3, 1, none⟩ (.slice R2 m s2)).heap[k]? = w6.heap[k]? := fun k hk =>
    (Below.heap_setCell _ _ _ k (by show k ≠ w.heap.size + 3; omega)).trans (Below.heap_setCell _ _ _ k (by show k ≠ w.heap.size + 3; omega))
  have hs4 : w.heap.size + 4 ≤ w4.drew.heap.size := hz4
  have hs5 : w.heap.size + 4 ≤ w5.heap.size := by have := G1.out.size; omega
  refine bodyPost_ret (ret_ln (p := 6) Try.results82 _ _ (w.heap.size + 3) _ _ rfl (set2_row (W := w6) (y0 := .slice R1 n s1) (y1 := .slice R2 m s2) (row_gr HR4.out G2.out))) rfl ⟨_, rfl, ⟨R1, s1, R2, s2, rfl, ?_, ?_, own_cap10 K1.out, own_cap10 K2.out, HL.out⟩, hfin⟩
  · exact Rd.of_own_keep K1.out (fun k h1 h2 => (hk3 k (by omega)).trans (K12.out.heap h2)) (by have := K12.out.size; simpa using this)
  · exact Rd.of_own_keep K2.out (fun k h1 h2 => hk3 k (by omega)) (by simp)
end Go.Proofs.Ytimhkkijoelmhaa
namespace Go.Proofs.Ytimhkkijoelmhaa
open Go.RowKit

/-- A row as it lies: the subject that leads it, and the factors. -/
def RwIn (w : World) (N : Nat) (v : Value) (at_ : Int) (x : List Rat) : Prop :=
  ∃ A c, v = .agg #[.int .i64 at_, .slice A N c] ∧ Rd w 2 A N (x.flatMap frC) ∧ (N ≤ c ∧ c ≤ 9223372036854775807) ∧ x.length = N
theorem RwIn.gr {w w' : World} {N : Nat} {v : Value} {at_ : Int} {x : List Rat} (h : RwIn w N v at_ x) (g : Gr w w') : RwIn w' N v at_ x := by
  obtain ⟨A, c, e, h1, h2, h3⟩ := h
  exact ⟨A, c, e, h1.gr g, h2, h3⟩
theorem own_mono10 {w : World} {base base' : Nat} {e : TypeId} {size : Nat} {v : Value} {n : Nat} {xs : List Value} (h : w.ownsRow base e size v n xs) (hb : base' ≤ base) : w.ownsRow base' e size v n xs :=
  ⟨h.1, h.2.imp id fun ⟨g, cap, cur, h1, h2, h3⟩ => ⟨g, cap, cur, h1, Nat.le_trans hb h2, h3⟩⟩
theorem RwIn.of_own {w : World} {base N c : Nat} {A : Option Addr} {t : TypeId} {x : List Rat} (at_ : Int) (h : w.ownsRow base t 2 (.slice A N c) N (x.flatMap frC)) : RwIn w N (.agg #[.int .i64 at_, .slice A N c]) at_ x :=
  ⟨A, c, rfl, Rd.of_own h, own_cap10 h, by have := (Rd.of_own h).len; rw [flatMap_len frC_len] at this; omega⟩
theorem info_rf10 : (Try.prog.info? 110).map (fun i => (i.zero, i.size, i.bytes)) = some (some (.agg #[.int .i64 0, .int .i64 0]), 2, 16) := by kernel_rfl
theorem ret_rw {fn : Func} {p : Tmp} (h : fn.results = #[.cell p 99]) (tmps : Array Value) (w : World) (g : Nat) (a b : Value) (hp : tmps.getD p undef = .pointer (some ⟨g, 0, none⟩)) (hg : w.heap[g]? = some (.cells #[a, b] 99 (0, 0))) :
    (results fn tmps).run Try.prog w = .ok (.agg #[a, b]) w :=
  results_cell_row h tmps w g _ _ (0, 0) _ hp hg Try.underlying99 rfl (by kernel_rfl)
theorem rows4 (w : World) (o1 o2 o3 o4 : Obj) : ((((w.alloc o1).alloc o2).alloc o3).alloc o4).heap[w.heap.size]? = some o1 ∧ ((((w.alloc o1).alloc o2).alloc o3).alloc o4).heap[w.heap.size + 1]? = some o2 ∧ ((((w.alloc o1).alloc o2).alloc o3).alloc o4).heap[w.heap.size + 2]? = some o3 ∧ ((((w.alloc o1).alloc o2).alloc o3).alloc o4).heap[w.heap.size + 3]? = some o4 ∧ ((((w.alloc o1).alloc o2).alloc o3).alloc o4).heap.size = w.heap.size + 4 := by
  obtain ⟨h1, h2, h3⟩ := rows3 w o1 o2 o3
  have e3 : (((w.alloc o1).alloc o2).alloc o3).heap.size = w.heap.size + 3 := by simp
  refine ⟨?_, ?_, ?_, ?_, by simp⟩
  · rw [Below.heap_alloc _ _ _ (by omega)]; exact h1
  · rw [Below.heap_alloc _ _ _ (by omega)]; exact h2
  · rw [Below.heap_alloc _ _ _ (by omega)]; exact h3
  · rw [← e3]; exact heap_alloc_new _ _

set_option maxRecDepth 100000 in
set_option maxHeartbeats 8000000 in
theorem refless_any (N : Nat) (v : Value) (ax : Int) (x : List Rat) (u : Value) (ay : Int) (y : List Rat) (f : Rat) (w : World) (hx : RwIn w N v ax x) (hy : RwIn w N u ay y) (B1 B2 B3 : Nat) (h1 : ∀ z ∈ x, Sm B1 z) (h2 : ∀ z ∈ y, Sm B2 z) (h3 : Sm B3 f)
    (hb : B1 * (B2 * B3) ≤ 2305843009213693952) (hb2 : B2 * B3 ≤ 4611686018427387904) (hn : N ≤ 1000) :
    Calls Try.prog 84 #[v, u, frV f] w fun e w' => ∃ A' c', e = .returned (.agg #[.int .i64 ax, .slice A' N c']) ∧ (Gr w w' ∧ w'.ownsRow w.heap.size 110 2 (.slice A' N c') N ((subR x y f).flatMap frC)) := by
  obtain ⟨A, c, rfl, ra, ca, hlx⟩ := hx
  obtain ⟨B, d, rfl, rb, cb, hly⟩ := hy
  have hlz : (subR x y f).length = N := by rw [subR_len _ _ _ (by omega), hlx]
  have HE := hid (fun k (hk : k < N) => show (subR x y f)[k]! = x[k]! - y[k]! * f by
    rw [getElem!_pos _ k (by omega), getElem!_pos _ k (by omega), getElem!_pos _ k (by omega)]
    simp [subR])
  have HT := hid (fun k (hk : k < N) W => reftimes_any y[k]! f B2 B3 W (h2 _ (mem_get (by omega))) h3 hb2)
  have HLs := hid (fun k (hk : k < N) W => minus_any x[k]! (y[k]! * f) B1 (B2 * B3) W (h1 _ (mem_get (by omega))) ((h2 _ (mem_get (by omega))).mul h3).1 hb)
  obtain ⟨zs, hzs⟩ : ∃ zs, subR x y f = zs := ⟨_, rfl⟩
  rw [hzs] at HE hlz ⊢
  clear hzs
  have HX := hid ra
  have HY := hid rb
  have HLZ := hid hlz
  have hnz : (N : Int) ≤ 1000 := by omega
  obtain ⟨i0, hi0, hz0, hs0, hy0⟩ := info_parts info_rf10
  have HI0 := hid hi0
  have HZ0 := hid hz0
  have HS0 := hid hs0
  have HY0 := hid hy0
  clear hi0 hz0 hs0 hy0 ra rb h1 h2 h3 hb hb2
  unfold frV at *
  go_enter Try.func84, Try.ntmps84
  go_wp2_with fail
  obtain ⟨rA, rB, rF, rR, hs4⟩ := rows4 w (.cells #[.int .i64 ax, .slice A N c] 99) (.cells #[.int .i64 ay, .slice B N d] 99) (.cells #[.int .i64 f.num, .int .i64 f.den] 110) (.cells #[.int .i64 0, .slice none 0 0] 99)
  have g4 : Gr w ((((w.alloc (.cells #[.int .i64 ax, .slice A N c] 99)).alloc (.cells #[.int .i64 ay, .slice B N d] 99)).alloc (.cells #[.int .i64 f.num, .int .i64 f.den] 110)).alloc (.cells #[.int .i64 0, .slice none 0 0] 99)) := ((((Gr.refl w).alloc _).alloc _).alloc _).alloc _
  generalize (((w.alloc (.cells #[.int .i64 ax, .slice A N c] 99)).alloc (.cells #[.int .i64 ay, .slice B N d] 99)).alloc (.cells #[.int .i64 f.num, .int .i64 f.den] 110)).alloc (.cells #[.int .i64 0, .slice none 0 0] 99) = w4 at *
  obtain ⟨X, hX⟩ : ∃ X, w.heap.size + 1 + 1 + 1 + 1 = X := ⟨_, rfl⟩
  obtain ⟨R, hR⟩ : ∃ R, w.heap.size + 1 + 1 + 1 = R := ⟨_, rfl⟩
  obtain ⟨F, hF⟩ : ∃ F, w.heap.size + 1 + 1 = F := ⟨_, rfl⟩
  obtain ⟨Y, hY⟩ : ∃ Y, w.heap.size + 1 = Y := ⟨_, rfl⟩
  rw [hX, hR, hF, hY]
  rw [show w.heap.size + 1 = Y from hY] at rB
  rw [show w.heap.size + 2 = F by omega] at rF
  rw [show w.heap.size + 3 = R by omega] at rR
  obtain ⟨Z, hZ⟩ : ∃ Z, w.heap.size = Z := ⟨_, rfl⟩
  rw [hZ] at rA ⊢
  have HXF := hid (show w4.heap.size = X by omega)
  have HXg := hid g4
  have HRA := hid rA
  have HRB := hid rB
  have HRF := hid rF
  have HRR := hid rR
  have hYX : Y < X := by omega
  have hFX : F < X := by omega
  have hRX : R < X := by omega
  have hZX : Z < X := by omega
  have HRw := hid (show w.heap.size ≤ R by omega)
  clear rA rB rF rR g4 hs4 hX hR hF hY hZ
  go_loopg [8] N (fun gg s8 wr => ∃ (k : Nat) (v : Value), k ≤ N ∧ N - k ≤ gg ∧ s8 = .int .i64 k ∧ Gr w4 wr ∧ Hid (wr.heap[X]? = some (.cells #[.int .i64 ax, v] 99 (0, 0))) ∧ Hid (wr.ownsRow (X + 1) 110 2 v k ((zs.take k).flatMap frC)))
  case atStart => exact ⟨0, .slice none 0 0, Nat.zero_le _, by omega, rfl, (Gr.refl w4).alloc _, by rw [← HXF.out]; exact heap_alloc_new w4 _, ⟨rfl, .inl ⟨rfl, rfl⟩⟩⟩
  case round =>
    obtain ⟨k, av, hk, hgk, rfl, BW, HAcc, HOw⟩ := hrel
    obtain ⟨AA, ac, hav⟩ := own_slice HOw.out
    subst hav
    have hXr : X < wr.heap.size := by
      have := block_lt_of_cell (row_cell_at (v := .int .i64 ax) HAcc.out 0 rfl)
      exact this
    by_cases hkl : k < N
    · obtain ⟨hk', b, off, rfl, hbl, c0, c1⟩ := (HX.out.gr HXg.out).fr hkl
      obtain ⟨hk'', b', off', rfl, hbl', d0, d1⟩ := (HY.out.gr HXg.out).fr hkl
      have HSn : Hid ((zs.take (k + 1)).flatMap frC = (zs.take k).flatMap frC ++ frC zs[k]!) := fr_take_succ (by have := HLZ.out; omega)
      have HEk := hid (HE.out k hkl)
      rw [HEk.out] at HSn
      have HTk := hid (HT.out k hkl)
      have HLk := hid (HLs.out k hkl)
      clear HEk
      generalize (zs.take k).flatMap frC = o at *
      obtain ⟨tv, hv⟩ : ∃ v, y[k]! * f = v := ⟨_, rfl⟩
      rw [hv] at HTk HLk HSn
      clear hv
      generalize y[k]! = yk at d0 d1 HTk
      obtain ⟨uv, hu⟩ : ∃ u, x[k]! - tv = u := ⟨_, rfl⟩
      rw [hu] at HLk HSn
      clear hu
      generalize x[k]! = xk at c0 c1 HLk
      have hkn : (k : Int) < (N : Int) := by omega
      have hk0 : (0 : Int) ≤ (k : Int) := by omega
      have hb4 : b < X := by have := HXF.out; omega
      have hb5 : b' < X := by have := HXF.out; omega
      have zA := row_gr HRA.out BW
      have zB := row_gr HRB.out BW
      have zF := row_gr HRF.out BW
      have a1 := row_cell_at (v := .slice (some ⟨b, off, none⟩) N c) zA 1 rfl
      have b1 := row_cell_at (v := .slice (some ⟨b', off', none⟩) N d) zB 1 rfl
      have f0 := row_cell_at (v := .int .i64 f.num) zF 0 rfl
      have f1 := row_cell_at (v := .int .i64 f.den) zF 1 rfl
      have v1 := row_cell_at (v := .slice AA k ac) HAcc.out 1 rfl
      have e0 : wr.cell? ⟨b, off + k * 2, none⟩ = some (.int .i64 xk.num) := GrW.cell c0 ⟨wr, BW⟩
      have e1 : wr.cell? ⟨b, off + k * 2 + 1, none⟩ = some (.int .i64 xk.den) := GrW.cell c1 ⟨wr, BW⟩
      have g0 : wr.cell? ⟨b', off' + k * 2, none⟩ = some (.int .i64 yk.num) := GrW.cell d0 ⟨wr, BW⟩
      have g1 : wr.cell? ⟨b', off' + k * 2 + 1, none⟩ = some (.int .i64 yk.den) := GrW.cell d1 ⟨wr, BW⟩
      have BWr := hid BW
      have HX4 := HXF.out
      clear zA zB zF c0 c1 d0 d1 hk' hk''
      go_upto_region 5 with fail
      have p0 := BlW.cell (B := X + 1) e0 (by omega)
      have p1 := BlW.cell (B := X + 1) e1 (by omega)
      have q0 := BlW.cell (B := X + 1) g0 (by omega)
      have q1 := BlW.cell (B := X + 1) g1 (by omega)
      have r0 := BlW.cell (B := X + 1) f0 (by omega)
      have r1 := BlW.cell (B := X + 1) f1 (by omega)
      have s1 := BlW.cell (B := X + 1) a1 (by omega)
      have t1 := BlW.cell (B := X + 1) b1 (by omega)
      have y1 := BlW.cell (B := X + 1) v1 (by omega)
      clear e0 e1 g0 g1 f0 f1 a1 b1 v1
      refine wp_region_ordAt (C := fun w' => ∃ p : BlW (X + 1) wr, w' = p.W) 18 [(0, false), (1, false), (2, false), (3, false), (4, false), (5, false), (6, false), (7, false), (8, false), (9, false), (10, false), (11, false), (12, false), (13, true), (14, true), (15, true), (16, true), (17, false)] _ (by rfl) (by rfl) (by kernel_rfl) (by kernel_rfl) (by kernel_rfl) ⟨⟨wr.drew, (Below.refl _ _).drew⟩, rfl⟩ ?_
      simp only [List.take_succ_cons, List.take_zero]
      (repeat (first | ((refine ord_read0 rfl rfl rfl (fun K hK => ?_)); go_big_quiet_op; (with_reducible refine hK _ ?_); clear hK K) | ((refine ord_skipG rfl rfl rfl rfl rfl ?_); simp only [Act.put, List.setIfInBounds_toArray, List.set_cons_zero, List.set_cons_succ]) | ((refine ord_readG rfl rfl rfl rfl rfl rfl (fun K hK => ?_)); go_big_quiet_op; (with_reducible refine hK _ ?_); clear hK K) | ((refine ord_nilc rfl rfl rfl rfl ?_); simp only [Act.put, List.setIfInBounds_toArray, List.set_cons_zero, List.set_cons_succ])))
      have hXl : X + 1 ≤ wr.heap.size := hXr
      (first | (refine ord_mem0 rfl rfl (fun K hK => ?_)) | (refine ord_memG rfl rfl rfl rfl rfl (fun K hK => ?_)))
      go_simp
      refine (HTk.out _).mono ?_
      rintro e w1 ⟨rfl, hb1⟩
      have G1 := hid (show Gr wr w1 from (Gr.refl wr).drew.trans hb1)
      refine hK.out _ _ ⟨⟨w1, Below.mono G1.out hXl⟩, rfl⟩ ?_
      clear hK K hb1
      (first | (refine ord_mem0 rfl rfl (fun K hK => ?_)) | (refine ord_memG rfl rfl rfl rfl rfl (fun K hK => ?_)))
      go_simp
      refine (HLk.out _).mono ?_
      rintro e w2 ⟨rfl, hb2⟩
      have G2 := hid (G1.out.trans hb2)
      refine hK.out _ _ ⟨⟨w2, Below.mono G2.out hXl⟩, rfl⟩ ?_
      clear hK K hb2
      (first | (refine ord_mem0 rfl rfl (fun K hK => ?_)) | (refine ord_memG rfl rfl rfl rfl rfl (fun K hK => ?_)))
      go_simp
      have R3 := hid (heap_alloc_new w2 (.cells #[.int .i64 uv.num, .int .i64 uv.den] 110))
      have G3 := hid (G2.out.alloc (.cells #[.int .i64 uv.num, .int .i64 uv.den] 110))
      refine hK.out _ _ ⟨⟨_, Below.mono G3.out hXl⟩, rfl⟩ ?_
      clear hK K
      (first | (refine ord_mem0 rfl rfl (fun K hK => ?_)) | (refine ord_memG rfl rfl rfl rfl rfl (fun K hK => ?_)))
      refine wp_append_rd (.tmp 20) (.tmp 34) 97 rfl (X + 1) 110 i0 (.agg #[.int .i64 0, .int .i64 0]) 2 16 Try.underlying97 HI0.out HZ0.out HS0.out HY0.out rfl (by decide) _ _ _ rfl (ownT_gf HOw.out G3.out) (some ⟨w2.heap.size, 0, none⟩) 1 1 (frC uv) rfl (rd_row10 R3.out 2 1 rfl) (one_C uv) (by have : maxLen = 9223372036854775807 := rfl; omega) (by omega) (by have h2 := G2.out.size; simp; omega) ?_
      intro A' c' w3 hown hgrow hbel
      have HB4 := hid (show Below (X + 1) wr w3 from Below.trans (Below.mono G3.out hXl) hbel)
      have K4 := hid hown
      refine hK.out _ _ ⟨⟨w3, HB4.out⟩, rfl⟩ ?_
      clear hK K hown hgrow hbel p0 p1 q0 q1 r0 r1 s1 t1 y1
      simp only [Act.put, List.setIfInBounds_toArray, List.set_cons_zero, List.set_cons_succ]
      have HA3 : Hid (w3.heap[X]? = some (.cells #[.int .i64 ax, .slice AA k ac] 99 (0, 0))) := (HB4.out.block X (by omega)).trans HAcc.out
      have v3 := row_cell_at (v := .slice AA k ac) HA3.out 1 rfl
      have fz := frozen_of_row w3 X 1 _ _ HA3.out
      (repeat (first | ((refine ord_read0 rfl rfl rfl (fun K hK => ?_)); go_big_quiet_op; (with_reducible refine hK _ ?_); clear hK K) | ((refine ord_skipG rfl rfl rfl rfl rfl ?_); simp only [Act.put, List.setIfInBounds_toArray, List.set_cons_zero, List.set_cons_succ]) | ((refine ord_readG rfl rfl rfl rfl rfl rfl (fun K hK => ?_)); go_big_quiet_op; (with_reducible refine hK _ ?_); clear hK K) | ((refine ord_nilc rfl rfl rfl rfl ?_); simp only [Act.put, List.setIfInBounds_toArray, List.set_cons_zero, List.set_cons_succ])))
      (with_reducible refine ordAt_nil ?_)
      intro K hK
      go_simp
      refine hK _ _ ?_
      clear hK K v3 fz
      go_wp2
      go_roundg (N - (k + 1))
      case measure => omega
      case rel =>
        refine ⟨k + 1, .slice A' (k + 1) c', by omega, by omega, by go_num, ?_, ?_, ?_⟩
        · exact Gr.setCell (Below.trans BWr.out (Below.mono HB4.out (by omega))) (Nat.le_of_eq HX4) _
        · exact heap_setCell_same w3 X 1 _ _ _ HA3.out
        · unfold Hid
          rw [HSn.out]
          exact ownsRow_setCell_below K4.out (by simp) _
    · have hkn : ¬ (k : Int) < (N : Int) := by omega
      have hkn' : k = N := by omega
      subst hkn'
      have htk : zs.take k = zs := by rw [show k = zs.length by have := HLZ.out; omega, List.take_length]
      have zA := row_gr HRA.out BW
      have a1 := row_cell_at (v := .slice A k c) zA 1 rfl
      have v0 := row_cell_at (v := .int .i64 ax) HAcc.out 0 rfl
      have v1 := row_cell_at (v := .slice AA k ac) HAcc.out 1 rfl
      have zR := row_gr HRR.out BW
      have r0 := row_cell_at (v := .int .i64 0) zR 0 rfl
      have r1 := row_cell_at (v := .slice none 0 0) zR 1 rfl
      have z0 := frozen_of_row wr R 0 _ _ zR
      have z1 := frozen_of_row wr R 1 _ _ zR
      have HZR := hid zR
      clear zA zR
      go_wp2
      have hG := Gr.trans HXg.out BW
      have hR0 : w.heap.size ≤ R := HRw.out
      refine bodyPost_ret (ret_rw (p := 6) Try.results84 _ _ R (.int .i64 ax) (.slice AA k ac) rfl (set2_row HZR.out)) rfl ⟨AA, ac, rfl, set2_gr hG hR0 _ _, ?_⟩
      have hOw := HOw.out
      rw [htk] at hOw
      exact own_mono10 (ownsRow_setCell_below (ownsRow_setCell_below hOw (show R < X + 1 by omega) _) (show R < X + 1 by omega) _) (show w.heap.size ≤ X + 1 by omega)
end Go.Proofs.Ytimhkkijoelmhaa
namespace Go.Proofs.Ytimhkkijoelmhaa
open Go.RowKit

/-- A row of the reference with where its factors lie. -/
structure RwV where
  i : Nat
  a : Option Addr
  c : Nat
  x : List Rat
deriving Inhabited
def RwV.cells (N : Nat) (r : RwV) : List Value := [.int .i64 r.i, .slice r.a N r.c]
theorem RwV.clen (N : Nat) (r : RwV) : (r.cells N).length = 2 := rfl
def RwV.rw_ (r : RwV) : Rw := (r.i, r.x)
/-- The reference's rows as they lie. -/
structure RowsIn (w : World) (A : Option Addr) (n N : Nat) (vs : List RwV) : Prop where
  rd : Rd w 2 A n (vs.flatMap (RwV.cells N))
  each : ∀ r ∈ vs, Rd w 2 r.a N (r.x.flatMap frC) ∧ (N ≤ r.c ∧ r.c ≤ 9223372036854775807) ∧ r.x.length = N
theorem RowsIn.gr {w w' : World} {A : Option Addr} {n N : Nat} {vs : List RwV} (h : RowsIn w A n N vs) (g : Gr w w') : RowsIn w' A n N vs := ⟨h.rd.gr g, fun r hr => ⟨(h.each r hr).1.gr g, (h.each r hr).2⟩⟩
theorem RowsIn.len {w : World} {A : Option Addr} {n N : Nat} {vs : List RwV} (h : RowsIn w A n N vs) : vs.length = n := by
  have := h.rd.len
  rw [flatMap_len (RwV.clen N)] at this
  omega
theorem RowsIn.at_ {w : World} {A : Option Addr} {n N : Nat} {vs : List RwV} (h : RowsIn w A n N vs) {k : Nat} (hk : k < n) :
    k < vs.length ∧ ∃ b off, A = some ⟨b, off, none⟩ ∧ b < w.heap.size ∧ w.cell? ⟨b, off + k * 2, none⟩ = some (.int .i64 vs[k]!.i) ∧ w.cell? ⟨b, off + k * 2 + 1, none⟩ = some (.slice vs[k]!.a N vs[k]!.c) := by
  have hk' : k < vs.length := by rw [h.len]; exact hk
  obtain ⟨b, off, e, hb, hc⟩ := h.rd.at_ (by omega)
  have g : ∀ j, j < 2 → (vs.flatMap (RwV.cells N))[k * 2 + j]? = (vs[k]!.cells N)[j]? := fun j hj => flatMap_get (RwV.clen N) hk' hj
  refine ⟨hk', b, off, e, hb, hc (k * 2) _ (by rw [← Nat.add_zero (k * 2), g 0 (by omega)]; rfl), ?_⟩
  rw [Nat.add_assoc]
  exact hc (k * 2 + 1) _ (by rw [g 1 (by omega)]; rfl)

set_option maxRecDepth 100000 in
set_option maxHeartbeats 4000000 in
theorem leads_any (A : Option Addr) (n c N : Nat) (vs : List RwV) (q : Int) (w : World) (h : RowsIn w A n N vs) (hn : n ≤ 1000) :
    Calls Try.prog 55 #[.slice A n c, .int .i64 q] w fun e w' => e = .returned (.int .i64 (fidx (fun r : RwV => decide ((r.i : Int) = q)) vs)) ∧ Gr w w' := by
  have HR := hid h
  have hl := h.len
  have hnz : (n : Int) ≤ 1000 := by omega
  clear h
  go_enter Try.func55, Try.ntmps55
  go_wp2_with fail
  go_loopg [5] n (fun gg s5 wr => ∃ k : Nat, k ≤ n ∧ n - k ≤ gg ∧ s5 = .int .i64 k ∧ Gr w wr ∧ ∀ j, j < k → decide ((vs[j]!.i : Int) = q) = false)
  case atStart => exact ⟨0, Nat.zero_le _, by omega, rfl, Gr.refl w, fun j hj => absurd hj (by omega)⟩
  case round =>
    obtain ⟨k, hk, hgk, rfl, BW, hno⟩ := hrel
    by_cases hkl : k < n
    · have hkn : (k : Int) < (n : Int) := by omega
      have hk0 : (0 : Int) ≤ (k : Int) := by omega
      obtain ⟨hk', b, off, rfl, hbl, c0, c1⟩ := (HR.out.gr BW).at_ hkl
      have hNo := hid hno
      by_cases he : (vs[k]!.i : Int) = q
      · have HF := hid (fidx_hit (p := fun r : RwV => decide ((r.i : Int) = q)) hk' (by simpa using he) hno)
        clear hno
        rw [he] at c0
        go_wp2
        go_ret
        exact ⟨by rw [HF.out]; rfl, BW⟩
      · have hno2 : ∀ j, j < k + 1 → decide ((vs[j]!.i : Int) = q) = false := by
          intro j hj
          rcases Nat.lt_or_eq_of_le (Nat.le_of_lt_succ hj) with h | rfl
          · exact hno j h
          · simpa using he
        have HN2 := hid hno2
        clear hno hno2
        obtain ⟨z, hz⟩ : ∃ z, (vs[k]!.i : Int) = z := ⟨_, rfl⟩
        rw [hz] at c0 he
        clear hz
        go_wp2_with fail
        go_roundg (n - (k + 1))
        case measure => omega
        case rel => exact ⟨k + 1, by omega, by omega, by go_num, BW, HN2.out⟩
    · have hkn : ¬ (k : Int) < (n : Int) := by omega
      have HF := hid (fidx_miss (p := fun r : RwV => decide ((r.i : Int) = q)) (zs := vs) (fun j hj => hno j (by omega)))
      clear hno
      go_wp2
      go_ret
      exact ⟨by rw [HF.out]; rfl, BW⟩
set_option maxRecDepth 100000 in
set_option maxHeartbeats 4000000 in
theorem refat_any (A : Option Addr) (n c : Nat) (es : List Sbj) (q : Int) (w : World) (h : SbjsIn w A n es) (hn : n ≤ 1000) :
    Calls Try.prog 60 #[.slice A n c, .int .i64 q] w fun e w' => e = .returned (.int .i64 (fidx (fun s : Sbj => s.id == q) es)) ∧ Gr w w' := by
  have HR := hid h
  have hl := h.len
  have hnz : (n : Int) ≤ 1000 := by omega
  clear h
  go_enter Try.func60, Try.ntmps60
  go_wp2_with fail
  go_loopg [5] n (fun gg s5 wr => ∃ k : Nat, k ≤ n ∧ n - k ≤ gg ∧ s5 = .int .i64 k ∧ Gr w wr ∧ ∀ j, j < k → (es[j]!.id == q) = false)
  case atStart => exact ⟨0, Nat.zero_le _, by omega, rfl, Gr.refl w, fun j hj => absurd hj (by omega)⟩
  case round =>
    obtain ⟨k, hk, hgk, rfl, BW, hno⟩ := hrel
    by_cases hkl : k < n
    · have hkn : (k : Int) < (n : Int) := by omega
      have hk0 : (0 : Int) ≤ (k : Int) := by omega
      obtain ⟨hk', b, off, rfl, hbl, c0, c1⟩ := (HR.out.gr BW).rd.sbj hkl
      by_cases he : es[k]!.id = q
      · have HF := hid (fidx_hit (p := fun s : Sbj => s.id == q) hk' (by simpa using he) hno)
        clear hno
        rw [he] at c0
        go_wp2
        go_ret
        exact ⟨by rw [HF.out]; rfl, BW⟩
      · have hno2 : ∀ j, j < k + 1 → (es[j]!.id == q) = false := by
          intro j hj
          rcases Nat.lt_or_eq_of_le (Nat.le_of_lt_succ hj) with h | rfl
          · exact hno j h
          · simpa using he
        have HN2 := hid hno2
        clear hno hno2
        obtain ⟨z, hz⟩ : ∃ z, es[k]!.id = z := ⟨_, rfl⟩
        rw [hz] at c0 he
        clear hz
        go_wp2_with fail
        go_roundg (n - (k + 1))
        case measure => omega
        case rel => exact ⟨k + 1, by omega, by omega, by go_num, BW, HN2.out⟩
    · have hkn : ¬ (k : Int) < (n : Int) := by omega
      have HF := hid (fidx_miss (p := fun s : Sbj => s.id == q) (zs := es) (fun j hj => hno j (by omega)))
      clear hno
      go_wp2
      go_ret
      exact ⟨by rw [HF.out]; rfl, BW⟩
/-- No subject but the one that leads. -/
def aloneB (n i : Nat) (x : List Rat) : Bool := (List.range n).all fun j => decide (j = i) || decide (cv x j = 0)
set_option maxRecDepth 100000 in
set_option maxHeartbeats 4000000 in
theorem refalone_any (N : Nat) (v : Value) (i n : Nat) (x : List Rat) (w : World) (h : RwIn w N v i x) (hnN : n ≤ N) (hn : N ≤ 1000) :
    Calls Try.prog 56 #[v, .int .i64 n] w fun e w' => e = .returned (.bool (aloneB n i x)) ∧ Gr w w' := by
  obtain ⟨A, c, rfl, ra, ca, hlx⟩ := h
  have HR := hid ra
  have hnz : (N : Int) ≤ 1000 := by omega
  clear ra
  have hr0 := hid (heap_alloc_new w (.cells #[.int .i64 i, .slice A N c] 99))
  go_enter Try.func56, Try.ntmps56
  go_wp2_with fail
  have G0 := hid ((Gr.refl w).alloc (.cells #[.int .i64 i, .slice A N c] 99))
  generalize w.alloc (.cells #[.int .i64 i, .slice A N c] 99) = w0 at *
  obtain ⟨X, hX⟩ : ∃ X, w.heap.size = X := ⟨_, rfl⟩
  rw [hX] at hr0 ⊢
  clear hX
  go_loopg [5] n (fun gg s5 wr => ∃ k : Nat, k ≤ n ∧ n - k ≤ gg ∧ s5 = .int .i64 k ∧ Gr w0 wr ∧ ∀ j, j < k → (decide (j = i) || decide (cv x j = 0)) = true)
  case atStart => exact ⟨0, Nat.zero_le _, by omega, rfl, Gr.refl w0, fun j hj => absurd hj (by omega)⟩
  case round =>
    obtain ⟨k, hk, hgk, rfl, BW, hno⟩ := hrel
    by_cases hkl : k < n
    · have hkn : (k : Int) < (n : Int) := by omega
      have hk0 : (0 : Int) ≤ (k : Int) := by omega
      have hkN : (k : Int) < (N : Int) := by omega
      obtain ⟨hk', b, off, rfl, hbl, c0, c1⟩ := ((HR.out.gr G0.out).gr BW).fr (show k < N by omega)
      have zr := row_gr hr0.out BW
      have x0 := row_cell_at (v := .int .i64 i) zr 0 rfl
      have x1 := row_cell_at (v := .slice (some ⟨b, off, none⟩) N c) zr 1 rfl
      have hcv : cv x k = x[k]! := by rw [cv_lt hk', getElem!_pos x k hk']
      by_cases hz : x[k]!.num = 0
      · have hno2 : ∀ j, j < k + 1 → (decide (j = i) || decide (cv x j = 0)) = true := by
          intro j hj
          rcases Nat.lt_or_eq_of_le (Nat.le_of_lt_succ hj) with h | rfl
          · exact hno j h
          · rw [hcv]
            simp [Rat.num_eq_zero.1 hz]
        have HN2 := hid hno2
        clear hno hno2 zr hcv
        rw [hz] at c0
        by_cases hki : k = i
        · have hki' : (k : Int) = (i : Int) := by omega
          subst hki
          go_wp2_with fail
          go_roundg (n - (k + 1))
          case measure => omega
          case rel => exact ⟨k + 1, by omega, by omega, by go_num, BW, HN2.out⟩
        · have hki' : ¬ (k : Int) = (i : Int) := by omega
          go_wp2_with fail
          go_roundg (n - (k + 1))
          case measure => omega
          case rel => exact ⟨k + 1, by omega, by omega, by go_num, BW, HN2.out⟩
      · by_cases hki : k = i
        · have hno2 : ∀ j, j < k + 1 → (decide (j = i) || decide (cv x j = 0)) = true := by
            intro j hj
            rcases Nat.lt_or_eq_of_le (Nat.le_of_lt_succ hj) with h | rfl
            · exact hno j h
            · simp [hki]
          have HN2 := hid hno2
          clear hno hno2 zr hcv
          subst hki
          go_wp2_with fail
          go_roundg (n - (k + 1))
          case measure => omega
          case rel => exact ⟨k + 1, by omega, by omega, by go_num, BW, HN2.out⟩
        · have hki' : ¬ (k : Int) = (i : Int) := by omega
          have HF : Hid (aloneB n i x = false) := by
            show _ = _
            rw [Bool.eq_false_iff]
            intro h
            unfold aloneB at h
            rw [List.all_eq_true] at h
            have h3 := h k (by simpa using hkl)
            rw [hcv, Bool.or_eq_true] at h3
            rcases h3 with h3 | h3
            · exact hki (of_decide_eq_true h3)
            · exact hz (Rat.num_eq_zero.2 (of_decide_eq_true h3))
          clear hno zr hcv
          generalize x[k]!.num = p at *
          have hq1 : ((k : Int) != (i : Int)) = true := by simpa using hki'
          have hq2 : (p != 0) = true := by simpa using hz
          go_wp2
          go_ret
          exact ⟨by rw [HF.out]; rfl, Gr.trans G0.out BW⟩
    · have hkn : ¬ (k : Int) < (n : Int) := by omega
      have HF : Hid (aloneB n i x = true) := by
        show _ = _
        unfold aloneB
        rw [List.all_eq_true]
        intro j hj
        exact hno j (by have := List.mem_range.1 hj; omega)
      clear hno
      go_wp2
      go_ret
      exact ⟨by rw [HF.out]; rfl, Gr.trans G0.out BW⟩
end Go.Proofs.Ytimhkkijoelmhaa
namespace Go.Proofs.Ytimhkkijoelmhaa
open Go.RowKit

theorem Rd.fr_len {w : World} {A : Option Addr} {n : Nat} {zs : List Rat} (h : Rd w 2 A n (zs.flatMap frC)) : zs.length = n := by
  have hl := h.len
  rw [flatMap_len frC_len] at hl
  omega
set_option maxHeartbeats 400000 in
theorem indexFunc_fr (g : Nat) (lb : Array Value) (eg : ∀ args w, (callFunc g args).run Try.prog w = .ok (.enter g args) w) (p : Rat → Bool) (A : Option Addr) (n c : Nat) (zs : List Rat) (w : World)
    (hp : PredG Try.prog g lb frV p zs w) (hr : Rd w 2 A n (zs.flatMap frC)) (hbig : n ≤ 9223372036854775807) :
    Calls Try.prog 89 #[.slice A n c, .func (.func g) #[] lb] w fun e w' => e = .returned (.int .i64 (fidx p zs)) ∧ Gr w w' := by
  have hl := hr.fr_len
  have HL := hid hl
  clear hl
  go_enter Try.func89, Try.ntmps89
  go_wp2
  go_loopg [5, 8] n (fun gg _ s8 wr => ∃ kk : Nat, kk ≤ n ∧ n - kk ≤ gg ∧ s8 = .int .i64 kk ∧ Gr w wr ∧ Hid (∀ j, j < kk → p zs[j]! = false))
  case atStart => exact ⟨0, Nat.zero_le _, by omega, rfl, Gr.refl w, fun j hj => absurd hj (Nat.not_lt_zero _)⟩
  case round =>
    obtain ⟨kk, hkk, hg, rfl, BW, HA⟩ := hrel
    by_cases hlt : kk < n
    · obtain ⟨hk', b, off, rfl, hb, hcell, hcell1⟩ := (hr.gr BW).fr hlt
      have hcall := hp wr zs[kk]! (mem_get (by have := HL.out; omega)) BW
      unfold frV at hcall
      generalize hy : zs[kk]! = y at hcell hcell1 hcall
      have HY := hid hy
      clear hy
      cases hq : p y with
      | true =>
        rw [hq] at hcall
        have HQ := hid hq
        clear hq
        have HC := hid hcall
        clear hcall
        go_wp2_with (go_at_fn g; refine (HC.out).mono ?_; rintro e w' ⟨rfl, hb'⟩)
        go_ret
        refine ⟨?_, BW.trans hb'⟩
        rw [fidx_hit (k := kk) (by have := HL.out; omega) (by rw [HY.out]; exact HQ.out) HA.out]
        rfl
      | false =>
        rw [hq] at hcall
        have HQ := hid hq
        clear hq
        have HC := hid hcall
        clear hcall
        go_wp2_with (go_at_fn g; refine (HC.out).mono ?_; rintro e w' ⟨rfl, hb'⟩)
        go_roundg (n - (kk + 1))
        case measure => omega
        case rel =>
          refine ⟨kk + 1, by omega, by omega, by go_num, BW.trans hb', hid fun j hj => ?_⟩
          by_cases e : j = kk
          · subst e
            rw [HY.out]; exact HQ.out
          · exact HA.out j (by omega)
    · have hltz : ¬ (kk : Int) < (n : Int) := by omega
      go_wp2
      go_ret
      refine ⟨?_, BW⟩
      rw [fidx_miss (fun j hj => HA.out j (by have := HL.out; omega))]
      rfl


theorem find_any (g : Nat) (lb : Array Value) (eg : ∀ args w, (callFunc g args).run Try.prog w = .ok (.enter g args) w) (p : Rat → Bool) (A : Option Addr) (n c : Nat) (zs : List Rat) (w : World)
    (hp : PredG Try.prog g lb frV p zs w) (hr : Rd w 2 A n (zs.flatMap frC)) (hbig : n ≤ 9223372036854775807) :
    Calls Try.prog 62 #[.slice A n c, .func (.func g) #[] lb] w fun e w' => e = .returned (.int .i64 (fidx p zs)) ∧ Gr w w' := by
  have H := hid (indexFunc_fr g lb eg p A n c zs w hp hr hbig)
  clear hp hr eg
  go_enter Try.func62, Try.ntmps62
  go_wp2_with (go_at_call 89; refine H.out.mono ?_; rintro e w' ⟨rfl, hb'⟩)
  go_ret
  exact ⟨rfl, hb'⟩

set_option maxHeartbeats 1000000 in
theorem some3_any (f : Rat) (w : World) : Calls Try.prog 80 #[frV f] w fun e w' => e = .returned (.bool (!decide (f = 0))) ∧ Gr w w' := by
  have HN := hid (fun W => none_any f W)
  unfold frV at *
  generalize f.num = a at *
  generalize (f.den : Int) = b at *
  generalize decide (f = 0) = z at *
  go_enter Try.func80, Try.ntmps80
  go_wp2_with (first | (go_at_call 64; (with_reducible refine (HN.out _).mono ?_); rotate_right; rintro e w1 ⟨rfl, hbw1⟩; obtain ⟨hcw1, hfw1, hzw1⟩ := hbw1.rules; (try simp at hzw1); have hzw1_0 : w.heap.size < w1.heap.size := (by omega); have hyw1_0 : w.heap.size ≤ w1.heap.size := (by omega)))
  go_ret
  exact ⟨rfl, by (repeat (first | with_reducible exact Gr.refl _ | with_reducible refine Gr.trans ?_ hbw1 | with_reducible refine Gr.alloc ?_ _ | with_reducible refine Gr.setCell ?_ (by simp) _ | with_reducible refine Gr.setCell ?_ (by simp; omega) _ | with_reducible refine Gr.drew ?_ | with_reducible refine Gr.drewN ?_ _))⟩
set_option maxHeartbeats 1000000 in
theorem someH_any (f : Rat) (w : World) : Calls Try.prog 63 #[frV f] w fun e w' => e = .returned (.bool (!decide (f = 0))) ∧ Gr w w' := by
  have HN := hid (fun W => none_any f W)
  unfold frV at *
  generalize f.num = a at *
  generalize (f.den : Int) = b at *
  generalize decide (f = 0) = z at *
  go_enter Try.func63, Try.ntmps63
  go_wp2_with (first | (go_at_call 64; (with_reducible refine (HN.out _).mono ?_); rotate_right; rintro e w1 ⟨rfl, hbw1⟩; obtain ⟨hcw1, hfw1, hzw1⟩ := hbw1.rules; (try simp at hzw1); have hzw1_0 : w.heap.size < w1.heap.size := (by omega); have hyw1_0 : w.heap.size ≤ w1.heap.size := (by omega)))
  go_ret
  exact ⟨rfl, by (repeat (first | with_reducible exact Gr.refl _ | with_reducible refine Gr.trans ?_ hbw1 | with_reducible refine Gr.alloc ?_ _ | with_reducible refine Gr.setCell ?_ (by simp) _ | with_reducible refine Gr.setCell ?_ (by simp; omega) _ | with_reducible refine Gr.drew ?_ | with_reducible refine Gr.drewN ?_ _))⟩
/-- The first that is not 0. -/
theorem find3_any (A : Option Addr) (n c : Nat) (zs : List Rat) (w : World) (hr : Rd w 2 A n (zs.flatMap frC)) (hbig : n ≤ 9223372036854775807) :
    Calls Try.prog 62 #[.slice A n c, .func (.func 80) #[] #[]] w fun e w' => e = .returned (.int .i64 (fidx (fun f => !decide (f = 0)) zs)) ∧ Gr w w' :=
  find_any 80 #[] (enters_of Try.func80 (by kernel_rfl) rfl) _ A n c zs w (fun W x _ _ => some3_any x W) hr hbig
theorem findH_any (A : Option Addr) (n c : Nat) (zs : List Rat) (w : World) (hr : Rd w 2 A n (zs.flatMap frC)) (hbig : n ≤ 9223372036854775807) :
    Calls Try.prog 62 #[.slice A n c, .func (.func 63) #[] #[]] w fun e w' => e = .returned (.int .i64 (fidx (fun f => !decide (f = 0)) zs)) ∧ Gr w w' :=
  find_any 63 #[] (enters_of Try.func63 (by kernel_rfl) rfl) _ A n c zs w (fun W x _ _ => someH_any x W) hr hbig
end Go.Proofs.Ytimhkkijoelmhaa
