/- state of the package inquiry: whether a file is frozen, and has an alert. For every slice of signals. (Printed by gen_state.py.) -/
import Derived.Test.YtliehlefpodhaaaDoorOUntil
import Derived.Test.YtliehlefpodhaaaDoorOMix
namespace Go.Proofs.YtliehlefpodhaaaDoor
open Go.RowKit Go.Shelf Go.Sort
attribute [local go_sem] Oper.semAt_some

/-- The boxes of state: the day, whether it is frozen, and the latest freeze or thaw. -/
def StF (w W : World) (F : Nat) (f : Sig) (now : Int) (r : Bool) : Prop :=
  Boxed W w.heap.size 3 (.int .i64 now) ∧ Boxed W (w.heap.size + 1) 4 (.bool r) ∧ W.heap[F]? = some (.cells f.cells.toArray 67 (0, 0)) ∧ w.heap.size + 1 < F ∧ Below w.heap.size w W
theorem StF.gr {w W W' : World} {F : Nat} {f : Sig} {now : Int} {r : Bool} (h : StF w W F f now r) (g : Gr W W') : StF w W' F f now r := by
  obtain ⟨b1, b2, b3, hF, hb⟩ := h
  exact ⟨boxed_gr b1 g, boxed_gr b2 g, row_gr b3 g, hF, Gr.trans (show Gr w W from hb) g⟩
theorem StF.set {w W : World} {F : Nat} {f : Sig} {now : Int} {r : Bool} (h : StF w W F f now r) (r' : Bool) : StF w (W.setCell ⟨w.heap.size + 1, 0, none⟩ (.bool r')) F f now r' := by
  obtain ⟨b1, b2, b3, hF, hb⟩ := h
  exact ⟨Boxed.other b1 (by omega) _, Boxed.set _ b2, (Below.heap_setCell _ _ _ _ (by simp; omega)).trans b3, hF, Gr.setCell (show Gr w W from hb) (p := ⟨w.heap.size + 1, 0, none⟩) (by simp) _⟩
def StI (w : World) (N F : Nat) (f : Sig) (now : Int) (R : List Sig → Bool) (pre : List Sig) (W : World) : Prop := StF w W F f now (R pre) ∧ N ≤ W.heap.size
theorem stI_own (w : World) (N F : Nat) (f : Sig) (now : Int) (R : List Sig → Bool) {B : Nat} (hB : w.heap.size ≤ B) : OwnFrom B (StI w N F f now R) := by
  rintro s X Y row ⟨⟨b1, b2, b3, hF, hb⟩, hN⟩ hg hr
  have hr' : ∀ r, row = some r → ∃ o : Obj, X.heap[r]? = some o ∧ o.isCells = false := fun r e => (hr r e).2
  exact ⟨⟨row_kept b1 hg hr', row_kept b2 hg hr', row_kept b3 hg hr', hF, ownFrom_below (β := Unit) (Nat.le_refl _) hB () X Y row hb hg hr⟩, Nat.le_trans hN hg.size⟩
theorem StF.start {w w2 : World} {now : Int} {r r0 : Bool} (y : Sig) (n2 : Boxed w2 w.heap.size 3 (.int .i64 now)) (b2 : Boxed w2 (w.heap.size + 1) 4 (.bool r)) (G2 : Gr w w2) :
    StF w ((w2.setCell ⟨w.heap.size + 1, 0, none⟩ (.bool r0)).alloc (.cells y.cells.toArray 67)) w2.heap.size y now r0 := by
  refine ⟨(Boxed.other n2 (by omega) _).alloc _, (Boxed.set _ b2).alloc _, ?_, b2.lt, (G2.setCell (p := ⟨w.heap.size + 1, 0, none⟩) (by simp) _).alloc _⟩
  have h := heap_alloc_new (w2.setCell ⟨w.heap.size + 1, 0, none⟩ (.bool r0)) (.cells y.cells.toArray 67)
  simpa using h
/-- A world, or the same behind a store of what a cell holds. -/
structure HasW (Wd : World) (B : Nat) (r : Bool) where
  W : World
  is : W = Wd ∨ W = Wd.setCell ⟨B, 0, none⟩ (.bool r)
instance (Wd : World) (B : Nat) (r : Bool) : Inhabited (HasW Wd B r) := ⟨⟨Wd, .inl rfl⟩⟩
theorem HasW.cell_ne {Wd : World} {B : Nat} {r : Bool} (p : HasW Wd B r) {b o : Nat} {v : Value} (h : Wd.cell? ⟨b, o, none⟩ = some v) (hb : b ≠ B) : p.W.cell? ⟨b, o, none⟩ = some v := by
  rcases p.is with e | e
  · rw [e]; exact h
  · rw [e, World.cell?_setCell_other _ _ _ _ (fun e => hb (congrArg Addr.block e).symm)]; exact h
theorem HasW.cell_eq {Wd : World} {B : Nat} {r : Bool} {t : TypeId} (h : Boxed Wd B t (.bool r)) (p : HasW Wd B r) : p.W.cell? ⟨B, 0, none⟩ = some (.bool r) := by
  rcases p.is with e | e
  · rw [e]; exact Boxed.cell h
  · rw [e]; exact Boxed.cell (Boxed.set _ h)
/-- A slice of kinds that was just made. -/
theorem kinds_two (W : World) (a b : Int) (t : TypeId) (k : Nat) (hk : k = W.heap.size) : Rd (W.alloc (.cells #[.int .u8 a, .int .u8 b] t)) 1 (some ⟨k, 0, none⟩) 2 ([a, b].map (Value.int .u8)) := by
  subst hk
  exact Rd.two (by simp) (cell_top W _ t _ 0 rfl) (cell_top W _ t _ 1 rfl)
theorem kinds_one (W : World) (a : Int) (t : TypeId) (k : Nat) (hk : k = W.heap.size) : Rd (W.alloc (.cells #[.int .u8 a] t)) 1 (some ⟨k, 0, none⟩) 1 ([a].map (Value.int .u8)) := by
  subst hk
  exact Rd.one (by simp) (cell_top W _ t _ 0 rfl)

theorem un_facts {w W w1 : World} {A : Option Addr} {n c : Nat} {zs : List Sig} {file now : Int} {k m : Nat} {ks : List Int} {o : Obj} (hk : k = W.heap.size) (hG : Gr w W) (hI : SigsIn w A n zs) (hA : ∀ b o, A = some ⟨b, o, none⟩ → b < w.heap.size)
    (hR : Rd (W.alloc o) 1 (some ⟨k, 0, none⟩) m (ks.map (Value.int .u8)))
    (hu : Gr (W.alloc o) w1 ∧ w1.heap.size = k + 1 + 4 ∧ UnBox w1 (k + 1) A n c file now (some ⟨k, 0, none⟩) m m) :
    UnBox w1 (k + 1) A n c file now (some ⟨k, 0, none⟩) m m ∧ k + 1 + 3 < w1.heap.size ∧ SigsIn w1 A n zs ∧ (∀ b o, A = some ⟨b, o, none⟩ → b < w1.heap.size) ∧ Rd w1 1 (some ⟨k, 0, none⟩) m (ks.map (Value.int .u8)) ∧ (∀ b o, (some ⟨k, 0, none⟩ : Option Addr) = some ⟨b, o, none⟩ → b < w1.heap.size) ∧ Gr w w1 := by
  subst hk
  obtain ⟨g, hz, hb⟩ := hu
  have G : Gr w w1 := (hG.alloc o).trans g
  exact ⟨hb, by omega, hI.gr G, fun b o e => Nat.lt_of_lt_of_le (hA b o e) G.size, hR.gr g, fun b o e => by cases e; omega, G⟩
theorem latUntil_any (file last : Int) (ks : List Int) (zs : List Sig) (A : Option Addr) (n c : Nat) (K : Option Addr) (m kc : Nat) (g : Nat) (W : World) (hB : UnBox W g A n c file last K m kc) (hg : g + 3 < W.heap.size) (hZ : SigsIn W A n zs)
    (hA : ∀ b o, A = some ⟨b, o, none⟩ → b < W.heap.size) (hn : n < 1000) (hK : Rd W 1 K m (ks.map (Value.int .u8))) (hKb : ∀ b o, K = some ⟨b, o, none⟩ → b < W.heap.size) (hm : m ≤ 1000) :
    Calls Tryd.prog 75 #[.func (.func 95) #[] #[.pointer (some ⟨g, 0, none⟩), .pointer (some ⟨g + 1, 0, none⟩), .pointer (some ⟨g + 2, 0, none⟩), .pointer (some ⟨g + 3, 0, none⟩)], .func (.func 77) #[] #[]] W fun e w' =>
      e = .returned (.tuple #[((latestS (zs.filter (selB file last ks))).getD default).val, .bool (latestS (zs.filter (selB file last ks))).isSome]) ∧ Gr W w' :=
  latest_any _ 95 _ (enters_of Tryd.func95 (by kernel_rfl) rfl) W
    (until_stops (fun k => k < W.heap.size) file last ks zs 2 (by omega) g A n c K m kc W (fun _ h => h) hB ⟨by omega, by omega, by omega, hg⟩ hZ hA hn hK hKb hm)

set_option maxRecDepth 100000 in
set_option maxHeartbeats 4000000 in
theorem state_any (A : Option Addr) (n c : Nat) (zs : List Sig) (file now : Int) (w : World) (hi : SigsIn w A n zs) (hA : ∀ b o, A = some ⟨b, o, none⟩ → b < w.heap.size) (h1000 : n < 1000) :
    Calls Tryd.prog 62 #[.slice A n c, .int .i64 file, .int .i64 now] w fun e w' => e = .returned (.tuple #[.bool (frozenB zs file now), .bool (alertB zs file now)]) ∧ Gr w w' := by
  have HI := hid hi
  have HA := hid hA
  clear hi hA
  obtain ⟨o, ho⟩ : ∃ o, latestS (zs.filter (selB file now [1, 2])) = o := ⟨_, rfl⟩
  obtain ⟨o2, ho2⟩ : ∃ o, latestS (zs.filter (selB file now [4, 5])) = o := ⟨_, rfl⟩
  have HF : Hid (frozenB zs file now = frz o now (zs.filter (selB file now [3]))) := by show frozenB zs file now = _; rw [← ho]; exact (frz_all zs file now).symm
  have HL : Hid (alertB zs file now = alr o2 now) := by show alertB zs file now = _; rw [← ho2]; exact (alr_all zs file now).symm
  have HT := hid (fun K kc g W hB hg hZ hA hK hKb => ho ▸ latUntil_any file now [1, 2] zs A n c K 2 kc g W hB hg hZ hA h1000 hK hKb (by omega))
  have HT2 := hid (fun K kc g W hB hg hZ hA hK hKb => ho2 ▸ latUntil_any file now [4, 5] zs A n c K 2 kc g W hB hg hZ hA h1000 hK hKb (by omega))
  clear ho ho2
  obtain ⟨y, hy⟩ : ∃ y, o.getD default = y := ⟨_, rfl⟩
  obtain ⟨sm, hsm⟩ : ∃ b, o.isSome = b := ⟨_, rfl⟩
  obtain ⟨a, ha⟩ : ∃ a, o2.getD default = a := ⟨_, rfl⟩
  obtain ⟨sa, hsa⟩ : ∃ b, o2.isSome = b := ⟨_, rfl⟩
  have HS0 : Hid (frz o now [] = (sm && y.kind == 1)) := by show frz o now [] = _; unfold frz; rw [hy, hsm]; simp
  have HSS : Hid (∀ pre x, frz o now (pre ++ [x]) = (frz o now pre && !(laterB x y && decide (now ≤ x.till)))) := by intro pre x; rw [frz_snoc, hy]
  have HLA : Hid (alertB zs file now = (sa && (a.kind == 4) && decide (now ≤ a.till))) := by show alertB zs file now = _; rw [HL.out]; unfold alr; rw [ha, hsa]
  rw [hy, hsm] at HT
  rw [ha, hsa] at HT2
  clear hy hsm ha hsa HL
  obtain ⟨y0, y1, y2, y3, y4, y5⟩ := y
  obtain ⟨a0, a1, a2, a3, a4, a5⟩ := a
  have HO := hid (fun x W => order_any x ⟨y0, y1, y2, y3, y4, y5⟩ W)
  have HR := hid (fun x => by3_pos x ⟨y0, y1, y2, y3, y4, y5⟩)
  unfold Sig.val at HT HT2
  dsimp only at HT HT2 HS0 HLA
  refine (callsIn_wide (n := 3)).1 ?_
  refine callsIn_of_wp_marks Tryd.func62 rfl trivial ?_ rfl
  simp only [Tryd.ntmps62, List.size_toArray, List.length_cons, List.length_nil, Nat.reduceAdd, Nat.reduceSub, Array.replicate_succ, Array.replicate_zero, List.push_toArray, List.append_toArray, List.nil_append, List.cons_append]
  cases sm with
  | false =>
    gi_wp2_with (first
      | ((with_reducible refine And.intro ?_ ?_); first | exact trivial | (intro _ hx; cases hx; done))
      | (gi_at_call 76; refine (callsIn_wide.2 (until_any _ _ _ _ _ _ _ _ _)).mono ?_; rintro e w1 ⟨rfl, hu⟩; simp only [World.size_alloc] at hu; have hF := un_facts (k := w.heap.size + 1 + 1) (by simp) (((Gr.refl w).alloc _).alloc _) HI.out HA.out (kinds_two _ 1 2 _ _ (by simp)) hu; have HN := hid (boxed_gr (((Boxed.new w 3 (.int .i64 now)).alloc _).alloc _) hu.1); have HB := hid (boxed_gr ((Boxed.new (w.alloc _) 4 (.bool false)).alloc _) hu.1); have HU := hid hF; clear hu hF)
      | (gi_at_call 75; refine (callsIn_wide.2 (HT.out _ 2 _ _ HU.out.1 HU.out.2.1 HU.out.2.2.1 HU.out.2.2.2.1 HU.out.2.2.2.2.1 HU.out.2.2.2.2.2.1)).mono ?_; rintro e w2 ⟨rfl, hl⟩; have n2 := boxed_gr HN.out hl; have b2 := boxed_gr HB.out hl; simp only [World.size_alloc] at b2; have k0 := Boxed.cell n2; have k1 := Boxed.cell b2; have k2 := Boxed.frozen b2; have z1 := Boxed.lt n2; have z2 := Boxed.lt b2; have G2 := hid (Gr.trans HU.out.2.2.2.2.2.2 hl); have H2 := hid (And.intro n2 b2); clear hl n2 b2)
      | (gi_at_call 76; refine (callsIn_wide.2 (until_any _ _ _ _ _ _ _ _ _)).mono ?_; rintro e w3 ⟨rfl, hu⟩; simp only [World.size_alloc, World.size_setCell] at hu; have hF := un_facts (k := w2.heap.size + 1) (by simp) ((Gr.setCell G2.out (p := ⟨w.heap.size + 1, 0, none⟩) (by simp) _).alloc _) HI.out HA.out (kinds_one _ 3 _ _ (by simp)) hu; have HS := hid (StF.gr (StF.start ⟨y0, y1, y2, y3, y4, y5⟩ H2.out.1 H2.out.2 G2.out) (((Gr.refl _).alloc _).trans hu.1)); have HU3 := hid hF; clear hu hF))
    obtain ⟨u1, u2, u3, u4, u5, u6, u7⟩ := HU3.out
    have hI0 : StI w w3.heap.size w2.heap.size ⟨y0, y1, y2, y3, y4, y5⟩ now (frz o now) [] w3 := ⟨by rw [HS0.out]; exact HS.out, Nat.le_refl _⟩
    have HUs := hid (until_stops (fun k => k ≠ w.heap.size + 1 ∧ k < w3.heap.size) file now [3] zs 2 (by omega) (w2.heap.size + 1 + 1) A n c _ 1 1 w3 (fun _ h => h.2) u1 ⟨⟨by omega, by omega⟩, ⟨by omega, by omega⟩, ⟨by omega, by omega⟩, ⟨by omega, by omega⟩⟩ u3 (fun b o e => ⟨by have := HA.out b o e; omega, u4 b o e⟩) h1000 u5 (fun b o e => ⟨by cases e; omega, u6 b o e⟩) (by omega))
    have z3 := Gr.size u7
    clear u1 u2 u3 u4 u5 u6 u7 HT HU HN HB k0 k1 k2 z1 H2 G2
    refine wpIn_rangeFunc_ownH rfl (by omega) (gf := 95) (lb := #[.pointer (some ⟨w2.heap.size + 1 + 1, 0, none⟩), .pointer (some ⟨w2.heap.size + 1 + 1 + 1, 0, none⟩), .pointer (some ⟨w2.heap.size + 1 + 1 + 1 + 1, 0, none⟩), .pointer (some ⟨w2.heap.size + 1 + 1 + 1 + 1 + 1, 0, none⟩)]) rfl trivial (enters_of Tryd.func95 (by kernel_rfl) rfl) (w0 := w3) HUs.out kpt_t (fun W l o o' hl => kpt_b (w := w3) (fun _ h => h.2) W l o o' hl) (Below.refl _ _) (fun _ => rfl)
      (StI w w3.heap.size w2.heap.size ⟨y0, y1, y2, y3, y4, y5⟩ now (frz o now)) (fun _ _ _ => False) (stI_own w _ _ _ now _ z3) (fun c => fun _ _ _ _ h _ _ => h) hI0
      (fun x a' W => ∃ Bx, w.heap.size + 1 < Bx ∧ W.heap[Bx]? = some (.cells x.cells.toArray 67 (0, 0)) ∧ a' = { tmps := #[.slice A n c, .int .i64 file, .int .i64 now, undef, undef, .pointer (some ⟨w.heap.size, 0, none⟩), .pointer (some ⟨w.heap.size + 1, 0, none⟩), .bool false, .pointer (some ⟨w2.heap.size, 0, none⟩), .bool false, .pointer (some ⟨Bx, 0, none⟩), undef, .tuple #[.agg #[.int .i64 y0, .int .i64 y1, .int .i64 y2, .int .i64 y3, .int .u8 y4, .int .i64 y5], .bool false], .slice A n c, .int .i64 file, .int .i64 now, .slice (some ⟨w.heap.size + 1 + 1, 0, none⟩) 2 2, .func (.func 95) #[] #[.pointer (some ⟨w.heap.size + 1 + 1 + 1, 0, none⟩), .pointer (some ⟨w.heap.size + 1 + 1 + 1 + 1, 0, none⟩), .pointer (some ⟨w.heap.size + 1 + 1 + 1 + 1 + 1, 0, none⟩), .pointer (some ⟨w.heap.size + 1 + 1 + 1 + 1 + 1 + 1, 0, none⟩)], .tuple #[.agg #[.int .i64 y0, .int .i64 y1, .int .i64 y2, .int .i64 y3, .int .u8 y4, .int .i64 y5], .bool false], .agg #[.int .i64 y0, .int .i64 y1, .int .i64 y2, .int .i64 y3, .int .u8 y4, .int .i64 y5], .bool false, .bool false, .bool false, undef, undef, undef, .bool false, .slice A n c, .int .i64 file, .int .i64 now, .slice (some ⟨w2.heap.size + 1, 0, none⟩) 1 1, .func (.func 95) #[] #[.pointer (some ⟨w2.heap.size + 1 + 1, 0, none⟩), .pointer (some ⟨w2.heap.size + 1 + 1 + 1, 0, none⟩), .pointer (some ⟨w2.heap.size + 1 + 1 + 1 + 1, 0, none⟩), .pointer (some ⟨w2.heap.size + 1 + 1 + 1 + 1 + 1, 0, none⟩)], x.val, undef, undef, undef, undef, undef, undef, undef, undef, undef, undef, undef, undef, undef, undef, undef, undef, undef, undef, undef, undef, undef, undef, undef, undef, undef, undef, undef, undef, undef, undef, undef, undef], defers := [] })
      (fun x a' _ X Y row hs hg hr => by obtain ⟨Bx, e1, e2, e3⟩ := hs; exact ⟨Bx, e1, row_kept e2 hg (fun r e => (hr r e).2), e3⟩)
      ?assign ?body ?done ?stop
    case assign =>
      rintro l pre x W K hL hK
      have hl := hL.1.2.1.lt
      have hz := hL.2
      have HK := hid (hK { tmps := #[.slice A n c, .int .i64 file, .int .i64 now, undef, undef, .pointer (some ⟨w.heap.size, 0, none⟩), .pointer (some ⟨w.heap.size + 1, 0, none⟩), .bool false, .pointer (some ⟨w2.heap.size, 0, none⟩), .bool false, .pointer (some ⟨W.heap.size, 0, none⟩), undef, .tuple #[.agg #[.int .i64 y0, .int .i64 y1, .int .i64 y2, .int .i64 y3, .int .u8 y4, .int .i64 y5], .bool false], .slice A n c, .int .i64 file, .int .i64 now, .slice (some ⟨w.heap.size + 1 + 1, 0, none⟩) 2 2, .func (.func 95) #[] #[.pointer (some ⟨w.heap.size + 1 + 1 + 1, 0, none⟩), .pointer (some ⟨w.heap.size + 1 + 1 + 1 + 1, 0, none⟩), .pointer (some ⟨w.heap.size + 1 + 1 + 1 + 1 + 1, 0, none⟩), .pointer (some ⟨w.heap.size + 1 + 1 + 1 + 1 + 1 + 1, 0, none⟩)], .tuple #[.agg #[.int .i64 y0, .int .i64 y1, .int .i64 y2, .int .i64 y3, .int .u8 y4, .int .i64 y5], .bool false], .agg #[.int .i64 y0, .int .i64 y1, .int .i64 y2, .int .i64 y3, .int .u8 y4, .int .i64 y5], .bool false, .bool false, .bool false, undef, undef, undef, .bool false, .slice A n c, .int .i64 file, .int .i64 now, .slice (some ⟨w2.heap.size + 1, 0, none⟩) 1 1, .func (.func 95) #[] #[.pointer (some ⟨w2.heap.size + 1 + 1, 0, none⟩), .pointer (some ⟨w2.heap.size + 1 + 1 + 1, 0, none⟩), .pointer (some ⟨w2.heap.size + 1 + 1 + 1 + 1, 0, none⟩), .pointer (some ⟨w2.heap.size + 1 + 1 + 1 + 1 + 1, 0, none⟩)], x.val, undef, undef, undef, undef, undef, undef, undef, undef, undef, undef, undef, undef, undef, undef, undef, undef, undef, undef, undef, undef, undef, undef, undef, undef, undef, undef, undef, undef, undef, undef, undef, undef], defers := [] } (W.alloc (.cells x.cells.toArray 67))
        ((KeepsOthers.alloc _ _).from _) (Kpt.of_gr ((Gr.refl W).alloc _) (fun k h => Nat.lt_of_lt_of_le h.2 hz)) ((stI_own w _ _ _ now _ (Nat.le_refl _)).alloc _ hL) ⟨W.heap.size, hl, by simpa using World.alloc_heap_new W (.cells x.cells.toArray 67), rfl⟩)
      clear hK hL
      obtain ⟨x0, x1, x2, x3, x4, x5⟩ := x
      unfold Sig.val Sig.cells at *
      dsimp only at *
      gi_wp2
      exact HK.out
    case body =>
      rintro l pre x a' W hl ⟨r, hr⟩ hL ⟨Bx, hBx, dX, rfl⟩ hlt
      have HL := hid hL
      have HQ := hid (HSS.out pre x)
      obtain ⟨⟨b1, b2, b3, hF, hb⟩, hN⟩ := hL
      have HR := hid (HR.out x)
      have HO := hid (HO.out x)
      have HX := hid dX
      clear HUs hI0 HSS hr
      obtain ⟨x0, x1, x2, x3, x4, x5⟩ := x
      unfold Sig.cells at dX HX b3
      unfold Sig.val at HO ⊢
      dsimp only at dX HX HO HQ b3 ⊢
      obtain ⟨c0, c1, c2, c3, c4, c5⟩ := cellsat6 dX
      obtain ⟨d0, d1, d2, d3, d4, d5⟩ := cellsat6 b3
      clear dX b1 b2 b3 hb
      generalize byN [Sig.day, Sig.bureau, Sig.id] ⟨x0, x1, x2, x3, x4, x5⟩ ⟨y0, y1, y2, y3, y4, y5⟩ = rr at HO HR
      by_cases hpos : 0 < rr
      case neg =>
        have HLT : Hid (laterB ⟨x0, x1, x2, x3, x4, x5⟩ ⟨y0, y1, y2, y3, y4, y5⟩ = false) := by
          show laterB _ _ = false
          rw [← HR.out]; simpa using hpos
        clear HR
        gi_wp2_with (first
          | ((with_reducible refine And.intro ?_ ?_); first | exact trivial | (intro _ hx; cases hx; done))
          | (gi_at_call 77; refine (CallsIn.inRound l (callsIn_wide.2 (HO.out _))).mono ?_; rintro e w4 ⟨rfl, hb1⟩; have HG := hid hb1.gr; clear hb1))
        exact ⟨(keeps_of_gr HG.out).from _, Kpt.of_gr HG.out (fun k h => Nat.lt_of_lt_of_le h.2 hN), by rw [HQ.out, HLT.out]; simpa using StF.gr HL.out.1 HG.out, Nat.le_trans hN (Gr.size HG.out)⟩
      case pos =>
        have HLT : Hid (laterB ⟨x0, x1, x2, x3, x4, x5⟩ ⟨y0, y1, y2, y3, y4, y5⟩ = true) := by
          show laterB _ _ = true
          rw [← HR.out]; simpa using hpos
        clear HR
        by_cases htill : now ≤ x5
        case neg =>
          have HTL : Hid (decide (now ≤ x5) = false) := by show decide (now ≤ x5) = false; simpa using htill
          gi_wp2_with (first
            | ((with_reducible refine And.intro ?_ ?_); first | exact trivial | (intro _ hx; cases hx; done))
            | (gi_at_call 77; refine (CallsIn.inRound l (callsIn_wide.2 (HO.out _))).mono ?_; rintro e w4 ⟨rfl, hb1⟩; obtain ⟨e0, e1, e2, e3, e4, e5⟩ := cellsat6 (row_gr HX.out hb1.gr); have k4 := Boxed.cell (boxed_gr HL.out.1.1 hb1.gr); have HG := hid hb1.gr; clear hb1))
          exact ⟨(keeps_of_gr HG.out).from _, Kpt.of_gr HG.out (fun k h => Nat.lt_of_lt_of_le h.2 hN), by rw [HQ.out, HLT.out, HTL.out]; simpa using StF.gr HL.out.1 HG.out, Nat.le_trans hN (Gr.size HG.out)⟩
        case pos =>
          have HTL : Hid (decide (now ≤ x5) = true) := by show decide (now ≤ x5) = true; simpa using htill
          gi_wp2_with (first
            | ((with_reducible refine And.intro ?_ ?_); first | exact trivial | (intro _ hx; cases hx; done))
            | (gi_at_call 77; refine (CallsIn.inRound l (callsIn_wide.2 (HO.out _))).mono ?_; rintro e w4 ⟨rfl, hb1⟩; obtain ⟨e0, e1, e2, e3, e4, e5⟩ := cellsat6 (row_gr HX.out hb1.gr); have k4 := Boxed.cell (boxed_gr HL.out.1.1 hb1.gr); have k5 := Boxed.cell (boxed_gr HL.out.1.2.1 hb1.gr); have k6 := Boxed.frozen (boxed_gr HL.out.1.2.1 hb1.gr); have HG := hid hb1.gr; clear hb1))
          exact ⟨((keeps_of_gr HG.out).trans (KeepsOthers.setCell _ _ _)).from _, (Kpt.of_gr HG.out (fun k h => Nat.lt_of_lt_of_le h.2 hN)).setCell (p := ⟨w.heap.size + 1, 0, none⟩) (by simp) _, by rw [HQ.out, HLT.out, HTL.out]; simpa using StF.set (StF.gr HL.out.1 HG.out) false, by rw [World.size_setCell]; exact Nat.le_trans hN (Gr.size HG.out)⟩
    case done =>
      rintro D ys W hD rfl hL hK
      have HV : Hid (frz o now (zs.filter (selB file now [3])) = frozenB zs file now) := HF.out.symm
      obtain ⟨⟨b1, b2, b3, hF, hb⟩, hN⟩ := hL
      rw [HV.out] at b2
      have G7 := hid (show Gr w W from hb)
      have HP := hid (And.intro b1 (And.intro b2 hK))
      have k0 := Boxed.cell b1
      have z7 := Boxed.lt b2
      have HD0 := hid hD
      obtain ⟨fv, hfv⟩ : ∃ fv, frozenB zs file now = fv := ⟨_, rfl⟩
      rw [hfv] at HP
      have HFV := hid hfv
      clear HUs hI0 HSS hfv HV b1 b2 b3 hb hK HF HO HR hD
      obtain ⟨h4, he4⟩ : ∃ b, (a4 == 4) = b := ⟨_, rfl⟩
      rw [he4] at HLA
      cases sa
      case' true => cases h4
      all_goals
        gi_wp2_with (first
          | ((with_reducible refine And.intro ?_ ?_); first | exact trivial | (intro _ hx; cases hx; done))
          | (gi_at_call 76; refine (callsIn_wide.2 (until_any _ _ _ _ _ _ _ _ _)).mono ?_; rintro e w5 ⟨rfl, hu⟩; simp only [World.size_alloc] at hu; have hF := un_facts (k := W.heap.size) rfl G7.out HI.out HA.out (kinds_two _ 4 5 _ _ rfl) hu; have H5 := hid (And.intro hF (show Gr W w5 from ((Gr.refl W).alloc _).trans hu.1)); clear hu hF)
          | (gi_at_call 75; refine (callsIn_wide.2 (HT2.out _ 2 _ _ H5.out.1.1 H5.out.1.2.1 H5.out.1.2.2.1 H5.out.1.2.2.2.1 H5.out.1.2.2.2.2.1 H5.out.1.2.2.2.2.2.1)).mono ?_; rintro e w6 ⟨rfl, hl⟩; have n2 := boxed_gr (boxed_gr HP.out.1 H5.out.2) hl; have b2 := boxed_gr (boxed_gr HP.out.2.1 H5.out.2) hl; have hD := row_gr (row_gr HP.out.2.2 H5.out.2) hl; have m0 := Boxed.cell n2; have m1 := Boxed.cell b2; have m2 := Boxed.frozen b2; have y1 := Boxed.lt n2; have y2 := Boxed.lt b2; have G6 := hid (Gr.trans H5.out.1.2.2.2.2.2.2 hl); have H6 := hid (And.intro b2 hD); clear hl n2 b2 hD))
        obtain ⟨b2, hD⟩ := H6.out
        have hA6 := heap_alloc_new w6 (.cells (⟨a0, a1, a2, a3, a4, a5⟩ : Sig).cells.toArray 67)
        have b7 := Boxed.alloc b2 (.cells (⟨a0, a1, a2, a3, a4, a5⟩ : Sig).cells.toArray 67)
        have g7 := (Gr.alloc G6.out (.cells (⟨a0, a1, a2, a3, a4, a5⟩ : Sig).cells.toArray 67))
        have d7 := row_gr hD ((Gr.refl w6).alloc (.cells (⟨a0, a1, a2, a3, a4, a5⟩ : Sig).cells.toArray 67))
        have n7 := row_cell m0 ((Gr.refl w6).alloc (.cells (⟨a0, a1, a2, a3, a4, a5⟩ : Sig).cells.toArray 67))
        unfold Sig.cells at hA6 b7 g7 d7 n7
        dsimp only at hA6 b7 g7 d7 n7
        clear m0 m1 m2 y1 k0 b2 hD
        generalize w6.alloc (.cells #[.int .i64 a0, .int .i64 a1, .int .i64 a2, .int .i64 a3, .int .u8 a4, .int .i64 a5] 67) = W7 at hA6 b7 g7 d7 n7 ⊢
        obtain ⟨q0, q1, q2, q3, q4, q5⟩ := cellsat6 hA6
        have p1 := HasW.cell_eq (B := w.heap.size + 1) (Wd := W7.drew) (r := fv) b7
        have p0 := fun p : HasW W7.drew (w.heap.size + 1) fv => HasW.cell_ne p (show W7.drew.cell? ⟨w.heap.size, 0, none⟩ = _ from n7) (by omega)
        have p4 := fun p : HasW W7.drew (w.heap.size + 1) fv => HasW.cell_ne p (show W7.drew.cell? ⟨w6.heap.size, 4, none⟩ = _ from q4) (by omega)
        have p5 := fun p : HasW W7.drew (w.heap.size + 1) fv => HasW.cell_ne p (show W7.drew.cell? ⟨w6.heap.size, 5, none⟩ = _ from q5) (by omega)
        have e1 : W7.drew.cell? ⟨w.heap.size + 1, 0, none⟩ = some (.bool fv) := Boxed.cell b7
        have e2 : W7.drew.frozen? ⟨w.heap.size + 1, 0, none⟩ = false := Boxed.frozen b7
        have HZ := hid (And.intro b7 (And.intro g7 d7))
        clear hA6 b7 g7 d7 n7 q0 q1 q2 q3 q4 q5
        refine wpIn_wide.2 ?_
        refine wp_region_mixN (C := fun w' => ∃ p : HasW W7.drew (w.heap.size + 1) fv, w' = p.W) [13] (by rfl) (by kernel_rfl) ⟨⟨_, .inl rfl⟩, rfl⟩ ?_
        (repeat (first | ((with_reducible refine mixL_read0 ?_ ?_ (fun K hK => ?_)); rfl; rfl; go_big_quiet_op; (with_reducible refine hK _ ?_); clear hK K) | ((with_reducible refine' mixL_skipG ?_ ?_ ?_ ?_ ?_); rotate_left 4; rfl; rfl; rfl; rfl; simp only [Act.put, List.setIfInBounds_toArray, List.set_cons_zero, List.set_cons_succ]) | ((with_reducible refine' mixL_skipU ?_ ?_ ?_ ?_); rotate_left 3; rfl; rfl; rfl; simp only [Act.put, List.setIfInBounds_toArray, List.set_cons_zero, List.set_cons_succ]) | ((with_reducible refine' mixL_readG ?_ ?_ ?_ ?_ ?_ (fun K hK => ?_)); rotate_left 4; rfl; rfl; rfl; rfl; rfl; go_big_quiet_op; (with_reducible refine hK _ ?_); clear hK K)))
        (first | ((with_reducible refine mixL_mut0 ?_ ?_ (fun K hK => ?_)); rfl; rfl) | ((with_reducible refine' mixL_mutG ?_ ?_ ?_ ?_ ?_ (fun K hK => ?_)); rotate_left 4; rfl; rfl; rfl; rfl; rfl))
        go_simp
        refine hK.out _ _ ⟨⟨_, .inr rfl⟩, rfl⟩ ?_
        clear hK K
        (repeat (first | ((with_reducible refine mixL_read0 ?_ ?_ (fun K hK => ?_)); rfl; rfl; go_big_quiet_op; (with_reducible refine hK _ ?_); clear hK K) | ((with_reducible refine' mixL_skipG ?_ ?_ ?_ ?_ ?_); rotate_left 4; rfl; rfl; rfl; rfl; simp only [Act.put, List.setIfInBounds_toArray, List.set_cons_zero, List.set_cons_succ]) | ((with_reducible refine' mixL_skipU ?_ ?_ ?_ ?_); rotate_left 3; rfl; rfl; rfl; simp only [Act.put, List.setIfInBounds_toArray, List.set_cons_zero, List.set_cons_succ]) | ((with_reducible refine' mixL_readG ?_ ?_ ?_ ?_ ?_ (fun K hK => ?_)); rotate_left 4; rfl; rfl; rfl; rfl; rfl; go_big_quiet_op; (with_reducible refine hK _ ?_); clear hK K)))
        (with_reducible refine mixN_nil ?_)
        gi_wp2
        obtain ⟨b7, g7, d7⟩ := HZ.out
        have hDn : D ≠ w.heap.size + 1 := by have h1 := HD0.out; have h2 := HU3.out.2.1; omega
        have hDw : w.heap.size ≤ D := by have h1 := HD0.out; omega
        have d8 : (W7.setCell ⟨w.heap.size + 1, 0, none⟩ (.bool fv)).drew.heap[D]? = some (.deferred (some [])) := by
          rw [heap_drew', Below.heap_setCell _ _ _ _ (by simpa using hDn)]; exact d7
        have b8 : (W7.setCell ⟨w.heap.size + 1, 0, none⟩ (.bool fv)).drew.heap[w.heap.size + 1]? = some (.cells #[.bool fv] 4 (0, 0)) := by
          rw [heap_drew']; exact Boxed.set _ b7
        have g8 := (Gr.setCell g7 (p := ⟨w.heap.size + 1, 0, none⟩) (by simp) (.bool fv)).drew
        generalize (W7.setCell ⟨w.heap.size + 1, 0, none⟩ (.bool fv)).drew = Wf at d8 b8 g8 ⊢
        refine ⟨by simp, .inl ⟨_, _, rfl, run_takeDeferred d8, ?_⟩⟩
        have r0 := cell_kept (Boxed.cell b8) (grownBy_putObj' _ D (.deferred none)) (fun r e => by cases e; exact ⟨_, d8, rfl⟩)
        refine ⟨.tuple #[.bool (frozenB zs file now), .bool (alertB zs file now)], ?_, rfl, ?_⟩
        · rw [HFV.out, HLA.out]
          simp [results, Tryd.f62, go_sem, r0]
        · exact (show Below w.heap.size w Wf from g8).trans (belowK_b (w := w) (Nat.le_refl _) _ D _ _ hDw d8 rfl rfl)
    case stop =>
      rintro D c pre W hD hpre h hK
      exact h.elim
  | true =>
    gi_wp2_with (first
      | ((with_reducible refine And.intro ?_ ?_); first | exact trivial | (intro _ hx; cases hx; done))
      | (gi_at_call 76; refine (callsIn_wide.2 (until_any _ _ _ _ _ _ _ _ _)).mono ?_; rintro e w1 ⟨rfl, hu⟩; simp only [World.size_alloc] at hu; have hF := un_facts (k := w.heap.size + 1 + 1) (by simp) (((Gr.refl w).alloc _).alloc _) HI.out HA.out (kinds_two _ 1 2 _ _ (by simp)) hu; have HN := hid (boxed_gr (((Boxed.new w 3 (.int .i64 now)).alloc _).alloc _) hu.1); have HB := hid (boxed_gr ((Boxed.new (w.alloc _) 4 (.bool false)).alloc _) hu.1); have HU := hid hF; clear hu hF)
      | (gi_at_call 75; refine (callsIn_wide.2 (HT.out _ 2 _ _ HU.out.1 HU.out.2.1 HU.out.2.2.1 HU.out.2.2.2.1 HU.out.2.2.2.2.1 HU.out.2.2.2.2.2.1)).mono ?_; rintro e w2 ⟨rfl, hl⟩; have n2 := boxed_gr HN.out hl; have b2 := boxed_gr HB.out hl; simp only [World.size_alloc] at b2; have k0 := Boxed.cell n2; have k1 := Boxed.cell b2; have k2 := Boxed.frozen b2; have z1 := Boxed.lt n2; have z2 := Boxed.lt b2; have G2 := hid (Gr.trans HU.out.2.2.2.2.2.2 hl); have H2 := hid (And.intro n2 b2); clear hl n2 b2)
      | (gi_at_call 76; refine (callsIn_wide.2 (until_any _ _ _ _ _ _ _ _ _)).mono ?_; rintro e w3 ⟨rfl, hu⟩; simp only [World.size_alloc, World.size_setCell] at hu; have hF := un_facts (k := w2.heap.size + 1) (by simp) ((Gr.setCell G2.out (p := ⟨w.heap.size + 1, 0, none⟩) (by simp) _).alloc _) HI.out HA.out (kinds_one _ 3 _ _ (by simp)) hu; have HS := hid (StF.gr (StF.start ⟨y0, y1, y2, y3, y4, y5⟩ H2.out.1 H2.out.2 G2.out) (((Gr.refl _).alloc _).trans hu.1)); have HU3 := hid hF; clear hu hF))
    obtain ⟨u1, u2, u3, u4, u5, u6, u7⟩ := HU3.out
    have hI0 : StI w w3.heap.size w2.heap.size ⟨y0, y1, y2, y3, y4, y5⟩ now (frz o now) [] w3 := ⟨by rw [HS0.out]; exact HS.out, Nat.le_refl _⟩
    have HUs := hid (until_stops (fun k => k ≠ w.heap.size + 1 ∧ k < w3.heap.size) file now [3] zs 2 (by omega) (w2.heap.size + 1 + 1) A n c _ 1 1 w3 (fun _ h => h.2) u1 ⟨⟨by omega, by omega⟩, ⟨by omega, by omega⟩, ⟨by omega, by omega⟩, ⟨by omega, by omega⟩⟩ u3 (fun b o e => ⟨by have := HA.out b o e; omega, u4 b o e⟩) h1000 u5 (fun b o e => ⟨by cases e; omega, u6 b o e⟩) (by omega))
    have z3 := Gr.size u7
    clear u1 u2 u3 u4 u5 u6 u7 HT HU HN HB k0 k1 k2 z1 H2 G2
    refine wpIn_rangeFunc_ownH rfl (by omega) (gf := 95) (lb := #[.pointer (some ⟨w2.heap.size + 1 + 1, 0, none⟩), .pointer (some ⟨w2.heap.size + 1 + 1 + 1, 0, none⟩), .pointer (some ⟨w2.heap.size + 1 + 1 + 1 + 1, 0, none⟩), .pointer (some ⟨w2.heap.size + 1 + 1 + 1 + 1 + 1, 0, none⟩)]) rfl trivial (enters_of Tryd.func95 (by kernel_rfl) rfl) (w0 := w3) HUs.out kpt_t (fun W l o o' hl => kpt_b (w := w3) (fun _ h => h.2) W l o o' hl) (Below.refl _ _) (fun _ => rfl)
      (StI w w3.heap.size w2.heap.size ⟨y0, y1, y2, y3, y4, y5⟩ now (frz o now)) (fun _ _ _ => False) (stI_own w _ _ _ now _ z3) (fun c => fun _ _ _ _ h _ _ => h) hI0
      (fun x a' W => ∃ Bx, w.heap.size + 1 < Bx ∧ W.heap[Bx]? = some (.cells x.cells.toArray 67 (0, 0)) ∧ a' = { tmps := #[.slice A n c, .int .i64 file, .int .i64 now, undef, undef, .pointer (some ⟨w.heap.size, 0, none⟩), .pointer (some ⟨w.heap.size + 1, 0, none⟩), .bool false, .pointer (some ⟨w2.heap.size, 0, none⟩), .bool true, .pointer (some ⟨Bx, 0, none⟩), undef, .tuple #[.agg #[.int .i64 y0, .int .i64 y1, .int .i64 y2, .int .i64 y3, .int .u8 y4, .int .i64 y5], .bool true], .slice A n c, .int .i64 file, .int .i64 now, .slice (some ⟨w.heap.size + 1 + 1, 0, none⟩) 2 2, .func (.func 95) #[] #[.pointer (some ⟨w.heap.size + 1 + 1 + 1, 0, none⟩), .pointer (some ⟨w.heap.size + 1 + 1 + 1 + 1, 0, none⟩), .pointer (some ⟨w.heap.size + 1 + 1 + 1 + 1 + 1, 0, none⟩), .pointer (some ⟨w.heap.size + 1 + 1 + 1 + 1 + 1 + 1, 0, none⟩)], .tuple #[.agg #[.int .i64 y0, .int .i64 y1, .int .i64 y2, .int .i64 y3, .int .u8 y4, .int .i64 y5], .bool true], .agg #[.int .i64 y0, .int .i64 y1, .int .i64 y2, .int .i64 y3, .int .u8 y4, .int .i64 y5], .bool true, .bool true, .bool true, .pointer (some ⟨w2.heap.size, 4, none⟩), .int .u8 y4, .bool (y4 == 1), .bool (y4 == 1), .slice A n c, .int .i64 file, .int .i64 now, .slice (some ⟨w2.heap.size + 1, 0, none⟩) 1 1, .func (.func 95) #[] #[.pointer (some ⟨w2.heap.size + 1 + 1, 0, none⟩), .pointer (some ⟨w2.heap.size + 1 + 1 + 1, 0, none⟩), .pointer (some ⟨w2.heap.size + 1 + 1 + 1 + 1, 0, none⟩), .pointer (some ⟨w2.heap.size + 1 + 1 + 1 + 1 + 1, 0, none⟩)], x.val, undef, undef, undef, undef, undef, undef, undef, undef, undef, undef, undef, undef, undef, undef, undef, undef, undef, undef, undef, undef, undef, undef, undef, undef, undef, undef, undef, undef, undef, undef, undef, undef], defers := [] })
      (fun x a' _ X Y row hs hg hr => by obtain ⟨Bx, e1, e2, e3⟩ := hs; exact ⟨Bx, e1, row_kept e2 hg (fun r e => (hr r e).2), e3⟩)
      ?assign ?body ?done ?stop
    case assign =>
      rintro l pre x W K hL hK
      have hl := hL.1.2.1.lt
      have hz := hL.2
      have HK := hid (hK { tmps := #[.slice A n c, .int .i64 file, .int .i64 now, undef, undef, .pointer (some ⟨w.heap.size, 0, none⟩), .pointer (some ⟨w.heap.size + 1, 0, none⟩), .bool false, .pointer (some ⟨w2.heap.size, 0, none⟩), .bool true, .pointer (some ⟨W.heap.size, 0, none⟩), undef, .tuple #[.agg #[.int .i64 y0, .int .i64 y1, .int .i64 y2, .int .i64 y3, .int .u8 y4, .int .i64 y5], .bool true], .slice A n c, .int .i64 file, .int .i64 now, .slice (some ⟨w.heap.size + 1 + 1, 0, none⟩) 2 2, .func (.func 95) #[] #[.pointer (some ⟨w.heap.size + 1 + 1 + 1, 0, none⟩), .pointer (some ⟨w.heap.size + 1 + 1 + 1 + 1, 0, none⟩), .pointer (some ⟨w.heap.size + 1 + 1 + 1 + 1 + 1, 0, none⟩), .pointer (some ⟨w.heap.size + 1 + 1 + 1 + 1 + 1 + 1, 0, none⟩)], .tuple #[.agg #[.int .i64 y0, .int .i64 y1, .int .i64 y2, .int .i64 y3, .int .u8 y4, .int .i64 y5], .bool true], .agg #[.int .i64 y0, .int .i64 y1, .int .i64 y2, .int .i64 y3, .int .u8 y4, .int .i64 y5], .bool true, .bool true, .bool true, .pointer (some ⟨w2.heap.size, 4, none⟩), .int .u8 y4, .bool (y4 == 1), .bool (y4 == 1), .slice A n c, .int .i64 file, .int .i64 now, .slice (some ⟨w2.heap.size + 1, 0, none⟩) 1 1, .func (.func 95) #[] #[.pointer (some ⟨w2.heap.size + 1 + 1, 0, none⟩), .pointer (some ⟨w2.heap.size + 1 + 1 + 1, 0, none⟩), .pointer (some ⟨w2.heap.size + 1 + 1 + 1 + 1, 0, none⟩), .pointer (some ⟨w2.heap.size + 1 + 1 + 1 + 1 + 1, 0, none⟩)], x.val, undef, undef, undef, undef, undef, undef, undef, undef, undef, undef, undef, undef, undef, undef, undef, undef, undef, undef, undef, undef, undef, undef, undef, undef, undef, undef, undef, undef, undef, undef, undef, undef], defers := [] } (W.alloc (.cells x.cells.toArray 67))
        ((KeepsOthers.alloc _ _).from _) (Kpt.of_gr ((Gr.refl W).alloc _) (fun k h => Nat.lt_of_lt_of_le h.2 hz)) ((stI_own w _ _ _ now _ (Nat.le_refl _)).alloc _ hL) ⟨W.heap.size, hl, by simpa using World.alloc_heap_new W (.cells x.cells.toArray 67), rfl⟩)
      clear hK hL
      obtain ⟨x0, x1, x2, x3, x4, x5⟩ := x
      unfold Sig.val Sig.cells at *
      dsimp only at *
      gi_wp2
      exact HK.out
    case body =>
      rintro l pre x a' W hl ⟨r, hr⟩ hL ⟨Bx, hBx, dX, rfl⟩ hlt
      have HL := hid hL
      have HQ := hid (HSS.out pre x)
      obtain ⟨⟨b1, b2, b3, hF, hb⟩, hN⟩ := hL
      have HR := hid (HR.out x)
      have HO := hid (HO.out x)
      have HX := hid dX
      clear HUs hI0 HSS hr
      obtain ⟨x0, x1, x2, x3, x4, x5⟩ := x
      unfold Sig.cells at dX HX b3
      unfold Sig.val at HO ⊢
      dsimp only at dX HX HO HQ b3 ⊢
      obtain ⟨c0, c1, c2, c3, c4, c5⟩ := cellsat6 dX
      obtain ⟨d0, d1, d2, d3, d4, d5⟩ := cellsat6 b3
      clear dX b1 b2 b3 hb
      generalize byN [Sig.day, Sig.bureau, Sig.id] ⟨x0, x1, x2, x3, x4, x5⟩ ⟨y0, y1, y2, y3, y4, y5⟩ = rr at HO HR
      by_cases hpos : 0 < rr
      case neg =>
        have HLT : Hid (laterB ⟨x0, x1, x2, x3, x4, x5⟩ ⟨y0, y1, y2, y3, y4, y5⟩ = false) := by
          show laterB _ _ = false
          rw [← HR.out]; simpa using hpos
        clear HR
        gi_wp2_with (first
          | ((with_reducible refine And.intro ?_ ?_); first | exact trivial | (intro _ hx; cases hx; done))
          | (gi_at_call 77; refine (CallsIn.inRound l (callsIn_wide.2 (HO.out _))).mono ?_; rintro e w4 ⟨rfl, hb1⟩; have HG := hid hb1.gr; clear hb1))
        exact ⟨(keeps_of_gr HG.out).from _, Kpt.of_gr HG.out (fun k h => Nat.lt_of_lt_of_le h.2 hN), by rw [HQ.out, HLT.out]; simpa using StF.gr HL.out.1 HG.out, Nat.le_trans hN (Gr.size HG.out)⟩
      case pos =>
        have HLT : Hid (laterB ⟨x0, x1, x2, x3, x4, x5⟩ ⟨y0, y1, y2, y3, y4, y5⟩ = true) := by
          show laterB _ _ = true
          rw [← HR.out]; simpa using hpos
        clear HR
        by_cases htill : now ≤ x5
        case neg =>
          have HTL : Hid (decide (now ≤ x5) = false) := by show decide (now ≤ x5) = false; simpa using htill
          gi_wp2_with (first
            | ((with_reducible refine And.intro ?_ ?_); first | exact trivial | (intro _ hx; cases hx; done))
            | (gi_at_call 77; refine (CallsIn.inRound l (callsIn_wide.2 (HO.out _))).mono ?_; rintro e w4 ⟨rfl, hb1⟩; obtain ⟨e0, e1, e2, e3, e4, e5⟩ := cellsat6 (row_gr HX.out hb1.gr); have k4 := Boxed.cell (boxed_gr HL.out.1.1 hb1.gr); have HG := hid hb1.gr; clear hb1))
          exact ⟨(keeps_of_gr HG.out).from _, Kpt.of_gr HG.out (fun k h => Nat.lt_of_lt_of_le h.2 hN), by rw [HQ.out, HLT.out, HTL.out]; simpa using StF.gr HL.out.1 HG.out, Nat.le_trans hN (Gr.size HG.out)⟩
        case pos =>
          have HTL : Hid (decide (now ≤ x5) = true) := by show decide (now ≤ x5) = true; simpa using htill
          gi_wp2_with (first
            | ((with_reducible refine And.intro ?_ ?_); first | exact trivial | (intro _ hx; cases hx; done))
            | (gi_at_call 77; refine (CallsIn.inRound l (callsIn_wide.2 (HO.out _))).mono ?_; rintro e w4 ⟨rfl, hb1⟩; obtain ⟨e0, e1, e2, e3, e4, e5⟩ := cellsat6 (row_gr HX.out hb1.gr); have k4 := Boxed.cell (boxed_gr HL.out.1.1 hb1.gr); have k5 := Boxed.cell (boxed_gr HL.out.1.2.1 hb1.gr); have k6 := Boxed.frozen (boxed_gr HL.out.1.2.1 hb1.gr); have HG := hid hb1.gr; clear hb1))
          exact ⟨((keeps_of_gr HG.out).trans (KeepsOthers.setCell _ _ _)).from _, (Kpt.of_gr HG.out (fun k h => Nat.lt_of_lt_of_le h.2 hN)).setCell (p := ⟨w.heap.size + 1, 0, none⟩) (by simp) _, by rw [HQ.out, HLT.out, HTL.out]; simpa using StF.set (StF.gr HL.out.1 HG.out) false, by rw [World.size_setCell]; exact Nat.le_trans hN (Gr.size HG.out)⟩
    case done =>
      rintro D ys W hD rfl hL hK
      have HV : Hid (frz o now (zs.filter (selB file now [3])) = frozenB zs file now) := HF.out.symm
      obtain ⟨⟨b1, b2, b3, hF, hb⟩, hN⟩ := hL
      rw [HV.out] at b2
      have G7 := hid (show Gr w W from hb)
      have HP := hid (And.intro b1 (And.intro b2 hK))
      have k0 := Boxed.cell b1
      have z7 := Boxed.lt b2
      have HD0 := hid hD
      obtain ⟨fv, hfv⟩ : ∃ fv, frozenB zs file now = fv := ⟨_, rfl⟩
      rw [hfv] at HP
      have HFV := hid hfv
      clear HUs hI0 HSS hfv HV b1 b2 b3 hb hK HF HO HR hD
      obtain ⟨h4, he4⟩ : ∃ b, (a4 == 4) = b := ⟨_, rfl⟩
      rw [he4] at HLA
      cases sa
      case' true => cases h4
      all_goals
        gi_wp2_with (first
          | ((with_reducible refine And.intro ?_ ?_); first | exact trivial | (intro _ hx; cases hx; done))
          | (gi_at_call 76; refine (callsIn_wide.2 (until_any _ _ _ _ _ _ _ _ _)).mono ?_; rintro e w5 ⟨rfl, hu⟩; simp only [World.size_alloc] at hu; have hF := un_facts (k := W.heap.size) rfl G7.out HI.out HA.out (kinds_two _ 4 5 _ _ rfl) hu; have H5 := hid (And.intro hF (show Gr W w5 from ((Gr.refl W).alloc _).trans hu.1)); clear hu hF)
          | (gi_at_call 75; refine (callsIn_wide.2 (HT2.out _ 2 _ _ H5.out.1.1 H5.out.1.2.1 H5.out.1.2.2.1 H5.out.1.2.2.2.1 H5.out.1.2.2.2.2.1 H5.out.1.2.2.2.2.2.1)).mono ?_; rintro e w6 ⟨rfl, hl⟩; have n2 := boxed_gr (boxed_gr HP.out.1 H5.out.2) hl; have b2 := boxed_gr (boxed_gr HP.out.2.1 H5.out.2) hl; have hD := row_gr (row_gr HP.out.2.2 H5.out.2) hl; have m0 := Boxed.cell n2; have m1 := Boxed.cell b2; have m2 := Boxed.frozen b2; have y1 := Boxed.lt n2; have y2 := Boxed.lt b2; have G6 := hid (Gr.trans H5.out.1.2.2.2.2.2.2 hl); have H6 := hid (And.intro b2 hD); clear hl n2 b2 hD))
        obtain ⟨b2, hD⟩ := H6.out
        have hA6 := heap_alloc_new w6 (.cells (⟨a0, a1, a2, a3, a4, a5⟩ : Sig).cells.toArray 67)
        have b7 := Boxed.alloc b2 (.cells (⟨a0, a1, a2, a3, a4, a5⟩ : Sig).cells.toArray 67)
        have g7 := (Gr.alloc G6.out (.cells (⟨a0, a1, a2, a3, a4, a5⟩ : Sig).cells.toArray 67))
        have d7 := row_gr hD ((Gr.refl w6).alloc (.cells (⟨a0, a1, a2, a3, a4, a5⟩ : Sig).cells.toArray 67))
        have n7 := row_cell m0 ((Gr.refl w6).alloc (.cells (⟨a0, a1, a2, a3, a4, a5⟩ : Sig).cells.toArray 67))
        unfold Sig.cells at hA6 b7 g7 d7 n7
        dsimp only at hA6 b7 g7 d7 n7
        clear m0 m1 m2 y1 k0 b2 hD
        generalize w6.alloc (.cells #[.int .i64 a0, .int .i64 a1, .int .i64 a2, .int .i64 a3, .int .u8 a4, .int .i64 a5] 67) = W7 at hA6 b7 g7 d7 n7 ⊢
        obtain ⟨q0, q1, q2, q3, q4, q5⟩ := cellsat6 hA6
        have p1 := HasW.cell_eq (B := w.heap.size + 1) (Wd := W7.drew) (r := fv) b7
        have p0 := fun p : HasW W7.drew (w.heap.size + 1) fv => HasW.cell_ne p (show W7.drew.cell? ⟨w.heap.size, 0, none⟩ = _ from n7) (by omega)
        have p4 := fun p : HasW W7.drew (w.heap.size + 1) fv => HasW.cell_ne p (show W7.drew.cell? ⟨w6.heap.size, 4, none⟩ = _ from q4) (by omega)
        have p5 := fun p : HasW W7.drew (w.heap.size + 1) fv => HasW.cell_ne p (show W7.drew.cell? ⟨w6.heap.size, 5, none⟩ = _ from q5) (by omega)
        have e1 : W7.drew.cell? ⟨w.heap.size + 1, 0, none⟩ = some (.bool fv) := Boxed.cell b7
        have e2 : W7.drew.frozen? ⟨w.heap.size + 1, 0, none⟩ = false := Boxed.frozen b7
        have HZ := hid (And.intro b7 (And.intro g7 d7))
        clear hA6 b7 g7 d7 n7 q0 q1 q2 q3 q4 q5
        refine wpIn_wide.2 ?_
        refine wp_region_mixN (C := fun w' => ∃ p : HasW W7.drew (w.heap.size + 1) fv, w' = p.W) [13] (by rfl) (by kernel_rfl) ⟨⟨_, .inl rfl⟩, rfl⟩ ?_
        (repeat (first | ((with_reducible refine mixL_read0 ?_ ?_ (fun K hK => ?_)); rfl; rfl; go_big_quiet_op; (with_reducible refine hK _ ?_); clear hK K) | ((with_reducible refine' mixL_skipG ?_ ?_ ?_ ?_ ?_); rotate_left 4; rfl; rfl; rfl; rfl; simp only [Act.put, List.setIfInBounds_toArray, List.set_cons_zero, List.set_cons_succ]) | ((with_reducible refine' mixL_skipU ?_ ?_ ?_ ?_); rotate_left 3; rfl; rfl; rfl; simp only [Act.put, List.setIfInBounds_toArray, List.set_cons_zero, List.set_cons_succ]) | ((with_reducible refine' mixL_readG ?_ ?_ ?_ ?_ ?_ (fun K hK => ?_)); rotate_left 4; rfl; rfl; rfl; rfl; rfl; go_big_quiet_op; (with_reducible refine hK _ ?_); clear hK K)))
        (first | ((with_reducible refine mixL_mut0 ?_ ?_ (fun K hK => ?_)); rfl; rfl) | ((with_reducible refine' mixL_mutG ?_ ?_ ?_ ?_ ?_ (fun K hK => ?_)); rotate_left 4; rfl; rfl; rfl; rfl; rfl))
        go_simp
        refine hK.out _ _ ⟨⟨_, .inr rfl⟩, rfl⟩ ?_
        clear hK K
        (repeat (first | ((with_reducible refine mixL_read0 ?_ ?_ (fun K hK => ?_)); rfl; rfl; go_big_quiet_op; (with_reducible refine hK _ ?_); clear hK K) | ((with_reducible refine' mixL_skipG ?_ ?_ ?_ ?_ ?_); rotate_left 4; rfl; rfl; rfl; rfl; simp only [Act.put, List.setIfInBounds_toArray, List.set_cons_zero, List.set_cons_succ]) | ((with_reducible refine' mixL_skipU ?_ ?_ ?_ ?_); rotate_left 3; rfl; rfl; rfl; simp only [Act.put, List.setIfInBounds_toArray, List.set_cons_zero, List.set_cons_succ]) | ((with_reducible refine' mixL_readG ?_ ?_ ?_ ?_ ?_ (fun K hK => ?_)); rotate_left 4; rfl; rfl; rfl; rfl; rfl; go_big_quiet_op; (with_reducible refine hK _ ?_); clear hK K)))
        (with_reducible refine mixN_nil ?_)
        gi_wp2
        obtain ⟨b7, g7, d7⟩ := HZ.out
        have hDn : D ≠ w.heap.size + 1 := by have h1 := HD0.out; have h2 := HU3.out.2.1; omega
        have hDw : w.heap.size ≤ D := by have h1 := HD0.out; omega
        have d8 : (W7.setCell ⟨w.heap.size + 1, 0, none⟩ (.bool fv)).drew.heap[D]? = some (.deferred (some [])) := by
          rw [heap_drew', Below.heap_setCell _ _ _ _ (by simpa using hDn)]; exact d7
        have b8 : (W7.setCell ⟨w.heap.size + 1, 0, none⟩ (.bool fv)).drew.heap[w.heap.size + 1]? = some (.cells #[.bool fv] 4 (0, 0)) := by
          rw [heap_drew']; exact Boxed.set _ b7
        have g8 := (Gr.setCell g7 (p := ⟨w.heap.size + 1, 0, none⟩) (by simp) (.bool fv)).drew
        generalize (W7.setCell ⟨w.heap.size + 1, 0, none⟩ (.bool fv)).drew = Wf at d8 b8 g8 ⊢
        refine ⟨by simp, .inl ⟨_, _, rfl, run_takeDeferred d8, ?_⟩⟩
        have r0 := cell_kept (Boxed.cell b8) (grownBy_putObj' _ D (.deferred none)) (fun r e => by cases e; exact ⟨_, d8, rfl⟩)
        refine ⟨.tuple #[.bool (frozenB zs file now), .bool (alertB zs file now)], ?_, rfl, ?_⟩
        · rw [HFV.out, HLA.out]
          simp [results, Tryd.f62, go_sem, r0]
        · exact (show Below w.heap.size w Wf from g8).trans (belowK_b (w := w) (Nat.le_refl _) _ D _ _ hDw d8 rfl rfl)
    case stop =>
      rintro D c pre W hD hpre h hK
      exact h.elim
end Go.Proofs.YtliehlefpodhaaaDoor
