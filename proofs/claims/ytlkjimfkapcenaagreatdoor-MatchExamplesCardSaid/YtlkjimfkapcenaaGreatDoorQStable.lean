/- The merge of Go's stable sort, whole; the stable sort at records, of fewer than forty elements. For any order that parts them. Go's stable sort at records, of fewer than forty elements: the row holds a permutation in order. For any order that parts the elements. -/
import Derived.Shelf.SlSortCmp.InsertionK
import Derived.Test.YtlkjimfkapcenaaGreatDoorQSymMerge
namespace Go.Proofs.YtlkjimfkapcenaaGreatDoor
open Go.Shelf Go.RowKit Go.Lib Go.Sort
variable {P : Program} {α : Type} [Inhabited α]

theorem symMerge_k {k : Nat} (L : SrtP P k) (enc : α → List Value) (cf : α → α → Int) (g : Nat) (cb : Array Value) (blk off cap : Nat) (d0 : Array α) (w0 : World) (Q : α → α → Prop) (ht : ∀ x y z, Q x y → Q y z → Q x z)
    (eg : ∀ args w, (callFunc g args).run P w = .ok (.enter g args) w) (hC : CmpLays P g cb enc k cf blk off d0.size w0) (R : RowK enc k w0 blk off d0) (hsz : d0.size < 2305843009213693952) :
    ∀ N a m b (d : Array α) w, b - a ≤ N → a < m → m < b → b ≤ d.size → d0.size = d.size → SWK enc k w0 blk off d w → Two Q (ltOf cf) a m b d →
      SymGives P 104 enc k (.func (.func g) #[] cb) blk off cap w0 Q a m b d w
  | 0, a, m, b, d, w, hN, h1, h2, _, _, _, _ => by omega
  | N + 1, a, m, b, d, w, hN, h1, h2, hb, hs, S, T => by
    by_cases e1 : m = a + 1
    · subst e1
      exact symMerge_left L enc cf g cb blk off cap a b d0 d w0 w Q ht eg hC R hs S h2 hb (by omega) T
    · by_cases e2 : b = m + 1
      · exact symMerge_right L enc cf g cb blk off cap a m b d0 d w0 w Q ht eg hC R hs S (by omega) e2 (by omega) (by omega) T
      · refine symMerge_mid L enc cf g cb blk off cap a m b d0 d w0 w Q ht eg hC R hs S (by omega) (by omega) hb (by omega) T ?_
        intro a' m' b' d' w' hlt k1 k2 k3 k4 k5 k6
        exact symMerge_k L enc cf g cb blk off cap d0 w0 Q ht eg hC R hsz N a' m' b' d' w' (by omega) k1 k2 k3 k4 k5 k6

def rhoIns : Ren := ⟨fun _ => 103, fun t => if t = 0 then 0 else if t = 3 then 3 else if t = 4 then 4 else if t = 22 then 25 else if t = 24 then 41 else 101, fun x => x⟩
theorem insLays : SlLaysF0.n20 Tryz.prog rhoIns := {
  mixed := by rfl
  f20 := ⟨Tryz.f103.name, by kernel_rfl, Tryz.func103.trans (by rfl)⟩
  t0 := Tryz.underlying0
  a0 := Tryz.isAgg0
  z0 := Tryz.sizeOf0
  v0 := Tryz.zeroValue0
  t3 := Tryz.underlying3
  a3 := Tryz.isAgg3
  z3 := Tryz.sizeOf3
  v3 := Tryz.zeroValue3
  t4 := Tryz.underlying4
  a4 := Tryz.isAgg4
  z4 := Tryz.sizeOf4
  v4 := Tryz.zeroValue4
  t22 := Tryz.underlying25
  a22 := Tryz.isAgg25
  z22 := Tryz.sizeOf25
  v22 := Tryz.zeroValue25
  t25 := Tryz.underlying101
  a25 := Tryz.isAgg101
  z25 := Tryz.sizeOf101
  v25 := Tryz.zeroValue101 }
end Go.Proofs.YtlkjimfkapcenaaGreatDoor
namespace Go.Proofs.YtlkjimfkapcenaaGreatDoor
open Go.Shelf Go.RowKit Go.Lib Go.Sort
variable {α : Type} [Inhabited α]

/-- What the comparison says of two elements, either way round. -/
def Sep (Q : α → α → Prop) (lt : α → α → Bool) (x y : α) : Prop := (lt y x = true → Q y x) ∧ (lt y x = false → Q x y) ∧ (lt x y = true → Q x y) ∧ (lt x y = false → Q y x)
omit [Inhabited α] in
theorem Sep.symm {Q : α → α → Prop} {lt : α → α → Bool} {x y : α} (h : Sep Q lt x y) : Sep Q lt y x := ⟨h.2.2.1, h.2.2.2, h.1, h.2.1⟩
theorem sep_at {Q : α → α → Prop} {lt : α → α → Bool} {d d' : Array α} (h : d.toList.Pairwise (Sep Q lt)) (p : PermIn 0 d.size d d') {i j : Nat} (hi : i < d.size) (hj : j < d.size) (hij : i ≠ j) : Sep Q lt d'[i]! d'[j]! := by
  have p2 := p.2.2
  have hs := p.1
  rw [← hs] at p2
  have e1 : (d'.extract 0 d'.size) = d' := by simp
  have e2 : (d.extract 0 d'.size) = d := by rw [hs]; simp
  rw [e1, e2] at p2
  have h' : d'.toList.Pairwise (Sep Q lt) := (p2.pairwise_iff (fun h => Sep.symm h)).2 h
  have g := List.pairwise_iff_getElem.1 h'
  rw [getElem!_pos d' i (by omega), getElem!_pos d' j (by omega)]
  rcases Nat.lt_or_gt_of_ne hij with c | c
  · exact g i j (by simp; omega) (by simp; omega) c
  · exact Sep.symm (g j i (by simp; omega) (by simp; omega) c)
theorem sorted_sep {Q : α → α → Prop} {lt : α → α → Bool} {d d' : Array α} {a b : Nat} (h : d.toList.Pairwise (Sep Q lt)) (p : PermIn 0 d.size d d') (hb : b ≤ d.size) (s : SortedIn lt a b d') : RIn Q a b d' :=
  fun i j hi hij hj => (sep_at h p (i := i) (j := j) (by omega) (by omega) (by omega)).2.1 (s i j hi hij hj)
theorem two_sep {Q : α → α → Prop} {lt : α → α → Bool} {d d' : Array α} {a m b : Nat} (h : d.toList.Pairwise (Sep Q lt)) (p : PermIn 0 d.size d d') (hb : b ≤ d.size) (s : RIn Q a m d') (s' : RIn Q m b d') : Two Q lt a m b d' :=
  ⟨s, s', fun i j hi him hj hjb e => (sep_at h p (i := i) (j := j) (by omega) (by omega) (by omega)).1 e, fun i j hi him hj hjb e => (sep_at h p (i := i) (j := j) (by omega) (by omega) (by omega)).2.1 e⟩

theorem cmpLays_on {P : Program} {g : Nat} {cb : Array Value} {enc : α → List Value} {k : Nat} {cf : α → α → Int} {blk off size : Nat} {w W : World} {dk : Array α} (hC : CmpLays P g cb enc k cf blk off size w) (S : SWK enc k w blk off dk W) (hblk : blk < w.heap.size) (hs : dk.size = size) : CmpLays P g cb enc k cf blk off size W := by
  intro m os dk' hs' x y
  obtain ⟨n, os2, e⟩ := S.on hblk m dk' os (by omega)
  rw [e]
  exact hC n os2 dk' hs' x y

theorem insertion_k (enc : α → List Value) (cf : α → α → Int) (hS : SWO (ltOf cf)) (g : Nat) (cb : Array Value) (blk off cap a b : Nat) (d0 d : Array α) (w0 w : World)
    (eg : ∀ args w, (callFunc g args).run Tryz.prog w = .ok (.enter g args) w) (hC : CmpLays Tryz.prog g cb enc 8 cf blk off d0.size w0) (R : RowK enc 8 w0 blk off d0) (hs : d0.size = d.size) (S : SWK enc 8 w0 blk off d w) (hab : a ≤ b) (hb : b ≤ d.size) (hsz : d.size < 4611686018427387904) :
    Calls Tryz.prog 103 #[.slice (some ⟨blk, off, none⟩) d.size cap, .int .i64 a, .int .i64 b, .func (.func g) #[] cb] w fun e w' => e = .returned (.tuple #[]) ∧ ∃ d', PermIn a b d d' ∧ SortedIn (ltOf cf) a b d' ∧ SWK enc 8 w0 blk off d' w' := by
  have h := AnyQ.insertionSortCmpFunc insLays 8 Tryz.isAgg41 Tryz.sizeOf41 enc R.hk R.h1 cf g cb blk off cap a b d w eg (hs ▸ cmpLays_on hC S R.hblk (by omega)) (S.holds R.hblk R.hH (by omega)) (S.lt R.hblk) hab hb hsz
  have q := insertionSort_holds hS d a b hab hb
  refine h.mono ?_
  rintro e w' ⟨rfl, n, os, rfl⟩
  exact ⟨rfl, _, q.1, q.2, S.on R.hblk n _ os (by rw [q.1.1])⟩

set_option maxHeartbeats 4000000 in
set_option maxRecDepth 1000000 in
theorem stable_k (enc : α → List Value) (cf : α → α → Int) (hS : SWO (ltOf cf)) (g : Nat) (cb : Array Value) (blk off cap : Nat) (d : Array α) (w : World) (Q : α → α → Prop) (ht : ∀ x y z, Q x y → Q y z → Q x z)
    (eg : ∀ args w, (callFunc g args).run Tryz.prog w = .ok (.enter g args) w) (hC : CmpLays Tryz.prog g cb enc 8 cf blk off d.size w) (R : RowK enc 8 w blk off d) (hn : d.size < 40) (hall : d.toList.Pairwise (Sep Q (ltOf cf))) :
    Calls Tryz.prog 94 #[.slice (some ⟨blk, off, none⟩) d.size cap, .int .i64 d.size, .func (.func g) #[] cb] w fun e w' => e = .returned (.tuple #[]) ∧ ∃ d', PermIn 0 d.size d d' ∧ RIn Q 0 d.size d' ∧ SWK enc 8 w blk off d' w' := by
  have S0 : Hid (SWK enc 8 w blk off d w) := hid (SWK.start R.hH)
  have HI : Hid (∀ (a b : Nat) (az bz : Int) (dk : Array α) (W : World), az = (a : Int) → bz = (b : Int) → dk.size = d.size → SWK enc 8 w blk off dk W → a ≤ b → b ≤ d.size → Calls Tryz.prog 103 #[.slice (some ⟨blk, off, none⟩) d.size cap, .int .i64 az, .int .i64 bz, .func (.func g) #[] cb] W fun e w' => e = .returned (.tuple #[]) ∧ ∃ d', PermIn a b dk d' ∧ SortedIn (ltOf cf) a b d' ∧ SWK enc 8 w blk off d' w') :=
    fun a b az bz dk W ea eb h1 h2 h3 h4 => ea ▸ eb ▸ h1 ▸ insertion_k enc cf hS g cb blk off cap a b d dk w W eg hC R h1.symm h2 h3 (by omega) (by omega)
  have HM : Hid (∀ (a m b : Nat) (az mz bz : Int) (dk : Array α) (W : World), az = (a : Int) → mz = (m : Int) → bz = (b : Int) → dk.size = d.size → SWK enc 8 w blk off dk W → a < m → m < b → b ≤ d.size → Two Q (ltOf cf) a m b dk → Calls Tryz.prog 104 #[.slice (some ⟨blk, off, none⟩) d.size cap, .int .i64 az, .int .i64 mz, .int .i64 bz, .func (.func g) #[] cb] W fun e w' => e = .returned (.tuple #[]) ∧ ∃ d', PermIn a b dk d' ∧ RIn Q a b d' ∧ SWK enc 8 w blk off d' w') :=
    fun a m b az mz bz dk W ea em eb h1 h2 h3 h4 h5 h6 => ea ▸ em ▸ eb ▸ h1 ▸ symMerge_k srtP_here enc cf g cb blk off cap d w Q ht eg hC R (by omega) (b - a) a m b dk W (Nat.le_refl _) h3 h4 (by omega) h1.symm h2 h6
  have HA : Hid (d.toList.Pairwise (Sep Q (ltOf cf))) := hall
  clear hall hC ht R hS eg
  rcases Nat.lt_trichotomy d.size 20 with h | h | h
  · have z1 : ¬ (20 : Int) ≤ (d.size : Int) := by omega
    have z2 : ¬ (20 : Int) < (d.size : Int) := by omega
    have HI1 := hid (HI.out 0 d.size 0 d.size d w rfl rfl rfl S0.out (Nat.zero_le _) (Nat.le_refl _))
    have H := hid h
    clear h
    go_enter Tryz.func94, Tryz.ntmps94
    go_wp2
    refine wp_loop_rounds 1 ?_
    rw [rounds_succ]
    go_wp2_with (go_at_call 103; refine HI1.out.mono ?_; rintro e w1 ⟨rfl, d1, T1, T2, S1⟩; have T3 := hid (And.intro T1 (And.intro T2 S1)); clear T1 T2 S1)
    refine wp_loop_rounds 1 ?_
    rw [rounds_succ]
    go_wp2
    go_end0
    have h := H.out
    exact ⟨rfl, d1, T3.out.1, sorted_sep HA.out T3.out.1 (Nat.le_refl _) T3.out.2.1, T3.out.2.2⟩
  · have z1 : (20 : Int) ≤ (d.size : Int) := by omega
    have z2 : ¬ (20 : Int) < (d.size : Int) := by omega
    have z3 : ¬ (40 : Int) ≤ (d.size : Int) := by omega
    have HI1 := hid (HI.out 0 20 0 20 d w rfl rfl rfl S0.out (by omega) (by omega))
    have H := hid h
    clear h
    go_enter Tryz.func94, Tryz.ntmps94
    go_wp2
    refine wp_loop_rounds 2 ?_
    rw [rounds_succ]
    go_wp2_with (go_at_call 103; refine HI1.out.mono ?_; rintro e w1 ⟨rfl, d1, T1, T2, S1⟩; have T3 := hid (And.intro T1 (And.intro T2 S1)); have T4 : d1.size = d.size := T1.1; clear T1 T2 S1)
    rw [rounds_succ]
    have h := H.out
    have HI2 := hid (HI.out 20 d.size 20 d.size d1 w1 rfl rfl T4 T3.out.2.2 (by omega) (by omega))
    clear h
    go_wp2_with (go_at_call 103; refine HI2.out.mono ?_; rintro e w2 ⟨rfl, d2, T1, T2, S1⟩; have T5 := hid (And.intro T1 (And.intro T2 S1)); have T6 : d2.size = d.size := T1.1.trans T4; clear T1 T2 S1)
    refine wp_loop_rounds 1 ?_
    rw [rounds_succ]
    go_wp2
    go_end0
    have h := H.out
    have p1 := permIn_mono _ _ _ _ _ _ (Nat.le_refl _) (Nat.le_of_eq h.symm) (Nat.le_refl _) T3.out.1
    have p2 := permIn_mono _ _ _ _ _ _ (Nat.zero_le _) (Nat.le_refl _) (Nat.le_of_eq T4.symm) T5.out.1
    have e : ∀ x, x < 20 → d2[x]! = d1[x]! := fun x hx => T5.out.1.2.1 x (Or.inl hx)
    refine ⟨rfl, d2, permIn_trans _ _ _ _ _ p1 p2, fun i j hi hij hj => ?_, T5.out.2.2⟩
    rw [e i (by omega), e j (by omega)]
    exact sorted_sep HA.out p1 (Nat.le_of_eq h.symm) T3.out.2.1 i j hi hij (by omega)
  · have z1 : (20 : Int) ≤ (d.size : Int) := by omega
    have z2 : (20 : Int) < (d.size : Int) := by omega
    have z3 : ¬ (40 : Int) ≤ (d.size : Int) := by omega
    have z4 : ¬ (40 : Int) < (d.size : Int) := by omega
    have HI1 := hid (HI.out 0 20 0 20 d w rfl rfl rfl S0.out (by omega) (by omega))
    have H := hid h
    clear h
    go_enter Tryz.func94, Tryz.ntmps94
    go_wp2
    refine wp_loop_rounds 2 ?_
    rw [rounds_succ]
    go_wp2_with (go_at_call 103; refine HI1.out.mono ?_; rintro e w1 ⟨rfl, d1, T1, T2, S1⟩; have T3 := hid (And.intro T1 (And.intro T2 S1)); have T4 : d1.size = d.size := T1.1; clear T1 T2 S1)
    rw [rounds_succ]
    have h := H.out
    have HI2 := hid (HI.out 20 d.size 20 d.size d1 w1 rfl rfl T4 T3.out.2.2 (by omega) (by omega))
    clear h
    go_wp2_with (go_at_call 103; refine HI2.out.mono ?_; rintro e w2 ⟨rfl, d2, T1, T2, S1⟩; have T5 := hid (And.intro T1 (And.intro T2 S1)); have T6 : d2.size = d.size := T1.1.trans T4; clear T1 T2 S1)
    have h := H.out
    have p1 := hid (permIn_mono _ _ _ _ _ _ (Nat.le_refl _) (Nat.le_of_lt h) (Nat.le_refl _) T3.out.1)
    have p2 := hid (permIn_trans _ _ _ _ _ p1.out (permIn_mono _ _ _ _ _ _ (Nat.zero_le _) (Nat.le_refl _) (Nat.le_of_eq T4.symm) T5.out.1))
    have HT : Hid (Two Q (ltOf cf) 0 20 d.size d2) := by
      have e : ∀ x, x < 20 → d2[x]! = d1[x]! := fun x hx => T5.out.1.2.1 x (Or.inl hx)
      refine two_sep HA.out p2.out (Nat.le_refl _) (fun i j hi hij hj => ?_) (sorted_sep HA.out p2.out (Nat.le_refl _) T5.out.2.1)
      rw [e i (by omega), e j (by omega)]
      exact sorted_sep HA.out p1.out (Nat.le_of_lt h) T3.out.2.1 i j hi hij (by omega)
    have HM1 := hid (HM.out 0 20 d.size 0 20 d.size d2 w2 rfl rfl rfl T6 T5.out.2.2 (by omega) h (Nat.le_refl _) HT.out)
    clear h
    refine wp_loop_rounds 2 ?_
    rw [rounds_succ]
    go_wp2
    refine wp_loop_rounds 1 ?_
    rw [rounds_succ]
    go_wp2_with (go_at_call 104; refine HM1.out.mono ?_; rintro e w3 ⟨rfl, d3, T1, T2, S1⟩; have T7 := hid (And.intro T1 (And.intro T2 S1)); have T8 : d3.size = d.size := T1.1.trans T6; clear T1 T2 S1)
    rw [rounds_succ]
    go_wp2
    go_end0
    have h := H.out
    exact ⟨rfl, d3, permIn_trans _ _ _ _ _ p2.out T7.out.1, T7.out.2.1, T7.out.2.2⟩
end Go.Proofs.YtlkjimfkapcenaaGreatDoor
