/- The merge of Go's stable sort, whole; the stable sort at traces, of fewer than forty elements. For any order that parts them. Go's stable sort at traces, of up to forty elements: the row holds a permutation in order, and those that the comparison does not part stay in their order. For any order. -/
import Derived.Shelf.SlSortCmp.InsertionK
import Derived.Test.YtliehlefpodhaaaDoorOSymPure
import Derived.Test.YtliehlefpodhaaaDoorOTrSymMid
namespace Go.Proofs.YtliehlefpodhaaaDoor
open Go.Shelf Go.RowKit Go.Lib Go.Sort
variable {P : Program} {α : Type} [Inhabited α]

theorem symMerge_k {k : Nat} (L : SrtP P k) (enc : α → List Value) (cf : α → α → Int) (g : Nat) (cb : Array Value) (blk off cap : Nat) (d0 : Array α) (w0 : World) (Q : α → α → Prop) (ht : ∀ x y z, Q x y → Q y z → Q x z)
    (eg : ∀ args w, (callFunc g args).run P w = .ok (.enter g args) w) (hC : CmpLays P g cb enc k cf blk off d0.size w0) (R : RowK enc k w0 blk off d0) (hsz : d0.size < 2305843009213693952) :
    ∀ N a m b (d : Array α) w, b - a ≤ N → a < m → m < b → b ≤ d.size → d0.size = d.size → SWK enc k w0 blk off d w → Two Q (ltOf cf) a m b d →
      SymGives P 83 enc k (.func (.func g) #[] cb) blk off cap w0 Q a m b d w
  | 0, a, m, b, d, w, hN, h1, h2, _, _, _, _ => by omega
  | N + 1, a, m, b, d, w, hN, h1, h2, hb, hs, S, T => by
    by_cases e1 : m = a + 1
    · subst e1
      exact symMerge_left L enc cf g cb blk off cap a b d0 d w0 w Q ht eg hC R hs S h2 hb (by omega) T
    · by_cases e2 : b = m + 1
      · exact symMerge_right L enc cf g cb blk off cap a m b d0 d w0 w Q ht eg hC R hs S (by omega) e2 (by omega) (by omega) T
      · refine symMerge_mid L enc cf g cb blk off cap a m b d0 d w0 w Q ht eg hC R hs S (by omega) (by omega) hb (by omega) T ?_
        intro a' m' b' d' w' hlt k1 k2 k3 k4 k5 k6
        exact symMerge_k L enc cf g cb blk off cap d0 w0 Q ht eg hC R hsz N a' m' b' d' w' (by omega) k1 k2 k3 k4 k5 k6

def rhoIns : Ren := ⟨fun _ => 82, fun t => if t = 0 then 0 else if t = 3 then 3 else if t = 4 then 4 else if t = 22 then 36 else if t = 24 then 72 else 96, fun x => x⟩
theorem insLays : SlLaysF0.n20 Tryd.prog rhoIns := {
  mixed := by rfl
  f20 := ⟨Tryd.f82.name, by kernel_rfl, Tryd.func82.trans (by rfl)⟩
  t0 := Tryd.underlying0
  a0 := Tryd.isAgg0
  z0 := Tryd.sizeOf0
  v0 := Tryd.zeroValue0
  t3 := Tryd.underlying3
  a3 := Tryd.isAgg3
  z3 := Tryd.sizeOf3
  v3 := Tryd.zeroValue3
  t4 := Tryd.underlying4
  a4 := Tryd.isAgg4
  z4 := Tryd.sizeOf4
  v4 := Tryd.zeroValue4
  t22 := Tryd.underlying36
  a22 := Tryd.isAgg36
  z22 := Tryd.sizeOf36
  v22 := Tryd.zeroValue36
  t25 := Tryd.underlying96
  a25 := Tryd.isAgg96
  z25 := Tryd.sizeOf96
  v25 := Tryd.zeroValue96 }
end Go.Proofs.YtliehlefpodhaaaDoor
namespace Go.Proofs.YtliehlefpodhaaaDoor
open Go.Shelf Go.RowKit Go.Lib Go.Sort
variable {α : Type} [Inhabited α]

theorem cmpLays_on {P : Program} {g : Nat} {cb : Array Value} {enc : α → List Value} {k : Nat} {cf : α → α → Int} {blk off size : Nat} {w W : World} {dk : Array α} (hC : CmpLays P g cb enc k cf blk off size w) (S : SWK enc k w blk off dk W) (hblk : blk < w.heap.size) (hs : dk.size = size) : CmpLays P g cb enc k cf blk off size W := by
  intro m os dk' hs' x y
  obtain ⟨n, os2, e⟩ := S.on hblk m dk' os (by omega)
  rw [e]
  exact hC n os2 dk' hs' x y

theorem insertion_k (enc : α → List Value) (cf : α → α → Int) (hS : SWO (ltOf cf)) (g : Nat) (cb : Array Value) (blk off cap a b : Nat) (d0 d : Array α) (w0 w : World)
    (eg : ∀ args w, (callFunc g args).run Tryd.prog w = .ok (.enter g args) w) (hC : CmpLays Tryd.prog g cb enc 5 cf blk off d0.size w0) (R : RowK enc 5 w0 blk off d0) (hs : d0.size = d.size) (S : SWK enc 5 w0 blk off d w) (hab : a ≤ b) (hb : b ≤ d.size) (hsz : d.size < 4611686018427387904) :
    Calls Tryd.prog 82 #[.slice (some ⟨blk, off, none⟩) d.size cap, .int .i64 a, .int .i64 b, .func (.func g) #[] cb] w fun e w' => e = .returned (.tuple #[]) ∧ ∃ d', PermIn a b d d' ∧ d' = insertionSort (ltOf cf) d a b ∧ SWK enc 5 w0 blk off d' w' := by
  have h := AnyQ.insertionSortCmpFunc insLays 5 Tryd.isAgg72 Tryd.sizeOf72 enc R.hk R.h1 cf g cb blk off cap a b d w eg (hs ▸ cmpLays_on hC S R.hblk (by omega)) (S.holds R.hblk R.hH (by omega)) (S.lt R.hblk) hab hb hsz
  have q := insertionSort_holds hS d a b hab hb
  refine h.mono ?_
  rintro e w' ⟨rfl, n, os, rfl⟩
  exact ⟨rfl, _, q.1, rfl, S.on R.hblk n _ os (by rw [q.1.1])⟩

/-- What is known of a row that is sorted part by part: what holds of two places of the row holds behind. -/
theorem part_two {Q : α → α → Prop} (ht : ∀ x y z, Q x y → Q y z → Q x z) {cf : α → α → Int} {d d1 d2 : Array α} {m n : Nat} (hm : m ≤ n) (hn : n = d.size) (hall : ∀ p q, p < q → q < d.size → SepA Q (ltOf cf) d[p]! d[q]!)
    (p1 : PermIn 0 m d d1) (e1 : d1 = insertionSort (ltOf cf) d 0 m) (p2 : PermIn m n d1 d2) (e2 : d2 = insertionSort (ltOf cf) d1 m n) : Two Q (ltOf cf) 0 m n d2 := by
  subst hn
  have a1 : ∀ x, m ≤ x → d1[x]! = d[x]! := fun x hx => p1.2.1 x (Or.inr hx)
  have a2 : ∀ x, x < m → d2[x]! = d1[x]! := fun x hx => p2.2.1 x (Or.inl hx)
  have s1 := insertionSort_stab (Q := Q) (lt := ltOf cf) ht 0 m d (Nat.zero_le _) hm (fun p q _ h2 h3 => hall p q h2 (by omega))
  rw [← e1] at s1
  have s2 := insertionSort_stab (Q := Q) (lt := ltOf cf) ht m d.size d1 hm (by rw [p1.1]; exact Nat.le_refl _) (fun p q h1 h2 h3 => by rw [a1 p h1, a1 q (by omega)]; exact hall p q h2 h3)
  rw [← e2] at s2
  have cr : ∀ i j, 0 ≤ i → i < m → m ≤ j → j < d.size → SepA Q (ltOf cf) d2[i]! d2[j]! := by
    intro i j h1 h2 h3 h4
    rw [a2 i h2]
    refine s2.2 (fun y => SepA Q (ltOf cf) d1[i]! y) (fun q h5 h6 => ?_) j h3 h4
    rw [a1 q h5]
    exact s1.2 (fun x => SepA Q (ltOf cf) x d[q]!) (fun p h7 h8 => hall p q (by omega) h6) i (Nat.zero_le _) h2
  exact ⟨fun i j h1 h2 h3 => by rw [a2 i (by omega), a2 j h3]; exact s1.1 i j h1 h2 h3, s2.1, fun i j h1 h2 h3 h4 e => (cr i j h1 h2 h3 h4).1 e, fun i j h1 h2 h3 h4 e => (cr i j h1 h2 h3 h4).2 e⟩

set_option maxHeartbeats 4000000 in
set_option maxRecDepth 1000000 in
theorem stable_k (enc : α → List Value) (cf : α → α → Int) (hS : SWO (ltOf cf)) (g : Nat) (cb : Array Value) (blk off cap : Nat) (d : Array α) (w : World) (Q : α → α → Prop) (ht : ∀ x y z, Q x y → Q y z → Q x z)
    (eg : ∀ args w, (callFunc g args).run Tryd.prog w = .ok (.enter g args) w) (hC : CmpLays Tryd.prog g cb enc 5 cf blk off d.size w) (R : RowK enc 5 w blk off d) (hn : d.size ≤ 40) (hall : ∀ p q, p < q → q < d.size → SepA Q (ltOf cf) d[p]! d[q]!) :
    Calls Tryd.prog 70 #[.slice (some ⟨blk, off, none⟩) d.size cap, .int .i64 d.size, .func (.func g) #[] cb] w fun e w' => e = .returned (.tuple #[]) ∧ ∃ d', PermIn 0 d.size d d' ∧ RIn Q 0 d.size d' ∧ SWK enc 5 w blk off d' w' := by
  have S0 : Hid (SWK enc 5 w blk off d w) := hid (SWK.start R.hH)
  have HI : Hid (∀ (a b : Nat) (az bz : Int) (dk : Array α) (W : World), az = (a : Int) → bz = (b : Int) → dk.size = d.size → SWK enc 5 w blk off dk W → a ≤ b → b ≤ d.size → Calls Tryd.prog 82 #[.slice (some ⟨blk, off, none⟩) d.size cap, .int .i64 az, .int .i64 bz, .func (.func g) #[] cb] W fun e w' => e = .returned (.tuple #[]) ∧ ∃ d', PermIn a b dk d' ∧ d' = insertionSort (ltOf cf) dk a b ∧ SWK enc 5 w blk off d' w') :=
    fun a b az bz dk W ea eb h1 h2 h3 h4 => ea ▸ eb ▸ h1 ▸ insertion_k enc cf hS g cb blk off cap a b d dk w W eg hC R h1.symm h2 h3 (by omega) (by omega)
  have HM : Hid (∀ (a m b : Nat) (az mz bz : Int) (dk : Array α) (W : World), az = (a : Int) → mz = (m : Int) → bz = (b : Int) → dk.size = d.size → SWK enc 5 w blk off dk W → a < m → m < b → b ≤ d.size → Two Q (ltOf cf) a m b dk → Calls Tryd.prog 83 #[.slice (some ⟨blk, off, none⟩) d.size cap, .int .i64 az, .int .i64 mz, .int .i64 bz, .func (.func g) #[] cb] W fun e w' => e = .returned (.tuple #[]) ∧ ∃ d', PermIn a b dk d' ∧ RIn Q a b d' ∧ SWK enc 5 w blk off d' w') :=
    fun a m b az mz bz dk W ea em eb h1 h2 h3 h4 h5 h6 => ea ▸ em ▸ eb ▸ h1 ▸ symMerge_k srtP_here enc cf g cb blk off cap d w Q ht eg hC R (by omega) (b - a) a m b dk W (Nat.le_refl _) h3 h4 (by omega) h1.symm h2 h6
  have HA : Hid (∀ p q, p < q → q < d.size → SepA Q (ltOf cf) d[p]! d[q]!) := hall
  have HT : Hid (∀ x y z, Q x y → Q y z → Q x z) := ht
  clear hall hC ht R hS eg
  rcases Nat.lt_trichotomy d.size 20 with h | h | h
  · have z1 : ¬ (20 : Int) ≤ (d.size : Int) := by omega
    have z2 : ¬ (20 : Int) < (d.size : Int) := by omega
    have HI1 := hid (HI.out 0 d.size 0 d.size d w rfl rfl rfl S0.out (Nat.zero_le _) (Nat.le_refl _))
    have H := hid h
    clear h hn
    go_enter Tryd.func70, Tryd.ntmps70
    go_wp2
    refine wp_loop_rounds 1 ?_
    rw [rounds_succ]
    go_wp2_with (go_at_call 82; refine HI1.out.mono ?_; rintro e w1 ⟨rfl, d1, T1, T2, S1⟩; have T3 := hid (And.intro T1 (And.intro T2 S1)); clear T1 T2 S1)
    refine wp_loop_rounds 1 ?_
    rw [rounds_succ]
    go_wp2
    go_end0
    have h := H.out
    refine ⟨rfl, d1, T3.out.1, ?_, T3.out.2.2⟩
    rw [T3.out.2.1]
    exact (insertionSort_stab HT.out 0 d.size d (Nat.zero_le _) (Nat.le_refl _) (fun p q _ h2 h3 => HA.out p q h2 h3)).1
  · have z1 : (20 : Int) ≤ (d.size : Int) := by omega
    have z2 : ¬ (20 : Int) < (d.size : Int) := by omega
    have z3 : ¬ (40 : Int) ≤ (d.size : Int) := by omega
    have HI1 := hid (HI.out 0 20 0 20 d w rfl rfl rfl S0.out (by omega) (by omega))
    have H := hid h
    clear h hn
    go_enter Tryd.func70, Tryd.ntmps70
    go_wp2
    refine wp_loop_rounds 2 ?_
    rw [rounds_succ]
    go_wp2_with (go_at_call 82; refine HI1.out.mono ?_; rintro e w1 ⟨rfl, d1, T1, T2, S1⟩; have T3 := hid (And.intro T1 (And.intro T2 S1)); have T4 : d1.size = d.size := T1.1; clear T1 T2 S1)
    rw [rounds_succ]
    have h := H.out
    have HI2 := hid (HI.out 20 d.size 20 d.size d1 w1 rfl rfl T4 T3.out.2.2 (by omega) (by omega))
    clear h
    go_wp2_with (go_at_call 82; refine HI2.out.mono ?_; rintro e w2 ⟨rfl, d2, T1, T2, S1⟩; have T5 := hid (And.intro T1 (And.intro T2 S1)); have T6 : d2.size = d.size := T1.1.trans T4; clear T1 T2 S1)
    refine wp_loop_rounds 1 ?_
    rw [rounds_succ]
    go_wp2
    go_end0
    have h := H.out
    have p1 := permIn_mono _ _ _ _ _ _ (Nat.le_refl _) (Nat.le_of_eq h.symm) (Nat.le_refl _) T3.out.1
    have p2 := permIn_mono _ _ _ _ _ _ (Nat.zero_le _) (Nat.le_refl _) (Nat.le_of_eq T4.symm) T5.out.1
    have TW := part_two HT.out (m := 20) (n := d.size) (by omega) rfl HA.out T3.out.1 T3.out.2.1 T5.out.1 T5.out.2.1
    refine ⟨rfl, d2, permIn_trans _ _ _ _ _ p1 p2, fun i j hi hij hj => TW.left i j hi hij (by omega), T5.out.2.2⟩
  · by_cases h40 : d.size = 40
    · have z1 : (20 : Int) ≤ (d.size : Int) := by omega
      have z2 : (20 : Int) < (d.size : Int) := by omega
      have z3 : (40 : Int) ≤ (d.size : Int) := by omega
      have z4 : ¬ (40 : Int) < (d.size : Int) := by omega
      have z5 : ¬ (60 : Int) ≤ (d.size : Int) := by omega
      have z6 : ¬ (80 : Int) ≤ (d.size : Int) := by omega
      have HI1 := hid (HI.out 0 20 0 20 d w rfl rfl rfl S0.out (by omega) (by omega))
      have H := hid h40
      clear h h40 hn
      go_enter Tryd.func70, Tryd.ntmps70
      go_wp2
      refine wp_loop_rounds 3 ?_
      rw [rounds_succ]
      go_wp2_with (go_at_call 82; refine HI1.out.mono ?_; rintro e w1 ⟨rfl, d1, T1, T2, S1⟩; have T3 := hid (And.intro T1 (And.intro T2 S1)); have T4 : d1.size = d.size := T1.1; clear T1 T2 S1)
      rw [rounds_succ]
      have h := H.out
      have HI2 := hid (HI.out 20 40 20 40 d1 w1 rfl rfl T4 T3.out.2.2 (by omega) (by omega))
      clear h
      go_wp2_with (go_at_call 82; refine HI2.out.mono ?_; rintro e w2 ⟨rfl, d2, T1, T2, S1⟩; have T5 := hid (And.intro T1 (And.intro T2 S1)); have T6 : d2.size = d.size := T1.1.trans T4; clear T1 T2 S1)
      rw [rounds_succ]
      have h := H.out
      have HI3 := hid (HI.out 40 d.size 40 d.size d2 w2 rfl rfl T6 T5.out.2.2 (by omega) (by omega))
      clear h
      go_wp2_with (go_at_call 82; refine HI3.out.mono ?_; rintro e w3 ⟨rfl, d3, T1, T2, S1⟩; have T7 := hid (And.intro T1 (And.intro T2 S1)); have T8 : d3.size = d.size := T1.1.trans T6; clear T1 T2 S1)
      have h := H.out
      have p1 := hid (permIn_mono _ _ _ _ _ _ (Nat.le_refl _) (show 20 ≤ d.size by omega) (Nat.le_refl _) T3.out.1)
      have p2 := hid (permIn_trans _ _ _ _ _ p1.out (permIn_mono _ _ _ _ _ _ (Nat.zero_le _) (show 40 ≤ d.size by omega) (Nat.le_of_eq T4.symm) T5.out.1))
      have p3 := hid (permIn_trans _ _ _ _ _ p2.out (permIn_mono _ _ _ _ _ _ (Nat.zero_le _) (Nat.le_refl _) (Nat.le_of_eq T6.symm) T7.out.1))
      have HTW : Hid (Two Q (ltOf cf) 0 20 40 d3) := by
        have TW := part_two HT.out (m := 20) (n := 40) (by omega) h.symm HA.out T3.out.1 T3.out.2.1 T5.out.1 T5.out.2.1
        have e : ∀ x, x < 40 → d3[x]! = d2[x]! := fun x hx => T7.out.1.2.1 x (Or.inl hx)
        exact ⟨fun i j h1 h2 h3 => by rw [e i (by omega), e j (by omega)]; exact TW.left i j h1 h2 h3, fun i j h1 h2 h3 => by rw [e i (by omega), e j (by omega)]; exact TW.right i j h1 h2 h3,
          fun i j h1 h2 h3 h4 => by rw [e i (by omega), e j (by omega)]; exact TW.yes i j h1 h2 h3 h4, fun i j h1 h2 h3 h4 => by rw [e i (by omega), e j (by omega)]; exact TW.no i j h1 h2 h3 h4⟩
      have HM1 := hid (HM.out 0 20 40 0 20 40 d3 w3 rfl rfl rfl T8 T7.out.2.2 (by omega) (by omega) (by omega) HTW.out)
      clear h
      refine wp_loop_rounds 2 ?_
      rw [rounds_succ]
      go_wp2
      refine wp_loop_rounds 2 ?_
      rw [rounds_succ]
      go_wp2_with (go_at_call 83; refine HM1.out.mono ?_; rintro e w4 ⟨rfl, d4, T1, T2, S1⟩; have T9 := hid (And.intro T1 (And.intro T2 S1)); have T10 : d4.size = d.size := T1.1.trans T8; clear T1 T2 S1)
      rw [rounds_succ]
      go_wp2
      rw [rounds_succ]
      go_wp2
      go_end0
      have h := H.out
      refine ⟨rfl, d4, permIn_trans _ _ _ _ _ p3.out (permIn_mono _ _ _ _ _ _ (Nat.le_refl _) (show 40 ≤ d.size by omega) (Nat.le_of_eq T8.symm) T9.out.1), fun i j hi hij hj => T9.out.2.1 i j hi hij (by omega), T9.out.2.2⟩
    · have z1 : (20 : Int) ≤ (d.size : Int) := by omega
      have z2 : (20 : Int) < (d.size : Int) := by omega
      have z3 : ¬ (40 : Int) ≤ (d.size : Int) := by omega
      have z4 : ¬ (40 : Int) < (d.size : Int) := by omega
      have HI1 := hid (HI.out 0 20 0 20 d w rfl rfl rfl S0.out (by omega) (by omega))
      have H := hid h
      clear h h40 hn
      go_enter Tryd.func70, Tryd.ntmps70
      go_wp2
      refine wp_loop_rounds 2 ?_
      rw [rounds_succ]
      go_wp2_with (go_at_call 82; refine HI1.out.mono ?_; rintro e w1 ⟨rfl, d1, T1, T2, S1⟩; have T3 := hid (And.intro T1 (And.intro T2 S1)); have T4 : d1.size = d.size := T1.1; clear T1 T2 S1)
      rw [rounds_succ]
      have h := H.out
      have HI2 := hid (HI.out 20 d.size 20 d.size d1 w1 rfl rfl T4 T3.out.2.2 (by omega) (by omega))
      clear h
      go_wp2_with (go_at_call 82; refine HI2.out.mono ?_; rintro e w2 ⟨rfl, d2, T1, T2, S1⟩; have T5 := hid (And.intro T1 (And.intro T2 S1)); have T6 : d2.size = d.size := T1.1.trans T4; clear T1 T2 S1)
      have h := H.out
      have p1 := hid (permIn_mono _ _ _ _ _ _ (Nat.le_refl _) (Nat.le_of_lt h) (Nat.le_refl _) T3.out.1)
      have p2 := hid (permIn_trans _ _ _ _ _ p1.out (permIn_mono _ _ _ _ _ _ (Nat.zero_le _) (Nat.le_refl _) (Nat.le_of_eq T4.symm) T5.out.1))
      have HTW : Hid (Two Q (ltOf cf) 0 20 d.size d2) := part_two HT.out (m := 20) (n := d.size) (by omega) rfl HA.out T3.out.1 T3.out.2.1 T5.out.1 T5.out.2.1
      have HM1 := hid (HM.out 0 20 d.size 0 20 d.size d2 w2 rfl rfl rfl T6 T5.out.2.2 (by omega) h (Nat.le_refl _) HTW.out)
      clear h
      refine wp_loop_rounds 2 ?_
      rw [rounds_succ]
      go_wp2
      refine wp_loop_rounds 1 ?_
      rw [rounds_succ]
      go_wp2_with (go_at_call 83; refine HM1.out.mono ?_; rintro e w3 ⟨rfl, d3, T1, T2, S1⟩; have T7 := hid (And.intro T1 (And.intro T2 S1)); have T8 : d3.size = d.size := T1.1.trans T6; clear T1 T2 S1)
      rw [rounds_succ]
      go_wp2
      go_end0
      have h := H.out
      exact ⟨rfl, d3, permIn_trans _ _ _ _ _ p2.out T7.out.1, T7.out.2.1, T7.out.2.2⟩
end Go.Proofs.YtliehlefpodhaaaDoor
