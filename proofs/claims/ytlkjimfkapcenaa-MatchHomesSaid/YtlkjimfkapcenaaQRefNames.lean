/- How names agree, in the reference. For all valid names. -/
import Derived.Test.YtlkjimfkapcenaaQEditsTop
import Derived.Test.YtlkjimfkapcenaaQAmong
namespace Go.Proofs.Ytlkjimfkapcenaa
open Go.RowKit

set_option maxRecDepth 100000 in
set_option maxHeartbeats 1000000 in
theorem refNames_gt (r : Rul) (a b : Rcd) (A : Option Addr) (n c : Nat) (B : Option Addr) (m : Nat) (A' : Option Addr) (n' c' : Nat) (B' : Option Addr) (m' : Nat) (w : World)
    (ha : a.In w A n B m) (hb : b.In w A' n' B' m') (fa : Fine a n c) (fb : Fine b n' c') (hlt : n' < n) :
    Calls Try.prog 61 #[r.val, .slice A n c, .slice A' n' c'] w fun e w' => e = .returned (.int .u8 (namesO r.letters b.names a.names)) ∧ Gr w w' := by
  obtain ⟨b0, o0, rfl, hb0, _⟩ := ha.names.at_ fa.lo
  obtain ⟨b1, o1, rfl, hb1, _⟩ := hb.names.at_ fb.lo
  have ra : Rd w 1 (if c = 1 then some ⟨b0, o0, none⟩ else some ⟨b0, o0 + 1, none⟩) (n - 1) (a.names.tail.map Value.string) := by
    have h := ha.names.cut (k := 1) fa.lo fa.cap
    rw [Nat.one_mul, ← List.map_drop, List.drop_one] at h
    simpa [Addr.add_lit] using h
  have rb : Rd w 1 (if c' = 1 then some ⟨b1, o1, none⟩ else some ⟨b1, o1 + 1, none⟩) (n' - 1) (b.names.tail.map Value.string) := by
    have h := hb.names.cut (k := 1) fb.lo fb.cap
    rw [Nat.one_mul, ← List.map_drop, List.drop_one] at h
    simpa [Addr.add_lit] using h
  generalize hAa : (if c = 1 then some (⟨b0, o0, none⟩ : Addr) else some ⟨b0, o0 + 1, none⟩) = Aa at ra
  generalize hAb : (if c' = 1 then some (⟨b1, o1, none⟩ : Addr) else some ⟨b1, o1 + 1, none⟩) = Ab at rb
  have fah := fa.hi
  have fbh := fb.hi
  have HM := hid (fun (kk : Int) W (g : Gr w W) => refGiven_any kk Ab (n' - 1) (c' - 1) b.names.tail Aa (n - 1) (c - 1) a.names.tail W (rb.gr g) (ra.gr g) (by omega) (by omega) (fun s hs => fb.words s (List.mem_of_mem_tail hs)) (fun s hs => fa.words s (List.mem_of_mem_tail hs)))
  obtain ⟨k0, z0, z0'⟩ := fb.first hb
  obtain ⟨k1, z1, z1'⟩ := fa.first ha
  obtain ⟨l, dg, dy, tg⟩ := r
  have z2 : 0 < n := fa.lo
  have z3 : 0 < n' := fb.lo
  have z4 : (0 : Int) < n := by omega
  have z5 : (0 : Int) < n' := by omega
  clear ha hb fa fb ra rb
  unfold namesO Rul.val
  dsimp only
  generalize a.names.tail = ta at HM ⊢
  generalize b.names.tail = tb' at HM ⊢
  generalize b.names[0]! = x at k0 z0 z0' ⊢
  generalize a.names[0]! = y at k1 z1 z1' ⊢
  have HE := hid (fun W => refEdits20 x y W z0' z1')
  generalize lev x y x.size y.size = v at HE ⊢
  have HM1 := hid (fun W g => HM.out (-1) W g)
  have HM2 := hid (fun W g => HM.out l W g)
  clear HM z0 z1 z0' z1'
  generalize amongB (-1) tb' ta = v1 at HM1 ⊢
  generalize amongB l tb' ta = v2 at HM2 ⊢
  obtain ⟨NV, hNV⟩ : ∃ z : Int, z = if x = y ∧ v1 = true then 3 else if (v : Int) ≤ l ∧ v2 = true then 2 else 0 := ⟨_, rfl⟩
  rw [← hNV]
  have HNV := hid hNV
  clear hNV
  have g3 : Gr w (w.alloc (.cells #[.int .i64 l, .int .i64 dg, .int .i64 dy, .int .i64 tg] 23)) := (Gr.refl w).alloc _
  have E1 : (w.alloc (.cells #[.int .i64 l, .int .i64 dg, .int .i64 dy, .int .i64 tg] 23)).heap[w.heap.size]? = some (.cells #[.int .i64 l, .int .i64 dg, .int .i64 dy, .int .i64 tg] 23 (0, 0)) := heap_alloc_new w _
  have HK0 := hid ((g3.cell hb1).trans k0)
  have HK1 := hid ((g3.cell hb0).trans k1)
  clear k0 k1 hb0 hb1
  have HE1 := hid E1
  have HG := hid g3
  have e0 := GrW.cell HK0.out
  have e1 := GrW.cell HK1.out
  clear E1 g3
  have hlt' : (n' : Int) < n := by omega
  by_cases hxy : x = y
  · subst hxy
    cases v1
    · have EY := hid (show NV = if (v : Int) ≤ l ∧ v2 = true then 2 else 0 from HNV.out.trans (if_neg (fun h => Bool.false_ne_true h.2)))
      clear HNV
      by_cases hv : (v : Int) ≤ l
      · have hv2 : decide ((v : Int) ≤ l) = true := decide_eq_true hv
        cases v2
        · have EX := hid (show NV = 0 from EY.out.trans (if_neg (fun h => Bool.false_ne_true h.2)))
          clear EY
          go_enter Try.func61, Try.ntmps61
          go_wp2
          (refine wp_region_gr (by kernel_rfl) (by kernel_rfl) ?_; (repeat (first | go_big_quiet_step ((first | (go_at_call 84; with_reducible exact calls_gr (HM1.out _ (HG.out.trans (GrW.gr _)))))) | quiet_step ((first | (go_at_call 84; with_reducible exact calls_gr (HM1.out _ (HG.out.trans (GrW.gr _)))))))); refine wpQuiet_nil ?_; intro wq hw; obtain ⟨⟨_, hbwq⟩, hw⟩ := hw; subst hw; obtain ⟨hcwq, hfwq, hzwq⟩ := hbwq.rules; (try simp at hzwq))
          go_wp2
          have HQ := hid hbwq
          clear e0 e1
          have e0 := GrW.cell ((row_cell HK0.out HQ.out))
          have e1 := GrW.cell ((row_cell HK1.out HQ.out))
          obtain ⟨r0, r1, r2, r3⟩ := row4 (row_gr HE1.out HQ.out)
          (refine wp_region_gr (by kernel_rfl) (by kernel_rfl) ?_; (repeat (first | go_big_quiet_step ((first | (go_at_call 32; with_reducible exact calls_gr (HE.out _)) | (go_at_call 84; with_reducible exact calls_gr (HM2.out _ (HG.out.trans (HQ.out.trans (GrW.gr _))))))) | quiet_step ((first | (go_at_call 32; with_reducible exact calls_gr (HE.out _)) | (go_at_call 84; with_reducible exact calls_gr (HM2.out _ (HG.out.trans (HQ.out.trans (GrW.gr _))))))))); refine wpQuiet_nil ?_; intro wz hw; obtain ⟨⟨_, hbwz⟩, hw⟩ := hw; subst hw; obtain ⟨hcwz, hfwz, hzwz⟩ := hbwz.rules; (try simp at hzwz))
          go_wp2
          go_ret
          exact ⟨by rw [EX.out]; rfl, HG.out.trans (HQ.out.trans hbwz)⟩
        · have EX := hid (show NV = 2 from EY.out.trans (if_pos ⟨hv, rfl⟩))
          clear EY
          go_enter Try.func61, Try.ntmps61
          go_wp2
          (refine wp_region_gr (by kernel_rfl) (by kernel_rfl) ?_; (repeat (first | go_big_quiet_step ((first | (go_at_call 84; with_reducible exact calls_gr (HM1.out _ (HG.out.trans (GrW.gr _)))))) | quiet_step ((first | (go_at_call 84; with_reducible exact calls_gr (HM1.out _ (HG.out.trans (GrW.gr _)))))))); refine wpQuiet_nil ?_; intro wq hw; obtain ⟨⟨_, hbwq⟩, hw⟩ := hw; subst hw; obtain ⟨hcwq, hfwq, hzwq⟩ := hbwq.rules; (try simp at hzwq))
          go_wp2
          have HQ := hid hbwq
          clear e0 e1
          have e0 := GrW.cell ((row_cell HK0.out HQ.out))
          have e1 := GrW.cell ((row_cell HK1.out HQ.out))
          obtain ⟨r0, r1, r2, r3⟩ := row4 (row_gr HE1.out HQ.out)
          (refine wp_region_gr (by kernel_rfl) (by kernel_rfl) ?_; (repeat (first | go_big_quiet_step ((first | (go_at_call 32; with_reducible exact calls_gr (HE.out _)) | (go_at_call 84; with_reducible exact calls_gr (HM2.out _ (HG.out.trans (HQ.out.trans (GrW.gr _))))))) | quiet_step ((first | (go_at_call 32; with_reducible exact calls_gr (HE.out _)) | (go_at_call 84; with_reducible exact calls_gr (HM2.out _ (HG.out.trans (HQ.out.trans (GrW.gr _))))))))); refine wpQuiet_nil ?_; intro wz hw; obtain ⟨⟨_, hbwz⟩, hw⟩ := hw; subst hw; obtain ⟨hcwz, hfwz, hzwz⟩ := hbwz.rules; (try simp at hzwz))
          go_wp2
          go_ret
          exact ⟨by rw [EX.out]; rfl, HG.out.trans (HQ.out.trans hbwz)⟩
      · have hv2 : decide ((v : Int) ≤ l) = false := decide_eq_false hv
        have EX := hid (show NV = 0 from EY.out.trans (if_neg (fun h => hv h.1)))
        clear EY
        go_enter Try.func61, Try.ntmps61
        go_wp2
        (refine wp_region_gr (by kernel_rfl) (by kernel_rfl) ?_; (repeat (first | go_big_quiet_step ((first | (go_at_call 84; with_reducible exact calls_gr (HM1.out _ (HG.out.trans (GrW.gr _)))))) | quiet_step ((first | (go_at_call 84; with_reducible exact calls_gr (HM1.out _ (HG.out.trans (GrW.gr _)))))))); refine wpQuiet_nil ?_; intro wq hw; obtain ⟨⟨_, hbwq⟩, hw⟩ := hw; subst hw; obtain ⟨hcwq, hfwq, hzwq⟩ := hbwq.rules; (try simp at hzwq))
        go_wp2
        have HQ := hid hbwq
        clear e0 e1
        have e0 := GrW.cell ((row_cell HK0.out HQ.out))
        have e1 := GrW.cell ((row_cell HK1.out HQ.out))
        obtain ⟨r0, r1, r2, r3⟩ := row4 (row_gr HE1.out HQ.out)
        (refine wp_region_gr (by kernel_rfl) (by kernel_rfl) ?_; (repeat (first | go_big_quiet_step ((first | (go_at_call 32; with_reducible exact calls_gr (HE.out _)) | (go_at_call 84; with_reducible exact calls_gr (HM2.out _ (HG.out.trans (HQ.out.trans (GrW.gr _))))))) | quiet_step ((first | (go_at_call 32; with_reducible exact calls_gr (HE.out _)) | (go_at_call 84; with_reducible exact calls_gr (HM2.out _ (HG.out.trans (HQ.out.trans (GrW.gr _))))))))); refine wpQuiet_nil ?_; intro wz hw; obtain ⟨⟨_, hbwz⟩, hw⟩ := hw; subst hw; obtain ⟨hcwz, hfwz, hzwz⟩ := hbwz.rules; (try simp at hzwz))
        go_wp2
        go_ret
        exact ⟨by rw [EX.out]; rfl, HG.out.trans (HQ.out.trans hbwz)⟩
    · have EX := hid (show NV = 3 from HNV.out.trans (if_pos ⟨rfl, rfl⟩))
      clear HNV
      go_enter Try.func61, Try.ntmps61
      go_wp2
      (refine wp_region_gr (by kernel_rfl) (by kernel_rfl) ?_; (repeat (first | go_big_quiet_step ((first | (go_at_call 84; with_reducible exact calls_gr (HM1.out _ (HG.out.trans (GrW.gr _)))))) | quiet_step ((first | (go_at_call 84; with_reducible exact calls_gr (HM1.out _ (HG.out.trans (GrW.gr _)))))))); refine wpQuiet_nil ?_; intro wq hw; obtain ⟨⟨_, hbwq⟩, hw⟩ := hw; subst hw; obtain ⟨hcwq, hfwq, hzwq⟩ := hbwq.rules; (try simp at hzwq))
      go_wp2
      go_ret
      exact ⟨by rw [EX.out]; rfl, HG.out.trans hbwq⟩
  · have EY := hid (show NV = if (v : Int) ≤ l ∧ v2 = true then 2 else 0 from HNV.out.trans (if_neg (fun h => hxy h.1)))
    clear HNV
    have tl := toList_ne' hxy
    have tb := toList_beq hxy
    by_cases hv : (v : Int) ≤ l
    · have hv2 : decide ((v : Int) ≤ l) = true := decide_eq_true hv
      cases v2
      · have EX := hid (show NV = 0 from EY.out.trans (if_neg (fun h => Bool.false_ne_true h.2)))
        clear EY
        go_enter Try.func61, Try.ntmps61
        go_wp2
        (refine wp_region_gr (by kernel_rfl) (by kernel_rfl) ?_; (repeat (first | go_big_quiet_step ((first | (go_at_call 84; with_reducible exact calls_gr (HM1.out _ (HG.out.trans (GrW.gr _)))))) | quiet_step ((first | (go_at_call 84; with_reducible exact calls_gr (HM1.out _ (HG.out.trans (GrW.gr _)))))))); refine wpQuiet_nil ?_; intro wq hw; obtain ⟨⟨_, hbwq⟩, hw⟩ := hw; subst hw; obtain ⟨hcwq, hfwq, hzwq⟩ := hbwq.rules; (try simp at hzwq))
        go_wp2
        have HQ := hid hbwq
        clear e0 e1
        have e0 := GrW.cell ((row_cell HK0.out HQ.out))
        have e1 := GrW.cell ((row_cell HK1.out HQ.out))
        obtain ⟨r0, r1, r2, r3⟩ := row4 (row_gr HE1.out HQ.out)
        (refine wp_region_gr (by kernel_rfl) (by kernel_rfl) ?_; (repeat (first | go_big_quiet_step ((first | (go_at_call 32; with_reducible exact calls_gr (HE.out _)) | (go_at_call 84; with_reducible exact calls_gr (HM2.out _ (HG.out.trans (HQ.out.trans (GrW.gr _))))))) | quiet_step ((first | (go_at_call 32; with_reducible exact calls_gr (HE.out _)) | (go_at_call 84; with_reducible exact calls_gr (HM2.out _ (HG.out.trans (HQ.out.trans (GrW.gr _))))))))); refine wpQuiet_nil ?_; intro wz hw; obtain ⟨⟨_, hbwz⟩, hw⟩ := hw; subst hw; obtain ⟨hcwz, hfwz, hzwz⟩ := hbwz.rules; (try simp at hzwz))
        go_wp2
        go_ret
        exact ⟨by rw [EX.out]; rfl, HG.out.trans (HQ.out.trans hbwz)⟩
      · have EX := hid (show NV = 2 from EY.out.trans (if_pos ⟨hv, rfl⟩))
        clear EY
        go_enter Try.func61, Try.ntmps61
        go_wp2
        (refine wp_region_gr (by kernel_rfl) (by kernel_rfl) ?_; (repeat (first | go_big_quiet_step ((first | (go_at_call 84; with_reducible exact calls_gr (HM1.out _ (HG.out.trans (GrW.gr _)))))) | quiet_step ((first | (go_at_call 84; with_reducible exact calls_gr (HM1.out _ (HG.out.trans (GrW.gr _)))))))); refine wpQuiet_nil ?_; intro wq hw; obtain ⟨⟨_, hbwq⟩, hw⟩ := hw; subst hw; obtain ⟨hcwq, hfwq, hzwq⟩ := hbwq.rules; (try simp at hzwq))
        go_wp2
        have HQ := hid hbwq
        clear e0 e1
        have e0 := GrW.cell ((row_cell HK0.out HQ.out))
        have e1 := GrW.cell ((row_cell HK1.out HQ.out))
        obtain ⟨r0, r1, r2, r3⟩ := row4 (row_gr HE1.out HQ.out)
        (refine wp_region_gr (by kernel_rfl) (by kernel_rfl) ?_; (repeat (first | go_big_quiet_step ((first | (go_at_call 32; with_reducible exact calls_gr (HE.out _)) | (go_at_call 84; with_reducible exact calls_gr (HM2.out _ (HG.out.trans (HQ.out.trans (GrW.gr _))))))) | quiet_step ((first | (go_at_call 32; with_reducible exact calls_gr (HE.out _)) | (go_at_call 84; with_reducible exact calls_gr (HM2.out _ (HG.out.trans (HQ.out.trans (GrW.gr _))))))))); refine wpQuiet_nil ?_; intro wz hw; obtain ⟨⟨_, hbwz⟩, hw⟩ := hw; subst hw; obtain ⟨hcwz, hfwz, hzwz⟩ := hbwz.rules; (try simp at hzwz))
        go_wp2
        go_ret
        exact ⟨by rw [EX.out]; rfl, HG.out.trans (HQ.out.trans hbwz)⟩
    · have hv2 : decide ((v : Int) ≤ l) = false := decide_eq_false hv
      have EX := hid (show NV = 0 from EY.out.trans (if_neg (fun h => hv h.1)))
      clear EY
      go_enter Try.func61, Try.ntmps61
      go_wp2
      (refine wp_region_gr (by kernel_rfl) (by kernel_rfl) ?_; (repeat (first | go_big_quiet_step ((first | (go_at_call 84; with_reducible exact calls_gr (HM1.out _ (HG.out.trans (GrW.gr _)))))) | quiet_step ((first | (go_at_call 84; with_reducible exact calls_gr (HM1.out _ (HG.out.trans (GrW.gr _)))))))); refine wpQuiet_nil ?_; intro wq hw; obtain ⟨⟨_, hbwq⟩, hw⟩ := hw; subst hw; obtain ⟨hcwq, hfwq, hzwq⟩ := hbwq.rules; (try simp at hzwq))
      go_wp2
      have HQ := hid hbwq
      clear e0 e1
      have e0 := GrW.cell ((row_cell HK0.out HQ.out))
      have e1 := GrW.cell ((row_cell HK1.out HQ.out))
      obtain ⟨r0, r1, r2, r3⟩ := row4 (row_gr HE1.out HQ.out)
      (refine wp_region_gr (by kernel_rfl) (by kernel_rfl) ?_; (repeat (first | go_big_quiet_step ((first | (go_at_call 32; with_reducible exact calls_gr (HE.out _)) | (go_at_call 84; with_reducible exact calls_gr (HM2.out _ (HG.out.trans (HQ.out.trans (GrW.gr _))))))) | quiet_step ((first | (go_at_call 32; with_reducible exact calls_gr (HE.out _)) | (go_at_call 84; with_reducible exact calls_gr (HM2.out _ (HG.out.trans (HQ.out.trans (GrW.gr _))))))))); refine wpQuiet_nil ?_; intro wz hw; obtain ⟨⟨_, hbwz⟩, hw⟩ := hw; subst hw; obtain ⟨hcwz, hfwz, hzwz⟩ := hbwz.rules; (try simp at hzwz))
      go_wp2
      go_ret
      exact ⟨by rw [EX.out]; rfl, HG.out.trans (HQ.out.trans hbwz)⟩

set_option maxRecDepth 100000 in
set_option maxHeartbeats 1000000 in
theorem refNames_le (r : Rul) (a b : Rcd) (A : Option Addr) (n c : Nat) (B : Option Addr) (m : Nat) (A' : Option Addr) (n' c' : Nat) (B' : Option Addr) (m' : Nat) (w : World)
    (ha : a.In w A n B m) (hb : b.In w A' n' B' m') (fa : Fine a n c) (fb : Fine b n' c') (hlt : n ≤ n') :
    Calls Try.prog 61 #[r.val, .slice A n c, .slice A' n' c'] w fun e w' => e = .returned (.int .u8 (namesO r.letters a.names b.names)) ∧ Gr w w' := by
  obtain ⟨b0, o0, rfl, hb0, _⟩ := ha.names.at_ fa.lo
  obtain ⟨b1, o1, rfl, hb1, _⟩ := hb.names.at_ fb.lo
  have ra : Rd w 1 (if c = 1 then some ⟨b0, o0, none⟩ else some ⟨b0, o0 + 1, none⟩) (n - 1) (a.names.tail.map Value.string) := by
    have h := ha.names.cut (k := 1) fa.lo fa.cap
    rw [Nat.one_mul, ← List.map_drop, List.drop_one] at h
    simpa [Addr.add_lit] using h
  have rb : Rd w 1 (if c' = 1 then some ⟨b1, o1, none⟩ else some ⟨b1, o1 + 1, none⟩) (n' - 1) (b.names.tail.map Value.string) := by
    have h := hb.names.cut (k := 1) fb.lo fb.cap
    rw [Nat.one_mul, ← List.map_drop, List.drop_one] at h
    simpa [Addr.add_lit] using h
  generalize hAa : (if c = 1 then some (⟨b0, o0, none⟩ : Addr) else some ⟨b0, o0 + 1, none⟩) = Aa at ra
  generalize hAb : (if c' = 1 then some (⟨b1, o1, none⟩ : Addr) else some ⟨b1, o1 + 1, none⟩) = Ab at rb
  have fah := fa.hi
  have fbh := fb.hi
  have HM := hid (fun (kk : Int) W (g : Gr w W) => refGiven_any kk Aa (n - 1) (c - 1) a.names.tail Ab (n' - 1) (c' - 1) b.names.tail W (ra.gr g) (rb.gr g) (by omega) (by omega) (fun s hs => fa.words s (List.mem_of_mem_tail hs)) (fun s hs => fb.words s (List.mem_of_mem_tail hs)))
  obtain ⟨k0, z0, z0'⟩ := fa.first ha
  obtain ⟨k1, z1, z1'⟩ := fb.first hb
  obtain ⟨l, dg, dy, tg⟩ := r
  have z2 : 0 < n := fa.lo
  have z3 : 0 < n' := fb.lo
  have z4 : (0 : Int) < n := by omega
  have z5 : (0 : Int) < n' := by omega
  clear ha hb fa fb ra rb
  unfold namesO Rul.val
  dsimp only
  generalize a.names.tail = ta at HM ⊢
  generalize b.names.tail = tb' at HM ⊢
  generalize a.names[0]! = x at k0 z0 z0' ⊢
  generalize b.names[0]! = y at k1 z1 z1' ⊢
  have HE := hid (fun W => refEdits20 x y W z0' z1')
  generalize lev x y x.size y.size = v at HE ⊢
  have HM1 := hid (fun W g => HM.out (-1) W g)
  have HM2 := hid (fun W g => HM.out l W g)
  clear HM z0 z1 z0' z1'
  generalize amongB (-1) ta tb' = v1 at HM1 ⊢
  generalize amongB l ta tb' = v2 at HM2 ⊢
  obtain ⟨NV, hNV⟩ : ∃ z : Int, z = if x = y ∧ v1 = true then 3 else if (v : Int) ≤ l ∧ v2 = true then 2 else 0 := ⟨_, rfl⟩
  rw [← hNV]
  have HNV := hid hNV
  clear hNV
  have g3 : Gr w (w.alloc (.cells #[.int .i64 l, .int .i64 dg, .int .i64 dy, .int .i64 tg] 23)) := (Gr.refl w).alloc _
  have E1 : (w.alloc (.cells #[.int .i64 l, .int .i64 dg, .int .i64 dy, .int .i64 tg] 23)).heap[w.heap.size]? = some (.cells #[.int .i64 l, .int .i64 dg, .int .i64 dy, .int .i64 tg] 23 (0, 0)) := heap_alloc_new w _
  have HK0 := hid ((g3.cell hb0).trans k0)
  have HK1 := hid ((g3.cell hb1).trans k1)
  clear k0 k1 hb0 hb1
  have HE1 := hid E1
  have HG := hid g3
  have e0 := GrW.cell HK0.out
  have e1 := GrW.cell HK1.out
  clear E1 g3
  have hlt' : (n : Int) ≤ n' := by omega
  by_cases hxy : x = y
  · subst hxy
    cases v1
    · have EY := hid (show NV = if (v : Int) ≤ l ∧ v2 = true then 2 else 0 from HNV.out.trans (if_neg (fun h => Bool.false_ne_true h.2)))
      clear HNV
      by_cases hv : (v : Int) ≤ l
      · have hv2 : decide ((v : Int) ≤ l) = true := decide_eq_true hv
        cases v2
        · have EX := hid (show NV = 0 from EY.out.trans (if_neg (fun h => Bool.false_ne_true h.2)))
          clear EY
          go_enter Try.func61, Try.ntmps61
          go_wp2
          (refine wp_region_gr (by kernel_rfl) (by kernel_rfl) ?_; (repeat (first | go_big_quiet_step ((first | (go_at_call 84; with_reducible exact calls_gr (HM1.out _ (HG.out.trans (GrW.gr _)))))) | quiet_step ((first | (go_at_call 84; with_reducible exact calls_gr (HM1.out _ (HG.out.trans (GrW.gr _)))))))); refine wpQuiet_nil ?_; intro wq hw; obtain ⟨⟨_, hbwq⟩, hw⟩ := hw; subst hw; obtain ⟨hcwq, hfwq, hzwq⟩ := hbwq.rules; (try simp at hzwq))
          go_wp2
          have HQ := hid hbwq
          clear e0 e1
          have e0 := GrW.cell ((row_cell HK0.out HQ.out))
          have e1 := GrW.cell ((row_cell HK1.out HQ.out))
          obtain ⟨r0, r1, r2, r3⟩ := row4 (row_gr HE1.out HQ.out)
          (refine wp_region_gr (by kernel_rfl) (by kernel_rfl) ?_; (repeat (first | go_big_quiet_step ((first | (go_at_call 32; with_reducible exact calls_gr (HE.out _)) | (go_at_call 84; with_reducible exact calls_gr (HM2.out _ (HG.out.trans (HQ.out.trans (GrW.gr _))))))) | quiet_step ((first | (go_at_call 32; with_reducible exact calls_gr (HE.out _)) | (go_at_call 84; with_reducible exact calls_gr (HM2.out _ (HG.out.trans (HQ.out.trans (GrW.gr _))))))))); refine wpQuiet_nil ?_; intro wz hw; obtain ⟨⟨_, hbwz⟩, hw⟩ := hw; subst hw; obtain ⟨hcwz, hfwz, hzwz⟩ := hbwz.rules; (try simp at hzwz))
          go_wp2
          go_ret
          exact ⟨by rw [EX.out]; rfl, HG.out.trans (HQ.out.trans hbwz)⟩
        · have EX := hid (show NV = 2 from EY.out.trans (if_pos ⟨hv, rfl⟩))
          clear EY
          go_enter Try.func61, Try.ntmps61
          go_wp2
          (refine wp_region_gr (by kernel_rfl) (by kernel_rfl) ?_; (repeat (first | go_big_quiet_step ((first | (go_at_call 84; with_reducible exact calls_gr (HM1.out _ (HG.out.trans (GrW.gr _)))))) | quiet_step ((first | (go_at_call 84; with_reducible exact calls_gr (HM1.out _ (HG.out.trans (GrW.gr _)))))))); refine wpQuiet_nil ?_; intro wq hw; obtain ⟨⟨_, hbwq⟩, hw⟩ := hw; subst hw; obtain ⟨hcwq, hfwq, hzwq⟩ := hbwq.rules; (try simp at hzwq))
          go_wp2
          have HQ := hid hbwq
          clear e0 e1
          have e0 := GrW.cell ((row_cell HK0.out HQ.out))
          have e1 := GrW.cell ((row_cell HK1.out HQ.out))
          obtain ⟨r0, r1, r2, r3⟩ := row4 (row_gr HE1.out HQ.out)
          (refine wp_region_gr (by kernel_rfl) (by kernel_rfl) ?_; (repeat (first | go_big_quiet_step ((first | (go_at_call 32; with_reducible exact calls_gr (HE.out _)) | (go_at_call 84; with_reducible exact calls_gr (HM2.out _ (HG.out.trans (HQ.out.trans (GrW.gr _))))))) | quiet_step ((first | (go_at_call 32; with_reducible exact calls_gr (HE.out _)) | (go_at_call 84; with_reducible exact calls_gr (HM2.out _ (HG.out.trans (HQ.out.trans (GrW.gr _))))))))); refine wpQuiet_nil ?_; intro wz hw; obtain ⟨⟨_, hbwz⟩, hw⟩ := hw; subst hw; obtain ⟨hcwz, hfwz, hzwz⟩ := hbwz.rules; (try simp at hzwz))
          go_wp2
          go_ret
          exact ⟨by rw [EX.out]; rfl, HG.out.trans (HQ.out.trans hbwz)⟩
      · have hv2 : decide ((v : Int) ≤ l) = false := decide_eq_false hv
        have EX := hid (show NV = 0 from EY.out.trans (if_neg (fun h => hv h.1)))
        clear EY
        go_enter Try.func61, Try.ntmps61
        go_wp2
        (refine wp_region_gr (by kernel_rfl) (by kernel_rfl) ?_; (repeat (first | go_big_quiet_step ((first | (go_at_call 84; with_reducible exact calls_gr (HM1.out _ (HG.out.trans (GrW.gr _)))))) | quiet_step ((first | (go_at_call 84; with_reducible exact calls_gr (HM1.out _ (HG.out.trans (GrW.gr _)))))))); refine wpQuiet_nil ?_; intro wq hw; obtain ⟨⟨_, hbwq⟩, hw⟩ := hw; subst hw; obtain ⟨hcwq, hfwq, hzwq⟩ := hbwq.rules; (try simp at hzwq))
        go_wp2
        have HQ := hid hbwq
        clear e0 e1
        have e0 := GrW.cell ((row_cell HK0.out HQ.out))
        have e1 := GrW.cell ((row_cell HK1.out HQ.out))
        obtain ⟨r0, r1, r2, r3⟩ := row4 (row_gr HE1.out HQ.out)
        (refine wp_region_gr (by kernel_rfl) (by kernel_rfl) ?_; (repeat (first | go_big_quiet_step ((first | (go_at_call 32; with_reducible exact calls_gr (HE.out _)) | (go_at_call 84; with_reducible exact calls_gr (HM2.out _ (HG.out.trans (HQ.out.trans (GrW.gr _))))))) | quiet_step ((first | (go_at_call 32; with_reducible exact calls_gr (HE.out _)) | (go_at_call 84; with_reducible exact calls_gr (HM2.out _ (HG.out.trans (HQ.out.trans (GrW.gr _))))))))); refine wpQuiet_nil ?_; intro wz hw; obtain ⟨⟨_, hbwz⟩, hw⟩ := hw; subst hw; obtain ⟨hcwz, hfwz, hzwz⟩ := hbwz.rules; (try simp at hzwz))
        go_wp2
        go_ret
        exact ⟨by rw [EX.out]; rfl, HG.out.trans (HQ.out.trans hbwz)⟩
    · have EX := hid (show NV = 3 from HNV.out.trans (if_pos ⟨rfl, rfl⟩))
      clear HNV
      go_enter Try.func61, Try.ntmps61
      go_wp2
      (refine wp_region_gr (by kernel_rfl) (by kernel_rfl) ?_; (repeat (first | go_big_quiet_step ((first | (go_at_call 84; with_reducible exact calls_gr (HM1.out _ (HG.out.trans (GrW.gr _)))))) | quiet_step ((first | (go_at_call 84; with_reducible exact calls_gr (HM1.out _ (HG.out.trans (GrW.gr _)))))))); refine wpQuiet_nil ?_; intro wq hw; obtain ⟨⟨_, hbwq⟩, hw⟩ := hw; subst hw; obtain ⟨hcwq, hfwq, hzwq⟩ := hbwq.rules; (try simp at hzwq))
      go_wp2
      go_ret
      exact ⟨by rw [EX.out]; rfl, HG.out.trans hbwq⟩
  · have EY := hid (show NV = if (v : Int) ≤ l ∧ v2 = true then 2 else 0 from HNV.out.trans (if_neg (fun h => hxy h.1)))
    clear HNV
    have tl := toList_ne' hxy
    have tb := toList_beq hxy
    by_cases hv : (v : Int) ≤ l
    · have hv2 : decide ((v : Int) ≤ l) = true := decide_eq_true hv
      cases v2
      · have EX := hid (show NV = 0 from EY.out.trans (if_neg (fun h => Bool.false_ne_true h.2)))
        clear EY
        go_enter Try.func61, Try.ntmps61
        go_wp2
        (refine wp_region_gr (by kernel_rfl) (by kernel_rfl) ?_; (repeat (first | go_big_quiet_step ((first | (go_at_call 84; with_reducible exact calls_gr (HM1.out _ (HG.out.trans (GrW.gr _)))))) | quiet_step ((first | (go_at_call 84; with_reducible exact calls_gr (HM1.out _ (HG.out.trans (GrW.gr _)))))))); refine wpQuiet_nil ?_; intro wq hw; obtain ⟨⟨_, hbwq⟩, hw⟩ := hw; subst hw; obtain ⟨hcwq, hfwq, hzwq⟩ := hbwq.rules; (try simp at hzwq))
        go_wp2
        have HQ := hid hbwq
        clear e0 e1
        have e0 := GrW.cell ((row_cell HK0.out HQ.out))
        have e1 := GrW.cell ((row_cell HK1.out HQ.out))
        obtain ⟨r0, r1, r2, r3⟩ := row4 (row_gr HE1.out HQ.out)
        (refine wp_region_gr (by kernel_rfl) (by kernel_rfl) ?_; (repeat (first | go_big_quiet_step ((first | (go_at_call 32; with_reducible exact calls_gr (HE.out _)) | (go_at_call 84; with_reducible exact calls_gr (HM2.out _ (HG.out.trans (HQ.out.trans (GrW.gr _))))))) | quiet_step ((first | (go_at_call 32; with_reducible exact calls_gr (HE.out _)) | (go_at_call 84; with_reducible exact calls_gr (HM2.out _ (HG.out.trans (HQ.out.trans (GrW.gr _))))))))); refine wpQuiet_nil ?_; intro wz hw; obtain ⟨⟨_, hbwz⟩, hw⟩ := hw; subst hw; obtain ⟨hcwz, hfwz, hzwz⟩ := hbwz.rules; (try simp at hzwz))
        go_wp2
        go_ret
        exact ⟨by rw [EX.out]; rfl, HG.out.trans (HQ.out.trans hbwz)⟩
      · have EX := hid (show NV = 2 from EY.out.trans (if_pos ⟨hv, rfl⟩))
        clear EY
        go_enter Try.func61, Try.ntmps61
        go_wp2
        (refine wp_region_gr (by kernel_rfl) (by kernel_rfl) ?_; (repeat (first | go_big_quiet_step ((first | (go_at_call 84; with_reducible exact calls_gr (HM1.out _ (HG.out.trans (GrW.gr _)))))) | quiet_step ((first | (go_at_call 84; with_reducible exact calls_gr (HM1.out _ (HG.out.trans (GrW.gr _)))))))); refine wpQuiet_nil ?_; intro wq hw; obtain ⟨⟨_, hbwq⟩, hw⟩ := hw; subst hw; obtain ⟨hcwq, hfwq, hzwq⟩ := hbwq.rules; (try simp at hzwq))
        go_wp2
        have HQ := hid hbwq
        clear e0 e1
        have e0 := GrW.cell ((row_cell HK0.out HQ.out))
        have e1 := GrW.cell ((row_cell HK1.out HQ.out))
        obtain ⟨r0, r1, r2, r3⟩ := row4 (row_gr HE1.out HQ.out)
        (refine wp_region_gr (by kernel_rfl) (by kernel_rfl) ?_; (repeat (first | go_big_quiet_step ((first | (go_at_call 32; with_reducible exact calls_gr (HE.out _)) | (go_at_call 84; with_reducible exact calls_gr (HM2.out _ (HG.out.trans (HQ.out.trans (GrW.gr _))))))) | quiet_step ((first | (go_at_call 32; with_reducible exact calls_gr (HE.out _)) | (go_at_call 84; with_reducible exact calls_gr (HM2.out _ (HG.out.trans (HQ.out.trans (GrW.gr _))))))))); refine wpQuiet_nil ?_; intro wz hw; obtain ⟨⟨_, hbwz⟩, hw⟩ := hw; subst hw; obtain ⟨hcwz, hfwz, hzwz⟩ := hbwz.rules; (try simp at hzwz))
        go_wp2
        go_ret
        exact ⟨by rw [EX.out]; rfl, HG.out.trans (HQ.out.trans hbwz)⟩
    · have hv2 : decide ((v : Int) ≤ l) = false := decide_eq_false hv
      have EX := hid (show NV = 0 from EY.out.trans (if_neg (fun h => hv h.1)))
      clear EY
      go_enter Try.func61, Try.ntmps61
      go_wp2
      (refine wp_region_gr (by kernel_rfl) (by kernel_rfl) ?_; (repeat (first | go_big_quiet_step ((first | (go_at_call 84; with_reducible exact calls_gr (HM1.out _ (HG.out.trans (GrW.gr _)))))) | quiet_step ((first | (go_at_call 84; with_reducible exact calls_gr (HM1.out _ (HG.out.trans (GrW.gr _)))))))); refine wpQuiet_nil ?_; intro wq hw; obtain ⟨⟨_, hbwq⟩, hw⟩ := hw; subst hw; obtain ⟨hcwq, hfwq, hzwq⟩ := hbwq.rules; (try simp at hzwq))
      go_wp2
      have HQ := hid hbwq
      clear e0 e1
      have e0 := GrW.cell ((row_cell HK0.out HQ.out))
      have e1 := GrW.cell ((row_cell HK1.out HQ.out))
      obtain ⟨r0, r1, r2, r3⟩ := row4 (row_gr HE1.out HQ.out)
      (refine wp_region_gr (by kernel_rfl) (by kernel_rfl) ?_; (repeat (first | go_big_quiet_step ((first | (go_at_call 32; with_reducible exact calls_gr (HE.out _)) | (go_at_call 84; with_reducible exact calls_gr (HM2.out _ (HG.out.trans (HQ.out.trans (GrW.gr _))))))) | quiet_step ((first | (go_at_call 32; with_reducible exact calls_gr (HE.out _)) | (go_at_call 84; with_reducible exact calls_gr (HM2.out _ (HG.out.trans (HQ.out.trans (GrW.gr _))))))))); refine wpQuiet_nil ?_; intro wz hw; obtain ⟨⟨_, hbwz⟩, hw⟩ := hw; subst hw; obtain ⟨hcwz, hfwz, hzwz⟩ := hbwz.rules; (try simp at hzwz))
      go_wp2
      go_ret
      exact ⟨by rw [EX.out]; rfl, HG.out.trans (HQ.out.trans hbwz)⟩

theorem refNames_any (r : Rul) (a b : Rcd) (A : Option Addr) (n c : Nat) (B : Option Addr) (m : Nat) (A' : Option Addr) (n' c' : Nat) (B' : Option Addr) (m' : Nat) (w : World)
    (ha : a.In w A n B m) (hb : b.In w A' n' B' m') (fa : Fine a n c) (fb : Fine b n' c') :
    Calls Try.prog 61 #[r.val, .slice A n c, .slice A' n' c'] w fun e w' => e = .returned (.int .u8 (namesN r.letters a.names b.names)) ∧ Gr w w' := by
  unfold namesN
  have h1 := ha.nlen
  have h2 := hb.nlen
  by_cases h : n' < n
  · rw [if_pos (by omega)]
    exact refNames_gt r a b A n c B m A' n' c' B' m' w ha hb fa fb h
  · rw [if_neg (by omega)]
    exact refNames_le r a b A n c B m A' n' c' B' m' w ha hb fa fb (by omega)
end Go.Proofs.Ytlkjimfkapcenaa
