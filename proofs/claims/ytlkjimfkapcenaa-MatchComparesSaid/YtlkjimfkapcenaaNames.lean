/- How names agree, in the package match. For all valid names. -/
import Derived.Test.YtlkjimfkapcenaaAmong
import Derived.Test.YtlkjimfkapcenaaBoxRows
import Derived.Test.YtlkjimfkapcenaaRegGr
namespace Go.Proofs.Ytlkjimfkapcenaa
open Go.RowKit

/-- A record's names are few, and words; and how the slice of them lies. -/
structure Fine (a : Rcd) (n c : Nat) : Prop where
  lo : 1 ≤ n
  hi : n ≤ 100
  cap : n ≤ c
  big : c ≤ 9223372036854775807
  words : ∀ s ∈ a.names, 0 < s.size ∧ s.size ≤ 20
theorem Fine.first {a : Rcd} {w : World} {b0 o0 n c : Nat} {B : Option Addr} {m : Nat} (f : Fine a n c) (h : a.In w (some ⟨b0, o0, none⟩) n B m) : w.cell? ⟨b0, o0, none⟩ = some (.string a.names[0]!) ∧ 0 < a.names[0]!.size ∧ a.names[0]!.size ≤ 20 := by
  obtain ⟨b, off, e, _, hc⟩ := h.names.at_ f.lo
  cases e
  have hl := h.nlen
  have := f.lo
  refine ⟨?_, f.words _ (mem_get (by omega))⟩
  simpa using hc 0 _ (Rd.get (by omega))

set_option maxRecDepth 100000 in
set_option maxHeartbeats 8000000 in
theorem names_gt (r : Rul) (a b : Rcd) (A : Option Addr) (n c : Nat) (B : Option Addr) (m d : Nat) (A' : Option Addr) (n' c' : Nat) (B' : Option Addr) (m' d' : Nat) (w : World)
    (ha : a.In w A n B m) (hb : b.In w A' n' B' m') (fa : Fine a n c) (fb : Fine b n' c') (hlt : n' < n) :
    Calls Try.prog 56 #[r.val, a.val A n c B m d, b.val A' n' c' B' m' d'] w fun e w' => e = .returned (.int .u8 (namesO r.letters b.names a.names)) ∧ Gr w w' := by
  obtain ⟨b0, o0, rfl, hb0, _⟩ := ha.names.at_ fa.lo
  obtain ⟨b1, o1, rfl, hb1, _⟩ := hb.names.at_ fb.lo
  have HM := hid (fun (kk : Int) W (g : Gr w W) => among_any b a kk b1 o1 n' c' B' m' d' b0 o0 n c B m d W (hb.names.gr g) (ha.names.gr g) fb.lo fa.lo fb.cap fb.big fa.cap fa.big fb.hi fb.words fa.words)
  obtain ⟨k0, z0, z0'⟩ := fb.first hb
  obtain ⟨k1, z1, z1'⟩ := fa.first ha
  obtain ⟨l, dg, dy, tg⟩ := r
  obtain ⟨id, names, suf, l1, h1, p, tw, stays⟩ := a
  obtain ⟨id', names', suf', l2, h2, q, tw', stays'⟩ := b
  have z2 : 0 < n := fa.lo
  have z3 : 0 < n' := fb.lo
  have z4 : (0 : Int) < n := by omega
  have z5 : (0 : Int) < n' := by omega
  clear ha hb fa fb
  unfold namesO
  unfold Rcd.val Rul.val
  unfold Rcd.val at HM
  dsimp only at k0 k1 z0 z1 z0' z1' HM ⊢
  generalize names'[0]! = x at k0 z0 z0' ⊢
  generalize names[0]! = y at k1 z1 z1' ⊢
  have HE := hid (fun W => edits_any x y W (by omega) z1')
  generalize lev x y x.size y.size = v at HE ⊢
  have HM1 := hid (fun W g => HM.out (-1) W g)
  have HM2 := hid (fun W g => HM.out l W g)
  clear HM z0 z1 z0' z1'
  generalize amongB (-1) names'.tail names.tail = v1 at HM1 ⊢
  generalize amongB l names'.tail names.tail = v2 at HM2 ⊢
  obtain ⟨NV, hNV⟩ : ∃ z : Int, z = if x = y ∧ v1 = true then 3 else if (v : Int) ≤ l ∧ v2 = true then 2 else 0 := ⟨_, rfl⟩
  rw [← hNV]
  have HNV := hid hNV
  clear hNV
  obtain ⟨E1, E2, E3⟩ := rows3 w (.cells #[.int .i64 l, .int .i64 dg, .int .i64 dy, .int .i64 tg] 23) (.cells #[.int .i64 id', .slice (some ⟨b1, o1, none⟩) n' c', .int .u8 suf', .int .i64 l2, .int .i64 h2, .string q, .bool tw', .slice B' m' d'] 106) (.cells #[.int .i64 id, .slice (some ⟨b0, o0, none⟩) n c, .int .u8 suf, .int .i64 l1, .int .i64 h1, .string p, .bool tw, .slice B m d] 106)
  have g3 : Gr w (((w.alloc (.cells #[.int .i64 l, .int .i64 dg, .int .i64 dy, .int .i64 tg] 23)).alloc (.cells #[.int .i64 id', .slice (some ⟨b1, o1, none⟩) n' c', .int .u8 suf', .int .i64 l2, .int .i64 h2, .string q, .bool tw', .slice B' m' d'] 106)).alloc (.cells #[.int .i64 id, .slice (some ⟨b0, o0, none⟩) n c, .int .u8 suf, .int .i64 l1, .int .i64 h1, .string p, .bool tw, .slice B m d] 106)) := (((Gr.refl w).alloc _).alloc _).alloc _
  have K0 := hid ((g3.cell hb1).trans k0)
  have K1 := hid ((g3.cell hb0).trans k1)
  clear k0 k1
  obtain ⟨p0, p1, p2, p3, p4, p5, p6, p7⟩ := row8 E2
  obtain ⟨q0, q1, q2, q3, q4, q5, q6, q7⟩ := row8 E3
  have e0 := GrW.cell K0.out
  have e1 := GrW.cell K1.out
  have HE1 := hid E1
  have HE2 := hid E2
  have HE3 := hid E3
  have HG := hid g3
  clear E1 E2 E3 g3
  have hlt' : (n' : Int) < n := by omega
  by_cases hxy : x = y
  · subst hxy
    cases v1
    · have EY := hid (show NV = if (v : Int) ≤ l ∧ v2 = true then 2 else 0 from HNV.out.trans (if_neg (fun h => Bool.false_ne_true h.2)))
      clear HNV
      by_cases hv : (v : Int) ≤ l
      · have hv2 : decide ((v : Int) ≤ l) = true := decide_eq_true hv
        cases v2
        · have EX := hid (show NV = 0 from EY.out.trans (if_neg (fun h => Bool.false_ne_true h.2)))
          clear EY
          go_enter Try.func56, Try.ntmps56
          go_wp2
          (refine wp_region_gr (by kernel_rfl) (by kernel_rfl) ?_; (repeat (first | go_big_quiet_step ((fail)) | quiet_step ((fail)))); refine wpQuiet_nil ?_; intro wq hw; obtain ⟨⟨_, hbwq⟩, hw⟩ := hw; subst hw; obtain ⟨hcwq, hfwq, hzwq⟩ := hbwq.rules; (try simp at hzwq); have hzwq_0 : w.heap.size < wq.heap.size := (by omega); have hywq_0 : w.heap.size ≤ wq.heap.size := (by omega); have hzwq_1 : w.heap.size + 1 < wq.heap.size := (by omega); have hywq_1 : w.heap.size + 1 ≤ wq.heap.size := (by omega); have hzwq_2 : w.heap.size + 2 < wq.heap.size := (by omega); have hywq_2 : w.heap.size + 2 ≤ wq.heap.size := (by omega))
          go_wp2_with ((go_at_call 74; (with_reducible refine (HM1.out _ ?_).mono ?_); rotate_right; rintro e w1 ⟨rfl, hbw1⟩; obtain ⟨hcw1, hfw1, hzw1⟩ := hbw1.rules; (try simp at hzw1); have hzw1_0 : w.heap.size < w1.heap.size := (by omega); have hyw1_0 : w.heap.size ≤ w1.heap.size := (by omega); have hzw1_1 : w.heap.size + 1 < w1.heap.size := (by omega); have hyw1_1 : w.heap.size + 1 ≤ w1.heap.size := (by omega); have hzw1_2 : w.heap.size + 2 < w1.heap.size := (by omega); have hyw1_2 : w.heap.size + 2 ≤ w1.heap.size := (by omega)))
          rotate_right
          · exact HG.out.trans hbwq
          have GG := hid (hbwq.trans hbw1)
          clear p0 p1 p2 p3 p4 p5 p6 p7 q0 q1 q2 q3 q4 q5 q6 q7 e0 e1
          obtain ⟨r0, r1, r2, r3⟩ := row4 (row_gr HE1.out GG.out)
          obtain ⟨p0, p1, p2, p3, p4, p5, p6, p7⟩ := row8 (row_gr HE2.out GG.out)
          obtain ⟨q0, q1, q2, q3, q4, q5, q6, q7⟩ := row8 (row_gr HE3.out GG.out)
          (refine wp_region_gr (by kernel_rfl) (by kernel_rfl) ?_; (repeat (first | go_big_quiet_step ((first | (go_at_call 31; exact calls_gr (HE.out _)) | (go_at_call 74; exact calls_gr (HM2.out _ (HG.out.trans (GG.out.trans (GrW.gr _))))))) | quiet_step ((first | (go_at_call 31; exact calls_gr (HE.out _)) | (go_at_call 74; exact calls_gr (HM2.out _ (HG.out.trans (GG.out.trans (GrW.gr _))))))))); refine wpQuiet_nil ?_; intro wz hw; obtain ⟨⟨_, hbwz⟩, hw⟩ := hw; subst hw; obtain ⟨hcwz, hfwz, hzwz⟩ := hbwz.rules; (try simp at hzwz))
          go_wp2
          go_ret
          exact ⟨by rw [EX.out]; rfl, HG.out.trans (GG.out.trans hbwz)⟩
        · have EX := hid (show NV = 2 from EY.out.trans (if_pos ⟨hv, rfl⟩))
          clear EY
          go_enter Try.func56, Try.ntmps56
          go_wp2
          (refine wp_region_gr (by kernel_rfl) (by kernel_rfl) ?_; (repeat (first | go_big_quiet_step ((fail)) | quiet_step ((fail)))); refine wpQuiet_nil ?_; intro wq hw; obtain ⟨⟨_, hbwq⟩, hw⟩ := hw; subst hw; obtain ⟨hcwq, hfwq, hzwq⟩ := hbwq.rules; (try simp at hzwq); have hzwq_0 : w.heap.size < wq.heap.size := (by omega); have hywq_0 : w.heap.size ≤ wq.heap.size := (by omega); have hzwq_1 : w.heap.size + 1 < wq.heap.size := (by omega); have hywq_1 : w.heap.size + 1 ≤ wq.heap.size := (by omega); have hzwq_2 : w.heap.size + 2 < wq.heap.size := (by omega); have hywq_2 : w.heap.size + 2 ≤ wq.heap.size := (by omega))
          go_wp2_with ((go_at_call 74; (with_reducible refine (HM1.out _ ?_).mono ?_); rotate_right; rintro e w1 ⟨rfl, hbw1⟩; obtain ⟨hcw1, hfw1, hzw1⟩ := hbw1.rules; (try simp at hzw1); have hzw1_0 : w.heap.size < w1.heap.size := (by omega); have hyw1_0 : w.heap.size ≤ w1.heap.size := (by omega); have hzw1_1 : w.heap.size + 1 < w1.heap.size := (by omega); have hyw1_1 : w.heap.size + 1 ≤ w1.heap.size := (by omega); have hzw1_2 : w.heap.size + 2 < w1.heap.size := (by omega); have hyw1_2 : w.heap.size + 2 ≤ w1.heap.size := (by omega)))
          rotate_right
          · exact HG.out.trans hbwq
          have GG := hid (hbwq.trans hbw1)
          clear p0 p1 p2 p3 p4 p5 p6 p7 q0 q1 q2 q3 q4 q5 q6 q7 e0 e1
          obtain ⟨r0, r1, r2, r3⟩ := row4 (row_gr HE1.out GG.out)
          obtain ⟨p0, p1, p2, p3, p4, p5, p6, p7⟩ := row8 (row_gr HE2.out GG.out)
          obtain ⟨q0, q1, q2, q3, q4, q5, q6, q7⟩ := row8 (row_gr HE3.out GG.out)
          (refine wp_region_gr (by kernel_rfl) (by kernel_rfl) ?_; (repeat (first | go_big_quiet_step ((first | (go_at_call 31; exact calls_gr (HE.out _)) | (go_at_call 74; exact calls_gr (HM2.out _ (HG.out.trans (GG.out.trans (GrW.gr _))))))) | quiet_step ((first | (go_at_call 31; exact calls_gr (HE.out _)) | (go_at_call 74; exact calls_gr (HM2.out _ (HG.out.trans (GG.out.trans (GrW.gr _))))))))); refine wpQuiet_nil ?_; intro wz hw; obtain ⟨⟨_, hbwz⟩, hw⟩ := hw; subst hw; obtain ⟨hcwz, hfwz, hzwz⟩ := hbwz.rules; (try simp at hzwz))
          go_wp2
          go_ret
          exact ⟨by rw [EX.out]; rfl, HG.out.trans (GG.out.trans hbwz)⟩
      · have hv2 : decide ((v : Int) ≤ l) = false := decide_eq_false hv
        have EX := hid (show NV = 0 from EY.out.trans (if_neg (fun h => hv h.1)))
        clear EY
        go_enter Try.func56, Try.ntmps56
        go_wp2
        (refine wp_region_gr (by kernel_rfl) (by kernel_rfl) ?_; (repeat (first | go_big_quiet_step ((fail)) | quiet_step ((fail)))); refine wpQuiet_nil ?_; intro wq hw; obtain ⟨⟨_, hbwq⟩, hw⟩ := hw; subst hw; obtain ⟨hcwq, hfwq, hzwq⟩ := hbwq.rules; (try simp at hzwq); have hzwq_0 : w.heap.size < wq.heap.size := (by omega); have hywq_0 : w.heap.size ≤ wq.heap.size := (by omega); have hzwq_1 : w.heap.size + 1 < wq.heap.size := (by omega); have hywq_1 : w.heap.size + 1 ≤ wq.heap.size := (by omega); have hzwq_2 : w.heap.size + 2 < wq.heap.size := (by omega); have hywq_2 : w.heap.size + 2 ≤ wq.heap.size := (by omega))
        go_wp2_with ((go_at_call 74; (with_reducible refine (HM1.out _ ?_).mono ?_); rotate_right; rintro e w1 ⟨rfl, hbw1⟩; obtain ⟨hcw1, hfw1, hzw1⟩ := hbw1.rules; (try simp at hzw1); have hzw1_0 : w.heap.size < w1.heap.size := (by omega); have hyw1_0 : w.heap.size ≤ w1.heap.size := (by omega); have hzw1_1 : w.heap.size + 1 < w1.heap.size := (by omega); have hyw1_1 : w.heap.size + 1 ≤ w1.heap.size := (by omega); have hzw1_2 : w.heap.size + 2 < w1.heap.size := (by omega); have hyw1_2 : w.heap.size + 2 ≤ w1.heap.size := (by omega)))
        rotate_right
        · exact HG.out.trans hbwq
        have GG := hid (hbwq.trans hbw1)
        clear p0 p1 p2 p3 p4 p5 p6 p7 q0 q1 q2 q3 q4 q5 q6 q7 e0 e1
        obtain ⟨r0, r1, r2, r3⟩ := row4 (row_gr HE1.out GG.out)
        obtain ⟨p0, p1, p2, p3, p4, p5, p6, p7⟩ := row8 (row_gr HE2.out GG.out)
        obtain ⟨q0, q1, q2, q3, q4, q5, q6, q7⟩ := row8 (row_gr HE3.out GG.out)
        (refine wp_region_gr (by kernel_rfl) (by kernel_rfl) ?_; (repeat (first | go_big_quiet_step ((first | (go_at_call 31; exact calls_gr (HE.out _)) | (go_at_call 74; exact calls_gr (HM2.out _ (HG.out.trans (GG.out.trans (GrW.gr _))))))) | quiet_step ((first | (go_at_call 31; exact calls_gr (HE.out _)) | (go_at_call 74; exact calls_gr (HM2.out _ (HG.out.trans (GG.out.trans (GrW.gr _))))))))); refine wpQuiet_nil ?_; intro wz hw; obtain ⟨⟨_, hbwz⟩, hw⟩ := hw; subst hw; obtain ⟨hcwz, hfwz, hzwz⟩ := hbwz.rules; (try simp at hzwz))
        go_wp2
        go_ret
        exact ⟨by rw [EX.out]; rfl, HG.out.trans (GG.out.trans hbwz)⟩
    · have EX := hid (show NV = 3 from HNV.out.trans (if_pos ⟨rfl, rfl⟩))
      clear HNV
      go_enter Try.func56, Try.ntmps56
      go_wp2
      (refine wp_region_gr (by kernel_rfl) (by kernel_rfl) ?_; (repeat (first | go_big_quiet_step ((fail)) | quiet_step ((fail)))); refine wpQuiet_nil ?_; intro wq hw; obtain ⟨⟨_, hbwq⟩, hw⟩ := hw; subst hw; obtain ⟨hcwq, hfwq, hzwq⟩ := hbwq.rules; (try simp at hzwq); have hzwq_0 : w.heap.size < wq.heap.size := (by omega); have hywq_0 : w.heap.size ≤ wq.heap.size := (by omega); have hzwq_1 : w.heap.size + 1 < wq.heap.size := (by omega); have hywq_1 : w.heap.size + 1 ≤ wq.heap.size := (by omega); have hzwq_2 : w.heap.size + 2 < wq.heap.size := (by omega); have hywq_2 : w.heap.size + 2 ≤ wq.heap.size := (by omega))
      go_wp2_with ((go_at_call 74; (with_reducible refine (HM1.out _ ?_).mono ?_); rotate_right; rintro e w1 ⟨rfl, hbw1⟩; obtain ⟨hcw1, hfw1, hzw1⟩ := hbw1.rules; (try simp at hzw1); have hzw1_0 : w.heap.size < w1.heap.size := (by omega); have hyw1_0 : w.heap.size ≤ w1.heap.size := (by omega); have hzw1_1 : w.heap.size + 1 < w1.heap.size := (by omega); have hyw1_1 : w.heap.size + 1 ≤ w1.heap.size := (by omega); have hzw1_2 : w.heap.size + 2 < w1.heap.size := (by omega); have hyw1_2 : w.heap.size + 2 ≤ w1.heap.size := (by omega)))
      · go_ret
        exact ⟨by rw [EX.out]; rfl, HG.out.trans (hbwq.trans hbw1)⟩
      · exact HG.out.trans hbwq
  · have EY := hid (show NV = if (v : Int) ≤ l ∧ v2 = true then 2 else 0 from HNV.out.trans (if_neg (fun h => hxy h.1)))
    clear HNV
    have tl := toList_ne' hxy
    have tb := toList_beq hxy
    by_cases hv : (v : Int) ≤ l
    · have hv2 : decide ((v : Int) ≤ l) = true := decide_eq_true hv
      cases v2
      · have EX := hid (show NV = 0 from EY.out.trans (if_neg (fun h => Bool.false_ne_true h.2)))
        clear EY
        go_enter Try.func56, Try.ntmps56
        go_wp2
        (refine wp_region_gr (by kernel_rfl) (by kernel_rfl) ?_; (repeat (first | go_big_quiet_step ((fail)) | quiet_step ((fail)))); refine wpQuiet_nil ?_; intro wq hw; obtain ⟨⟨_, hbwq⟩, hw⟩ := hw; subst hw; obtain ⟨hcwq, hfwq, hzwq⟩ := hbwq.rules; (try simp at hzwq); have hzwq_0 : w.heap.size < wq.heap.size := (by omega); have hywq_0 : w.heap.size ≤ wq.heap.size := (by omega); have hzwq_1 : w.heap.size + 1 < wq.heap.size := (by omega); have hywq_1 : w.heap.size + 1 ≤ wq.heap.size := (by omega); have hzwq_2 : w.heap.size + 2 < wq.heap.size := (by omega); have hywq_2 : w.heap.size + 2 ≤ wq.heap.size := (by omega))
        go_wp2
        have GG := hid (hbwq)
        clear p0 p1 p2 p3 p4 p5 p6 p7 q0 q1 q2 q3 q4 q5 q6 q7 e0 e1
        obtain ⟨r0, r1, r2, r3⟩ := row4 (row_gr HE1.out GG.out)
        obtain ⟨p0, p1, p2, p3, p4, p5, p6, p7⟩ := row8 (row_gr HE2.out GG.out)
        obtain ⟨q0, q1, q2, q3, q4, q5, q6, q7⟩ := row8 (row_gr HE3.out GG.out)
        (refine wp_region_gr (by kernel_rfl) (by kernel_rfl) ?_; (repeat (first | go_big_quiet_step ((first | (go_at_call 31; exact calls_gr (HE.out _)) | (go_at_call 74; exact calls_gr (HM2.out _ (HG.out.trans (GG.out.trans (GrW.gr _))))))) | quiet_step ((first | (go_at_call 31; exact calls_gr (HE.out _)) | (go_at_call 74; exact calls_gr (HM2.out _ (HG.out.trans (GG.out.trans (GrW.gr _))))))))); refine wpQuiet_nil ?_; intro wz hw; obtain ⟨⟨_, hbwz⟩, hw⟩ := hw; subst hw; obtain ⟨hcwz, hfwz, hzwz⟩ := hbwz.rules; (try simp at hzwz))
        go_wp2
        go_ret
        exact ⟨by rw [EX.out]; rfl, HG.out.trans (GG.out.trans hbwz)⟩
      · have EX := hid (show NV = 2 from EY.out.trans (if_pos ⟨hv, rfl⟩))
        clear EY
        go_enter Try.func56, Try.ntmps56
        go_wp2
        (refine wp_region_gr (by kernel_rfl) (by kernel_rfl) ?_; (repeat (first | go_big_quiet_step ((fail)) | quiet_step ((fail)))); refine wpQuiet_nil ?_; intro wq hw; obtain ⟨⟨_, hbwq⟩, hw⟩ := hw; subst hw; obtain ⟨hcwq, hfwq, hzwq⟩ := hbwq.rules; (try simp at hzwq); have hzwq_0 : w.heap.size < wq.heap.size := (by omega); have hywq_0 : w.heap.size ≤ wq.heap.size := (by omega); have hzwq_1 : w.heap.size + 1 < wq.heap.size := (by omega); have hywq_1 : w.heap.size + 1 ≤ wq.heap.size := (by omega); have hzwq_2 : w.heap.size + 2 < wq.heap.size := (by omega); have hywq_2 : w.heap.size + 2 ≤ wq.heap.size := (by omega))
        go_wp2
        have GG := hid (hbwq)
        clear p0 p1 p2 p3 p4 p5 p6 p7 q0 q1 q2 q3 q4 q5 q6 q7 e0 e1
        obtain ⟨r0, r1, r2, r3⟩ := row4 (row_gr HE1.out GG.out)
        obtain ⟨p0, p1, p2, p3, p4, p5, p6, p7⟩ := row8 (row_gr HE2.out GG.out)
        obtain ⟨q0, q1, q2, q3, q4, q5, q6, q7⟩ := row8 (row_gr HE3.out GG.out)
        (refine wp_region_gr (by kernel_rfl) (by kernel_rfl) ?_; (repeat (first | go_big_quiet_step ((first | (go_at_call 31; exact calls_gr (HE.out _)) | (go_at_call 74; exact calls_gr (HM2.out _ (HG.out.trans (GG.out.trans (GrW.gr _))))))) | quiet_step ((first | (go_at_call 31; exact calls_gr (HE.out _)) | (go_at_call 74; exact calls_gr (HM2.out _ (HG.out.trans (GG.out.trans (GrW.gr _))))))))); refine wpQuiet_nil ?_; intro wz hw; obtain ⟨⟨_, hbwz⟩, hw⟩ := hw; subst hw; obtain ⟨hcwz, hfwz, hzwz⟩ := hbwz.rules; (try simp at hzwz))
        go_wp2
        go_ret
        exact ⟨by rw [EX.out]; rfl, HG.out.trans (GG.out.trans hbwz)⟩
    · have hv2 : decide ((v : Int) ≤ l) = false := decide_eq_false hv
      have EX := hid (show NV = 0 from EY.out.trans (if_neg (fun h => hv h.1)))
      clear EY
      go_enter Try.func56, Try.ntmps56
      go_wp2
      (refine wp_region_gr (by kernel_rfl) (by kernel_rfl) ?_; (repeat (first | go_big_quiet_step ((fail)) | quiet_step ((fail)))); refine wpQuiet_nil ?_; intro wq hw; obtain ⟨⟨_, hbwq⟩, hw⟩ := hw; subst hw; obtain ⟨hcwq, hfwq, hzwq⟩ := hbwq.rules; (try simp at hzwq); have hzwq_0 : w.heap.size < wq.heap.size := (by omega); have hywq_0 : w.heap.size ≤ wq.heap.size := (by omega); have hzwq_1 : w.heap.size + 1 < wq.heap.size := (by omega); have hywq_1 : w.heap.size + 1 ≤ wq.heap.size := (by omega); have hzwq_2 : w.heap.size + 2 < wq.heap.size := (by omega); have hywq_2 : w.heap.size + 2 ≤ wq.heap.size := (by omega))
      go_wp2
      have GG := hid (hbwq)
      clear p0 p1 p2 p3 p4 p5 p6 p7 q0 q1 q2 q3 q4 q5 q6 q7 e0 e1
      obtain ⟨r0, r1, r2, r3⟩ := row4 (row_gr HE1.out GG.out)
      obtain ⟨p0, p1, p2, p3, p4, p5, p6, p7⟩ := row8 (row_gr HE2.out GG.out)
      obtain ⟨q0, q1, q2, q3, q4, q5, q6, q7⟩ := row8 (row_gr HE3.out GG.out)
      (refine wp_region_gr (by kernel_rfl) (by kernel_rfl) ?_; (repeat (first | go_big_quiet_step ((first | (go_at_call 31; exact calls_gr (HE.out _)) | (go_at_call 74; exact calls_gr (HM2.out _ (HG.out.trans (GG.out.trans (GrW.gr _))))))) | quiet_step ((first | (go_at_call 31; exact calls_gr (HE.out _)) | (go_at_call 74; exact calls_gr (HM2.out _ (HG.out.trans (GG.out.trans (GrW.gr _))))))))); refine wpQuiet_nil ?_; intro wz hw; obtain ⟨⟨_, hbwz⟩, hw⟩ := hw; subst hw; obtain ⟨hcwz, hfwz, hzwz⟩ := hbwz.rules; (try simp at hzwz))
      go_wp2
      go_ret
      exact ⟨by rw [EX.out]; rfl, HG.out.trans (GG.out.trans hbwz)⟩

set_option maxRecDepth 100000 in
set_option maxHeartbeats 8000000 in
theorem names_le (r : Rul) (a b : Rcd) (A : Option Addr) (n c : Nat) (B : Option Addr) (m d : Nat) (A' : Option Addr) (n' c' : Nat) (B' : Option Addr) (m' d' : Nat) (w : World)
    (ha : a.In w A n B m) (hb : b.In w A' n' B' m') (fa : Fine a n c) (fb : Fine b n' c') (hlt : n ≤ n') :
    Calls Try.prog 56 #[r.val, a.val A n c B m d, b.val A' n' c' B' m' d'] w fun e w' => e = .returned (.int .u8 (namesO r.letters a.names b.names)) ∧ Gr w w' := by
  obtain ⟨b0, o0, rfl, hb0, _⟩ := ha.names.at_ fa.lo
  obtain ⟨b1, o1, rfl, hb1, _⟩ := hb.names.at_ fb.lo
  have HM := hid (fun (kk : Int) W (g : Gr w W) => among_any a b kk b0 o0 n c B m d b1 o1 n' c' B' m' d' W (ha.names.gr g) (hb.names.gr g) fa.lo fb.lo fa.cap fa.big fb.cap fb.big fa.hi fa.words fb.words)
  obtain ⟨k0, z0, z0'⟩ := fa.first ha
  obtain ⟨k1, z1, z1'⟩ := fb.first hb
  obtain ⟨l, dg, dy, tg⟩ := r
  obtain ⟨id, names, suf, l1, h1, p, tw, stays⟩ := a
  obtain ⟨id', names', suf', l2, h2, q, tw', stays'⟩ := b
  have z2 : 0 < n := fa.lo
  have z3 : 0 < n' := fb.lo
  have z4 : (0 : Int) < n := by omega
  have z5 : (0 : Int) < n' := by omega
  clear ha hb fa fb
  unfold namesO
  unfold Rcd.val Rul.val
  unfold Rcd.val at HM
  dsimp only at k0 k1 z0 z1 z0' z1' HM ⊢
  generalize names[0]! = x at k0 z0 z0' ⊢
  generalize names'[0]! = y at k1 z1 z1' ⊢
  have HE := hid (fun W => edits_any x y W (by omega) z1')
  generalize lev x y x.size y.size = v at HE ⊢
  have HM1 := hid (fun W g => HM.out (-1) W g)
  have HM2 := hid (fun W g => HM.out l W g)
  clear HM z0 z1 z0' z1'
  generalize amongB (-1) names.tail names'.tail = v1 at HM1 ⊢
  generalize amongB l names.tail names'.tail = v2 at HM2 ⊢
  obtain ⟨NV, hNV⟩ : ∃ z : Int, z = if x = y ∧ v1 = true then 3 else if (v : Int) ≤ l ∧ v2 = true then 2 else 0 := ⟨_, rfl⟩
  rw [← hNV]
  have HNV := hid hNV
  clear hNV
  obtain ⟨E1, E2, E3⟩ := rows3 w (.cells #[.int .i64 l, .int .i64 dg, .int .i64 dy, .int .i64 tg] 23) (.cells #[.int .i64 id, .slice (some ⟨b0, o0, none⟩) n c, .int .u8 suf, .int .i64 l1, .int .i64 h1, .string p, .bool tw, .slice B m d] 106) (.cells #[.int .i64 id', .slice (some ⟨b1, o1, none⟩) n' c', .int .u8 suf', .int .i64 l2, .int .i64 h2, .string q, .bool tw', .slice B' m' d'] 106)
  have g3 : Gr w (((w.alloc (.cells #[.int .i64 l, .int .i64 dg, .int .i64 dy, .int .i64 tg] 23)).alloc (.cells #[.int .i64 id, .slice (some ⟨b0, o0, none⟩) n c, .int .u8 suf, .int .i64 l1, .int .i64 h1, .string p, .bool tw, .slice B m d] 106)).alloc (.cells #[.int .i64 id', .slice (some ⟨b1, o1, none⟩) n' c', .int .u8 suf', .int .i64 l2, .int .i64 h2, .string q, .bool tw', .slice B' m' d'] 106)) := (((Gr.refl w).alloc _).alloc _).alloc _
  have K0 := hid ((g3.cell hb0).trans k0)
  have K1 := hid ((g3.cell hb1).trans k1)
  clear k0 k1
  obtain ⟨p0, p1, p2, p3, p4, p5, p6, p7⟩ := row8 E2
  obtain ⟨q0, q1, q2, q3, q4, q5, q6, q7⟩ := row8 E3
  have e0 := GrW.cell K0.out
  have e1 := GrW.cell K1.out
  have HE1 := hid E1
  have HE2 := hid E2
  have HE3 := hid E3
  have HG := hid g3
  clear E1 E2 E3 g3
  have hlt' : (n : Int) ≤ n' := by omega
  by_cases hxy : x = y
  · subst hxy
    cases v1
    · have EY := hid (show NV = if (v : Int) ≤ l ∧ v2 = true then 2 else 0 from HNV.out.trans (if_neg (fun h => Bool.false_ne_true h.2)))
      clear HNV
      by_cases hv : (v : Int) ≤ l
      · have hv2 : decide ((v : Int) ≤ l) = true := decide_eq_true hv
        cases v2
        · have EX := hid (show NV = 0 from EY.out.trans (if_neg (fun h => Bool.false_ne_true h.2)))
          clear EY
          go_enter Try.func56, Try.ntmps56
          go_wp2
          (refine wp_region_gr (by kernel_rfl) (by kernel_rfl) ?_; (repeat (first | go_big_quiet_step ((fail)) | quiet_step ((fail)))); refine wpQuiet_nil ?_; intro wq hw; obtain ⟨⟨_, hbwq⟩, hw⟩ := hw; subst hw; obtain ⟨hcwq, hfwq, hzwq⟩ := hbwq.rules; (try simp at hzwq); have hzwq_0 : w.heap.size < wq.heap.size := (by omega); have hywq_0 : w.heap.size ≤ wq.heap.size := (by omega); have hzwq_1 : w.heap.size + 1 < wq.heap.size := (by omega); have hywq_1 : w.heap.size + 1 ≤ wq.heap.size := (by omega); have hzwq_2 : w.heap.size + 2 < wq.heap.size := (by omega); have hywq_2 : w.heap.size + 2 ≤ wq.heap.size := (by omega))
          go_wp2_with ((go_at_call 74; (with_reducible refine (HM1.out _ ?_).mono ?_); rotate_right; rintro e w1 ⟨rfl, hbw1⟩; obtain ⟨hcw1, hfw1, hzw1⟩ := hbw1.rules; (try simp at hzw1); have hzw1_0 : w.heap.size < w1.heap.size := (by omega); have hyw1_0 : w.heap.size ≤ w1.heap.size := (by omega); have hzw1_1 : w.heap.size + 1 < w1.heap.size := (by omega); have hyw1_1 : w.heap.size + 1 ≤ w1.heap.size := (by omega); have hzw1_2 : w.heap.size + 2 < w1.heap.size := (by omega); have hyw1_2 : w.heap.size + 2 ≤ w1.heap.size := (by omega)))
          rotate_right
          · exact HG.out.trans hbwq
          have GG := hid (hbwq.trans hbw1)
          clear p0 p1 p2 p3 p4 p5 p6 p7 q0 q1 q2 q3 q4 q5 q6 q7 e0 e1
          obtain ⟨r0, r1, r2, r3⟩ := row4 (row_gr HE1.out GG.out)
          obtain ⟨p0, p1, p2, p3, p4, p5, p6, p7⟩ := row8 (row_gr HE2.out GG.out)
          obtain ⟨q0, q1, q2, q3, q4, q5, q6, q7⟩ := row8 (row_gr HE3.out GG.out)
          (refine wp_region_gr (by kernel_rfl) (by kernel_rfl) ?_; (repeat (first | go_big_quiet_step ((first | (go_at_call 31; exact calls_gr (HE.out _)) | (go_at_call 74; exact calls_gr (HM2.out _ (HG.out.trans (GG.out.trans (GrW.gr _))))))) | quiet_step ((first | (go_at_call 31; exact calls_gr (HE.out _)) | (go_at_call 74; exact calls_gr (HM2.out _ (HG.out.trans (GG.out.trans (GrW.gr _))))))))); refine wpQuiet_nil ?_; intro wz hw; obtain ⟨⟨_, hbwz⟩, hw⟩ := hw; subst hw; obtain ⟨hcwz, hfwz, hzwz⟩ := hbwz.rules; (try simp at hzwz))
          go_wp2
          go_ret
          exact ⟨by rw [EX.out]; rfl, HG.out.trans (GG.out.trans hbwz)⟩
        · have EX := hid (show NV = 2 from EY.out.trans (if_pos ⟨hv, rfl⟩))
          clear EY
          go_enter Try.func56, Try.ntmps56
          go_wp2
          (refine wp_region_gr (by kernel_rfl) (by kernel_rfl) ?_; (repeat (first | go_big_quiet_step ((fail)) | quiet_step ((fail)))); refine wpQuiet_nil ?_; intro wq hw; obtain ⟨⟨_, hbwq⟩, hw⟩ := hw; subst hw; obtain ⟨hcwq, hfwq, hzwq⟩ := hbwq.rules; (try simp at hzwq); have hzwq_0 : w.heap.size < wq.heap.size := (by omega); have hywq_0 : w.heap.size ≤ wq.heap.size := (by omega); have hzwq_1 : w.heap.size + 1 < wq.heap.size := (by omega); have hywq_1 : w.heap.size + 1 ≤ wq.heap.size := (by omega); have hzwq_2 : w.heap.size + 2 < wq.heap.size := (by omega); have hywq_2 : w.heap.size + 2 ≤ wq.heap.size := (by omega))
          go_wp2_with ((go_at_call 74; (with_reducible refine (HM1.out _ ?_).mono ?_); rotate_right; rintro e w1 ⟨rfl, hbw1⟩; obtain ⟨hcw1, hfw1, hzw1⟩ := hbw1.rules; (try simp at hzw1); have hzw1_0 : w.heap.size < w1.heap.size := (by omega); have hyw1_0 : w.heap.size ≤ w1.heap.size := (by omega); have hzw1_1 : w.heap.size + 1 < w1.heap.size := (by omega); have hyw1_1 : w.heap.size + 1 ≤ w1.heap.size := (by omega); have hzw1_2 : w.heap.size + 2 < w1.heap.size := (by omega); have hyw1_2 : w.heap.size + 2 ≤ w1.heap.size := (by omega)))
          rotate_right
          · exact HG.out.trans hbwq
          have GG := hid (hbwq.trans hbw1)
          clear p0 p1 p2 p3 p4 p5 p6 p7 q0 q1 q2 q3 q4 q5 q6 q7 e0 e1
          obtain ⟨r0, r1, r2, r3⟩ := row4 (row_gr HE1.out GG.out)
          obtain ⟨p0, p1, p2, p3, p4, p5, p6, p7⟩ := row8 (row_gr HE2.out GG.out)
          obtain ⟨q0, q1, q2, q3, q4, q5, q6, q7⟩ := row8 (row_gr HE3.out GG.out)
          (refine wp_region_gr (by kernel_rfl) (by kernel_rfl) ?_; (repeat (first | go_big_quiet_step ((first | (go_at_call 31; exact calls_gr (HE.out _)) | (go_at_call 74; exact calls_gr (HM2.out _ (HG.out.trans (GG.out.trans (GrW.gr _))))))) | quiet_step ((first | (go_at_call 31; exact calls_gr (HE.out _)) | (go_at_call 74; exact calls_gr (HM2.out _ (HG.out.trans (GG.out.trans (GrW.gr _))))))))); refine wpQuiet_nil ?_; intro wz hw; obtain ⟨⟨_, hbwz⟩, hw⟩ := hw; subst hw; obtain ⟨hcwz, hfwz, hzwz⟩ := hbwz.rules; (try simp at hzwz))
          go_wp2
          go_ret
          exact ⟨by rw [EX.out]; rfl, HG.out.trans (GG.out.trans hbwz)⟩
      · have hv2 : decide ((v : Int) ≤ l) = false := decide_eq_false hv
        have EX := hid (show NV = 0 from EY.out.trans (if_neg (fun h => hv h.1)))
        clear EY
        go_enter Try.func56, Try.ntmps56
        go_wp2
        (refine wp_region_gr (by kernel_rfl) (by kernel_rfl) ?_; (repeat (first | go_big_quiet_step ((fail)) | quiet_step ((fail)))); refine wpQuiet_nil ?_; intro wq hw; obtain ⟨⟨_, hbwq⟩, hw⟩ := hw; subst hw; obtain ⟨hcwq, hfwq, hzwq⟩ := hbwq.rules; (try simp at hzwq); have hzwq_0 : w.heap.size < wq.heap.size := (by omega); have hywq_0 : w.heap.size ≤ wq.heap.size := (by omega); have hzwq_1 : w.heap.size + 1 < wq.heap.size := (by omega); have hywq_1 : w.heap.size + 1 ≤ wq.heap.size := (by omega); have hzwq_2 : w.heap.size + 2 < wq.heap.size := (by omega); have hywq_2 : w.heap.size + 2 ≤ wq.heap.size := (by omega))
        go_wp2_with ((go_at_call 74; (with_reducible refine (HM1.out _ ?_).mono ?_); rotate_right; rintro e w1 ⟨rfl, hbw1⟩; obtain ⟨hcw1, hfw1, hzw1⟩ := hbw1.rules; (try simp at hzw1); have hzw1_0 : w.heap.size < w1.heap.size := (by omega); have hyw1_0 : w.heap.size ≤ w1.heap.size := (by omega); have hzw1_1 : w.heap.size + 1 < w1.heap.size := (by omega); have hyw1_1 : w.heap.size + 1 ≤ w1.heap.size := (by omega); have hzw1_2 : w.heap.size + 2 < w1.heap.size := (by omega); have hyw1_2 : w.heap.size + 2 ≤ w1.heap.size := (by omega)))
        rotate_right
        · exact HG.out.trans hbwq
        have GG := hid (hbwq.trans hbw1)
        clear p0 p1 p2 p3 p4 p5 p6 p7 q0 q1 q2 q3 q4 q5 q6 q7 e0 e1
        obtain ⟨r0, r1, r2, r3⟩ := row4 (row_gr HE1.out GG.out)
        obtain ⟨p0, p1, p2, p3, p4, p5, p6, p7⟩ := row8 (row_gr HE2.out GG.out)
        obtain ⟨q0, q1, q2, q3, q4, q5, q6, q7⟩ := row8 (row_gr HE3.out GG.out)
        (refine wp_region_gr (by kernel_rfl) (by kernel_rfl) ?_; (repeat (first | go_big_quiet_step ((first | (go_at_call 31; exact calls_gr (HE.out _)) | (go_at_call 74; exact calls_gr (HM2.out _ (HG.out.trans (GG.out.trans (GrW.gr _))))))) | quiet_step ((first | (go_at_call 31; exact calls_gr (HE.out _)) | (go_at_call 74; exact calls_gr (HM2.out _ (HG.out.trans (GG.out.trans (GrW.gr _))))))))); refine wpQuiet_nil ?_; intro wz hw; obtain ⟨⟨_, hbwz⟩, hw⟩ := hw; subst hw; obtain ⟨hcwz, hfwz, hzwz⟩ := hbwz.rules; (try simp at hzwz))
        go_wp2
        go_ret
        exact ⟨by rw [EX.out]; rfl, HG.out.trans (GG.out.trans hbwz)⟩
    · have EX := hid (show NV = 3 from HNV.out.trans (if_pos ⟨rfl, rfl⟩))
      clear HNV
      go_enter Try.func56, Try.ntmps56
      go_wp2
      (refine wp_region_gr (by kernel_rfl) (by kernel_rfl) ?_; (repeat (first | go_big_quiet_step ((fail)) | quiet_step ((fail)))); refine wpQuiet_nil ?_; intro wq hw; obtain ⟨⟨_, hbwq⟩, hw⟩ := hw; subst hw; obtain ⟨hcwq, hfwq, hzwq⟩ := hbwq.rules; (try simp at hzwq); have hzwq_0 : w.heap.size < wq.heap.size := (by omega); have hywq_0 : w.heap.size ≤ wq.heap.size := (by omega); have hzwq_1 : w.heap.size + 1 < wq.heap.size := (by omega); have hywq_1 : w.heap.size + 1 ≤ wq.heap.size := (by omega); have hzwq_2 : w.heap.size + 2 < wq.heap.size := (by omega); have hywq_2 : w.heap.size + 2 ≤ wq.heap.size := (by omega))
      go_wp2_with ((go_at_call 74; (with_reducible refine (HM1.out _ ?_).mono ?_); rotate_right; rintro e w1 ⟨rfl, hbw1⟩; obtain ⟨hcw1, hfw1, hzw1⟩ := hbw1.rules; (try simp at hzw1); have hzw1_0 : w.heap.size < w1.heap.size := (by omega); have hyw1_0 : w.heap.size ≤ w1.heap.size := (by omega); have hzw1_1 : w.heap.size + 1 < w1.heap.size := (by omega); have hyw1_1 : w.heap.size + 1 ≤ w1.heap.size := (by omega); have hzw1_2 : w.heap.size + 2 < w1.heap.size := (by omega); have hyw1_2 : w.heap.size + 2 ≤ w1.heap.size := (by omega)))
      · go_ret
        exact ⟨by rw [EX.out]; rfl, HG.out.trans (hbwq.trans hbw1)⟩
      · exact HG.out.trans hbwq
  · have EY := hid (show NV = if (v : Int) ≤ l ∧ v2 = true then 2 else 0 from HNV.out.trans (if_neg (fun h => hxy h.1)))
    clear HNV
    have tl := toList_ne' hxy
    have tb := toList_beq hxy
    by_cases hv : (v : Int) ≤ l
    · have hv2 : decide ((v : Int) ≤ l) = true := decide_eq_true hv
      cases v2
      · have EX := hid (show NV = 0 from EY.out.trans (if_neg (fun h => Bool.false_ne_true h.2)))
        clear EY
        go_enter Try.func56, Try.ntmps56
        go_wp2
        (refine wp_region_gr (by kernel_rfl) (by kernel_rfl) ?_; (repeat (first | go_big_quiet_step ((fail)) | quiet_step ((fail)))); refine wpQuiet_nil ?_; intro wq hw; obtain ⟨⟨_, hbwq⟩, hw⟩ := hw; subst hw; obtain ⟨hcwq, hfwq, hzwq⟩ := hbwq.rules; (try simp at hzwq); have hzwq_0 : w.heap.size < wq.heap.size := (by omega); have hywq_0 : w.heap.size ≤ wq.heap.size := (by omega); have hzwq_1 : w.heap.size + 1 < wq.heap.size := (by omega); have hywq_1 : w.heap.size + 1 ≤ wq.heap.size := (by omega); have hzwq_2 : w.heap.size + 2 < wq.heap.size := (by omega); have hywq_2 : w.heap.size + 2 ≤ wq.heap.size := (by omega))
        go_wp2
        have GG := hid (hbwq)
        clear p0 p1 p2 p3 p4 p5 p6 p7 q0 q1 q2 q3 q4 q5 q6 q7 e0 e1
        obtain ⟨r0, r1, r2, r3⟩ := row4 (row_gr HE1.out GG.out)
        obtain ⟨p0, p1, p2, p3, p4, p5, p6, p7⟩ := row8 (row_gr HE2.out GG.out)
        obtain ⟨q0, q1, q2, q3, q4, q5, q6, q7⟩ := row8 (row_gr HE3.out GG.out)
        (refine wp_region_gr (by kernel_rfl) (by kernel_rfl) ?_; (repeat (first | go_big_quiet_step ((first | (go_at_call 31; exact calls_gr (HE.out _)) | (go_at_call 74; exact calls_gr (HM2.out _ (HG.out.trans (GG.out.trans (GrW.gr _))))))) | quiet_step ((first | (go_at_call 31; exact calls_gr (HE.out _)) | (go_at_call 74; exact calls_gr (HM2.out _ (HG.out.trans (GG.out.trans (GrW.gr _))))))))); refine wpQuiet_nil ?_; intro wz hw; obtain ⟨⟨_, hbwz⟩, hw⟩ := hw; subst hw; obtain ⟨hcwz, hfwz, hzwz⟩ := hbwz.rules; (try simp at hzwz))
        go_wp2
        go_ret
        exact ⟨by rw [EX.out]; rfl, HG.out.trans (GG.out.trans hbwz)⟩
      · have EX := hid (show NV = 2 from EY.out.trans (if_pos ⟨hv, rfl⟩))
        clear EY
        go_enter Try.func56, Try.ntmps56
        go_wp2
        (refine wp_region_gr (by kernel_rfl) (by kernel_rfl) ?_; (repeat (first | go_big_quiet_step ((fail)) | quiet_step ((fail)))); refine wpQuiet_nil ?_; intro wq hw; obtain ⟨⟨_, hbwq⟩, hw⟩ := hw; subst hw; obtain ⟨hcwq, hfwq, hzwq⟩ := hbwq.rules; (try simp at hzwq); have hzwq_0 : w.heap.size < wq.heap.size := (by omega); have hywq_0 : w.heap.size ≤ wq.heap.size := (by omega); have hzwq_1 : w.heap.size + 1 < wq.heap.size := (by omega); have hywq_1 : w.heap.size + 1 ≤ wq.heap.size := (by omega); have hzwq_2 : w.heap.size + 2 < wq.heap.size := (by omega); have hywq_2 : w.heap.size + 2 ≤ wq.heap.size := (by omega))
        go_wp2
        have GG := hid (hbwq)
        clear p0 p1 p2 p3 p4 p5 p6 p7 q0 q1 q2 q3 q4 q5 q6 q7 e0 e1
        obtain ⟨r0, r1, r2, r3⟩ := row4 (row_gr HE1.out GG.out)
        obtain ⟨p0, p1, p2, p3, p4, p5, p6, p7⟩ := row8 (row_gr HE2.out GG.out)
        obtain ⟨q0, q1, q2, q3, q4, q5, q6, q7⟩ := row8 (row_gr HE3.out GG.out)
        (refine wp_region_gr (by kernel_rfl) (by kernel_rfl) ?_; (repeat (first | go_big_quiet_step ((first | (go_at_call 31; exact calls_gr (HE.out _)) | (go_at_call 74; exact calls_gr (HM2.out _ (HG.out.trans (GG.out.trans (GrW.gr _))))))) | quiet_step ((first | (go_at_call 31; exact calls_gr (HE.out _)) | (go_at_call 74; exact calls_gr (HM2.out _ (HG.out.trans (GG.out.trans (GrW.gr _))))))))); refine wpQuiet_nil ?_; intro wz hw; obtain ⟨⟨_, hbwz⟩, hw⟩ := hw; subst hw; obtain ⟨hcwz, hfwz, hzwz⟩ := hbwz.rules; (try simp at hzwz))
        go_wp2
        go_ret
        exact ⟨by rw [EX.out]; rfl, HG.out.trans (GG.out.trans hbwz)⟩
    · have hv2 : decide ((v : Int) ≤ l) = false := decide_eq_false hv
      have EX := hid (show NV = 0 from EY.out.trans (if_neg (fun h => hv h.1)))
      clear EY
      go_enter Try.func56, Try.ntmps56
      go_wp2
      (refine wp_region_gr (by kernel_rfl) (by kernel_rfl) ?_; (repeat (first | go_big_quiet_step ((fail)) | quiet_step ((fail)))); refine wpQuiet_nil ?_; intro wq hw; obtain ⟨⟨_, hbwq⟩, hw⟩ := hw; subst hw; obtain ⟨hcwq, hfwq, hzwq⟩ := hbwq.rules; (try simp at hzwq); have hzwq_0 : w.heap.size < wq.heap.size := (by omega); have hywq_0 : w.heap.size ≤ wq.heap.size := (by omega); have hzwq_1 : w.heap.size + 1 < wq.heap.size := (by omega); have hywq_1 : w.heap.size + 1 ≤ wq.heap.size := (by omega); have hzwq_2 : w.heap.size + 2 < wq.heap.size := (by omega); have hywq_2 : w.heap.size + 2 ≤ wq.heap.size := (by omega))
      go_wp2
      have GG := hid (hbwq)
      clear p0 p1 p2 p3 p4 p5 p6 p7 q0 q1 q2 q3 q4 q5 q6 q7 e0 e1
      obtain ⟨r0, r1, r2, r3⟩ := row4 (row_gr HE1.out GG.out)
      obtain ⟨p0, p1, p2, p3, p4, p5, p6, p7⟩ := row8 (row_gr HE2.out GG.out)
      obtain ⟨q0, q1, q2, q3, q4, q5, q6, q7⟩ := row8 (row_gr HE3.out GG.out)
      (refine wp_region_gr (by kernel_rfl) (by kernel_rfl) ?_; (repeat (first | go_big_quiet_step ((first | (go_at_call 31; exact calls_gr (HE.out _)) | (go_at_call 74; exact calls_gr (HM2.out _ (HG.out.trans (GG.out.trans (GrW.gr _))))))) | quiet_step ((first | (go_at_call 31; exact calls_gr (HE.out _)) | (go_at_call 74; exact calls_gr (HM2.out _ (HG.out.trans (GG.out.trans (GrW.gr _))))))))); refine wpQuiet_nil ?_; intro wz hw; obtain ⟨⟨_, hbwz⟩, hw⟩ := hw; subst hw; obtain ⟨hcwz, hfwz, hzwz⟩ := hbwz.rules; (try simp at hzwz))
      go_wp2
      go_ret
      exact ⟨by rw [EX.out]; rfl, HG.out.trans (GG.out.trans hbwz)⟩

theorem names_any (r : Rul) (a b : Rcd) (A : Option Addr) (n c : Nat) (B : Option Addr) (m d : Nat) (A' : Option Addr) (n' c' : Nat) (B' : Option Addr) (m' d' : Nat) (w : World)
    (ha : a.In w A n B m) (hb : b.In w A' n' B' m') (fa : Fine a n c) (fb : Fine b n' c') :
    Calls Try.prog 56 #[r.val, a.val A n c B m d, b.val A' n' c' B' m' d'] w fun e w' => e = .returned (.int .u8 (namesN r.letters a.names b.names)) ∧ Gr w w' := by
  unfold namesN
  have h1 := ha.nlen
  have h2 := hb.nlen
  by_cases h : n' < n
  · rw [if_pos (by omega)]
    exact names_gt r a b A n c B m d A' n' c' B' m' d' w ha hb fa fb h
  · rw [if_neg (by omega)]
    exact names_le r a b A n c B m d A' n' c' B' m' d' w ha hb fa fb (by omega)
end Go.Proofs.Ytlkjimfkapcenaa
