/- Compare of the package match: how much two records agree, or the error. For all records. -/
import Derived.LoopN
import Derived.Test.YtlkjimfkapcenaaGreatDoorQCompareOne
namespace Go.Proofs.YtlkjimfkapcenaaGreatDoor
open Go.RowKit

set_option maxRecDepth 100000 in
set_option maxHeartbeats 4000000 in
theorem compareTop_any (r : Rul) (a b : Rcd) (A : Option Addr) (n c : Nat) (B : Option Addr) (m d : Nat) (A' : Option Addr) (n' c' : Nat) (B' : Option Addr) (m' d' : Nat) (w : World)
    (ha : a.In w A n B m) (hb : b.In w A' n' B' m') (ca : n ≤ c ∧ c ≤ 9223372036854775807) (cb : n' ≤ c' ∧ c' ≤ 9223372036854775807) (sa : 0 ≤ a.suffix) (sb : 0 ≤ b.suffix) :
    Calls Tryz.prog 8 #[r.val, a.val A n c B m d, b.val A' n' c' B' m' d'] w fun e w' => e = .returned (.tuple #[(cmpV r a b).val, .int .i64 (cmpE r a b)]) ∧ Gr w w' := by
  have HA := hid (fun W (g : Gr w W) => check_any r a A n c B m d W (ha.gr g))
  have HB := hid (fun W (g : Gr w W) => check_any r b A' n' c' B' m' d' W (hb.gr g))
  have HC := hid (fun (h1 : r.ok = true) (h2 : a.ok = true) (h3 : b.ok = true) W (g : Gr w W) => compare_any r a b A n c B m d A' n' c' B' m' d' W ((good_of ha ca.1 ca.2 sa h2).gr g) ((good_of hb cb.1 cb.2 sb h3).gr g) h1)
  clear ha hb ca cb sa sb
  generalize hx1 : checkN r a = x1 at HA
  generalize hx2 : checkN r b = x2 at HB
  unfold checkN at hx1 hx2
  unfold cmpV cmpE
  generalize cmpN r a b = cv at HC ⊢
  generalize r.ok = ro at hx1 hx2 HC ⊢
  generalize a.ok = ao at hx1 HC ⊢
  generalize b.ok = bo at hx2 HC ⊢
  obtain ⟨l, dg, dy, t⟩ := r
  obtain ⟨id, names, suf, l1, h1, p, tw, xs⟩ := a
  obtain ⟨id', names', suf', l2, h2, q, tw', ys⟩ := b
  obtain ⟨nm, nu, bi, pl, vd⟩ := cv
  unfold Rcd.val at HA HB HC ⊢
  unfold Rul.val at HA HB HC ⊢
  unfold Cmp.val at HC ⊢
  dsimp only at HA HB HC ⊢
  obtain ⟨E1, E2, E3, E4⟩ := boxes4 w (.cells #[.int .i64 l, .int .i64 dg, .int .i64 dy, .int .i64 t] 34) (.cells #[.int .i64 id, .slice A n c, .int .u8 suf, .int .i64 l1, .int .i64 h1, .string p, .bool tw, .slice B m d] 41) (.cells #[.int .i64 id', .slice A' n' c', .int .u8 suf', .int .i64 l2, .int .i64 h2, .string q, .bool tw', .slice B' m' d'] 41) (.cells #[.int .u8 0, .int .u8 0, .int .u8 0, .int .u8 0, .int .u8 0] 30)
  have G4 : Gr w ((((w.alloc (.cells #[.int .i64 l, .int .i64 dg, .int .i64 dy, .int .i64 t] 34)).alloc (.cells #[.int .i64 id, .slice A n c, .int .u8 suf, .int .i64 l1, .int .i64 h1, .string p, .bool tw, .slice B m d] 41)).alloc (.cells #[.int .i64 id', .slice A' n' c', .int .u8 suf', .int .i64 l2, .int .i64 h2, .string q, .bool tw', .slice B' m' d'] 41)).alloc (.cells #[.int .u8 0, .int .u8 0, .int .u8 0, .int .u8 0, .int .u8 0] 30)) := ((((Gr.refl w).alloc _).alloc _).alloc _).alloc _
  have HE1 := hid E1
  have HE2 := hid E2
  have HE3 := hid E3
  have HE4 := hid E4
  have HG4 := hid G4
  clear E1 E2 E3 E4 G4
  cases ro
  · obtain rfl : x1 = 10 := by simpa using hx1.symm
    clear HC hx1 hx2
    go_enter Tryz.func8, Tryz.ntmps8
    go_wp2
    refine wp_loop_rounds 1 ?_
    rw [rounds_succ]
    go_wp2_with ((go_at_call 18; (with_reducible refine (HA.out _ ?_).mono ?_); rotate_right; rintro e w1 ⟨rfl, hbw1⟩; obtain ⟨hcw1, hfw1, hzw1⟩ := hbw1.rules; (try simp at hzw1); have hzw1_0 : w.heap.size < w1.heap.size := (by omega); have hyw1_0 : w.heap.size ≤ w1.heap.size := (by omega); have hzw1_1 : w.heap.size + 1 < w1.heap.size := (by omega); have hyw1_1 : w.heap.size + 1 ≤ w1.heap.size := (by omega); have hzw1_2 : w.heap.size + 2 < w1.heap.size := (by omega); have hyw1_2 : w.heap.size + 2 ≤ w1.heap.size := (by omega); have hzw1_3 : w.heap.size + 3 < w1.heap.size := (by omega); have hyw1_3 : w.heap.size + 3 ≤ w1.heap.size := (by omega); have hzw1_4 : w.heap.size + 4 < w1.heap.size := (by omega); have hyw1_4 : w.heap.size + 4 ≤ w1.heap.size := (by omega); have hzw1_5 : w.heap.size + 5 < w1.heap.size := (by omega); have hyw1_5 : w.heap.size + 5 ≤ w1.heap.size := (by omega)))
    · refine bodyPost_ret (v := .tuple #[.agg #[.int .u8 0, .int .u8 0, .int .u8 0, .int .u8 0, .int .u8 0], .int .i64 10]) ?_ rfl ?_
      · exact results_cell_tmp (p := 6) (q := 7) (ty := 30) Tryz.results8 _ _ (w.heap.size + 1 + 1 + 1) 30 _ (0, 0) _ _ rfl rfl (set5_row (row_gr HE4.out (Gr.trans ((Gr.alloc (Gr.alloc (Gr.refl _) _) _)) hbw1))) Tryz.underlying30 rfl (by kernel_rfl)
      · exact ⟨rfl, set5_gr (HG4.out.trans (Gr.trans ((Gr.alloc (Gr.alloc (Gr.refl _) _) _)) hbw1)) (by omega) _ _ _ _ _⟩
    · exact HG4.out.trans (Gr.alloc (Gr.alloc (Gr.refl _) _) _)
  · cases ao
    · obtain rfl : x1 = 11 := by simpa using hx1.symm
      clear HC hx1 hx2
      go_enter Tryz.func8, Tryz.ntmps8
      go_wp2
      refine wp_loop_rounds 1 ?_
      rw [rounds_succ]
      go_wp2_with ((go_at_call 18; (with_reducible refine (HA.out _ ?_).mono ?_); rotate_right; rintro e w1 ⟨rfl, hbw1⟩; obtain ⟨hcw1, hfw1, hzw1⟩ := hbw1.rules; (try simp at hzw1); have hzw1_0 : w.heap.size < w1.heap.size := (by omega); have hyw1_0 : w.heap.size ≤ w1.heap.size := (by omega); have hzw1_1 : w.heap.size + 1 < w1.heap.size := (by omega); have hyw1_1 : w.heap.size + 1 ≤ w1.heap.size := (by omega); have hzw1_2 : w.heap.size + 2 < w1.heap.size := (by omega); have hyw1_2 : w.heap.size + 2 ≤ w1.heap.size := (by omega); have hzw1_3 : w.heap.size + 3 < w1.heap.size := (by omega); have hyw1_3 : w.heap.size + 3 ≤ w1.heap.size := (by omega); have hzw1_4 : w.heap.size + 4 < w1.heap.size := (by omega); have hyw1_4 : w.heap.size + 4 ≤ w1.heap.size := (by omega); have hzw1_5 : w.heap.size + 5 < w1.heap.size := (by omega); have hyw1_5 : w.heap.size + 5 ≤ w1.heap.size := (by omega)))
      · refine bodyPost_ret (v := .tuple #[.agg #[.int .u8 0, .int .u8 0, .int .u8 0, .int .u8 0, .int .u8 0], .int .i64 11]) ?_ rfl ?_
        · exact results_cell_tmp (p := 6) (q := 7) (ty := 30) Tryz.results8 _ _ (w.heap.size + 1 + 1 + 1) 30 _ (0, 0) _ _ rfl rfl (set5_row (row_gr HE4.out (Gr.trans ((Gr.alloc (Gr.alloc (Gr.refl _) _) _)) hbw1))) Tryz.underlying30 rfl (by kernel_rfl)
        · exact ⟨rfl, set5_gr (HG4.out.trans (Gr.trans ((Gr.alloc (Gr.alloc (Gr.refl _) _) _)) hbw1)) (by omega) _ _ _ _ _⟩
      · exact HG4.out.trans (Gr.alloc (Gr.alloc (Gr.refl _) _) _)
    · obtain rfl : x1 = 0 := by simpa using hx1.symm
      cases bo
      · obtain rfl : x2 = 11 := by simpa using hx2.symm
        clear HC hx1 hx2
        go_enter Tryz.func8, Tryz.ntmps8
        go_wp2
        refine wp_loop_rounds 2 ?_
        rw [rounds_succ]
        go_wp2_with ((go_at_call 18; (with_reducible refine (HA.out _ ?_).mono ?_); rotate_right; rintro e w1 ⟨rfl, hbw1⟩; obtain ⟨hcw1, hfw1, hzw1⟩ := hbw1.rules; (try simp at hzw1); have hzw1_0 : w.heap.size < w1.heap.size := (by omega); have hyw1_0 : w.heap.size ≤ w1.heap.size := (by omega); have hzw1_1 : w.heap.size + 1 < w1.heap.size := (by omega); have hyw1_1 : w.heap.size + 1 ≤ w1.heap.size := (by omega); have hzw1_2 : w.heap.size + 2 < w1.heap.size := (by omega); have hyw1_2 : w.heap.size + 2 ≤ w1.heap.size := (by omega); have hzw1_3 : w.heap.size + 3 < w1.heap.size := (by omega); have hyw1_3 : w.heap.size + 3 ≤ w1.heap.size := (by omega); have hzw1_4 : w.heap.size + 4 < w1.heap.size := (by omega); have hyw1_4 : w.heap.size + 4 ≤ w1.heap.size := (by omega); have hzw1_5 : w.heap.size + 5 < w1.heap.size := (by omega); have hyw1_5 : w.heap.size + 5 ≤ w1.heap.size := (by omega)))
        · rw [rounds_succ]
          go_wp2_with ((go_at_call 18; (with_reducible refine (HB.out _ ?_).mono ?_); rotate_right; rintro e w2 ⟨rfl, hbw2⟩; obtain ⟨hcw2, hfw2, hzw2⟩ := hbw2.rules; (try simp at hzw2); have hzw2_0 : w.heap.size < w2.heap.size := (by omega); have hyw2_0 : w.heap.size ≤ w2.heap.size := (by omega); have hzw2_1 : w.heap.size + 1 < w2.heap.size := (by omega); have hyw2_1 : w.heap.size + 1 ≤ w2.heap.size := (by omega); have hzw2_2 : w.heap.size + 2 < w2.heap.size := (by omega); have hyw2_2 : w.heap.size + 2 ≤ w2.heap.size := (by omega); have hzw2_3 : w.heap.size + 3 < w2.heap.size := (by omega); have hyw2_3 : w.heap.size + 3 ≤ w2.heap.size := (by omega); have hzw2_4 : w.heap.size + 4 < w2.heap.size := (by omega); have hyw2_4 : w.heap.size + 4 ≤ w2.heap.size := (by omega); have hzw2_5 : w.heap.size + 5 < w2.heap.size := (by omega); have hyw2_5 : w.heap.size + 5 ≤ w2.heap.size := (by omega)))
          · refine bodyPost_ret (v := .tuple #[.agg #[.int .u8 0, .int .u8 0, .int .u8 0, .int .u8 0, .int .u8 0], .int .i64 11]) ?_ rfl ?_
            · exact results_cell_tmp (p := 6) (q := 7) (ty := 30) Tryz.results8 _ _ (w.heap.size + 1 + 1 + 1) 30 _ (0, 0) _ _ rfl rfl (set5_row (row_gr HE4.out (Gr.trans (Gr.alloc (Gr.trans ((Gr.alloc (Gr.alloc (Gr.refl _) _) _)) hbw1) _) hbw2))) Tryz.underlying30 rfl (by kernel_rfl)
            · exact ⟨rfl, set5_gr (HG4.out.trans (Gr.trans (Gr.alloc (Gr.trans ((Gr.alloc (Gr.alloc (Gr.refl _) _) _)) hbw1) _) hbw2)) (by omega) _ _ _ _ _⟩
          · exact HG4.out.trans (Gr.alloc (Gr.trans ((Gr.alloc (Gr.alloc (Gr.refl _) _) _)) hbw1) _)
        · exact HG4.out.trans (Gr.alloc (Gr.alloc (Gr.refl _) _) _)
      · obtain rfl : x2 = 0 := by simpa using hx2.symm
        have HC2 := hid (HC.out rfl rfl rfl)
        clear HC hx1 hx2
        go_enter Tryz.func8, Tryz.ntmps8
        go_wp2
        refine wp_loop_rounds 3 ?_
        rw [rounds_succ]
        go_wp2_with ((go_at_call 18; (with_reducible refine (HA.out _ ?_).mono ?_); rotate_right; rintro e w1 ⟨rfl, hbw1⟩; obtain ⟨hcw1, hfw1, hzw1⟩ := hbw1.rules; (try simp at hzw1); have hzw1_0 : w.heap.size < w1.heap.size := (by omega); have hyw1_0 : w.heap.size ≤ w1.heap.size := (by omega); have hzw1_1 : w.heap.size + 1 < w1.heap.size := (by omega); have hyw1_1 : w.heap.size + 1 ≤ w1.heap.size := (by omega); have hzw1_2 : w.heap.size + 2 < w1.heap.size := (by omega); have hyw1_2 : w.heap.size + 2 ≤ w1.heap.size := (by omega); have hzw1_3 : w.heap.size + 3 < w1.heap.size := (by omega); have hyw1_3 : w.heap.size + 3 ≤ w1.heap.size := (by omega); have hzw1_4 : w.heap.size + 4 < w1.heap.size := (by omega); have hyw1_4 : w.heap.size + 4 ≤ w1.heap.size := (by omega); have hzw1_5 : w.heap.size + 5 < w1.heap.size := (by omega); have hyw1_5 : w.heap.size + 5 ≤ w1.heap.size := (by omega)))
        · rw [rounds_succ]
          go_wp2_with ((go_at_call 18; (with_reducible refine (HB.out _ ?_).mono ?_); rotate_right; rintro e w2 ⟨rfl, hbw2⟩; obtain ⟨hcw2, hfw2, hzw2⟩ := hbw2.rules; (try simp at hzw2); have hzw2_0 : w.heap.size < w2.heap.size := (by omega); have hyw2_0 : w.heap.size ≤ w2.heap.size := (by omega); have hzw2_1 : w.heap.size + 1 < w2.heap.size := (by omega); have hyw2_1 : w.heap.size + 1 ≤ w2.heap.size := (by omega); have hzw2_2 : w.heap.size + 2 < w2.heap.size := (by omega); have hyw2_2 : w.heap.size + 2 ≤ w2.heap.size := (by omega); have hzw2_3 : w.heap.size + 3 < w2.heap.size := (by omega); have hyw2_3 : w.heap.size + 3 ≤ w2.heap.size := (by omega); have hzw2_4 : w.heap.size + 4 < w2.heap.size := (by omega); have hyw2_4 : w.heap.size + 4 ≤ w2.heap.size := (by omega); have hzw2_5 : w.heap.size + 5 < w2.heap.size := (by omega); have hyw2_5 : w.heap.size + 5 ≤ w2.heap.size := (by omega)))
          · rw [rounds_succ]
            go_wp2_with ((go_at_call 19; (with_reducible refine (HC2.out _ ?_).mono ?_); rotate_right; rintro e w3 ⟨rfl, hbw3⟩; obtain ⟨hcw3, hfw3, hzw3⟩ := hbw3.rules; (try simp at hzw3); have hzw3_0 : w.heap.size < w3.heap.size := (by omega); have hyw3_0 : w.heap.size ≤ w3.heap.size := (by omega); have hzw3_1 : w.heap.size + 1 < w3.heap.size := (by omega); have hyw3_1 : w.heap.size + 1 ≤ w3.heap.size := (by omega); have hzw3_2 : w.heap.size + 2 < w3.heap.size := (by omega); have hyw3_2 : w.heap.size + 2 ≤ w3.heap.size := (by omega); have hzw3_3 : w.heap.size + 3 < w3.heap.size := (by omega); have hyw3_3 : w.heap.size + 3 ≤ w3.heap.size := (by omega); have hzw3_4 : w.heap.size + 4 < w3.heap.size := (by omega); have hyw3_4 : w.heap.size + 4 ≤ w3.heap.size := (by omega); have hzw3_5 : w.heap.size + 5 < w3.heap.size := (by omega); have hyw3_5 : w.heap.size + 5 ≤ w3.heap.size := (by omega)))
            · refine bodyPost_ret (v := .tuple #[.agg #[.int .u8 nm, .int .u8 nu, .int .u8 bi, .int .u8 pl, .int .u8 vd], .int .i64 0]) ?_ rfl ?_
              · exact results_cell_tmp (p := 6) (q := 7) (ty := 30) Tryz.results8 _ _ (w.heap.size + 1 + 1 + 1) 30 _ (0, 0) _ _ rfl rfl (set5_row (row_gr HE4.out (Gr.trans (Gr.trans (Gr.alloc (Gr.trans ((Gr.alloc (Gr.alloc (Gr.refl _) _) _)) hbw1) _) hbw2) hbw3))) Tryz.underlying30 rfl (by kernel_rfl)
              · exact ⟨rfl, set5_gr (HG4.out.trans (Gr.trans (Gr.trans (Gr.alloc (Gr.trans ((Gr.alloc (Gr.alloc (Gr.refl _) _) _)) hbw1) _) hbw2) hbw3)) (by omega) _ _ _ _ _⟩
            · exact HG4.out.trans (Gr.trans (Gr.alloc (Gr.trans ((Gr.alloc (Gr.alloc (Gr.refl _) _) _)) hbw1) _) hbw2)
          · exact HG4.out.trans (Gr.alloc (Gr.trans ((Gr.alloc (Gr.alloc (Gr.refl _) _) _)) hbw1) _)
        · exact HG4.out.trans (Gr.alloc (Gr.alloc (Gr.refl _) _) _)
end Go.Proofs.YtlkjimfkapcenaaGreatDoor
