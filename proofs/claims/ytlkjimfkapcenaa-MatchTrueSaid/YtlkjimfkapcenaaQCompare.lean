/- Compare of the package match and of its reference: how much two records agree, or the error. For all records. -/
import Derived.Test.YtlkjimfkapcenaaQWithin
import Derived.Test.YtlkjimfkapcenaaQRefCompareOne
namespace Go.Proofs.Ytlkjimfkapcenaa
open Go.RowKit

/-- The result of Compare: the match, and the error. -/
def cmpE (r : Rul) (a b : Rcd) : Int := if r.ok then (if a.ok && b.ok then 0 else 11) else 10
def cmpV (r : Rul) (a b : Rcd) : Cmp := if r.ok && a.ok && b.ok then cmpN r a b else ⟨0, 0, 0, 0, 0⟩
theorem cmpE_symm (r : Rul) (a b : Rcd) : cmpE r a b = cmpE r b a := by unfold cmpE; rw [Bool.and_comm]
theorem cmpV_symm (r : Rul) (a b : Rcd) : cmpV r a b = cmpV r b a := by
  unfold cmpV
  rw [cmpN_symm, Bool.and_assoc, Bool.and_assoc, Bool.and_comm a.ok]
/-- A valid record has what compare asks. -/
theorem good_of {a : Rcd} {w : World} {A : Option Addr} {n c : Nat} {B : Option Addr} {m : Nat} (h : a.In w A n B m) (hc : n ≤ c) (hb : c ≤ 9223372036854775807) (hs : 0 ≤ a.suffix) (ok : a.ok = true) : Good a w A n c B m := by
  unfold Rcd.ok inB at ok
  simp only [Bool.and_eq_true, decide_eq_true_eq, Bool.or_eq_true, List.all_eq_true] at ok
  obtain ⟨⟨⟨⟨⟨⟨⟨⟨_, o2⟩, o3⟩, o4⟩, o5⟩, o6⟩, o7⟩, o8⟩, _⟩ := ok
  have hn := h.nlen
  have hm := h.mlen
  refine ⟨h, ⟨by omega, by omega, hc, hb, fun s hs => ?_⟩, by omega, ⟨hs, o4⟩, o8, o5.1.1, o5.1.2, o5.2, fun s hs => ?_⟩
  · have := o3 s hs
    unfold wordB inB at this
    simp only [Bool.and_eq_true, decide_eq_true_eq] at this
    omega
  · have := o7 s hs
    unfold Sty.ok inB at this
    simp only [Bool.and_eq_true, decide_eq_true_eq] at this
    unfold Rng
    omega
theorem results_cell_tmp {P : Program} {fn : Func} {p q : Tmp} {ty : TypeId} (h : fn.results = #[.cell p ty, .tmp q]) (tmps : Array Value) (w : World) (g : Nat) (t : TypeId) (cs : Array Value) (fr : Nat × Nat) (d : TypeDesc) (v : Value)
    (hp : tmps.getD p undef = .pointer (some ⟨g, 0, none⟩)) (hq : tmps.getD q undef = v) (hg : w.heap[g]? = some (.cells cs t fr))
    (hu : P.underlying ty = some d) (hd : (match d with | .struct _ | .array _ _ => true | _ => false) = true) (hi : (P.info? ty).map (·.size) = some cs.size) :
    (results fn tmps).run P w = .ok (.tuple #[.agg cs, v]) w := by
  have hp' : tmps[p]?.getD undef = .pointer (some ⟨g, 0, none⟩) := by simpa using hp
  have hq' : tmps[q]?.getD undef = v := by simpa using hq
  simp [results, h, hp', hq', asAddr, run_loadVar_row w g t ty cs fr d hg hu hd hi]
/-- The boxes of rules, two records and a match. -/
theorem boxes4 (w : World) (o1 o2 o3 o4 : Obj) : ((((w.alloc o1).alloc o2).alloc o3).alloc o4).heap[w.heap.size]? = some o1 ∧ ((((w.alloc o1).alloc o2).alloc o3).alloc o4).heap[w.heap.size + 1]? = some o2 ∧
    ((((w.alloc o1).alloc o2).alloc o3).alloc o4).heap[w.heap.size + 1 + 1]? = some o3 ∧ ((((w.alloc o1).alloc o2).alloc o3).alloc o4).heap[w.heap.size + 1 + 1 + 1]? = some o4 := by
  obtain ⟨a, b, c⟩ := rows3 w o1 o2 o3
  have e : (((w.alloc o1).alloc o2).alloc o3).heap.size = w.heap.size + 1 + 1 + 1 := by simp
  refine ⟨?_, ?_, ?_, ?_⟩
  · rw [Below.heap_alloc _ _ _ (by omega)]; exact a
  · rw [Below.heap_alloc _ _ _ (by omega)]; exact b
  · rw [Below.heap_alloc _ _ _ (by omega)]; exact c
  · rw [← e]; exact heap_alloc_new _ _

set_option maxRecDepth 100000 in
set_option maxHeartbeats 4000000 in
theorem refCompare_any (r : Rul) (a b : Rcd) (A : Option Addr) (n c : Nat) (B : Option Addr) (m d : Nat) (A' : Option Addr) (n' c' : Nat) (B' : Option Addr) (m' d' : Nat) (w : World)
    (ha : a.In w A n B m) (hb : b.In w A' n' B' m') (ca : n ≤ c ∧ c ≤ 9223372036854775807) (cb : n' ≤ c' ∧ c' ≤ 9223372036854775807) (sa : 0 ≤ a.suffix) (sb : 0 ≤ b.suffix) :
    Calls Try.prog 19 #[r.val, a.val A n c B m d, b.val A' n' c' B' m' d'] w fun e w' => e = .returned (.tuple #[(cmpV r a b).val, .int .i64 (cmpE r a b)]) ∧ Gr w w' := by
  have HU := hid (fun W => refRules_any r W)
  have HA := hid (fun W (g : Gr w W) => refRecord_any a A n c B m d W (ha.gr g))
  have HB := hid (fun W (g : Gr w W) => refRecord_any b A' n' c' B' m' d' W (hb.gr g))
  have HC := hid (fun (h1 : r.ok = true) (h2 : a.ok = true) (h3 : b.ok = true) W (g : Gr w W) => refCompare_one r a b A n c B m d A' n' c' B' m' d' W ((good_of ha ca.1 ca.2 sa h2).gr g) ((good_of hb cb.1 cb.2 sb h3).gr g) h1)
  clear ha hb ca cb sa sb
  unfold cmpV cmpE
  generalize cmpN r a b = cv at HC ⊢
  generalize r.ok = ro at HU HC ⊢
  generalize a.ok = ao at HA HC ⊢
  generalize b.ok = bo at HB HC ⊢
  obtain ⟨l, dg, dy, t⟩ := r
  obtain ⟨id, names, suf, l1, h1, p, tw, xs⟩ := a
  obtain ⟨id', names', suf', l2, h2, q, tw', ys⟩ := b
  obtain ⟨nm, nu, bi, pl, vd⟩ := cv
  unfold Rcd.val at HA HB HC ⊢
  unfold Rul.val at HU HC ⊢
  unfold Cmp.val at HC ⊢
  dsimp only at HU HA HB HC ⊢
  obtain ⟨E1, E2, E3, E4⟩ := boxes4 w (.cells #[.int .i64 l, .int .i64 dg, .int .i64 dy, .int .i64 t] 23) (.cells #[.int .i64 id, .slice A n c, .int .u8 suf, .int .i64 l1, .int .i64 h1, .string p, .bool tw, .slice B m d] 29) (.cells #[.int .i64 id', .slice A' n' c', .int .u8 suf', .int .i64 l2, .int .i64 h2, .string q, .bool tw', .slice B' m' d'] 29) (.cells #[.int .u8 0, .int .u8 0, .int .u8 0, .int .u8 0, .int .u8 0] 42)
  have G4 : Gr w ((((w.alloc (.cells #[.int .i64 l, .int .i64 dg, .int .i64 dy, .int .i64 t] 23)).alloc (.cells #[.int .i64 id, .slice A n c, .int .u8 suf, .int .i64 l1, .int .i64 h1, .string p, .bool tw, .slice B m d] 29)).alloc (.cells #[.int .i64 id', .slice A' n' c', .int .u8 suf', .int .i64 l2, .int .i64 h2, .string q, .bool tw', .slice B' m' d'] 29)).alloc (.cells #[.int .u8 0, .int .u8 0, .int .u8 0, .int .u8 0, .int .u8 0] 42)) := ((((Gr.refl w).alloc _).alloc _).alloc _).alloc _
  have HE1 := hid E1
  have HE2 := hid E2
  have HE3 := hid E3
  have HE4 := hid E4
  have HG4 := hid G4
  clear E1 E2 E3 E4 G4
  cases ro
  · clear HC
    go_enter Try.func19, Try.ntmps19
    go_wp2_with (first
        | (go_at_call 21; (with_reducible refine (HU.out _).mono ?_); rotate_right; rintro e w1 ⟨rfl, hbw1⟩; obtain ⟨hcw1, hfw1, hzw1⟩ := hbw1.rules; (try simp at hzw1); have hzw1_0 : w.heap.size < w1.heap.size := (by omega); have hyw1_0 : w.heap.size ≤ w1.heap.size := (by omega); have hzw1_1 : w.heap.size + 1 < w1.heap.size := (by omega); have hyw1_1 : w.heap.size + 1 ≤ w1.heap.size := (by omega); have hzw1_2 : w.heap.size + 2 < w1.heap.size := (by omega); have hyw1_2 : w.heap.size + 2 ≤ w1.heap.size := (by omega); have hzw1_3 : w.heap.size + 3 < w1.heap.size := (by omega); have hyw1_3 : w.heap.size + 3 ≤ w1.heap.size := (by omega)))
    refine bodyPost_ret (v := .tuple #[.agg #[.int .u8 0, .int .u8 0, .int .u8 0, .int .u8 0, .int .u8 0], .int .i64 10]) ?_ rfl ?_
    · exact results_cell_tmp (p := 6) (q := 7) (ty := 42) Try.results19 _ _ (w.heap.size + 1 + 1 + 1) 42 _ (0, 0) _ _ rfl rfl (set5_row (row_gr HE4.out (hbw1))) Try.underlying42 rfl (by kernel_rfl)
    · exact ⟨rfl, set5_gr (HG4.out.trans (hbw1)) (by omega) _ _ _ _ _⟩
  · cases ao
    · clear HC
      go_enter Try.func19, Try.ntmps19
      go_wp2_with (first
        | (go_at_call 21; (with_reducible refine (HU.out _).mono ?_); rotate_right; rintro e w1 ⟨rfl, hbw1⟩; obtain ⟨hcw1, hfw1, hzw1⟩ := hbw1.rules; (try simp at hzw1); have hzw1_0 : w.heap.size < w1.heap.size := (by omega); have hyw1_0 : w.heap.size ≤ w1.heap.size := (by omega); have hzw1_1 : w.heap.size + 1 < w1.heap.size := (by omega); have hyw1_1 : w.heap.size + 1 ≤ w1.heap.size := (by omega); have hzw1_2 : w.heap.size + 2 < w1.heap.size := (by omega); have hyw1_2 : w.heap.size + 2 ≤ w1.heap.size := (by omega); have hzw1_3 : w.heap.size + 3 < w1.heap.size := (by omega); have hyw1_3 : w.heap.size + 3 ≤ w1.heap.size := (by omega))
        | (go_at_call 22; (with_reducible refine (HA.out _ ?_).mono ?_); rotate_right; rintro e w2 ⟨rfl, hbw2⟩; obtain ⟨hcw2, hfw2, hzw2⟩ := hbw2.rules; (try simp at hzw2); have hzw2_0 : w.heap.size < w2.heap.size := (by omega); have hyw2_0 : w.heap.size ≤ w2.heap.size := (by omega); have hzw2_1 : w.heap.size + 1 < w2.heap.size := (by omega); have hyw2_1 : w.heap.size + 1 ≤ w2.heap.size := (by omega); have hzw2_2 : w.heap.size + 2 < w2.heap.size := (by omega); have hyw2_2 : w.heap.size + 2 ≤ w2.heap.size := (by omega); have hzw2_3 : w.heap.size + 3 < w2.heap.size := (by omega); have hyw2_3 : w.heap.size + 3 ≤ w2.heap.size := (by omega)))
      · refine bodyPost_ret (v := .tuple #[.agg #[.int .u8 0, .int .u8 0, .int .u8 0, .int .u8 0, .int .u8 0], .int .i64 11]) ?_ rfl ?_
        · exact results_cell_tmp (p := 6) (q := 7) (ty := 42) Try.results19 _ _ (w.heap.size + 1 + 1 + 1) 42 _ (0, 0) _ _ rfl rfl (set5_row (row_gr HE4.out (hbw1.trans hbw2))) Try.underlying42 rfl (by kernel_rfl)
        · exact ⟨rfl, set5_gr (HG4.out.trans (hbw1.trans hbw2)) (by omega) _ _ _ _ _⟩
      · exact HG4.out.trans hbw1
    · cases bo
      · clear HC
        go_enter Try.func19, Try.ntmps19
        go_wp2_with (first
        | (go_at_call 21; (with_reducible refine (HU.out _).mono ?_); rotate_right; rintro e w1 ⟨rfl, hbw1⟩; obtain ⟨hcw1, hfw1, hzw1⟩ := hbw1.rules; (try simp at hzw1); have hzw1_0 : w.heap.size < w1.heap.size := (by omega); have hyw1_0 : w.heap.size ≤ w1.heap.size := (by omega); have hzw1_1 : w.heap.size + 1 < w1.heap.size := (by omega); have hyw1_1 : w.heap.size + 1 ≤ w1.heap.size := (by omega); have hzw1_2 : w.heap.size + 2 < w1.heap.size := (by omega); have hyw1_2 : w.heap.size + 2 ≤ w1.heap.size := (by omega); have hzw1_3 : w.heap.size + 3 < w1.heap.size := (by omega); have hyw1_3 : w.heap.size + 3 ≤ w1.heap.size := (by omega))
        | (go_at_call 22; (with_reducible refine (HA.out _ ?_).mono ?_); rotate_right; rintro e w2 ⟨rfl, hbw2⟩; obtain ⟨hcw2, hfw2, hzw2⟩ := hbw2.rules; (try simp at hzw2); have hzw2_0 : w.heap.size < w2.heap.size := (by omega); have hyw2_0 : w.heap.size ≤ w2.heap.size := (by omega); have hzw2_1 : w.heap.size + 1 < w2.heap.size := (by omega); have hyw2_1 : w.heap.size + 1 ≤ w2.heap.size := (by omega); have hzw2_2 : w.heap.size + 2 < w2.heap.size := (by omega); have hyw2_2 : w.heap.size + 2 ≤ w2.heap.size := (by omega); have hzw2_3 : w.heap.size + 3 < w2.heap.size := (by omega); have hyw2_3 : w.heap.size + 3 ≤ w2.heap.size := (by omega))
        | (go_at_call 22; (with_reducible refine (HB.out _ ?_).mono ?_); rotate_right; rintro e w3 ⟨rfl, hbw3⟩; obtain ⟨hcw3, hfw3, hzw3⟩ := hbw3.rules; (try simp at hzw3); have hzw3_0 : w.heap.size < w3.heap.size := (by omega); have hyw3_0 : w.heap.size ≤ w3.heap.size := (by omega); have hzw3_1 : w.heap.size + 1 < w3.heap.size := (by omega); have hyw3_1 : w.heap.size + 1 ≤ w3.heap.size := (by omega); have hzw3_2 : w.heap.size + 2 < w3.heap.size := (by omega); have hyw3_2 : w.heap.size + 2 ≤ w3.heap.size := (by omega); have hzw3_3 : w.heap.size + 3 < w3.heap.size := (by omega); have hyw3_3 : w.heap.size + 3 ≤ w3.heap.size := (by omega)))
        · refine bodyPost_ret (v := .tuple #[.agg #[.int .u8 0, .int .u8 0, .int .u8 0, .int .u8 0, .int .u8 0], .int .i64 11]) ?_ rfl ?_
          · exact results_cell_tmp (p := 6) (q := 7) (ty := 42) Try.results19 _ _ (w.heap.size + 1 + 1 + 1) 42 _ (0, 0) _ _ rfl rfl (set5_row (row_gr HE4.out (hbw1.trans (hbw2.trans hbw3)))) Try.underlying42 rfl (by kernel_rfl)
          · exact ⟨rfl, set5_gr (HG4.out.trans (hbw1.trans (hbw2.trans hbw3))) (by omega) _ _ _ _ _⟩
        · exact HG4.out.trans (hbw1.trans hbw2)
        · exact HG4.out.trans hbw1
      · have HC2 := hid (HC.out rfl rfl rfl)
        clear HC
        go_enter Try.func19, Try.ntmps19
        go_wp2_with (first
        | (go_at_call 21; (with_reducible refine (HU.out _).mono ?_); rotate_right; rintro e w1 ⟨rfl, hbw1⟩; obtain ⟨hcw1, hfw1, hzw1⟩ := hbw1.rules; (try simp at hzw1); have hzw1_0 : w.heap.size < w1.heap.size := (by omega); have hyw1_0 : w.heap.size ≤ w1.heap.size := (by omega); have hzw1_1 : w.heap.size + 1 < w1.heap.size := (by omega); have hyw1_1 : w.heap.size + 1 ≤ w1.heap.size := (by omega); have hzw1_2 : w.heap.size + 2 < w1.heap.size := (by omega); have hyw1_2 : w.heap.size + 2 ≤ w1.heap.size := (by omega); have hzw1_3 : w.heap.size + 3 < w1.heap.size := (by omega); have hyw1_3 : w.heap.size + 3 ≤ w1.heap.size := (by omega))
        | (go_at_call 22; (with_reducible refine (HA.out _ ?_).mono ?_); rotate_right; rintro e w2 ⟨rfl, hbw2⟩; obtain ⟨hcw2, hfw2, hzw2⟩ := hbw2.rules; (try simp at hzw2); have hzw2_0 : w.heap.size < w2.heap.size := (by omega); have hyw2_0 : w.heap.size ≤ w2.heap.size := (by omega); have hzw2_1 : w.heap.size + 1 < w2.heap.size := (by omega); have hyw2_1 : w.heap.size + 1 ≤ w2.heap.size := (by omega); have hzw2_2 : w.heap.size + 2 < w2.heap.size := (by omega); have hyw2_2 : w.heap.size + 2 ≤ w2.heap.size := (by omega); have hzw2_3 : w.heap.size + 3 < w2.heap.size := (by omega); have hyw2_3 : w.heap.size + 3 ≤ w2.heap.size := (by omega))
        | (go_at_call 22; (with_reducible refine (HB.out _ ?_).mono ?_); rotate_right; rintro e w3 ⟨rfl, hbw3⟩; obtain ⟨hcw3, hfw3, hzw3⟩ := hbw3.rules; (try simp at hzw3); have hzw3_0 : w.heap.size < w3.heap.size := (by omega); have hyw3_0 : w.heap.size ≤ w3.heap.size := (by omega); have hzw3_1 : w.heap.size + 1 < w3.heap.size := (by omega); have hyw3_1 : w.heap.size + 1 ≤ w3.heap.size := (by omega); have hzw3_2 : w.heap.size + 2 < w3.heap.size := (by omega); have hyw3_2 : w.heap.size + 2 ≤ w3.heap.size := (by omega); have hzw3_3 : w.heap.size + 3 < w3.heap.size := (by omega); have hyw3_3 : w.heap.size + 3 ≤ w3.heap.size := (by omega))
        | (go_at_call 36; (with_reducible refine (HC2.out _ ?_).mono ?_); rotate_right; rintro e w4 ⟨rfl, hbw4⟩; obtain ⟨hcw4, hfw4, hzw4⟩ := hbw4.rules; (try simp at hzw4); have hzw4_0 : w.heap.size < w4.heap.size := (by omega); have hyw4_0 : w.heap.size ≤ w4.heap.size := (by omega); have hzw4_1 : w.heap.size + 1 < w4.heap.size := (by omega); have hyw4_1 : w.heap.size + 1 ≤ w4.heap.size := (by omega); have hzw4_2 : w.heap.size + 2 < w4.heap.size := (by omega); have hyw4_2 : w.heap.size + 2 ≤ w4.heap.size := (by omega); have hzw4_3 : w.heap.size + 3 < w4.heap.size := (by omega); have hyw4_3 : w.heap.size + 3 ≤ w4.heap.size := (by omega)))
        · refine bodyPost_ret (v := .tuple #[.agg #[.int .u8 nm, .int .u8 nu, .int .u8 bi, .int .u8 pl, .int .u8 vd], .int .i64 0]) ?_ rfl ?_
          · exact results_cell_tmp (p := 6) (q := 7) (ty := 42) Try.results19 _ _ (w.heap.size + 1 + 1 + 1) 42 _ (0, 0) _ _ rfl rfl (set5_row (row_gr HE4.out (hbw1.trans (hbw2.trans (hbw3.trans hbw4))))) Try.underlying42 rfl (by kernel_rfl)
          · exact ⟨rfl, set5_gr (HG4.out.trans (hbw1.trans (hbw2.trans (hbw3.trans hbw4)))) (by omega) _ _ _ _ _⟩
        · exact HG4.out.trans (hbw1.trans (hbw2.trans hbw3))
        · exact HG4.out.trans (hbw1.trans hbw2)
        · exact HG4.out.trans hbw1
end Go.Proofs.Ytlkjimfkapcenaa
