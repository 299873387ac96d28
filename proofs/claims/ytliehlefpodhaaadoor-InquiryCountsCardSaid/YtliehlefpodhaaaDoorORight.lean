/- right of the package inquiry: whether signals are valid. For every slice of signals. -/
import Derived.Test.YtliehlefpodhaaaDoorOBase
import Derived.Test.YtliehlefpodhaaaDoorOOrder
import Derived.Test.YtliehlefpodhaaaDoorOMix
namespace Go.Proofs.YtliehlefpodhaaaDoor
open Go.RowKit Go.Shelf Go.Sort

/-- Which kinds of signals are until a day. -/
def lastB (k : Int) : Bool := k == 3 || k == 4
/-- What the program's table of them holds. -/
structure LaidL (w : World) : Prop where
  lt : 1 < w.heap.size
  at_ : ∀ k : Nat, k < 6 → w.cell? ⟨1, k, none⟩ = some (.bool (lastB k))
theorem LaidL.gr {w w' : World} (h : LaidL w) (g : Gr w w') : LaidL w' := ⟨Nat.lt_of_lt_of_le h.lt g.size, fun k hk => (g.cell h.lt).trans (h.at_ k hk)⟩

/-- What is asked of a signal that is until a day. -/
def tillB (x : Sig) : Bool := inB x.day 100000 x.till
theorem sigBad_parts (zs : List Sig) (k : Nat) (x : Sig) (hx : zs[k]! = x) (b1 b2 b3 b4 : Bool) (h1 : inB 0 9 x.bureau = b1) (h2 : (inB 0 999999 x.id && inB 0 999999 x.file) = b2) (h3 : inB 0 100000 x.day = b3) (h4 : inB 1 5 x.kind = b4) :
    sigBad zs k = (!(b1 && b2 && b3 && b4 && (if lastB x.kind then tillB x else x.till == 0)) || (decide (0 < k) && !befB zs[k - 1]! x)) := by
  unfold sigBad sigB tillB lastB
  rw [hx, h1, h2, h3, h4]
  by_cases h : x.kind = 3 ∨ x.kind = 4
  · rw [if_pos h, show (x.kind == 3 || x.kind == 4) = true by simpa using h]; rfl
  · rw [if_neg h, show (x.kind == 3 || x.kind == 4) = false by simpa using h]; rfl
theorem sigsB_bad {zs : List Sig} {k : Nat} (hk : k < zs.length) (h : sigBad zs k = true) : sigsB zs = false := by
  unfold sigsB
  rw [show (List.range zs.length).any (sigBad zs) = true from List.any_eq_true.2 ⟨k, by simpa using hk, h⟩]
  simp
theorem sigsB_good {zs : List Sig} (h : ∀ j, j < zs.length → sigBad zs j = false) : sigsB zs = decide (zs.length ≤ 40) := by
  unfold sigsB
  rw [show (List.range zs.length).any (sigBad zs) = false from List.any_eq_false.2 (fun j hj => by simpa using h j (by simpa using hj))]
  simp

set_option maxRecDepth 100000 in
set_option maxHeartbeats 4000000 in
theorem right_any (A : Option Addr) (n c : Nat) (zs : List Sig) (w : World) (hi : SigsIn w A n zs) (hG : LaidL w) :
    Calls Tryd.prog 53 #[.slice A n c] w fun e w' => e = .returned (.bool (sigsB zs)) ∧ Gr w w' := by
  have HU := hid hi.u8
  have hr := hi.rd
  have hbig := hi.big
  clear hi
  have HL := hid hr.sig_len
  have HG := hid hG
  have HR := hid hr
  clear hG hr
  have hbig' : (n : Int) ≤ 9223372036854775807 := by omega
  go_enter Tryd.func53, Tryd.ntmps53
  go_wp2
  go_loopg [3, 4, 7] n (fun gg _ _ s7 wr => ∃ kk : Nat, kk ≤ n ∧ n - kk ≤ gg ∧ s7 = .int .i64 kk ∧ Gr w wr ∧ Hid (∀ j, j < kk → sigBad zs j = false))
  case atStart => exact ⟨0, Nat.zero_le _, by omega, rfl, Gr.refl w, fun j hj => absurd hj (Nat.not_lt_zero _)⟩
  case round =>
    obtain ⟨kk, hkk, hg, rfl, BW, HA⟩ := hrel
    by_cases hlt : kk < n
    · obtain ⟨hk', b, off, rfl, hb, c0, c1, c2, c3, c4, c5⟩ := (HR.out.gr BW).sig hlt
      have HK := hid hk'
      clear hk'
      obtain ⟨x, hx⟩ : ∃ x, zs[kk]! = x := ⟨_, rfl⟩
      obtain ⟨b1, h1⟩ : ∃ v, inB 0 9 x.bureau = v := ⟨_, rfl⟩
      obtain ⟨b2, h2⟩ : ∃ v, (inB 0 999999 x.id && inB 0 999999 x.file) = v := ⟨_, rfl⟩
      obtain ⟨b3, h3⟩ : ∃ v, inB 0 100000 x.day = v := ⟨_, rfl⟩
      obtain ⟨b4, h4⟩ : ∃ v, inB 1 5 x.kind = v := ⟨_, rfl⟩
      have HP := hid (sigBad_parts zs kk x hx b1 b2 b3 b4 h1 h2 h3 h4)
      rw [hx] at c0 c1 c2 c3 c4 c5
      have hu : 0 ≤ x.kind ∧ x.kind ≤ 255 := hx ▸ HU.out _ (mem_get HK.out)
      obtain ⟨u1, u2⟩ := hu
      have HX := hid hx
      have H1 := hid h1
      have H2 := hid h2
      have H3 := hid h3
      have H4 := hid h4
      clear hx h1 h2 h3 h4
      by_cases hb4 : (b1 && b2 && b3 && b4) = true
      case neg =>
        have HBad : Hid (sigBad zs kk = true) := by
          have e : (b1 && b2 && b3 && b4) = false := by simpa using hb4
          show sigBad zs kk = true
          rw [HP.out, e]; rfl
        have HN := hid hb4
        obtain ⟨x0, x1, x2, x3, x4, x5⟩ := x
        dsimp only at *
        clear hb4
        cases b1
        case' true => cases b2
        case' true.true => cases b3
        case' true.true.true => cases b4
        case true.true.true.true => exact absurd rfl HN.out
        all_goals
          go_wp2_with (first
            | (go_at_call 42; (with_reducible refine (in_one 0 9 x0 _ H1.out _ _ _ ?_ ?_).mono ?_); rotate_right; rintro e w1 ⟨rfl, hbw1⟩; obtain ⟨hcw1, hfw1, hzw1⟩ := hbw1.rules; (try simp at hzw1); have hzw1_0 : wr.heap.size < w1.heap.size := (by omega); have hyw1_0 : wr.heap.size ≤ w1.heap.size := (by omega))
            | (go_at_call 42; (with_reducible refine (in_two 0 999999 x1 x2 _ H2.out _ _ _ ?_ ?_ ?_).mono ?_); rotate_right; rintro e w2 ⟨rfl, hbw2⟩; obtain ⟨hcw2, hfw2, hzw2⟩ := hbw2.rules; (try simp at hzw2); have hzw2_0 : wr.heap.size < w2.heap.size := (by omega); have hyw2_0 : wr.heap.size ≤ w2.heap.size := (by omega))
            | (go_at_call 42; (with_reducible refine (in_one 0 100000 x3 _ H3.out _ _ _ ?_ ?_).mono ?_); rotate_right; rintro e w3 ⟨rfl, hbw3⟩; obtain ⟨hcw3, hfw3, hzw3⟩ := hbw3.rules; (try simp at hzw3); have hzw3_0 : wr.heap.size < w3.heap.size := (by omega); have hyw3_0 : wr.heap.size ≤ w3.heap.size := (by omega))
            | (go_at_call 42; (with_reducible refine (in_one 1 5 x4 _ H4.out _ _ _ ?_ ?_).mono ?_); rotate_right; rintro e w4 ⟨rfl, hbw4⟩; obtain ⟨hcw4, hfw4, hzw4⟩ := hbw4.rules; (try simp at hzw4); have hzw4_0 : wr.heap.size < w4.heap.size := (by omega); have hyw4_0 : wr.heap.size ≤ w4.heap.size := (by omega)))
        all_goals first
          | (simp; done)
          | (rw [cell_top _ _ _ _ _ (by simp)]; rfl)
          | (go_ret
             refine ⟨by rw [sigsB_bad HK.out HBad.out]; rfl, ?_⟩
             (repeat (first | with_reducible exact Gr.refl _ | with_reducible refine Gr.trans ?_ hbw4 | with_reducible refine Gr.trans ?_ hbw3 | with_reducible refine Gr.trans ?_ hbw2 | with_reducible refine Gr.trans ?_ hbw1 | with_reducible refine Gr.trans ?_ BW | with_reducible refine Gr.alloc ?_ _ | with_reducible refine Gr.setCell ?_ (by simp) _ | with_reducible refine Gr.setCell ?_ (by simp; omega) _ | with_reducible refine Gr.drew ?_ | with_reducible refine Gr.drewN ?_ _)))
      simp only [Bool.and_eq_true] at hb4
      obtain ⟨⟨⟨rfl, rfl⟩, rfl⟩, rfl⟩ := hb4
      have hk5 : 1 ≤ x.kind ∧ x.kind ≤ 5 := by
        have h := H4.out
        unfold inB at h
        simpa using h
      obtain ⟨k1, k5⟩ := hk5
      obtain ⟨kn, hkn⟩ : ∃ kn : Nat, x.kind = kn := ⟨x.kind.toNat, by omega⟩
      have hlast := (HG.out.gr BW).at_ kn (by omega)
      have hltG := (HG.out.gr BW).lt
      obtain ⟨x0, x1, x2, x3, x4, x5⟩ := x
      dsimp only at *
      subst hkn
      have k1' : 1 ≤ kn := by omega
      have k5' : kn ≤ 5 := by omega
      clear u1 u2 k1 k5
      have hkn0 : (0 : Int) ≤ kn := by omega
      have hkn6 : (kn : Int) < 6 := by omega
      by_cases h0 : kk = 0
      · subst h0
        simp only [Nat.zero_mul, Nat.add_zero] at c0 c1 c2 c3 c4 c5
        go_wp2_with (first
          | (go_at_call 42; (with_reducible refine (in_one 0 9 x0 _ H1.out _ _ _ ?_ ?_).mono ?_); rotate_right; rintro e w1 ⟨rfl, hbw1⟩; obtain ⟨hcw1, hfw1, hzw1⟩ := hbw1.rules; (try simp at hzw1); have hzw1_0 : wr.heap.size < w1.heap.size := (by omega); have hyw1_0 : wr.heap.size ≤ w1.heap.size := (by omega))
          | (go_at_call 42; (with_reducible refine (in_two 0 999999 x1 x2 _ H2.out _ _ _ ?_ ?_ ?_).mono ?_); rotate_right; rintro e w2 ⟨rfl, hbw2⟩; obtain ⟨hcw2, hfw2, hzw2⟩ := hbw2.rules; (try simp at hzw2); have hzw2_0 : wr.heap.size < w2.heap.size := (by omega); have hyw2_0 : wr.heap.size ≤ w2.heap.size := (by omega))
          | (go_at_call 42; (with_reducible refine (in_one 0 100000 x3 _ H3.out _ _ _ ?_ ?_).mono ?_); rotate_right; rintro e w3 ⟨rfl, hbw3⟩; obtain ⟨hcw3, hfw3, hzw3⟩ := hbw3.rules; (try simp at hzw3); have hzw3_0 : wr.heap.size < w3.heap.size := (by omega); have hyw3_0 : wr.heap.size ≤ w3.heap.size := (by omega))
          | (go_at_call 42; (with_reducible refine (in_one 1 5 kn _ H4.out _ _ _ ?_ ?_).mono ?_); rotate_right; rintro e w4 ⟨rfl, hbw4⟩; obtain ⟨hcw4, hfw4, hzw4⟩ := hbw4.rules; (try simp at hzw4); have hzw4_0 : wr.heap.size < w4.heap.size := (by omega); have hyw4_0 : wr.heap.size ≤ w4.heap.size := (by omega)))
        all_goals first
          | (simp; done)
          | (rw [cell_top _ _ _ _ _ (by simp)]; rfl)
          | skip
        cases hL : lastB kn with
        | true =>
          have HLL := hid hL
          rw [hL] at hlast
          clear hL
          obtain ⟨b5, h5⟩ : ∃ v, inB x3 100000 x5 = v := ⟨_, rfl⟩
          have H5 := hid h5
          have HT : Hid (tillB ⟨x0, x1, x2, x3, kn, x5⟩ = b5) := h5
          clear h5
          cases b5 with
          | true =>
            have g0 : Gr (wr.alloc (.cells #[.int .i64 x0, .int .i64 x1, .int .i64 x2, .int .i64 x3, .int .u8 kn, .int .i64 x5] 67)) w4 := by (repeat (first | with_reducible exact Gr.refl _ | with_reducible refine Gr.trans ?_ hbw4 | with_reducible refine Gr.trans ?_ hbw3 | with_reducible refine Gr.trans ?_ hbw2 | with_reducible refine Gr.trans ?_ hbw1 | with_reducible refine Gr.alloc ?_ _ | with_reducible refine Gr.setCell ?_ (by simp) _ | with_reducible refine Gr.setCell ?_ (by simp; omega) _ | with_reducible refine Gr.drew ?_ | with_reducible refine Gr.drewN ?_ _))
            have q6 := (g0.cell (o := kn) (Nat.lt_of_lt_of_le hltG ((Gr.refl wr).alloc _).size)).trans (((Gr.refl wr).alloc _).cell hltG |>.trans hlast)
            have q0 : w4.cell? ⟨wr.heap.size, 0, none⟩ = some (.int .i64 x0) := (g0.cell (by simp)).trans (cell_top _ _ _ _ 0 rfl)
            have q1 : w4.cell? ⟨wr.heap.size, 1, none⟩ = some (.int .i64 x1) := (g0.cell (by simp)).trans (cell_top _ _ _ _ 1 rfl)
            have q2 : w4.cell? ⟨wr.heap.size, 2, none⟩ = some (.int .i64 x2) := (g0.cell (by simp)).trans (cell_top _ _ _ _ 2 rfl)
            have q3 : w4.cell? ⟨wr.heap.size, 3, none⟩ = some (.int .i64 x3) := (g0.cell (by simp)).trans (cell_top _ _ _ _ 3 rfl)
            have q4 : w4.cell? ⟨wr.heap.size, 4, none⟩ = some (.int .u8 kn) := (g0.cell (by simp)).trans (cell_top _ _ _ _ 4 rfl)
            have q5 : w4.cell? ⟨wr.heap.size, 5, none⟩ = some (.int .i64 x5) := (g0.cell (by simp)).trans (cell_top _ _ _ _ 5 rfl)
            have hb4 : b < (wr.alloc (.cells #[.int .i64 x0, .int .i64 x1, .int .i64 x2, .int .i64 x3, .int .u8 kn, .int .i64 x5] 67)).heap.size := Nat.lt_of_lt_of_le hb ((Gr.refl wr).alloc _).size
            have p0 := GrW.cell q0
            have p1 := GrW.cell q1
            have p2 := GrW.cell q2
            have p3 := GrW.cell q3
            have p4 := GrW.cell q4
            have p5 := GrW.cell q5
            have p6 := GrW.cell q6
            have GW : Hid (Gr w w4) := BW.trans (by (repeat (first | with_reducible exact Gr.refl _ | with_reducible refine Gr.trans ?_ hbw4 | with_reducible refine Gr.trans ?_ hbw3 | with_reducible refine Gr.trans ?_ hbw2 | with_reducible refine Gr.trans ?_ hbw1 | with_reducible refine Gr.alloc ?_ _ | with_reducible refine Gr.setCell ?_ (by simp) _ | with_reducible refine Gr.setCell ?_ (by simp; omega) _ | with_reducible refine Gr.drew ?_ | with_reducible refine Gr.drewN ?_ _)))
            clear g0 hb4 hlast c0 c1 c2 c3 c4 c5 hcw1 hcw2 hcw3 hcw4 hfw1 hfw2 hfw3 hfw4 q0 q1 q2 q3 q4 q5 q6 BW hbw1 hbw2 hbw3 hbw4 hzw1 hzw2 hzw3 hzw4 hzw1_0 hzw2_0 hzw3_0 hzw4_0 hyw1_0 hyw2_0 hyw3_0 hyw4_0 hb hltG
            refine wp_region_mix (C := fun w' => ∃ p : GrW w4, w' = p.W) [9, 10, 23, 24] (by rfl) (by kernel_rfl) (fun _ _ d _ _ h => by cases d <;> exact h) ⟨⟨_, (Gr.refl w4).drew⟩, rfl⟩ ?_
            (repeat (first | ((with_reducible refine mixL_read0 ?_ ?_ (fun K hK => ?_)); rfl; rfl; go_big_quiet_op; (with_reducible refine hK _ ?_); clear hK K) | ((with_reducible refine' mixL_skipG ?_ ?_ ?_ ?_ ?_); rotate_left 4; rfl; rfl; rfl; rfl; simp only [Act.put, List.setIfInBounds_toArray, List.set_cons_zero, List.set_cons_succ]) | ((with_reducible refine' mixL_skipU ?_ ?_ ?_ ?_); rotate_left 3; rfl; rfl; rfl; simp only [Act.put, List.setIfInBounds_toArray, List.set_cons_zero, List.set_cons_succ]) | ((with_reducible refine' mixL_readG ?_ ?_ ?_ ?_ ?_ (fun K hK => ?_)); rotate_left 4; rfl; rfl; rfl; rfl; rfl; go_big_quiet_op; (with_reducible refine hK _ ?_); clear hK K)))
            (first | ((with_reducible refine mixL_mut0 ?_ ?_ (fun K hK => ?_)); rfl; rfl) | ((with_reducible refine' mixL_mutG ?_ ?_ ?_ ?_ ?_ (fun K hK => ?_)); rotate_left 4; rfl; rfl; rfl; rfl; rfl))
            go_simp
            refine hK.out _ _ ⟨⟨_, (((Gr.refl w4)).alloc _).drew⟩, rfl⟩ ?_
            clear hK K
            (first | ((with_reducible refine mixL_mut0 ?_ ?_ (fun K hK => ?_)); rfl; rfl) | ((with_reducible refine' mixL_mutG ?_ ?_ ?_ ?_ ?_ (fun K hK => ?_)); rotate_left 4; rfl; rfl; rfl; rfl; rfl))
            go_simp
            refine (in_one x3 100000 x5 _ H5.out _ _ _ ?_ ?_).mono ?_
            · simp
            · exact cell_top w4 _ _ w4.heap.size 0 rfl
            rintro e w6 ⟨rfl, hk6⟩
            have GK := hid (Gr.trans (((Gr.refl w4)).alloc _).drew hk6)
            refine hK.out _ _ ⟨⟨w6, GK.out⟩, rfl⟩ ?_
            clear hK K hk6
            (repeat (first | ((with_reducible refine mixL_read0 ?_ ?_ (fun K hK => ?_)); rfl; rfl; go_big_quiet_op; (with_reducible refine hK _ ?_); clear hK K) | ((with_reducible refine' mixL_skipG ?_ ?_ ?_ ?_ ?_); rotate_left 4; rfl; rfl; rfl; rfl; simp only [Act.put, List.setIfInBounds_toArray, List.set_cons_zero, List.set_cons_succ]) | ((with_reducible refine' mixL_skipU ?_ ?_ ?_ ?_); rotate_left 3; rfl; rfl; rfl; simp only [Act.put, List.setIfInBounds_toArray, List.set_cons_zero, List.set_cons_succ]) | ((with_reducible refine' mixL_readG ?_ ?_ ?_ ?_ ?_ (fun K hK => ?_)); rotate_left 4; rfl; rfl; rfl; rfl; rfl; go_big_quiet_op; (with_reducible refine hK _ ?_); clear hK K)))
            (with_reducible refine mixL_nil ?_)
            go_wp2
            go_roundg (n - (0 + 1))
            case measure => omega
            case rel =>
              refine ⟨0 + 1, by omega, by omega, by go_num, GW.out.trans GK.out, hid fun j' hj' => ?_⟩
              by_cases e : j' = 0
              · subst e; rw [HP.out, HLL.out]; simp only [HT.out, Bool.and_true, if_true]; rfl
              · exact HA.out j' (by omega)
          | false =>
            have g0 : Gr (wr.alloc (.cells #[.int .i64 x0, .int .i64 x1, .int .i64 x2, .int .i64 x3, .int .u8 kn, .int .i64 x5] 67)) w4 := by (repeat (first | with_reducible exact Gr.refl _ | with_reducible refine Gr.trans ?_ hbw4 | with_reducible refine Gr.trans ?_ hbw3 | with_reducible refine Gr.trans ?_ hbw2 | with_reducible refine Gr.trans ?_ hbw1 | with_reducible refine Gr.alloc ?_ _ | with_reducible refine Gr.setCell ?_ (by simp) _ | with_reducible refine Gr.setCell ?_ (by simp; omega) _ | with_reducible refine Gr.drew ?_ | with_reducible refine Gr.drewN ?_ _))
            have q6 := (g0.cell (o := kn) (Nat.lt_of_lt_of_le hltG ((Gr.refl wr).alloc _).size)).trans (((Gr.refl wr).alloc _).cell hltG |>.trans hlast)
            have q0 : w4.cell? ⟨wr.heap.size, 0, none⟩ = some (.int .i64 x0) := (g0.cell (by simp)).trans (cell_top _ _ _ _ 0 rfl)
            have q1 : w4.cell? ⟨wr.heap.size, 1, none⟩ = some (.int .i64 x1) := (g0.cell (by simp)).trans (cell_top _ _ _ _ 1 rfl)
            have q2 : w4.cell? ⟨wr.heap.size, 2, none⟩ = some (.int .i64 x2) := (g0.cell (by simp)).trans (cell_top _ _ _ _ 2 rfl)
            have q3 : w4.cell? ⟨wr.heap.size, 3, none⟩ = some (.int .i64 x3) := (g0.cell (by simp)).trans (cell_top _ _ _ _ 3 rfl)
            have q4 : w4.cell? ⟨wr.heap.size, 4, none⟩ = some (.int .u8 kn) := (g0.cell (by simp)).trans (cell_top _ _ _ _ 4 rfl)
            have q5 : w4.cell? ⟨wr.heap.size, 5, none⟩ = some (.int .i64 x5) := (g0.cell (by simp)).trans (cell_top _ _ _ _ 5 rfl)
            have hb4 : b < (wr.alloc (.cells #[.int .i64 x0, .int .i64 x1, .int .i64 x2, .int .i64 x3, .int .u8 kn, .int .i64 x5] 67)).heap.size := Nat.lt_of_lt_of_le hb ((Gr.refl wr).alloc _).size
            have p0 := GrW.cell q0
            have p1 := GrW.cell q1
            have p2 := GrW.cell q2
            have p3 := GrW.cell q3
            have p4 := GrW.cell q4
            have p5 := GrW.cell q5
            have p6 := GrW.cell q6
            have GW : Hid (Gr w w4) := BW.trans (by (repeat (first | with_reducible exact Gr.refl _ | with_reducible refine Gr.trans ?_ hbw4 | with_reducible refine Gr.trans ?_ hbw3 | with_reducible refine Gr.trans ?_ hbw2 | with_reducible refine Gr.trans ?_ hbw1 | with_reducible refine Gr.alloc ?_ _ | with_reducible refine Gr.setCell ?_ (by simp) _ | with_reducible refine Gr.setCell ?_ (by simp; omega) _ | with_reducible refine Gr.drew ?_ | with_reducible refine Gr.drewN ?_ _)))
            clear g0 hb4 hlast c0 c1 c2 c3 c4 c5 hcw1 hcw2 hcw3 hcw4 hfw1 hfw2 hfw3 hfw4 q0 q1 q2 q3 q4 q5 q6 BW hbw1 hbw2 hbw3 hbw4 hzw1 hzw2 hzw3 hzw4 hzw1_0 hzw2_0 hzw3_0 hzw4_0 hyw1_0 hyw2_0 hyw3_0 hyw4_0 hb hltG
            refine wp_region_mix (C := fun w' => ∃ p : GrW w4, w' = p.W) [9, 10, 23, 24] (by rfl) (by kernel_rfl) (fun _ _ d _ _ h => by cases d <;> exact h) ⟨⟨_, (Gr.refl w4).drew⟩, rfl⟩ ?_
            (repeat (first | ((with_reducible refine mixL_read0 ?_ ?_ (fun K hK => ?_)); rfl; rfl; go_big_quiet_op; (with_reducible refine hK _ ?_); clear hK K) | ((with_reducible refine' mixL_skipG ?_ ?_ ?_ ?_ ?_); rotate_left 4; rfl; rfl; rfl; rfl; simp only [Act.put, List.setIfInBounds_toArray, List.set_cons_zero, List.set_cons_succ]) | ((with_reducible refine' mixL_skipU ?_ ?_ ?_ ?_); rotate_left 3; rfl; rfl; rfl; simp only [Act.put, List.setIfInBounds_toArray, List.set_cons_zero, List.set_cons_succ]) | ((with_reducible refine' mixL_readG ?_ ?_ ?_ ?_ ?_ (fun K hK => ?_)); rotate_left 4; rfl; rfl; rfl; rfl; rfl; go_big_quiet_op; (with_reducible refine hK _ ?_); clear hK K)))
            (first | ((with_reducible refine mixL_mut0 ?_ ?_ (fun K hK => ?_)); rfl; rfl) | ((with_reducible refine' mixL_mutG ?_ ?_ ?_ ?_ ?_ (fun K hK => ?_)); rotate_left 4; rfl; rfl; rfl; rfl; rfl))
            go_simp
            refine hK.out _ _ ⟨⟨_, (((Gr.refl w4)).alloc _).drew⟩, rfl⟩ ?_
            clear hK K
            (first | ((with_reducible refine mixL_mut0 ?_ ?_ (fun K hK => ?_)); rfl; rfl) | ((with_reducible refine' mixL_mutG ?_ ?_ ?_ ?_ ?_ (fun K hK => ?_)); rotate_left 4; rfl; rfl; rfl; rfl; rfl))
            go_simp
            refine (in_one x3 100000 x5 _ H5.out _ _ _ ?_ ?_).mono ?_
            · simp
            · exact cell_top w4 _ _ w4.heap.size 0 rfl
            rintro e w6 ⟨rfl, hk6⟩
            have GK := hid (Gr.trans (((Gr.refl w4)).alloc _).drew hk6)
            refine hK.out _ _ ⟨⟨w6, GK.out⟩, rfl⟩ ?_
            clear hK K hk6
            (repeat (first | ((with_reducible refine mixL_read0 ?_ ?_ (fun K hK => ?_)); rfl; rfl; go_big_quiet_op; (with_reducible refine hK _ ?_); clear hK K) | ((with_reducible refine' mixL_skipG ?_ ?_ ?_ ?_ ?_); rotate_left 4; rfl; rfl; rfl; rfl; simp only [Act.put, List.setIfInBounds_toArray, List.set_cons_zero, List.set_cons_succ]) | ((with_reducible refine' mixL_skipU ?_ ?_ ?_ ?_); rotate_left 3; rfl; rfl; rfl; simp only [Act.put, List.setIfInBounds_toArray, List.set_cons_zero, List.set_cons_succ]) | ((with_reducible refine' mixL_readG ?_ ?_ ?_ ?_ ?_ (fun K hK => ?_)); rotate_left 4; rfl; rfl; rfl; rfl; rfl; go_big_quiet_op; (with_reducible refine hK _ ?_); clear hK K)))
            (with_reducible refine mixL_nil ?_)
            go_wp2
            go_ret
            refine ⟨?_, GW.out.trans GK.out⟩
            rw [sigsB_bad HK.out (by rw [HP.out, HLL.out]; simp only [HT.out, Bool.and_true, if_true]; rfl)]
            rfl
        | false =>
          have HLL := hid hL
          rw [hL] at hlast
          clear hL
          by_cases hT : x5 = 0
          · have hz : (x5 == 0) = true := by simpa using hT
            have hz1 : (x5 != 0) = false := by simpa using hT
            have HZ := hid hz
            clear hz hT
            have g0 : Gr (wr.alloc (.cells #[.int .i64 x0, .int .i64 x1, .int .i64 x2, .int .i64 x3, .int .u8 kn, .int .i64 x5] 67)) w4 := by (repeat (first | with_reducible exact Gr.refl _ | with_reducible refine Gr.trans ?_ hbw4 | with_reducible refine Gr.trans ?_ hbw3 | with_reducible refine Gr.trans ?_ hbw2 | with_reducible refine Gr.trans ?_ hbw1 | with_reducible refine Gr.alloc ?_ _ | with_reducible refine Gr.setCell ?_ (by simp) _ | with_reducible refine Gr.setCell ?_ (by simp; omega) _ | with_reducible refine Gr.drew ?_ | with_reducible refine Gr.drewN ?_ _))
            have q6 := (g0.cell (o := kn) (Nat.lt_of_lt_of_le hltG ((Gr.refl wr).alloc _).size)).trans (((Gr.refl wr).alloc _).cell hltG |>.trans hlast)
            have q0 : w4.cell? ⟨wr.heap.size, 0, none⟩ = some (.int .i64 x0) := (g0.cell (by simp)).trans (cell_top _ _ _ _ 0 rfl)
            have q1 : w4.cell? ⟨wr.heap.size, 1, none⟩ = some (.int .i64 x1) := (g0.cell (by simp)).trans (cell_top _ _ _ _ 1 rfl)
            have q2 : w4.cell? ⟨wr.heap.size, 2, none⟩ = some (.int .i64 x2) := (g0.cell (by simp)).trans (cell_top _ _ _ _ 2 rfl)
            have q3 : w4.cell? ⟨wr.heap.size, 3, none⟩ = some (.int .i64 x3) := (g0.cell (by simp)).trans (cell_top _ _ _ _ 3 rfl)
            have q4 : w4.cell? ⟨wr.heap.size, 4, none⟩ = some (.int .u8 kn) := (g0.cell (by simp)).trans (cell_top _ _ _ _ 4 rfl)
            have q5 : w4.cell? ⟨wr.heap.size, 5, none⟩ = some (.int .i64 x5) := (g0.cell (by simp)).trans (cell_top _ _ _ _ 5 rfl)
            have hb4 : b < (wr.alloc (.cells #[.int .i64 x0, .int .i64 x1, .int .i64 x2, .int .i64 x3, .int .u8 kn, .int .i64 x5] 67)).heap.size := Nat.lt_of_lt_of_le hb ((Gr.refl wr).alloc _).size
            have p0 := GrW.cell q0
            have p1 := GrW.cell q1
            have p2 := GrW.cell q2
            have p3 := GrW.cell q3
            have p4 := GrW.cell q4
            have p5 := GrW.cell q5
            have p6 := GrW.cell q6
            have GW : Hid (Gr w w4) := BW.trans (by (repeat (first | with_reducible exact Gr.refl _ | with_reducible refine Gr.trans ?_ hbw4 | with_reducible refine Gr.trans ?_ hbw3 | with_reducible refine Gr.trans ?_ hbw2 | with_reducible refine Gr.trans ?_ hbw1 | with_reducible refine Gr.alloc ?_ _ | with_reducible refine Gr.setCell ?_ (by simp) _ | with_reducible refine Gr.setCell ?_ (by simp; omega) _ | with_reducible refine Gr.drew ?_ | with_reducible refine Gr.drewN ?_ _)))
            clear g0 hb4 hlast c0 c1 c2 c3 c4 c5 hcw1 hcw2 hcw3 hcw4 hfw1 hfw2 hfw3 hfw4 q0 q1 q2 q3 q4 q5 q6 BW hbw1 hbw2 hbw3 hbw4 hzw1 hzw2 hzw3 hzw4 hzw1_0 hzw2_0 hzw3_0 hzw4_0 hyw1_0 hyw2_0 hyw3_0 hyw4_0 hb hltG
            refine wp_region_mix (C := fun w' => ∃ p : GrW w4, w' = p.W) [9, 10, 23, 24] (by rfl) (by kernel_rfl) (fun _ _ d _ _ h => by cases d <;> exact h) ⟨⟨_, (Gr.refl w4).drew⟩, rfl⟩ ?_
            (repeat (first | ((with_reducible refine mixL_read0 ?_ ?_ (fun K hK => ?_)); rfl; rfl; go_big_quiet_op; (with_reducible refine hK _ ?_); clear hK K) | ((with_reducible refine' mixL_skipG ?_ ?_ ?_ ?_ ?_); rotate_left 4; rfl; rfl; rfl; rfl; simp only [Act.put, List.setIfInBounds_toArray, List.set_cons_zero, List.set_cons_succ]) | ((with_reducible refine' mixL_skipU ?_ ?_ ?_ ?_); rotate_left 3; rfl; rfl; rfl; simp only [Act.put, List.setIfInBounds_toArray, List.set_cons_zero, List.set_cons_succ]) | ((with_reducible refine' mixL_readG ?_ ?_ ?_ ?_ ?_ (fun K hK => ?_)); rotate_left 4; rfl; rfl; rfl; rfl; rfl; go_big_quiet_op; (with_reducible refine hK _ ?_); clear hK K)))
            (with_reducible refine mixL_nil ?_)
            go_wp2
            go_roundg (n - (0 + 1))
            case measure => omega
            case rel =>
              refine ⟨0 + 1, by omega, by omega, by go_num, GW.out.trans (Gr.refl w4).drew, hid fun j' hj' => ?_⟩
              by_cases e : j' = 0
              · subst e; rw [HP.out, HLL.out]; simp [HZ.out]
              · exact HA.out j' (by omega)
          · have hz : (x5 == 0) = false := by simpa using hT
            have hz1 : (x5 != 0) = true := by simpa using hT
            have HZ := hid hz
            clear hz hT
            have g0 : Gr (wr.alloc (.cells #[.int .i64 x0, .int .i64 x1, .int .i64 x2, .int .i64 x3, .int .u8 kn, .int .i64 x5] 67)) w4 := by (repeat (first | with_reducible exact Gr.refl _ | with_reducible refine Gr.trans ?_ hbw4 | with_reducible refine Gr.trans ?_ hbw3 | with_reducible refine Gr.trans ?_ hbw2 | with_reducible refine Gr.trans ?_ hbw1 | with_reducible refine Gr.alloc ?_ _ | with_reducible refine Gr.setCell ?_ (by simp) _ | with_reducible refine Gr.setCell ?_ (by simp; omega) _ | with_reducible refine Gr.drew ?_ | with_reducible refine Gr.drewN ?_ _))
            have q6 := (g0.cell (o := kn) (Nat.lt_of_lt_of_le hltG ((Gr.refl wr).alloc _).size)).trans (((Gr.refl wr).alloc _).cell hltG |>.trans hlast)
            have q0 : w4.cell? ⟨wr.heap.size, 0, none⟩ = some (.int .i64 x0) := (g0.cell (by simp)).trans (cell_top _ _ _ _ 0 rfl)
            have q1 : w4.cell? ⟨wr.heap.size, 1, none⟩ = some (.int .i64 x1) := (g0.cell (by simp)).trans (cell_top _ _ _ _ 1 rfl)
            have q2 : w4.cell? ⟨wr.heap.size, 2, none⟩ = some (.int .i64 x2) := (g0.cell (by simp)).trans (cell_top _ _ _ _ 2 rfl)
            have q3 : w4.cell? ⟨wr.heap.size, 3, none⟩ = some (.int .i64 x3) := (g0.cell (by simp)).trans (cell_top _ _ _ _ 3 rfl)
            have q4 : w4.cell? ⟨wr.heap.size, 4, none⟩ = some (.int .u8 kn) := (g0.cell (by simp)).trans (cell_top _ _ _ _ 4 rfl)
            have q5 : w4.cell? ⟨wr.heap.size, 5, none⟩ = some (.int .i64 x5) := (g0.cell (by simp)).trans (cell_top _ _ _ _ 5 rfl)
            have hb4 : b < (wr.alloc (.cells #[.int .i64 x0, .int .i64 x1, .int .i64 x2, .int .i64 x3, .int .u8 kn, .int .i64 x5] 67)).heap.size := Nat.lt_of_lt_of_le hb ((Gr.refl wr).alloc _).size
            have p0 := GrW.cell q0
            have p1 := GrW.cell q1
            have p2 := GrW.cell q2
            have p3 := GrW.cell q3
            have p4 := GrW.cell q4
            have p5 := GrW.cell q5
            have p6 := GrW.cell q6
            have GW : Hid (Gr w w4) := BW.trans (by (repeat (first | with_reducible exact Gr.refl _ | with_reducible refine Gr.trans ?_ hbw4 | with_reducible refine Gr.trans ?_ hbw3 | with_reducible refine Gr.trans ?_ hbw2 | with_reducible refine Gr.trans ?_ hbw1 | with_reducible refine Gr.alloc ?_ _ | with_reducible refine Gr.setCell ?_ (by simp) _ | with_reducible refine Gr.setCell ?_ (by simp; omega) _ | with_reducible refine Gr.drew ?_ | with_reducible refine Gr.drewN ?_ _)))
            clear g0 hb4 hlast c0 c1 c2 c3 c4 c5 hcw1 hcw2 hcw3 hcw4 hfw1 hfw2 hfw3 hfw4 q0 q1 q2 q3 q4 q5 q6 BW hbw1 hbw2 hbw3 hbw4 hzw1 hzw2 hzw3 hzw4 hzw1_0 hzw2_0 hzw3_0 hzw4_0 hyw1_0 hyw2_0 hyw3_0 hyw4_0 hb hltG
            refine wp_region_mix (C := fun w' => ∃ p : GrW w4, w' = p.W) [9, 10, 23, 24] (by rfl) (by kernel_rfl) (fun _ _ d _ _ h => by cases d <;> exact h) ⟨⟨_, (Gr.refl w4).drew⟩, rfl⟩ ?_
            (repeat (first | ((with_reducible refine mixL_read0 ?_ ?_ (fun K hK => ?_)); rfl; rfl; go_big_quiet_op; (with_reducible refine hK _ ?_); clear hK K) | ((with_reducible refine' mixL_skipG ?_ ?_ ?_ ?_ ?_); rotate_left 4; rfl; rfl; rfl; rfl; simp only [Act.put, List.setIfInBounds_toArray, List.set_cons_zero, List.set_cons_succ]) | ((with_reducible refine' mixL_skipU ?_ ?_ ?_ ?_); rotate_left 3; rfl; rfl; rfl; simp only [Act.put, List.setIfInBounds_toArray, List.set_cons_zero, List.set_cons_succ]) | ((with_reducible refine' mixL_readG ?_ ?_ ?_ ?_ ?_ (fun K hK => ?_)); rotate_left 4; rfl; rfl; rfl; rfl; rfl; go_big_quiet_op; (with_reducible refine hK _ ?_); clear hK K)))
            (with_reducible refine mixL_nil ?_)
            go_wp2
            go_ret
            refine ⟨?_, GW.out.trans (Gr.refl w4).drew⟩
            rw [sigsB_bad HK.out (by rw [HP.out, HLL.out]; simp [HZ.out])]
            rfl
      · obtain ⟨j, rfl⟩ : ∃ j, kk = j + 1 := ⟨kk - 1, by omega⟩
        clear h0
        obtain ⟨_, b', off', hA', _, d0, d1, d2, d3, d4, d5⟩ := (HR.out.gr BW).sig (k := j) (by omega)
        cases hA'
        have hjn : (j : Int) < (n : Int) := by omega
        have hj0 : (0 : Int) ≤ (j : Int) := by omega
        obtain ⟨y, hy⟩ : ∃ y, zs[j]! = y := ⟨_, rfl⟩
        rw [hy] at d0 d1 d2 d3 d4 d5
        obtain ⟨v, hv⟩ : ∃ v, byN [Sig.bureau, Sig.id] y ⟨x0, x1, x2, x3, kn, x5⟩ = v := ⟨_, rfl⟩
        have HBV : Hid (befB zs[j + 1 - 1]! ⟨x0, x1, x2, x3, kn, x5⟩ = decide (v < 0)) := by
          show befB zs[j + 1 - 1]! _ = _
          rw [Nat.add_sub_cancel, hy, ← by2_neg, hv]
        have HBY := hid (fun W B h0 h1 => by2_any y ⟨x0, x1, x2, x3, kn, x5⟩ B 2 W h0 h1)
        rw [hv] at HBY
        clear hy hv
        obtain ⟨y0, y1, y2, y3, y4, y5⟩ := y
        unfold Sig.val at HBY
        dsimp only at HBY d0 d1 d2 d3 d4 d5
        go_wp2_with (first
          | (go_at_call 42; (with_reducible refine (in_one 0 9 x0 _ H1.out _ _ _ ?_ ?_).mono ?_); rotate_right; rintro e w1 ⟨rfl, hbw1⟩; obtain ⟨hcw1, hfw1, hzw1⟩ := hbw1.rules; (try simp at hzw1); have hzw1_0 : wr.heap.size < w1.heap.size := (by omega); have hyw1_0 : wr.heap.size ≤ w1.heap.size := (by omega))
          | (go_at_call 42; (with_reducible refine (in_two 0 999999 x1 x2 _ H2.out _ _ _ ?_ ?_ ?_).mono ?_); rotate_right; rintro e w2 ⟨rfl, hbw2⟩; obtain ⟨hcw2, hfw2, hzw2⟩ := hbw2.rules; (try simp at hzw2); have hzw2_0 : wr.heap.size < w2.heap.size := (by omega); have hyw2_0 : wr.heap.size ≤ w2.heap.size := (by omega))
          | (go_at_call 42; (with_reducible refine (in_one 0 100000 x3 _ H3.out _ _ _ ?_ ?_).mono ?_); rotate_right; rintro e w3 ⟨rfl, hbw3⟩; obtain ⟨hcw3, hfw3, hzw3⟩ := hbw3.rules; (try simp at hzw3); have hzw3_0 : wr.heap.size < w3.heap.size := (by omega); have hyw3_0 : wr.heap.size ≤ w3.heap.size := (by omega))
          | (go_at_call 42; (with_reducible refine (in_one 1 5 kn _ H4.out _ _ _ ?_ ?_).mono ?_); rotate_right; rintro e w4 ⟨rfl, hbw4⟩; obtain ⟨hcw4, hfw4, hzw4⟩ := hbw4.rules; (try simp at hzw4); have hzw4_0 : wr.heap.size < w4.heap.size := (by omega); have hyw4_0 : wr.heap.size ≤ w4.heap.size := (by omega)))
        all_goals first
          | (simp; done)
          | (rw [cell_top _ _ _ _ _ (by simp)]; rfl)
          | skip
        by_cases hv0 : v < 0
        · have HBP : Hid (befB zs[j + 1 - 1]! ⟨x0, x1, x2, x3, kn, x5⟩ = true) := by
            show befB zs[j + 1 - 1]! _ = _
            rw [HBV.out]; simpa using hv0
          have hv2 : ¬ (0 : Int) ≤ v := by omega
          cases hL : lastB kn with
          | true =>
            have HLL := hid hL
            rw [hL] at hlast
            clear hL
            obtain ⟨b5, h5⟩ : ∃ v, inB x3 100000 x5 = v := ⟨_, rfl⟩
            have H5 := hid h5
            have HT : Hid (tillB ⟨x0, x1, x2, x3, kn, x5⟩ = b5) := h5
            clear h5
            cases b5 with
            | true =>
              have g0 : Gr (wr.alloc (.cells #[.int .i64 x0, .int .i64 x1, .int .i64 x2, .int .i64 x3, .int .u8 kn, .int .i64 x5] 67)) w4 := by (repeat (first | with_reducible exact Gr.refl _ | with_reducible refine Gr.trans ?_ hbw4 | with_reducible refine Gr.trans ?_ hbw3 | with_reducible refine Gr.trans ?_ hbw2 | with_reducible refine Gr.trans ?_ hbw1 | with_reducible refine Gr.alloc ?_ _ | with_reducible refine Gr.setCell ?_ (by simp) _ | with_reducible refine Gr.setCell ?_ (by simp; omega) _ | with_reducible refine Gr.drew ?_ | with_reducible refine Gr.drewN ?_ _))
              have q6 := (g0.cell (o := kn) (Nat.lt_of_lt_of_le hltG ((Gr.refl wr).alloc _).size)).trans (((Gr.refl wr).alloc _).cell hltG |>.trans hlast)
              have q0 : w4.cell? ⟨wr.heap.size, 0, none⟩ = some (.int .i64 x0) := (g0.cell (by simp)).trans (cell_top _ _ _ _ 0 rfl)
              have q1 : w4.cell? ⟨wr.heap.size, 1, none⟩ = some (.int .i64 x1) := (g0.cell (by simp)).trans (cell_top _ _ _ _ 1 rfl)
              have q2 : w4.cell? ⟨wr.heap.size, 2, none⟩ = some (.int .i64 x2) := (g0.cell (by simp)).trans (cell_top _ _ _ _ 2 rfl)
              have q3 : w4.cell? ⟨wr.heap.size, 3, none⟩ = some (.int .i64 x3) := (g0.cell (by simp)).trans (cell_top _ _ _ _ 3 rfl)
              have q4 : w4.cell? ⟨wr.heap.size, 4, none⟩ = some (.int .u8 kn) := (g0.cell (by simp)).trans (cell_top _ _ _ _ 4 rfl)
              have q5 : w4.cell? ⟨wr.heap.size, 5, none⟩ = some (.int .i64 x5) := (g0.cell (by simp)).trans (cell_top _ _ _ _ 5 rfl)
              have hb4 : b < (wr.alloc (.cells #[.int .i64 x0, .int .i64 x1, .int .i64 x2, .int .i64 x3, .int .u8 kn, .int .i64 x5] 67)).heap.size := Nat.lt_of_lt_of_le hb ((Gr.refl wr).alloc _).size
              have p0 := GrW.cell q0
              have p1 := GrW.cell q1
              have p2 := GrW.cell q2
              have p3 := GrW.cell q3
              have p4 := GrW.cell q4
              have p5 := GrW.cell q5
              have p6 := GrW.cell q6
              have s0 := GrW.cell ((g0.cell hb4).trans ((((Gr.refl wr).alloc _).cell hb).trans d0))
              have s1 := GrW.cell ((g0.cell hb4).trans ((((Gr.refl wr).alloc _).cell hb).trans d1))
              have s2 := GrW.cell ((g0.cell hb4).trans ((((Gr.refl wr).alloc _).cell hb).trans d2))
              have s3 := GrW.cell ((g0.cell hb4).trans ((((Gr.refl wr).alloc _).cell hb).trans d3))
              have s4 := GrW.cell ((g0.cell hb4).trans ((((Gr.refl wr).alloc _).cell hb).trans d4))
              have s5 := GrW.cell ((g0.cell hb4).trans ((((Gr.refl wr).alloc _).cell hb).trans d5))
              have GW : Hid (Gr w w4) := BW.trans (by (repeat (first | with_reducible exact Gr.refl _ | with_reducible refine Gr.trans ?_ hbw4 | with_reducible refine Gr.trans ?_ hbw3 | with_reducible refine Gr.trans ?_ hbw2 | with_reducible refine Gr.trans ?_ hbw1 | with_reducible refine Gr.alloc ?_ _ | with_reducible refine Gr.setCell ?_ (by simp) _ | with_reducible refine Gr.setCell ?_ (by simp; omega) _ | with_reducible refine Gr.drew ?_ | with_reducible refine Gr.drewN ?_ _)))
              clear g0 hb4 hlast c0 c1 c2 c3 c4 c5 hcw1 hcw2 hcw3 hcw4 hfw1 hfw2 hfw3 hfw4 q0 q1 q2 q3 q4 q5 q6 BW hbw1 hbw2 hbw3 hbw4 hzw1 hzw2 hzw3 hzw4 hzw1_0 hzw2_0 hzw3_0 hzw4_0 hyw1_0 hyw2_0 hyw3_0 hyw4_0 hb hltG
              clear d0 d1 d2 d3 d4 d5
              refine wp_region_mix (C := fun w' => ∃ p : GrW w4, w' = p.W) [9, 10, 23, 24] (by rfl) (by kernel_rfl) (fun _ _ d _ _ h => by cases d <;> exact h) ⟨⟨_, (Gr.refl w4).drew⟩, rfl⟩ ?_
              (repeat (first | ((with_reducible refine mixL_read0 ?_ ?_ (fun K hK => ?_)); rfl; rfl; go_big_quiet_op; (with_reducible refine hK _ ?_); clear hK K) | ((with_reducible refine' mixL_skipG ?_ ?_ ?_ ?_ ?_); rotate_left 4; rfl; rfl; rfl; rfl; simp only [Act.put, List.setIfInBounds_toArray, List.set_cons_zero, List.set_cons_succ]) | ((with_reducible refine' mixL_skipU ?_ ?_ ?_ ?_); rotate_left 3; rfl; rfl; rfl; simp only [Act.put, List.setIfInBounds_toArray, List.set_cons_zero, List.set_cons_succ]) | ((with_reducible refine' mixL_readG ?_ ?_ ?_ ?_ ?_ (fun K hK => ?_)); rotate_left 4; rfl; rfl; rfl; rfl; rfl; go_big_quiet_op; (with_reducible refine hK _ ?_); clear hK K)))
              (first | ((with_reducible refine mixL_mut0 ?_ ?_ (fun K hK => ?_)); rfl; rfl) | ((with_reducible refine' mixL_mutG ?_ ?_ ?_ ?_ ?_ (fun K hK => ?_)); rotate_left 4; rfl; rfl; rfl; rfl; rfl))
              go_simp
              refine hK.out _ _ ⟨⟨_, ((Gr.refl w4).alloc _).drew⟩, rfl⟩ ?_
              clear hK K
              (first | ((with_reducible refine mixL_mut0 ?_ ?_ (fun K hK => ?_)); rfl; rfl) | ((with_reducible refine' mixL_mutG ?_ ?_ ?_ ?_ ?_ (fun K hK => ?_)); rotate_left 4; rfl; rfl; rfl; rfl; rfl))
              go_simp
              refine (HBY.out _ _ ?_ ?_).mono ?_
              · exact cell_top w4 _ _ w4.heap.size 0 rfl
              · exact cell_top w4 _ _ w4.heap.size 1 rfl
              rintro e w5 ⟨rfl, hk5⟩
              have GJ := hid (Gr.trans ((Gr.refl w4).alloc _).drew hk5.gr)
              refine hK.out _ _ ⟨⟨w5, GJ.out⟩, rfl⟩ ?_
              clear hK K hk5
              (repeat (first | ((with_reducible refine mixL_read0 ?_ ?_ (fun K hK => ?_)); rfl; rfl; go_big_quiet_op; (with_reducible refine hK _ ?_); clear hK K) | ((with_reducible refine' mixL_skipG ?_ ?_ ?_ ?_ ?_); rotate_left 4; rfl; rfl; rfl; rfl; simp only [Act.put, List.setIfInBounds_toArray, List.set_cons_zero, List.set_cons_succ]) | ((with_reducible refine' mixL_skipU ?_ ?_ ?_ ?_); rotate_left 3; rfl; rfl; rfl; simp only [Act.put, List.setIfInBounds_toArray, List.set_cons_zero, List.set_cons_succ]) | ((with_reducible refine' mixL_readG ?_ ?_ ?_ ?_ ?_ (fun K hK => ?_)); rotate_left 4; rfl; rfl; rfl; rfl; rfl; go_big_quiet_op; (with_reducible refine hK _ ?_); clear hK K)))
              (first | ((with_reducible refine mixL_mut0 ?_ ?_ (fun K hK => ?_)); rfl; rfl) | ((with_reducible refine' mixL_mutG ?_ ?_ ?_ ?_ ?_ (fun K hK => ?_)); rotate_left 4; rfl; rfl; rfl; rfl; rfl))
              go_simp
              refine hK.out _ _ ⟨⟨_, ((GJ.out).alloc _)⟩, rfl⟩ ?_
              clear hK K
              (first | ((with_reducible refine mixL_mut0 ?_ ?_ (fun K hK => ?_)); rfl; rfl) | ((with_reducible refine' mixL_mutG ?_ ?_ ?_ ?_ ?_ (fun K hK => ?_)); rotate_left 4; rfl; rfl; rfl; rfl; rfl))
              go_simp
              refine (in_one x3 100000 x5 _ H5.out _ _ _ ?_ ?_).mono ?_
              · simp
              · exact cell_top w5 _ _ w5.heap.size 0 rfl
              rintro e w6 ⟨rfl, hk6⟩
              have GK := hid (Gr.trans ((GJ.out).alloc _) hk6)
              refine hK.out _ _ ⟨⟨w6, GK.out⟩, rfl⟩ ?_
              clear hK K hk6
              (repeat (first | ((with_reducible refine mixL_read0 ?_ ?_ (fun K hK => ?_)); rfl; rfl; go_big_quiet_op; (with_reducible refine hK _ ?_); clear hK K) | ((with_reducible refine' mixL_skipG ?_ ?_ ?_ ?_ ?_); rotate_left 4; rfl; rfl; rfl; rfl; simp only [Act.put, List.setIfInBounds_toArray, List.set_cons_zero, List.set_cons_succ]) | ((with_reducible refine' mixL_skipU ?_ ?_ ?_ ?_); rotate_left 3; rfl; rfl; rfl; simp only [Act.put, List.setIfInBounds_toArray, List.set_cons_zero, List.set_cons_succ]) | ((with_reducible refine' mixL_readG ?_ ?_ ?_ ?_ ?_ (fun K hK => ?_)); rotate_left 4; rfl; rfl; rfl; rfl; rfl; go_big_quiet_op; (with_reducible refine hK _ ?_); clear hK K)))
              (with_reducible refine mixL_nil ?_)
              go_wp2
              go_roundg (n - ((j + 1) + 1))
              case measure => omega
              case rel =>
                refine ⟨(j + 1) + 1, by omega, by omega, by go_num, GW.out.trans GK.out, hid fun j' hj' => ?_⟩
                by_cases e : j' = (j + 1)
                · subst e; rw [HP.out, HLL.out]; simp only [HT.out, HBP.out, Bool.and_true, if_true]; rfl
                · exact HA.out j' (by omega)
            | false =>
              have g0 : Gr (wr.alloc (.cells #[.int .i64 x0, .int .i64 x1, .int .i64 x2, .int .i64 x3, .int .u8 kn, .int .i64 x5] 67)) w4 := by (repeat (first | with_reducible exact Gr.refl _ | with_reducible refine Gr.trans ?_ hbw4 | with_reducible refine Gr.trans ?_ hbw3 | with_reducible refine Gr.trans ?_ hbw2 | with_reducible refine Gr.trans ?_ hbw1 | with_reducible refine Gr.alloc ?_ _ | with_reducible refine Gr.setCell ?_ (by simp) _ | with_reducible refine Gr.setCell ?_ (by simp; omega) _ | with_reducible refine Gr.drew ?_ | with_reducible refine Gr.drewN ?_ _))
              have q6 := (g0.cell (o := kn) (Nat.lt_of_lt_of_le hltG ((Gr.refl wr).alloc _).size)).trans (((Gr.refl wr).alloc _).cell hltG |>.trans hlast)
              have q0 : w4.cell? ⟨wr.heap.size, 0, none⟩ = some (.int .i64 x0) := (g0.cell (by simp)).trans (cell_top _ _ _ _ 0 rfl)
              have q1 : w4.cell? ⟨wr.heap.size, 1, none⟩ = some (.int .i64 x1) := (g0.cell (by simp)).trans (cell_top _ _ _ _ 1 rfl)
              have q2 : w4.cell? ⟨wr.heap.size, 2, none⟩ = some (.int .i64 x2) := (g0.cell (by simp)).trans (cell_top _ _ _ _ 2 rfl)
              have q3 : w4.cell? ⟨wr.heap.size, 3, none⟩ = some (.int .i64 x3) := (g0.cell (by simp)).trans (cell_top _ _ _ _ 3 rfl)
              have q4 : w4.cell? ⟨wr.heap.size, 4, none⟩ = some (.int .u8 kn) := (g0.cell (by simp)).trans (cell_top _ _ _ _ 4 rfl)
              have q5 : w4.cell? ⟨wr.heap.size, 5, none⟩ = some (.int .i64 x5) := (g0.cell (by simp)).trans (cell_top _ _ _ _ 5 rfl)
              have hb4 : b < (wr.alloc (.cells #[.int .i64 x0, .int .i64 x1, .int .i64 x2, .int .i64 x3, .int .u8 kn, .int .i64 x5] 67)).heap.size := Nat.lt_of_lt_of_le hb ((Gr.refl wr).alloc _).size
              have p0 := GrW.cell q0
              have p1 := GrW.cell q1
              have p2 := GrW.cell q2
              have p3 := GrW.cell q3
              have p4 := GrW.cell q4
              have p5 := GrW.cell q5
              have p6 := GrW.cell q6
              have s0 := GrW.cell ((g0.cell hb4).trans ((((Gr.refl wr).alloc _).cell hb).trans d0))
              have s1 := GrW.cell ((g0.cell hb4).trans ((((Gr.refl wr).alloc _).cell hb).trans d1))
              have s2 := GrW.cell ((g0.cell hb4).trans ((((Gr.refl wr).alloc _).cell hb).trans d2))
              have s3 := GrW.cell ((g0.cell hb4).trans ((((Gr.refl wr).alloc _).cell hb).trans d3))
              have s4 := GrW.cell ((g0.cell hb4).trans ((((Gr.refl wr).alloc _).cell hb).trans d4))
              have s5 := GrW.cell ((g0.cell hb4).trans ((((Gr.refl wr).alloc _).cell hb).trans d5))
              have GW : Hid (Gr w w4) := BW.trans (by (repeat (first | with_reducible exact Gr.refl _ | with_reducible refine Gr.trans ?_ hbw4 | with_reducible refine Gr.trans ?_ hbw3 | with_reducible refine Gr.trans ?_ hbw2 | with_reducible refine Gr.trans ?_ hbw1 | with_reducible refine Gr.alloc ?_ _ | with_reducible refine Gr.setCell ?_ (by simp) _ | with_reducible refine Gr.setCell ?_ (by simp; omega) _ | with_reducible refine Gr.drew ?_ | with_reducible refine Gr.drewN ?_ _)))
              clear g0 hb4 hlast c0 c1 c2 c3 c4 c5 hcw1 hcw2 hcw3 hcw4 hfw1 hfw2 hfw3 hfw4 q0 q1 q2 q3 q4 q5 q6 BW hbw1 hbw2 hbw3 hbw4 hzw1 hzw2 hzw3 hzw4 hzw1_0 hzw2_0 hzw3_0 hzw4_0 hyw1_0 hyw2_0 hyw3_0 hyw4_0 hb hltG
              clear d0 d1 d2 d3 d4 d5
              refine wp_region_mix (C := fun w' => ∃ p : GrW w4, w' = p.W) [9, 10, 23, 24] (by rfl) (by kernel_rfl) (fun _ _ d _ _ h => by cases d <;> exact h) ⟨⟨_, (Gr.refl w4).drew⟩, rfl⟩ ?_
              (repeat (first | ((with_reducible refine mixL_read0 ?_ ?_ (fun K hK => ?_)); rfl; rfl; go_big_quiet_op; (with_reducible refine hK _ ?_); clear hK K) | ((with_reducible refine' mixL_skipG ?_ ?_ ?_ ?_ ?_); rotate_left 4; rfl; rfl; rfl; rfl; simp only [Act.put, List.setIfInBounds_toArray, List.set_cons_zero, List.set_cons_succ]) | ((with_reducible refine' mixL_skipU ?_ ?_ ?_ ?_); rotate_left 3; rfl; rfl; rfl; simp only [Act.put, List.setIfInBounds_toArray, List.set_cons_zero, List.set_cons_succ]) | ((with_reducible refine' mixL_readG ?_ ?_ ?_ ?_ ?_ (fun K hK => ?_)); rotate_left 4; rfl; rfl; rfl; rfl; rfl; go_big_quiet_op; (with_reducible refine hK _ ?_); clear hK K)))
              (first | ((with_reducible refine mixL_mut0 ?_ ?_ (fun K hK => ?_)); rfl; rfl) | ((with_reducible refine' mixL_mutG ?_ ?_ ?_ ?_ ?_ (fun K hK => ?_)); rotate_left 4; rfl; rfl; rfl; rfl; rfl))
              go_simp
              refine hK.out _ _ ⟨⟨_, ((Gr.refl w4).alloc _).drew⟩, rfl⟩ ?_
              clear hK K
              (first | ((with_reducible refine mixL_mut0 ?_ ?_ (fun K hK => ?_)); rfl; rfl) | ((with_reducible refine' mixL_mutG ?_ ?_ ?_ ?_ ?_ (fun K hK => ?_)); rotate_left 4; rfl; rfl; rfl; rfl; rfl))
              go_simp
              refine (HBY.out _ _ ?_ ?_).mono ?_
              · exact cell_top w4 _ _ w4.heap.size 0 rfl
              · exact cell_top w4 _ _ w4.heap.size 1 rfl
              rintro e w5 ⟨rfl, hk5⟩
              have GJ := hid (Gr.trans ((Gr.refl w4).alloc _).drew hk5.gr)
              refine hK.out _ _ ⟨⟨w5, GJ.out⟩, rfl⟩ ?_
              clear hK K hk5
              (repeat (first | ((with_reducible refine mixL_read0 ?_ ?_ (fun K hK => ?_)); rfl; rfl; go_big_quiet_op; (with_reducible refine hK _ ?_); clear hK K) | ((with_reducible refine' mixL_skipG ?_ ?_ ?_ ?_ ?_); rotate_left 4; rfl; rfl; rfl; rfl; simp only [Act.put, List.setIfInBounds_toArray, List.set_cons_zero, List.set_cons_succ]) | ((with_reducible refine' mixL_skipU ?_ ?_ ?_ ?_); rotate_left 3; rfl; rfl; rfl; simp only [Act.put, List.setIfInBounds_toArray, List.set_cons_zero, List.set_cons_succ]) | ((with_reducible refine' mixL_readG ?_ ?_ ?_ ?_ ?_ (fun K hK => ?_)); rotate_left 4; rfl; rfl; rfl; rfl; rfl; go_big_quiet_op; (with_reducible refine hK _ ?_); clear hK K)))
              (first | ((with_reducible refine mixL_mut0 ?_ ?_ (fun K hK => ?_)); rfl; rfl) | ((with_reducible refine' mixL_mutG ?_ ?_ ?_ ?_ ?_ (fun K hK => ?_)); rotate_left 4; rfl; rfl; rfl; rfl; rfl))
              go_simp
              refine hK.out _ _ ⟨⟨_, ((GJ.out).alloc _)⟩, rfl⟩ ?_
              clear hK K
              (first | ((with_reducible refine mixL_mut0 ?_ ?_ (fun K hK => ?_)); rfl; rfl) | ((with_reducible refine' mixL_mutG ?_ ?_ ?_ ?_ ?_ (fun K hK => ?_)); rotate_left 4; rfl; rfl; rfl; rfl; rfl))
              go_simp
              refine (in_one x3 100000 x5 _ H5.out _ _ _ ?_ ?_).mono ?_
              · simp
              · exact cell_top w5 _ _ w5.heap.size 0 rfl
              rintro e w6 ⟨rfl, hk6⟩
              have GK := hid (Gr.trans ((GJ.out).alloc _) hk6)
              refine hK.out _ _ ⟨⟨w6, GK.out⟩, rfl⟩ ?_
              clear hK K hk6
              (repeat (first | ((with_reducible refine mixL_read0 ?_ ?_ (fun K hK => ?_)); rfl; rfl; go_big_quiet_op; (with_reducible refine hK _ ?_); clear hK K) | ((with_reducible refine' mixL_skipG ?_ ?_ ?_ ?_ ?_); rotate_left 4; rfl; rfl; rfl; rfl; simp only [Act.put, List.setIfInBounds_toArray, List.set_cons_zero, List.set_cons_succ]) | ((with_reducible refine' mixL_skipU ?_ ?_ ?_ ?_); rotate_left 3; rfl; rfl; rfl; simp only [Act.put, List.setIfInBounds_toArray, List.set_cons_zero, List.set_cons_succ]) | ((with_reducible refine' mixL_readG ?_ ?_ ?_ ?_ ?_ (fun K hK => ?_)); rotate_left 4; rfl; rfl; rfl; rfl; rfl; go_big_quiet_op; (with_reducible refine hK _ ?_); clear hK K)))
              (with_reducible refine mixL_nil ?_)
              go_wp2
              go_ret
              refine ⟨?_, GW.out.trans GK.out⟩
              rw [sigsB_bad HK.out (by rw [HP.out, HLL.out]; simp only [HT.out, HBP.out, Bool.and_true, if_true]; rfl)]
              rfl
          | false =>
            have HLL := hid hL
            rw [hL] at hlast
            clear hL
            by_cases hT : x5 = 0
            · have hz : (x5 == 0) = true := by simpa using hT
              have hz1 : (x5 != 0) = false := by simpa using hT
              have HZ := hid hz
              clear hz hT
              have g0 : Gr (wr.alloc (.cells #[.int .i64 x0, .int .i64 x1, .int .i64 x2, .int .i64 x3, .int .u8 kn, .int .i64 x5] 67)) w4 := by (repeat (first | with_reducible exact Gr.refl _ | with_reducible refine Gr.trans ?_ hbw4 | with_reducible refine Gr.trans ?_ hbw3 | with_reducible refine Gr.trans ?_ hbw2 | with_reducible refine Gr.trans ?_ hbw1 | with_reducible refine Gr.alloc ?_ _ | with_reducible refine Gr.setCell ?_ (by simp) _ | with_reducible refine Gr.setCell ?_ (by simp; omega) _ | with_reducible refine Gr.drew ?_ | with_reducible refine Gr.drewN ?_ _))
              have q6 := (g0.cell (o := kn) (Nat.lt_of_lt_of_le hltG ((Gr.refl wr).alloc _).size)).trans (((Gr.refl wr).alloc _).cell hltG |>.trans hlast)
              have q0 : w4.cell? ⟨wr.heap.size, 0, none⟩ = some (.int .i64 x0) := (g0.cell (by simp)).trans (cell_top _ _ _ _ 0 rfl)
              have q1 : w4.cell? ⟨wr.heap.size, 1, none⟩ = some (.int .i64 x1) := (g0.cell (by simp)).trans (cell_top _ _ _ _ 1 rfl)
              have q2 : w4.cell? ⟨wr.heap.size, 2, none⟩ = some (.int .i64 x2) := (g0.cell (by simp)).trans (cell_top _ _ _ _ 2 rfl)
              have q3 : w4.cell? ⟨wr.heap.size, 3, none⟩ = some (.int .i64 x3) := (g0.cell (by simp)).trans (cell_top _ _ _ _ 3 rfl)
              have q4 : w4.cell? ⟨wr.heap.size, 4, none⟩ = some (.int .u8 kn) := (g0.cell (by simp)).trans (cell_top _ _ _ _ 4 rfl)
              have q5 : w4.cell? ⟨wr.heap.size, 5, none⟩ = some (.int .i64 x5) := (g0.cell (by simp)).trans (cell_top _ _ _ _ 5 rfl)
              have hb4 : b < (wr.alloc (.cells #[.int .i64 x0, .int .i64 x1, .int .i64 x2, .int .i64 x3, .int .u8 kn, .int .i64 x5] 67)).heap.size := Nat.lt_of_lt_of_le hb ((Gr.refl wr).alloc _).size
              have p0 := GrW.cell q0
              have p1 := GrW.cell q1
              have p2 := GrW.cell q2
              have p3 := GrW.cell q3
              have p4 := GrW.cell q4
              have p5 := GrW.cell q5
              have p6 := GrW.cell q6
              have s0 := GrW.cell ((g0.cell hb4).trans ((((Gr.refl wr).alloc _).cell hb).trans d0))
              have s1 := GrW.cell ((g0.cell hb4).trans ((((Gr.refl wr).alloc _).cell hb).trans d1))
              have s2 := GrW.cell ((g0.cell hb4).trans ((((Gr.refl wr).alloc _).cell hb).trans d2))
              have s3 := GrW.cell ((g0.cell hb4).trans ((((Gr.refl wr).alloc _).cell hb).trans d3))
              have s4 := GrW.cell ((g0.cell hb4).trans ((((Gr.refl wr).alloc _).cell hb).trans d4))
              have s5 := GrW.cell ((g0.cell hb4).trans ((((Gr.refl wr).alloc _).cell hb).trans d5))
              have GW : Hid (Gr w w4) := BW.trans (by (repeat (first | with_reducible exact Gr.refl _ | with_reducible refine Gr.trans ?_ hbw4 | with_reducible refine Gr.trans ?_ hbw3 | with_reducible refine Gr.trans ?_ hbw2 | with_reducible refine Gr.trans ?_ hbw1 | with_reducible refine Gr.alloc ?_ _ | with_reducible refine Gr.setCell ?_ (by simp) _ | with_reducible refine Gr.setCell ?_ (by simp; omega) _ | with_reducible refine Gr.drew ?_ | with_reducible refine Gr.drewN ?_ _)))
              clear g0 hb4 hlast c0 c1 c2 c3 c4 c5 hcw1 hcw2 hcw3 hcw4 hfw1 hfw2 hfw3 hfw4 q0 q1 q2 q3 q4 q5 q6 BW hbw1 hbw2 hbw3 hbw4 hzw1 hzw2 hzw3 hzw4 hzw1_0 hzw2_0 hzw3_0 hzw4_0 hyw1_0 hyw2_0 hyw3_0 hyw4_0 hb hltG
              clear d0 d1 d2 d3 d4 d5
              refine wp_region_mix (C := fun w' => ∃ p : GrW w4, w' = p.W) [9, 10, 23, 24] (by rfl) (by kernel_rfl) (fun _ _ d _ _ h => by cases d <;> exact h) ⟨⟨_, (Gr.refl w4).drew⟩, rfl⟩ ?_
              (repeat (first | ((with_reducible refine mixL_read0 ?_ ?_ (fun K hK => ?_)); rfl; rfl; go_big_quiet_op; (with_reducible refine hK _ ?_); clear hK K) | ((with_reducible refine' mixL_skipG ?_ ?_ ?_ ?_ ?_); rotate_left 4; rfl; rfl; rfl; rfl; simp only [Act.put, List.setIfInBounds_toArray, List.set_cons_zero, List.set_cons_succ]) | ((with_reducible refine' mixL_skipU ?_ ?_ ?_ ?_); rotate_left 3; rfl; rfl; rfl; simp only [Act.put, List.setIfInBounds_toArray, List.set_cons_zero, List.set_cons_succ]) | ((with_reducible refine' mixL_readG ?_ ?_ ?_ ?_ ?_ (fun K hK => ?_)); rotate_left 4; rfl; rfl; rfl; rfl; rfl; go_big_quiet_op; (with_reducible refine hK _ ?_); clear hK K)))
              (first | ((with_reducible refine mixL_mut0 ?_ ?_ (fun K hK => ?_)); rfl; rfl) | ((with_reducible refine' mixL_mutG ?_ ?_ ?_ ?_ ?_ (fun K hK => ?_)); rotate_left 4; rfl; rfl; rfl; rfl; rfl))
              go_simp
              refine hK.out _ _ ⟨⟨_, ((Gr.refl w4).alloc _).drew⟩, rfl⟩ ?_
              clear hK K
              (first | ((with_reducible refine mixL_mut0 ?_ ?_ (fun K hK => ?_)); rfl; rfl) | ((with_reducible refine' mixL_mutG ?_ ?_ ?_ ?_ ?_ (fun K hK => ?_)); rotate_left 4; rfl; rfl; rfl; rfl; rfl))
              go_simp
              refine (HBY.out _ _ ?_ ?_).mono ?_
              · exact cell_top w4 _ _ w4.heap.size 0 rfl
              · exact cell_top w4 _ _ w4.heap.size 1 rfl
              rintro e w5 ⟨rfl, hk5⟩
              have GJ := hid (Gr.trans ((Gr.refl w4).alloc _).drew hk5.gr)
              refine hK.out _ _ ⟨⟨w5, GJ.out⟩, rfl⟩ ?_
              clear hK K hk5
              (repeat (first | ((with_reducible refine mixL_read0 ?_ ?_ (fun K hK => ?_)); rfl; rfl; go_big_quiet_op; (with_reducible refine hK _ ?_); clear hK K) | ((with_reducible refine' mixL_skipG ?_ ?_ ?_ ?_ ?_); rotate_left 4; rfl; rfl; rfl; rfl; simp only [Act.put, List.setIfInBounds_toArray, List.set_cons_zero, List.set_cons_succ]) | ((with_reducible refine' mixL_skipU ?_ ?_ ?_ ?_); rotate_left 3; rfl; rfl; rfl; simp only [Act.put, List.setIfInBounds_toArray, List.set_cons_zero, List.set_cons_succ]) | ((with_reducible refine' mixL_readG ?_ ?_ ?_ ?_ ?_ (fun K hK => ?_)); rotate_left 4; rfl; rfl; rfl; rfl; rfl; go_big_quiet_op; (with_reducible refine hK _ ?_); clear hK K)))
              (with_reducible refine mixL_nil ?_)
              go_wp2
              go_roundg (n - ((j + 1) + 1))
              case measure => omega
              case rel =>
                refine ⟨(j + 1) + 1, by omega, by omega, by go_num, GW.out.trans GJ.out, hid fun j' hj' => ?_⟩
                by_cases e : j' = (j + 1)
                · subst e; rw [HP.out, HLL.out]; rw [HBP.out]; simp [HZ.out]
                · exact HA.out j' (by omega)
            · have hz : (x5 == 0) = false := by simpa using hT
              have hz1 : (x5 != 0) = true := by simpa using hT
              have HZ := hid hz
              clear hz hT
              have g0 : Gr (wr.alloc (.cells #[.int .i64 x0, .int .i64 x1, .int .i64 x2, .int .i64 x3, .int .u8 kn, .int .i64 x5] 67)) w4 := by (repeat (first | with_reducible exact Gr.refl _ | with_reducible refine Gr.trans ?_ hbw4 | with_reducible refine Gr.trans ?_ hbw3 | with_reducible refine Gr.trans ?_ hbw2 | with_reducible refine Gr.trans ?_ hbw1 | with_reducible refine Gr.alloc ?_ _ | with_reducible refine Gr.setCell ?_ (by simp) _ | with_reducible refine Gr.setCell ?_ (by simp; omega) _ | with_reducible refine Gr.drew ?_ | with_reducible refine Gr.drewN ?_ _))
              have q6 := (g0.cell (o := kn) (Nat.lt_of_lt_of_le hltG ((Gr.refl wr).alloc _).size)).trans (((Gr.refl wr).alloc _).cell hltG |>.trans hlast)
              have q0 : w4.cell? ⟨wr.heap.size, 0, none⟩ = some (.int .i64 x0) := (g0.cell (by simp)).trans (cell_top _ _ _ _ 0 rfl)
              have q1 : w4.cell? ⟨wr.heap.size, 1, none⟩ = some (.int .i64 x1) := (g0.cell (by simp)).trans (cell_top _ _ _ _ 1 rfl)
              have q2 : w4.cell? ⟨wr.heap.size, 2, none⟩ = some (.int .i64 x2) := (g0.cell (by simp)).trans (cell_top _ _ _ _ 2 rfl)
              have q3 : w4.cell? ⟨wr.heap.size, 3, none⟩ = some (.int .i64 x3) := (g0.cell (by simp)).trans (cell_top _ _ _ _ 3 rfl)
              have q4 : w4.cell? ⟨wr.heap.size, 4, none⟩ = some (.int .u8 kn) := (g0.cell (by simp)).trans (cell_top _ _ _ _ 4 rfl)
              have q5 : w4.cell? ⟨wr.heap.size, 5, none⟩ = some (.int .i64 x5) := (g0.cell (by simp)).trans (cell_top _ _ _ _ 5 rfl)
              have hb4 : b < (wr.alloc (.cells #[.int .i64 x0, .int .i64 x1, .int .i64 x2, .int .i64 x3, .int .u8 kn, .int .i64 x5] 67)).heap.size := Nat.lt_of_lt_of_le hb ((Gr.refl wr).alloc _).size
              have p0 := GrW.cell q0
              have p1 := GrW.cell q1
              have p2 := GrW.cell q2
              have p3 := GrW.cell q3
              have p4 := GrW.cell q4
              have p5 := GrW.cell q5
              have p6 := GrW.cell q6
              have s0 := GrW.cell ((g0.cell hb4).trans ((((Gr.refl wr).alloc _).cell hb).trans d0))
              have s1 := GrW.cell ((g0.cell hb4).trans ((((Gr.refl wr).alloc _).cell hb).trans d1))
              have s2 := GrW.cell ((g0.cell hb4).trans ((((Gr.refl wr).alloc _).cell hb).trans d2))
              have s3 := GrW.cell ((g0.cell hb4).trans ((((Gr.refl wr).alloc _).cell hb).trans d3))
              have s4 := GrW.cell ((g0.cell hb4).trans ((((Gr.refl wr).alloc _).cell hb).trans d4))
              have s5 := GrW.cell ((g0.cell hb4).trans ((((Gr.refl wr).alloc _).cell hb).trans d5))
              have GW : Hid (Gr w w4) := BW.trans (by (repeat (first | with_reducible exact Gr.refl _ | with_reducible refine Gr.trans ?_ hbw4 | with_reducible refine Gr.trans ?_ hbw3 | with_reducible refine Gr.trans ?_ hbw2 | with_reducible refine Gr.trans ?_ hbw1 | with_reducible refine Gr.alloc ?_ _ | with_reducible refine Gr.setCell ?_ (by simp) _ | with_reducible refine Gr.setCell ?_ (by simp; omega) _ | with_reducible refine Gr.drew ?_ | with_reducible refine Gr.drewN ?_ _)))
              clear g0 hb4 hlast c0 c1 c2 c3 c4 c5 hcw1 hcw2 hcw3 hcw4 hfw1 hfw2 hfw3 hfw4 q0 q1 q2 q3 q4 q5 q6 BW hbw1 hbw2 hbw3 hbw4 hzw1 hzw2 hzw3 hzw4 hzw1_0 hzw2_0 hzw3_0 hzw4_0 hyw1_0 hyw2_0 hyw3_0 hyw4_0 hb hltG
              clear d0 d1 d2 d3 d4 d5
              refine wp_region_mix (C := fun w' => ∃ p : GrW w4, w' = p.W) [9, 10, 23, 24] (by rfl) (by kernel_rfl) (fun _ _ d _ _ h => by cases d <;> exact h) ⟨⟨_, (Gr.refl w4).drew⟩, rfl⟩ ?_
              (repeat (first | ((with_reducible refine mixL_read0 ?_ ?_ (fun K hK => ?_)); rfl; rfl; go_big_quiet_op; (with_reducible refine hK _ ?_); clear hK K) | ((with_reducible refine' mixL_skipG ?_ ?_ ?_ ?_ ?_); rotate_left 4; rfl; rfl; rfl; rfl; simp only [Act.put, List.setIfInBounds_toArray, List.set_cons_zero, List.set_cons_succ]) | ((with_reducible refine' mixL_skipU ?_ ?_ ?_ ?_); rotate_left 3; rfl; rfl; rfl; simp only [Act.put, List.setIfInBounds_toArray, List.set_cons_zero, List.set_cons_succ]) | ((with_reducible refine' mixL_readG ?_ ?_ ?_ ?_ ?_ (fun K hK => ?_)); rotate_left 4; rfl; rfl; rfl; rfl; rfl; go_big_quiet_op; (with_reducible refine hK _ ?_); clear hK K)))
              (first | ((with_reducible refine mixL_mut0 ?_ ?_ (fun K hK => ?_)); rfl; rfl) | ((with_reducible refine' mixL_mutG ?_ ?_ ?_ ?_ ?_ (fun K hK => ?_)); rotate_left 4; rfl; rfl; rfl; rfl; rfl))
              go_simp
              refine hK.out _ _ ⟨⟨_, ((Gr.refl w4).alloc _).drew⟩, rfl⟩ ?_
              clear hK K
              (first | ((with_reducible refine mixL_mut0 ?_ ?_ (fun K hK => ?_)); rfl; rfl) | ((with_reducible refine' mixL_mutG ?_ ?_ ?_ ?_ ?_ (fun K hK => ?_)); rotate_left 4; rfl; rfl; rfl; rfl; rfl))
              go_simp
              refine (HBY.out _ _ ?_ ?_).mono ?_
              · exact cell_top w4 _ _ w4.heap.size 0 rfl
              · exact cell_top w4 _ _ w4.heap.size 1 rfl
              rintro e w5 ⟨rfl, hk5⟩
              have GJ := hid (Gr.trans ((Gr.refl w4).alloc _).drew hk5.gr)
              refine hK.out _ _ ⟨⟨w5, GJ.out⟩, rfl⟩ ?_
              clear hK K hk5
              (repeat (first | ((with_reducible refine mixL_read0 ?_ ?_ (fun K hK => ?_)); rfl; rfl; go_big_quiet_op; (with_reducible refine hK _ ?_); clear hK K) | ((with_reducible refine' mixL_skipG ?_ ?_ ?_ ?_ ?_); rotate_left 4; rfl; rfl; rfl; rfl; simp only [Act.put, List.setIfInBounds_toArray, List.set_cons_zero, List.set_cons_succ]) | ((with_reducible refine' mixL_skipU ?_ ?_ ?_ ?_); rotate_left 3; rfl; rfl; rfl; simp only [Act.put, List.setIfInBounds_toArray, List.set_cons_zero, List.set_cons_succ]) | ((with_reducible refine' mixL_readG ?_ ?_ ?_ ?_ ?_ (fun K hK => ?_)); rotate_left 4; rfl; rfl; rfl; rfl; rfl; go_big_quiet_op; (with_reducible refine hK _ ?_); clear hK K)))
              (with_reducible refine mixL_nil ?_)
              go_wp2
              go_ret
              refine ⟨?_, GW.out.trans GJ.out⟩
              rw [sigsB_bad HK.out (by rw [HP.out, HLL.out]; simp [HZ.out])]
              rfl
        · have HBP : Hid (befB zs[j + 1 - 1]! ⟨x0, x1, x2, x3, kn, x5⟩ = false) := by
            show befB zs[j + 1 - 1]! _ = _
            rw [HBV.out]; simpa using hv0
          have hv1 : 0 ≤ v := by omega
          have g0 : Gr (wr.alloc (.cells #[.int .i64 x0, .int .i64 x1, .int .i64 x2, .int .i64 x3, .int .u8 kn, .int .i64 x5] 67)) w4 := by (repeat (first | with_reducible exact Gr.refl _ | with_reducible refine Gr.trans ?_ hbw4 | with_reducible refine Gr.trans ?_ hbw3 | with_reducible refine Gr.trans ?_ hbw2 | with_reducible refine Gr.trans ?_ hbw1 | with_reducible refine Gr.alloc ?_ _ | with_reducible refine Gr.setCell ?_ (by simp) _ | with_reducible refine Gr.setCell ?_ (by simp; omega) _ | with_reducible refine Gr.drew ?_ | with_reducible refine Gr.drewN ?_ _))
          have q6 := (g0.cell (o := kn) (Nat.lt_of_lt_of_le hltG ((Gr.refl wr).alloc _).size)).trans (((Gr.refl wr).alloc _).cell hltG |>.trans hlast)
          have q0 : w4.cell? ⟨wr.heap.size, 0, none⟩ = some (.int .i64 x0) := (g0.cell (by simp)).trans (cell_top _ _ _ _ 0 rfl)
          have q1 : w4.cell? ⟨wr.heap.size, 1, none⟩ = some (.int .i64 x1) := (g0.cell (by simp)).trans (cell_top _ _ _ _ 1 rfl)
          have q2 : w4.cell? ⟨wr.heap.size, 2, none⟩ = some (.int .i64 x2) := (g0.cell (by simp)).trans (cell_top _ _ _ _ 2 rfl)
          have q3 : w4.cell? ⟨wr.heap.size, 3, none⟩ = some (.int .i64 x3) := (g0.cell (by simp)).trans (cell_top _ _ _ _ 3 rfl)
          have q4 : w4.cell? ⟨wr.heap.size, 4, none⟩ = some (.int .u8 kn) := (g0.cell (by simp)).trans (cell_top _ _ _ _ 4 rfl)
          have q5 : w4.cell? ⟨wr.heap.size, 5, none⟩ = some (.int .i64 x5) := (g0.cell (by simp)).trans (cell_top _ _ _ _ 5 rfl)
          have hb4 : b < (wr.alloc (.cells #[.int .i64 x0, .int .i64 x1, .int .i64 x2, .int .i64 x3, .int .u8 kn, .int .i64 x5] 67)).heap.size := Nat.lt_of_lt_of_le hb ((Gr.refl wr).alloc _).size
          have p0 := GrW.cell q0
          have p1 := GrW.cell q1
          have p2 := GrW.cell q2
          have p3 := GrW.cell q3
          have p4 := GrW.cell q4
          have p5 := GrW.cell q5
          have p6 := GrW.cell q6
          have s0 := GrW.cell ((g0.cell hb4).trans ((((Gr.refl wr).alloc _).cell hb).trans d0))
          have s1 := GrW.cell ((g0.cell hb4).trans ((((Gr.refl wr).alloc _).cell hb).trans d1))
          have s2 := GrW.cell ((g0.cell hb4).trans ((((Gr.refl wr).alloc _).cell hb).trans d2))
          have s3 := GrW.cell ((g0.cell hb4).trans ((((Gr.refl wr).alloc _).cell hb).trans d3))
          have s4 := GrW.cell ((g0.cell hb4).trans ((((Gr.refl wr).alloc _).cell hb).trans d4))
          have s5 := GrW.cell ((g0.cell hb4).trans ((((Gr.refl wr).alloc _).cell hb).trans d5))
          have GW : Hid (Gr w w4) := BW.trans (by (repeat (first | with_reducible exact Gr.refl _ | with_reducible refine Gr.trans ?_ hbw4 | with_reducible refine Gr.trans ?_ hbw3 | with_reducible refine Gr.trans ?_ hbw2 | with_reducible refine Gr.trans ?_ hbw1 | with_reducible refine Gr.alloc ?_ _ | with_reducible refine Gr.setCell ?_ (by simp) _ | with_reducible refine Gr.setCell ?_ (by simp; omega) _ | with_reducible refine Gr.drew ?_ | with_reducible refine Gr.drewN ?_ _)))
          clear g0 hb4 hlast c0 c1 c2 c3 c4 c5 hcw1 hcw2 hcw3 hcw4 hfw1 hfw2 hfw3 hfw4 q0 q1 q2 q3 q4 q5 q6 BW hbw1 hbw2 hbw3 hbw4 hzw1 hzw2 hzw3 hzw4 hzw1_0 hzw2_0 hzw3_0 hzw4_0 hyw1_0 hyw2_0 hyw3_0 hyw4_0 hb hltG
          clear d0 d1 d2 d3 d4 d5
          refine wp_region_mix (C := fun w' => ∃ p : GrW w4, w' = p.W) [9, 10, 23, 24] (by rfl) (by kernel_rfl) (fun _ _ d _ _ h => by cases d <;> exact h) ⟨⟨_, (Gr.refl w4).drew⟩, rfl⟩ ?_
          (repeat (first | ((with_reducible refine mixL_read0 ?_ ?_ (fun K hK => ?_)); rfl; rfl; go_big_quiet_op; (with_reducible refine hK _ ?_); clear hK K) | ((with_reducible refine' mixL_skipG ?_ ?_ ?_ ?_ ?_); rotate_left 4; rfl; rfl; rfl; rfl; simp only [Act.put, List.setIfInBounds_toArray, List.set_cons_zero, List.set_cons_succ]) | ((with_reducible refine' mixL_skipU ?_ ?_ ?_ ?_); rotate_left 3; rfl; rfl; rfl; simp only [Act.put, List.setIfInBounds_toArray, List.set_cons_zero, List.set_cons_succ]) | ((with_reducible refine' mixL_readG ?_ ?_ ?_ ?_ ?_ (fun K hK => ?_)); rotate_left 4; rfl; rfl; rfl; rfl; rfl; go_big_quiet_op; (with_reducible refine hK _ ?_); clear hK K)))
          (first | ((with_reducible refine mixL_mut0 ?_ ?_ (fun K hK => ?_)); rfl; rfl) | ((with_reducible refine' mixL_mutG ?_ ?_ ?_ ?_ ?_ (fun K hK => ?_)); rotate_left 4; rfl; rfl; rfl; rfl; rfl))
          go_simp
          refine hK.out _ _ ⟨⟨_, ((Gr.refl w4).alloc _).drew⟩, rfl⟩ ?_
          clear hK K
          (first | ((with_reducible refine mixL_mut0 ?_ ?_ (fun K hK => ?_)); rfl; rfl) | ((with_reducible refine' mixL_mutG ?_ ?_ ?_ ?_ ?_ (fun K hK => ?_)); rotate_left 4; rfl; rfl; rfl; rfl; rfl))
          go_simp
          refine (HBY.out _ _ ?_ ?_).mono ?_
          · exact cell_top w4 _ _ w4.heap.size 0 rfl
          · exact cell_top w4 _ _ w4.heap.size 1 rfl
          rintro e w5 ⟨rfl, hk5⟩
          have GJ := hid (Gr.trans ((Gr.refl w4).alloc _).drew hk5.gr)
          refine hK.out _ _ ⟨⟨w5, GJ.out⟩, rfl⟩ ?_
          clear hK K hk5
          (repeat (first | ((with_reducible refine mixL_read0 ?_ ?_ (fun K hK => ?_)); rfl; rfl; go_big_quiet_op; (with_reducible refine hK _ ?_); clear hK K) | ((with_reducible refine' mixL_skipG ?_ ?_ ?_ ?_ ?_); rotate_left 4; rfl; rfl; rfl; rfl; simp only [Act.put, List.setIfInBounds_toArray, List.set_cons_zero, List.set_cons_succ]) | ((with_reducible refine' mixL_skipU ?_ ?_ ?_ ?_); rotate_left 3; rfl; rfl; rfl; simp only [Act.put, List.setIfInBounds_toArray, List.set_cons_zero, List.set_cons_succ]) | ((with_reducible refine' mixL_readG ?_ ?_ ?_ ?_ ?_ (fun K hK => ?_)); rotate_left 4; rfl; rfl; rfl; rfl; rfl; go_big_quiet_op; (with_reducible refine hK _ ?_); clear hK K)))
          (with_reducible refine mixL_nil ?_)
          go_wp2
          go_ret
          refine ⟨?_, GW.out.trans GJ.out⟩
          rw [sigsB_bad HK.out (by rw [HP.out, HBP.out]; simp)]
          rfl
    · have hltz : ¬ (kk : Int) < (n : Int) := by omega
      have HE : Hid (sigsB zs = decide ((n : Int) ≤ 40)) := by
        show sigsB zs = _
        rw [sigsB_good (fun j hj => HA.out j (by have := HL.out; omega)), HL.out]
        exact decide_eq_decide.2 (by omega)
      go_wp2
      go_ret
      refine ⟨by rw [HE.out]; rfl, BW⟩
end Go.Proofs.YtliehlefpodhaaaDoor
