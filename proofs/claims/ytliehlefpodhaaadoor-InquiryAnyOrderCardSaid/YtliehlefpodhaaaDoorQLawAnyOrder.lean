/- InquiryAnyOrder is true: freezes and alerts pass between bureaus in any order. For every gate, inquiry and choices. -/
import Derived.Test.YtliehlefpodhaaaDoorOAlive9
import Derived.Test.YtliehlefpodhaaaDoorOReady9
import Derived.Test.YtliehlefpodhaaaDoorQSplit
import Derived.Test.YtliehlefpodhaaaDoorOGate
import Derived.Test.YtliehlefpodhaaaDoorOMix
import Derived.Test.YtliehlefpodhaaaDoorOGate9
import Derived.Deep.LoopGhost
import Derived.Deep.DeepCutAuto
import Derived.Deep.CutRange
namespace Go.Proofs.YtliehlefpodhaaaDoor
open Go.RowKit Go.Shelf Go.Sort

theorem u8_of_sigs9 {l : List Sig} (h : sigsB l = true) : ∀ x ∈ l, 0 ≤ x.kind ∧ x.kind ≤ 255 := by
  intro x hx
  have := sigsB_mem h hx
  unfold sigB inB at this
  simp at this
  omega
/-- What a list of signals of the call's own reads as. -/
theorem OwnK.sigs {w0 W : World} {A : Option Addr} {n cap : Nat} {l : List Sig} (h : OwnK Sig.cells 6 w0 W A n cap l) (hl : sigsB l = true) : SigsIn W A n l :=
  ⟨h.rd Sig.len, by have := h.le; have := h.big; omega, u8_of_sigs9 hl⟩
/-- A list of the three. -/
theorem Parts.at_ {W : World} {b base : Nat} {T e : TypeId} {S : Nat → Value} {l : Nat → List Sig} (h : Parts W b base T e S l) (hl : ∀ k, k < 3 → sigsB (l k) = true) {k : Nat} (hk : k < 3) :
    ∃ A n c, S k = .slice A n c ∧ W.cell? ⟨b, k, none⟩ = some (.slice A n c) ∧ SigsIn W A n (l k) := by
  have ho := h.own k hk
  obtain ⟨A, c, e1⟩ := own_slice ho
  refine ⟨A, _, c, e1, by rw [h.row.cell hk, e1], ?_⟩
  rw [e1] at ho
  refine ⟨Rd.of_own ho, ?_, u8_of_sigs9 (hl k hk)⟩
  have := sigsB_len (hl k hk)
  omega
/-- The orders, as they lie. -/
def OrdAt (W : World) (b : Nat) : Prop := ∀ k, k < 4 → ∃ bo mo os, W.cell? ⟨b, k, none⟩ = some (.slice (some ⟨bo, 0, none⟩) mo mo) ∧ os ∈ ordersL ∧ os.length = mo ∧ mo ≤ 5 ∧ Rd W 1 (some ⟨bo, 0, none⟩) mo (os.map fun (i : Nat) => Value.int .i64 (i : Int))
theorem OrdAt.gr {W W' : World} {b : Nat} (h : OrdAt W b) (g : Gr W W') : OrdAt W' b := by
  intro k hk
  obtain ⟨bo, mo, os, h1, h2, h3, h4, h5⟩ := h k hk
  exact ⟨bo, mo, os, row_cell h1 g, h2, h3, h4, h5.gr g⟩
theorem OrdAt.new (w : World) (ti ts : TypeId) :
    OrdAt (((((w.alloc (.cells #[.int .i64 0, .int .i64 1, .int .i64 2] ti)).alloc (.cells #[.int .i64 2, .int .i64 1, .int .i64 0] ti)).alloc (.cells #[.int .i64 1, .int .i64 0, .int .i64 2, .int .i64 1, .int .i64 0] ti)).alloc (.cells #[.int .i64 2, .int .i64 0, .int .i64 0, .int .i64 1] ti)).alloc
      (.cells #[.slice (some ⟨w.heap.size, 0, none⟩) 3 3, .slice (some ⟨w.heap.size + 1, 0, none⟩) 3 3, .slice (some ⟨w.heap.size + 1 + 1, 0, none⟩) 5 5, .slice (some ⟨w.heap.size + 1 + 1 + 1, 0, none⟩) 4 4] ts)) (w.heap.size + 1 + 1 + 1 + 1) := by
  have s1 : (w.alloc (.cells #[.int .i64 0, .int .i64 1, .int .i64 2] ti)).heap.size = w.heap.size + 1 := by simp
  have r0 := heap_alloc_new w (.cells #[.int .i64 0, .int .i64 1, .int .i64 2] ti)
  generalize w.alloc (.cells #[.int .i64 0, .int .i64 1, .int .i64 2] ti) = w1 at *
  have s2 : (w1.alloc (.cells #[.int .i64 2, .int .i64 1, .int .i64 0] ti)).heap.size = w.heap.size + 1 + 1 := by simp [s1]
  have r1 := heap_alloc_new w1 (.cells #[.int .i64 2, .int .i64 1, .int .i64 0] ti)
  have g1 : Gr w1 (w1.alloc (.cells #[.int .i64 2, .int .i64 1, .int .i64 0] ti)) := (Gr.refl _).alloc _
  generalize w1.alloc (.cells #[.int .i64 2, .int .i64 1, .int .i64 0] ti) = w2 at *
  have s3 : (w2.alloc (.cells #[.int .i64 1, .int .i64 0, .int .i64 2, .int .i64 1, .int .i64 0] ti)).heap.size = w.heap.size + 1 + 1 + 1 := by simp [s2]
  have r2 := heap_alloc_new w2 (.cells #[.int .i64 1, .int .i64 0, .int .i64 2, .int .i64 1, .int .i64 0] ti)
  have g2 : Gr w2 (w2.alloc (.cells #[.int .i64 1, .int .i64 0, .int .i64 2, .int .i64 1, .int .i64 0] ti)) := (Gr.refl _).alloc _
  generalize w2.alloc (.cells #[.int .i64 1, .int .i64 0, .int .i64 2, .int .i64 1, .int .i64 0] ti) = w3 at *
  have s4 : (w3.alloc (.cells #[.int .i64 2, .int .i64 0, .int .i64 0, .int .i64 1] ti)).heap.size = w.heap.size + 1 + 1 + 1 + 1 := by simp [s3]
  have r3 := heap_alloc_new w3 (.cells #[.int .i64 2, .int .i64 0, .int .i64 0, .int .i64 1] ti)
  have g3 : Gr w3 (w3.alloc (.cells #[.int .i64 2, .int .i64 0, .int .i64 0, .int .i64 1] ti)) := (Gr.refl _).alloc _
  generalize w3.alloc (.cells #[.int .i64 2, .int .i64 0, .int .i64 0, .int .i64 1] ti) = w4 at *
  have g4 : Gr w4 (w4.alloc (.cells #[.slice (some ⟨w.heap.size, 0, none⟩) 3 3, .slice (some ⟨w.heap.size + 1, 0, none⟩) 3 3, .slice (some ⟨w.heap.size + 1 + 1, 0, none⟩) 5 5, .slice (some ⟨w.heap.size + 1 + 1 + 1, 0, none⟩) 4 4] ts)) := (Gr.refl _).alloc _
  have r4 := heap_alloc_new w4 (.cells #[.slice (some ⟨w.heap.size, 0, none⟩) 3 3, .slice (some ⟨w.heap.size + 1, 0, none⟩) 3 3, .slice (some ⟨w.heap.size + 1 + 1, 0, none⟩) 5 5, .slice (some ⟨w.heap.size + 1 + 1 + 1, 0, none⟩) 4 4] ts)
  generalize w4.alloc (.cells #[.slice (some ⟨w.heap.size, 0, none⟩) 3 3, .slice (some ⟨w.heap.size + 1, 0, none⟩) 3 3, .slice (some ⟨w.heap.size + 1 + 1, 0, none⟩) 5 5, .slice (some ⟨w.heap.size + 1 + 1 + 1, 0, none⟩) 4 4] ts) = w5 at *
  rw [s4] at r4
  rw [s3] at r3
  rw [s2] at r2
  rw [s1] at r1
  have q0 := row_gr (row_gr (row_gr (row_gr r0 g1) g2) g3) g4
  have q1 := row_gr (row_gr (row_gr r1 g2) g3) g4
  have q2 := row_gr (row_gr r2 g3) g4
  have q3 := row_gr r3 g4
  intro k hk
  have hc : k = 0 ∨ k = 1 ∨ k = 2 ∨ k = 3 := by omega
  rcases hc with rfl | rfl | rfl | rfl
  · exact ⟨_, 3, [0, 1, 2], row_cell_at r4 0 rfl, by decide, rfl, by omega, rd_row q0 1 3 rfl⟩
  · exact ⟨_, 3, [2, 1, 0], row_cell_at r4 1 rfl, by decide, rfl, by omega, rd_row q1 1 3 rfl⟩
  · exact ⟨_, 5, [1, 0, 2, 1, 0], row_cell_at r4 2 rfl, by decide, rfl, by omega, rd_row q2 1 5 rfl⟩
  · exact ⟨_, 4, [2, 0, 0, 1], row_cell_at r4 3 rfl, by decide, rfl, by omega, rd_row q3 1 4 rfl⟩

set_option maxRecDepth 100000 in
set_option maxHeartbeats 16000000 in
theorem inquiryAnyOrder_any (g : Gat) (ls : List Lic) (ss : List Sig) (q : Inq) (B : Option Addr) (m d : Nat) (us : List Int) (b off cap : Nat) (w : World) (hg : GatIn w g ls ss) (hA : ∀ b o, g.sa = some ⟨b, o, none⟩ → b < w.heap.size) (hq : 0 ≤ q.purpose ∧ q.purpose ≤ 255)
    (hB : Rd w 1 B m (us.map (Value.int .u32))) (hbm : m ≤ 9223372036854775807) (hu : ∀ z ∈ us, 0 ≤ z ∧ z ≤ 4294967295) (hR : LaidR w b off cap) (hG : LaidL w) :
    Calls Tryd.prog 8 #[g.val, q.val, .slice B m d] w fun e w' => e = .returned (.bool true) ∧ Gr w w' := by
  have HAl := hid (fun W (k : Gr w W) => alive9_any b off cap W (hR.gr k) (hG.gr k))
  have HRd := hid (fun W (k : Gr w W) => ready_any g ls ss none 0 0 [] 0 0 W (hg.gr k) ⟨⟨rfl, fun h => absurd h (Nat.lt_irrefl 0)⟩, Nat.zero_le _, by simp⟩)
  have HRT := hid (fun (h : readyB g.ln g.sn 0 ls ss [] 0 0 = true) => readyB_true h)
  have HSp := hid (fun W (k : Gr w W) (h : g.sn ≤ 60) => split_any g.sa g.sn g.sc ss B m d us W (hg.sigs.gr k) h (hB.gr k) hbm hu)
  have HMg := hid (fun A1 n1 c1 A2 n2 c2 l1 l2 W (k : Gr w W) (h1 : SigsIn W A1 n1 l1) (h2 : SigsIn W A2 n2 l2) => merge_any A1 n1 c1 A2 n2 c2 l1 l2 W h1 h2 (hG.gr k))
  have HAk := hid (fun W (k : Gr w W) (h : g.sn < 1000) => askTop_any g ls ss q b off cap W (hg.gr k) (fun b o e => Nat.lt_of_lt_of_le (hA b o e) k.size) h (hR.gr k) (hG.gr k) hq)
  have HAo := hid (fun R r c W (k : Gr w W) (hs : SigsIn W R r ss) (ha : ∀ b o, R = some ⟨b, o, none⟩ → b < W.heap.size) (h : r < 1000) => askTop_any ⟨g.la, g.ln, g.lc, R, r, c⟩ ls ss q b off cap W ⟨hg.lics.gr k, hs⟩ ha h (hR.gr k) (hG.gr k) hq)
  have HSg := hid (fun W (k : Gr w W) => (hg.sigs.gr k).rd)
  have hsl : ss.length = g.sn := hg.sigs.rd.sig_len
  clear hg hA hq hB hbm hu hR hG
  obtain ⟨la, ln, lc, sa, sn, sc⟩ := g
  obtain ⟨z0, z1, z2, z3, z4, z5⟩ := q
  unfold Gat.val at *
  unfold Inq.val at *
  dsimp only at *
  generalize readyB ln sn 0 ls ss [] 0 0 = rb at *
  cases rb with
  | false =>
    clear HSp HMg HAk HAo HRT HSg
    go_enter Tryd.func8, Tryd.ntmps8
    go_wp2_with (first
      | (go_at_call 29; (with_reducible refine (HAl.out _ ?_).mono ?_); rotate_right; rintro e w1 ⟨rfl, hbw1⟩; obtain ⟨hcw1, hfw1, hzw1⟩ := hbw1.rules; (try simp at hzw1); have hzw1_0 : w.heap.size < w1.heap.size := (by omega); have hyw1_0 : w.heap.size ≤ w1.heap.size := (by omega); have hzw1_1 : w.heap.size + 1 < w1.heap.size := (by omega); have hyw1_1 : w.heap.size + 1 ≤ w1.heap.size := (by omega))
      | (go_at_call 34; (with_reducible refine (HRd.out _ ?_).mono ?_); rotate_right; rintro e w2 ⟨rfl, hbw2⟩; obtain ⟨hcw2, hfw2, hzw2⟩ := hbw2.rules; (try simp at hzw2); have hzw2_0 : w.heap.size < w2.heap.size := (by omega); have hyw2_0 : w.heap.size ≤ w2.heap.size := (by omega); have hzw2_1 : w.heap.size + 1 < w2.heap.size := (by omega); have hyw2_1 : w.heap.size + 1 ≤ w2.heap.size := (by omega)))
    all_goals first
      | (go_ret
         exact ⟨rfl, by (repeat (first | with_reducible exact Gr.refl _ | with_reducible refine Gr.trans ?_ hbw2 | with_reducible refine Gr.trans ?_ hbw1 | with_reducible refine Gr.alloc ?_ _ | with_reducible refine Gr.setCell ?_ (by simp) _ | with_reducible refine Gr.setCell ?_ (by simp; omega) _ | with_reducible refine Gr.drew ?_ | with_reducible refine Gr.drewN ?_ _))⟩)
      | ((repeat (first | with_reducible exact Gr.refl _ | with_reducible refine Gr.trans ?_ hbw1 | with_reducible refine Gr.alloc ?_ _ | with_reducible refine Gr.setCell ?_ (by simp) _ | with_reducible refine Gr.setCell ?_ (by simp; omega) _ | with_reducible refine Gr.drew ?_ | with_reducible refine Gr.drewN ?_ _)); done)
  | true =>
    have F := HRT.out rfl
    obtain ⟨g1, g2, g3⟩ := F.great
    have hz := F.sigs
    have hls := sigsB_len hz
    have HZ := hid hz
    have HSp2 := hid (fun W (k : Gr w W) => HSp.out W k g2)
    have HAk2 := hid (fun W (k : Gr w W) => HAk.out W k (by omega))
    have HMu := hid (fun ks js A1 n1 c1 A2 n2 c2 W (k : Gr w W) (h1 : SigsIn W A1 n1 (unionL ss (setN us) ks)) (h2 : SigsIn W A2 n2 (unionL ss (setN us) js)) => by
      have h := HMg.out A1 n1 c1 A2 n2 c2 _ _ W k h1 h2
      rw [(union_merge hz (setN us) ks js).1, (union_merge hz (setN us) ks js).2] at h
      exact h)
    clear HSp HMg HAk HRT F
    generalize (if gateN ls ss = 0 ∧ inqB _ = true then askN ls ss _ else 0) = an at *
    generalize (if gateN ls ss = 0 then (if inqB _ = true then 0 else 92) else gateN ls ss : Int) = en at *
    go_enter Tryd.func8, Tryd.ntmps8
    go_wp2_with (first
      | (go_at_call 29; (with_reducible refine (HAl.out _ ?_).mono ?_); rotate_right; rintro e w1 ⟨rfl, hbw1⟩; obtain ⟨hcw1, hfw1, hzw1⟩ := hbw1.rules; (try simp at hzw1); have hzw1_0 : w.heap.size < w1.heap.size := (by omega); have hyw1_0 : w.heap.size ≤ w1.heap.size := (by omega); have hzw1_1 : w.heap.size + 1 < w1.heap.size := (by omega); have hyw1_1 : w.heap.size + 1 ≤ w1.heap.size := (by omega))
      | (go_at_call 34; (with_reducible refine (HRd.out _ ?_).mono ?_); rotate_right; rintro e w2 ⟨rfl, hbw2⟩; obtain ⟨hcw2, hfw2, hzw2⟩ := hbw2.rules; (try simp at hzw2); have hzw2_0 : w.heap.size < w2.heap.size := (by omega); have hyw2_0 : w.heap.size ≤ w2.heap.size := (by omega); have hzw2_1 : w.heap.size + 1 < w2.heap.size := (by omega); have hyw2_1 : w.heap.size + 1 ≤ w2.heap.size := (by omega))
      | (go_at_call 37; (with_reducible refine (HSp2.out _ ?_).mono ?_); rotate_right; rintro e w3 ⟨rfl, hb3, hP⟩))
    all_goals try ((repeat (first | with_reducible exact Gr.refl _ | with_reducible refine Gr.trans ?_ hbw2 | with_reducible refine Gr.trans ?_ hbw1 | with_reducible refine Gr.alloc ?_ _ | with_reducible refine Gr.setCell ?_ (by simp) _ | with_reducible refine Gr.setCell ?_ (by simp; omega) _ | with_reducible refine Gr.drew ?_ | with_reducible refine Gr.drewN ?_ _)); done)
    have G3 : Hid (Gr w w3) := by
      show Gr w w3
      (repeat (first | with_reducible exact Gr.refl _ | with_reducible refine Gr.trans ?_ hb3 | with_reducible refine Gr.trans ?_ hbw2 | with_reducible refine Gr.trans ?_ hbw1 | with_reducible refine Gr.alloc ?_ _ | with_reducible refine Gr.setCell ?_ (by simp) _ | with_reducible refine Gr.setCell ?_ (by simp; omega) _ | with_reducible refine Gr.drew ?_ | with_reducible refine Gr.drewN ?_ _))
    have hr := rows2 w (.cells #[.slice la ln lc, .slice sa sn sc] 25) (.cells #[.int .i64 z0, .int .i64 z1, .int .i64 z2, .int .i64 z3, .int .u8 z4, .bool z5] 27)
    have g13 : Gr ((w.alloc (.cells #[.slice la ln lc, .slice sa sn sc] 25)).alloc (.cells #[.int .i64 z0, .int .i64 z1, .int .i64 z2, .int .i64 z3, .int .u8 z4, .bool z5] 27)) w3 := (hbw1.trans hbw2).trans hb3
    have HOr := hid (OrdAt.new w3 3 79)
    have g3o : Gr w3 (((((w3.alloc (.cells #[.int .i64 0, .int .i64 1, .int .i64 2] 3)).alloc (.cells #[.int .i64 2, .int .i64 1, .int .i64 0] 3)).alloc (.cells #[.int .i64 1, .int .i64 0, .int .i64 2, .int .i64 1, .int .i64 0] 3)).alloc (.cells #[.int .i64 2, .int .i64 0, .int .i64 0, .int .i64 1] 3)).alloc (.cells #[.slice (some ⟨w3.heap.size, 0, none⟩) 3 3, .slice (some ⟨w3.heap.size + 1, 0, none⟩) 3 3, .slice (some ⟨w3.heap.size + 1 + 1, 0, none⟩) 5 5, .slice (some ⟨w3.heap.size + 1 + 1 + 1, 0, none⟩) 4 4] 79)) := ((((((Gr.refl w3).alloc _).alloc _).alloc _).alloc _).alloc _)
    have HRG : Hid ((((((w3.alloc (.cells #[.int .i64 0, .int .i64 1, .int .i64 2] 3)).alloc (.cells #[.int .i64 2, .int .i64 1, .int .i64 0] 3)).alloc (.cells #[.int .i64 1, .int .i64 0, .int .i64 2, .int .i64 1, .int .i64 0] 3)).alloc (.cells #[.int .i64 2, .int .i64 0, .int .i64 0, .int .i64 1] 3)).alloc (.cells #[.slice (some ⟨w3.heap.size, 0, none⟩) 3 3, .slice (some ⟨w3.heap.size + 1, 0, none⟩) 3 3, .slice (some ⟨w3.heap.size + 1 + 1, 0, none⟩) 5 5, .slice (some ⟨w3.heap.size + 1 + 1 + 1, 0, none⟩) 4 4] 79)).heap[w.heap.size]? = some (.cells #[.slice la ln lc, .slice sa sn sc] 25 (0, 0))) := row_gr (row_gr hr.1 g13) g3o
    have HRQ : Hid ((((((w3.alloc (.cells #[.int .i64 0, .int .i64 1, .int .i64 2] 3)).alloc (.cells #[.int .i64 2, .int .i64 1, .int .i64 0] 3)).alloc (.cells #[.int .i64 1, .int .i64 0, .int .i64 2, .int .i64 1, .int .i64 0] 3)).alloc (.cells #[.int .i64 2, .int .i64 0, .int .i64 0, .int .i64 1] 3)).alloc (.cells #[.slice (some ⟨w3.heap.size, 0, none⟩) 3 3, .slice (some ⟨w3.heap.size + 1, 0, none⟩) 3 3, .slice (some ⟨w3.heap.size + 1 + 1, 0, none⟩) 5 5, .slice (some ⟨w3.heap.size + 1 + 1 + 1, 0, none⟩) 4 4] 79)).heap[w.heap.size + 1]? = some (.cells #[.int .i64 z0, .int .i64 z1, .int .i64 z2, .int .i64 z3, .int .u8 z4, .bool z5] 27 (0, 0))) := row_gr (row_gr hr.2 g13) g3o
    have HPt : Hid (∀ k, k < 3 → ∃ A n c, (((((w3.alloc (.cells #[.int .i64 0, .int .i64 1, .int .i64 2] 3)).alloc (.cells #[.int .i64 2, .int .i64 1, .int .i64 0] 3)).alloc (.cells #[.int .i64 1, .int .i64 0, .int .i64 2, .int .i64 1, .int .i64 0] 3)).alloc (.cells #[.int .i64 2, .int .i64 0, .int .i64 0, .int .i64 1] 3)).alloc (.cells #[.slice (some ⟨w3.heap.size, 0, none⟩) 3 3, .slice (some ⟨w3.heap.size + 1, 0, none⟩) 3 3, .slice (some ⟨w3.heap.size + 1 + 1, 0, none⟩) 5 5, .slice (some ⟨w3.heap.size + 1 + 1 + 1, 0, none⟩) 4 4] 79)).cell? ⟨w2.heap.size, k, none⟩ = some (.slice A n c) ∧ SigsIn (((((w3.alloc (.cells #[.int .i64 0, .int .i64 1, .int .i64 2] 3)).alloc (.cells #[.int .i64 2, .int .i64 1, .int .i64 0] 3)).alloc (.cells #[.int .i64 1, .int .i64 0, .int .i64 2, .int .i64 1, .int .i64 0] 3)).alloc (.cells #[.int .i64 2, .int .i64 0, .int .i64 0, .int .i64 1] 3)).alloc (.cells #[.slice (some ⟨w3.heap.size, 0, none⟩) 3 3, .slice (some ⟨w3.heap.size + 1, 0, none⟩) 3 3, .slice (some ⟨w3.heap.size + 1 + 1, 0, none⟩) 5 5, .slice (some ⟨w3.heap.size + 1 + 1 + 1, 0, none⟩) 4 4] 79)) A n (unionL ss (setN us) [k])) := by
      obtain ⟨S, hS⟩ := hP
      intro k hk
      obtain ⟨A, n, c, _, h1, h2⟩ := hS.at_ (fun k _ => by rw [← hsl]; exact partL_sigs hz (setN us) k) hk
      refine ⟨A, n, c, row_cell h1 g3o, ?_⟩
      rw [← hsl, partL_union hz] at h2
      exact h2.gr g3o
    have GO : Hid (Gr w (((((w3.alloc (.cells #[.int .i64 0, .int .i64 1, .int .i64 2] 3)).alloc (.cells #[.int .i64 2, .int .i64 1, .int .i64 0] 3)).alloc (.cells #[.int .i64 1, .int .i64 0, .int .i64 2, .int .i64 1, .int .i64 0] 3)).alloc (.cells #[.int .i64 2, .int .i64 0, .int .i64 0, .int .i64 1] 3)).alloc (.cells #[.slice (some ⟨w3.heap.size, 0, none⟩) 3 3, .slice (some ⟨w3.heap.size + 1, 0, none⟩) 3 3, .slice (some ⟨w3.heap.size + 1 + 1, 0, none⟩) 5 5, .slice (some ⟨w3.heap.size + 1 + 1 + 1, 0, none⟩) 4 4] 79))) := G3.out.trans g3o
    clear hb3 hP hbw1 hbw2 hcw1 hfw1 hzw1 hcw2 hfw2 hzw2 hzw1_0 hyw1_0 hzw2_0 hyw2_0 hr g13 g3o HAl HRd HSp2 G3
    try clear hzw1_1 hyw1_1 hzw2_1 hyw2_1
    generalize (((((w3.alloc (.cells #[.int .i64 0, .int .i64 1, .int .i64 2] 3)).alloc (.cells #[.int .i64 2, .int .i64 1, .int .i64 0] 3)).alloc (.cells #[.int .i64 1, .int .i64 0, .int .i64 2, .int .i64 1, .int .i64 0] 3)).alloc (.cells #[.int .i64 2, .int .i64 0, .int .i64 0, .int .i64 1] 3)).alloc (.cells #[.slice (some ⟨w3.heap.size, 0, none⟩) 3 3, .slice (some ⟨w3.heap.size + 1, 0, none⟩) 3 3, .slice (some ⟨w3.heap.size + 1 + 1, 0, none⟩) 5 5, .slice (some ⟨w3.heap.size + 1 + 1 + 1, 0, none⟩) 4 4] 79)) = wo at HOr HRG HRQ HPt GO ⊢
    have hf := setN_in us
    have HF := hid hf
    clear hf
    go_loopg [48] 4 (fun gg s48 wr => ∃ k : Nat, k ≤ 4 ∧ 4 - k ≤ gg ∧ s48 = .int .i64 k ∧ Gr wo wr)
    case atStart => exact ⟨0, Nat.zero_le _, by omega, rfl, Gr.refl wo⟩
    case round =>
      obtain ⟨k, hk, hgk, rfl, BW⟩ := hrel
      by_cases hkl : k < 4
      · obtain ⟨bo, mo, os, h1, h2, h3, h4, h5⟩ := (HOr.out.gr BW) k hkl
        have hk4 : (k : Int) < 4 := by omega
        have hk0 : (0 : Int) ≤ (k : Int) := by omega
        have HO5 := hid h5
        have HAll := hid (orders_all h2 ss HF.out)
        clear h2 h5
        obtain ⟨wi, rfl⟩ : ∃ wi : World, wi = wr := ⟨_, rfl⟩
        go_wp2_with fail
        go_loopg [12, 54] mo (fun gg s12 s54 wr => ∃ (j r : Nat) (R : Option Addr) (c : Nat), j ≤ mo ∧ mo - j ≤ gg ∧ s12 = .slice R r c ∧ s54 = .int .i64 j ∧ Gr wi wr ∧ Hid (OwnK Sig.cells 6 wi wr R r c (unionL ss (setN us) (os.take j))))
        case atStart => exact ⟨0, 0, none, 0, Nat.zero_le _, by omega, rfl, rfl, Gr.refl wi, by unfold Hid; rw [List.take_zero, unionL_nil]; exact OwnK.none_⟩
        case round =>
          obtain ⟨j, r, R, c, hj, hgj, rfl, rfl, BW2, HK⟩ := hrel
          by_cases hjl : j < mo
          · obtain ⟨b2, o2, e2, hb2, hc2⟩ := (HO5.out.gr BW2).at_ (by omega)
            cases e2
            have hcj := hc2 j _ (Rd.get (enc := fun (i : Nat) => Value.int .i64 (i : Int)) (zs := os) (by omega))
            rw [Nat.zero_add] at hcj
            have hmj := HAll.out.2 _ (mem_get (show j < os.length by omega))
            have HTk : Hid (os.take (j + 1) = os.take j ++ [os[j]!]) := by
              show _ = _
              rw [List.take_succ_eq_append_getElem (by omega), ← getElem!_pos os j (by omega)]
            generalize os[j]! = kk at hcj hmj HTk
            obtain ⟨A2, n2, c2, hq2, hs2⟩ := HPt.out kk hmj
            have hq2' := row_cell hq2 (BW.trans BW2)
            have HS2 := hid (hs2.gr (BW.trans BW2))
            have hjn : (j : Int) < (mo : Int) := by omega
            have hj0 : (0 : Int) ≤ (j : Int) := by omega
            have hkk3 : (kk : Int) < 3 := by omega
            have hkk0 : (0 : Int) ≤ (kk : Int) := by omega
            have HS1 := hid (HK.out.sigs (unionL_sigs HZ.out _ _))
            have GW2 := hid (GO.out.trans (BW.trans BW2))
            clear hc2 hq2 hs2 h1 HK
            go_wp2_with (first
              | (go_at_call 22; (with_reducible refine (HMu.out (os.take j) [kk] _ _ _ _ _ _ _ GW2.out HS1.out HS2.out).mono ?_); rintro e w5 ⟨R5, r5, c5, rfl, hb5, hown5⟩; have HK5 := hid hown5; clear hown5))
            go_roundg (mo - (j + 1))
            case measure => omega
            case rel => exact ⟨j + 1, r5, R5, c5, by omega, by omega, rfl, by go_num, BW2.trans hb5, by unfold Hid; rw [HTk.out]; exact HK5.out.mono BW2.size⟩
          · have hjn : ¬ (j : Int) < (mo : Int) := by omega
            have htk : os.take j = os := by rw [show j = os.length by omega, List.take_length]
            rw [htk, HAll.out.1] at HK
            obtain rfl : r = sn := HK.out.len.trans hsl
            have GW2 := hid (GO.out.trans (BW.trans BW2))
            have HSS := hid (fun W (kk : Gr wr W) => sameSignals_any R r c sa sc ss W ((HK.out.rd Sig.len).gr kk) (HSg.out W (GW2.out.trans kk)) (by omega))
            have HAs := hid (fun W (kk : Gr wr W) => HAo.out R r c W (GW2.out.trans kk) ((HK.out.sigs HZ.out).gr kk) (fun b o e => Nat.lt_of_lt_of_le (HK.out.addr b o e) kk.size) (by omega))
            have r0 := row_cell_at (v := .slice la ln lc) (row_gr (row_gr HRG.out BW) BW2) 0 rfl
            have r1 := row_cell_at (v := .slice sa r sc) (row_gr (row_gr HRG.out BW) BW2) 1 rfl
            have y0 := row_cell_at (v := .int .i64 z0) (row_gr (row_gr HRQ.out BW) BW2) 0 rfl
            have y1 := row_cell_at (v := .int .i64 z1) (row_gr (row_gr HRQ.out BW) BW2) 1 rfl
            have y2 := row_cell_at (v := .int .i64 z2) (row_gr (row_gr HRQ.out BW) BW2) 2 rfl
            have y3 := row_cell_at (v := .int .i64 z3) (row_gr (row_gr HRQ.out BW) BW2) 3 rfl
            have y4 := row_cell_at (v := .int .u8 z4) (row_gr (row_gr HRQ.out BW) BW2) 4 rfl
            have y5 := row_cell_at (v := .bool z5) (row_gr (row_gr HRQ.out BW) BW2) 5 rfl
            have rz : w.heap.size < wr.heap.size := block_lt_of_cell r0
            have rz1 : w.heap.size + 1 < wr.heap.size := block_lt_of_cell y0
            clear htk h1
            go_wp2_with (first
              | (go_at_call 28; (with_reducible refine (HSS.out _ ?_).mono ?_); rotate_right; rintro e w6 ⟨rfl, hbw6⟩; obtain ⟨hcw6, hfw6, hzw6⟩ := hbw6.rules; (try simp at hzw6)); (have rz6 : w.heap.size < w6.heap.size := by omega); (have rz61 : w.heap.size + 1 < w6.heap.size := by omega)
              | (go_at_call 14; (with_reducible refine (HAs.out _ ?_).mono ?_); rotate_right; rintro e w7 ⟨rfl, hbw7⟩; obtain ⟨hcw7, hfw7, hzw7⟩ := hbw7.rules; (try simp at hzw7); have hzw7_0 : w6.heap.size < w7.heap.size := (by omega); have hyw7_0 : w6.heap.size ≤ w7.heap.size := (by omega)); (have rz7 : w.heap.size < w7.heap.size := by omega); (have rz71 : w.heap.size + 1 < w7.heap.size := by omega)
              | (go_at_call 14; (with_reducible refine (HAk2.out _ ?_).mono ?_); rotate_right; rintro e w8 ⟨rfl, hbw8⟩; obtain ⟨hcw8, hfw8, hzw8⟩ := hbw8.rules; (try simp at hzw8); have hzw8_0 : w6.heap.size < w8.heap.size := (by omega); have hyw8_0 : w6.heap.size ≤ w8.heap.size := (by omega)))
            all_goals try (exact Gr.refl _; done)
            all_goals try (exact hbw6.trans ((Gr.refl _).alloc _); done)
            all_goals try (exact GW2.out.trans ((hbw6.trans ((Gr.refl _).alloc _)).trans hbw7); done)
            go_roundg (4 - (k + 1))
            case measure => omega
            case rel => exact ⟨k + 1, by omega, by omega, by go_num, (BW.trans BW2).trans (((hbw6.trans ((Gr.refl _).alloc _)).trans hbw7).trans hbw8)⟩
      · have hk4 : ¬ (k : Int) < 4 := by omega
        obtain ⟨wi, rfl⟩ : ∃ wi : World, wi = wr := ⟨_, rfl⟩
        obtain ⟨A0, n0, c0, x0, t0⟩ := HPt.out 0 (by omega)
        obtain ⟨A1, n1, c1, x1, t1⟩ := HPt.out 1 (by omega)
        have q0 := row_cell x0 BW
        have q1 := row_cell x1 BW
        have T0 := hid (t0.gr BW)
        have T1 := hid (t1.gr BW)
        have GWI := hid (GO.out.trans BW)
        clear x0 x1 t0 t1 HOr HAk2 HAo HSg HRG HRQ HPt
        go_upto_region 27 with fail
        have p0 := GrW.cell q0
        have p1 := GrW.cell q1
        refine wp_region_mixN (C := fun w' => ∃ p : GrW wi, w' = p.W) [6] (by rfl) (by kernel_rfl) ⟨⟨_, (Gr.refl wi).drew⟩, rfl⟩ ?_
        (repeat (first | ((with_reducible refine mixL_read0 ?_ ?_ (fun K hK => ?_)); rfl; rfl; go_big_quiet_op; (with_reducible refine hK _ ?_); clear hK K) | ((with_reducible refine' mixL_skipG ?_ ?_ ?_ ?_ ?_); rotate_left 4; rfl; rfl; rfl; rfl; simp only [Act.put, List.setIfInBounds_toArray, List.set_cons_zero, List.set_cons_succ]) | ((with_reducible refine' mixL_skipU ?_ ?_ ?_ ?_); rotate_left 3; rfl; rfl; rfl; simp only [Act.put, List.setIfInBounds_toArray, List.set_cons_zero, List.set_cons_succ]) | ((with_reducible refine' mixL_readG ?_ ?_ ?_ ?_ ?_ (fun K hK => ?_)); rotate_left 4; rfl; rfl; rfl; rfl; rfl; go_big_quiet_op; (with_reducible refine hK _ ?_); clear hK K)))
        (first | ((with_reducible refine mixL_mut0 ?_ ?_ (fun K hK => ?_)); rfl; rfl) | ((with_reducible refine' mixL_mutG ?_ ?_ ?_ ?_ ?_ (fun K hK => ?_)); rotate_left 4; rfl; rfl; rfl; rfl; rfl))
        go_simp
        refine (HMu.out [0] [1] A0 n0 c0 A1 n1 c1 _ (GWI.out.trans (Gr.refl wi).drew) (T0.out.gr (Gr.refl wi).drew) (T1.out.gr (Gr.refl wi).drew)).mono ?_
        rintro e w5 ⟨R5, r5, c5, rfl, hb5, hown5⟩
        have G5 := hid ((Gr.refl wi).drew.trans hb5)
        have K5 := hid hown5
        refine hK.out _ _ ⟨⟨w5, G5.out⟩, rfl⟩ ?_
        clear hK K hb5 hown5 p0 p1
        (repeat (first | ((with_reducible refine mixL_read0 ?_ ?_ (fun K hK => ?_)); rfl; rfl; go_big_quiet_op; (with_reducible refine hK _ ?_); clear hK K) | ((with_reducible refine' mixL_skipG ?_ ?_ ?_ ?_ ?_); rotate_left 4; rfl; rfl; rfl; rfl; simp only [Act.put, List.setIfInBounds_toArray, List.set_cons_zero, List.set_cons_succ]) | ((with_reducible refine' mixL_skipU ?_ ?_ ?_ ?_); rotate_left 3; rfl; rfl; rfl; simp only [Act.put, List.setIfInBounds_toArray, List.set_cons_zero, List.set_cons_succ]) | ((with_reducible refine' mixL_readG ?_ ?_ ?_ ?_ ?_ (fun K hK => ?_)); rotate_left 4; rfl; rfl; rfl; rfl; rfl; go_big_quiet_op; (with_reducible refine hK _ ?_); clear hK K)))
        (with_reducible refine mixN_nil ?_)
        go_upto_region 28 with fail
        have p0 := GrW.cell (row_cell q0 G5.out)
        have p1 := GrW.cell (row_cell q1 G5.out)
        refine wp_region_mixN (C := fun w' => ∃ p : GrW w5, w' = p.W) [6] (by rfl) (by kernel_rfl) ⟨⟨_, (Gr.refl w5).drew⟩, rfl⟩ ?_
        (repeat (first | ((with_reducible refine mixL_read0 ?_ ?_ (fun K hK => ?_)); rfl; rfl; go_big_quiet_op; (with_reducible refine hK _ ?_); clear hK K) | ((with_reducible refine' mixL_skipG ?_ ?_ ?_ ?_ ?_); rotate_left 4; rfl; rfl; rfl; rfl; simp only [Act.put, List.setIfInBounds_toArray, List.set_cons_zero, List.set_cons_succ]) | ((with_reducible refine' mixL_skipU ?_ ?_ ?_ ?_); rotate_left 3; rfl; rfl; rfl; simp only [Act.put, List.setIfInBounds_toArray, List.set_cons_zero, List.set_cons_succ]) | ((with_reducible refine' mixL_readG ?_ ?_ ?_ ?_ ?_ (fun K hK => ?_)); rotate_left 4; rfl; rfl; rfl; rfl; rfl; go_big_quiet_op; (with_reducible refine hK _ ?_); clear hK K)))
        (first | ((with_reducible refine mixL_mut0 ?_ ?_ (fun K hK => ?_)); rfl; rfl) | ((with_reducible refine' mixL_mutG ?_ ?_ ?_ ?_ ?_ (fun K hK => ?_)); rotate_left 4; rfl; rfl; rfl; rfl; rfl))
        go_simp
        refine (HMu.out [1] [0] A1 n1 c1 A0 n0 c0 _ (GWI.out.trans (G5.out.trans (Gr.refl w5).drew)) (T1.out.gr (G5.out.trans (Gr.refl w5).drew)) (T0.out.gr (G5.out.trans (Gr.refl w5).drew))).mono ?_
        rintro e w6 ⟨R6, r6, c6, rfl, hb6, hown6⟩
        have G6 := hid ((Gr.refl w5).drew.trans hb6)
        have K6 := hid hown6
        refine hK.out _ _ ⟨⟨w6, G6.out⟩, rfl⟩ ?_
        clear hK K hb6 hown6 p0 p1 q0 q1
        (repeat (first | ((with_reducible refine mixL_read0 ?_ ?_ (fun K hK => ?_)); rfl; rfl; go_big_quiet_op; (with_reducible refine hK _ ?_); clear hK K) | ((with_reducible refine' mixL_skipG ?_ ?_ ?_ ?_ ?_); rotate_left 4; rfl; rfl; rfl; rfl; simp only [Act.put, List.setIfInBounds_toArray, List.set_cons_zero, List.set_cons_succ]) | ((with_reducible refine' mixL_skipU ?_ ?_ ?_ ?_); rotate_left 3; rfl; rfl; rfl; simp only [Act.put, List.setIfInBounds_toArray, List.set_cons_zero, List.set_cons_succ]) | ((with_reducible refine' mixL_readG ?_ ?_ ?_ ?_ ?_ (fun K hK => ?_)); rotate_left 4; rfl; rfl; rfl; rfl; rfl; go_big_quiet_op; (with_reducible refine hK _ ?_); clear hK K)))
        (with_reducible refine mixN_nil ?_)
        have e56 : unionL ss (setN us) ([1] ++ [0]) = unionL ss (setN us) ([0] ++ [1]) := unionL_ext (by intro k; simp; exact Or.comm)
        have e55 : unionL ss (setN us) (([0] ++ [1]) ++ ([0] ++ [1])) = unionL ss (setN us) ([0] ++ [1]) := unionL_ext (by intro k; simp; omega)
        rw [e56] at K6
        have S5 := hid (K5.out.sigs (unionL_sigs HZ.out _ _))
        have HM7 := hid (fun W (kk : Gr w5 W) => HMu.out ([0] ++ [1]) ([0] ++ [1]) R5 r5 c5 R5 r5 c5 W (GWI.out.trans (G5.out.trans kk)) (S5.out.gr kk) (S5.out.gr kk))
        rw [e55] at HM7
        have h65 : r6 = r5 := K6.out.len.trans K5.out.len.symm
        subst h65
        have hb9 := S5.out.big
        have HS1 := hid (fun W (kk : Gr w6 W) => sameSignals_any R5 r6 c5 R6 c6 _ W (S5.out.rd.gr (G6.out.trans kk)) ((K6.out.rd Sig.len).gr kk) hb9)
        clear HMu e55 e56
        go_wp2_with (first
          | (go_at_call 22; (with_reducible refine (HM7.out _ ?_).mono ?_); rotate_right; rintro e w7 ⟨R7, r7, c7, rfl, hb7, hown7⟩; have K7 := hid hown7; have h75 : r7 = r6 := hown7.len.trans K6.out.len.symm; subst h75; have HS2 := hid (fun W (kk : Gr w7 W) => sameSignals_any R5 r7 c5 R7 c7 _ W (S5.out.rd.gr ((G6.out.trans hb7).trans kk)) ((K7.out.rd Sig.len).gr kk) hb9); clear hown7)
          | (go_at_call 28; (with_reducible refine (HS1.out _ ?_).mono ?_); rotate_right; rintro e w8 ⟨rfl, hb8⟩)
          | (go_at_call 28; (with_reducible refine (HS2.out _ ?_).mono ?_); rotate_right; rintro e w9 ⟨rfl, hb9'⟩))
        all_goals first
          | exact G6.out
          | exact hb7
          | exact hb8
          | skip
        go_ret
        exact ⟨rfl, (((GWI.out.trans (G5.out.trans G6.out)).trans hb7).trans hb8).trans hb9'⟩
end Go.Proofs.YtliehlefpodhaaaDoor
