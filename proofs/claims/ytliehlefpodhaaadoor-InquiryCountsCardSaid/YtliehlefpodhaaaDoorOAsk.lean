/- ask and Ask of the package inquiry: what becomes of an inquiry. For every gate and inquiry. -/
import Derived.Deep.LoopGhost
import Derived.Test.YtliehlefpodhaaaDoorORules
namespace Go.Proofs.YtliehlefpodhaaaDoor
open Go.RowKit Go.Shelf Go.Sort

/-- The table of rules, as the door has laid it. -/
structure LaidR (w : World) (b off cap : Nat) : Prop where
  g : w.cell? ⟨0, 0, none⟩ = some (.slice (some ⟨b, off, none⟩) 3 cap)
  lt : b < w.heap.size
  lt0 : 0 < w.heap.size
  c0 : w.cell? ⟨b, off, none⟩ = some (.int .u8 1)
  c1 : w.cell? ⟨b, off + 1, none⟩ = some (.func (.func 124) #[] #[])
  c2 : w.cell? ⟨b, off + 2, none⟩ = some (.int .u8 2)
  c3 : w.cell? ⟨b, off + 3, none⟩ = some (.func (.func 126) #[] #[])
  c4 : w.cell? ⟨b, off + 4, none⟩ = some (.int .u8 3)
  c5 : w.cell? ⟨b, off + 5, none⟩ = some (.func (.func 127) #[] #[])
theorem LaidR.gr {w w' : World} {b off cap : Nat} (h : LaidR w b off cap) (k : Gr w w') : LaidR w' b off cap :=
  ⟨row_cell h.g k, Nat.lt_of_lt_of_le h.lt k.size, Nat.lt_of_lt_of_le h.lt0 k.size, row_cell h.c0 k, row_cell h.c1 k, row_cell h.c2 k, row_cell h.c3 k, row_cell h.c4 k, row_cell h.c5 k⟩

set_option maxRecDepth 100000 in
set_option maxHeartbeats 4000000 in
theorem ask_any (g : Gat) (ls : List Lic) (ss : List Sig) (q : Inq) (b off cap : Nat) (w : World) (hg : GatIn w g ls ss) (hA : ∀ b o, g.sa = some ⟨b, o, none⟩ → b < w.heap.size) (hn : g.sn < 1000) (hR : LaidR w b off cap) :
    Calls Tryd.prog 40 #[g.val, q.val] w fun e w' => e = .returned (.int .u8 (askN ls ss q)) ∧ Gr w w' := by
  have H1 := hid (fun W (k : Gr w W) => rule1_any g ls ss q W (hg.gr k))
  have H2 := hid (fun W (k : Gr w W) => rule2_any g ls ss q W (hg.gr k) (fun b o e => Nat.lt_of_lt_of_le (hA b o e) k.size) hn)
  have H3 := hid (fun W (k : Gr w W) => rule3_any g ls ss q W (hg.gr k) (fun b o e => Nat.lt_of_lt_of_le (hA b o e) k.size) hn)
  have HN : Hid (askN ls ss q = if (!licensedB ls q) then 1 else if (frozenB ss q.file q.day && (q.purpose == 1 || q.purpose == 3 || q.purpose == 6)) then 2 else if (alertB ss q.file q.day && (q.purpose == 6 || (q.purpose == 1 && !q.called))) then 3 else 0) := rfl
  generalize (!licensedB ls q) = r1 at H1 HN
  generalize (frozenB ss q.file q.day && (q.purpose == 1 || q.purpose == 3 || q.purpose == 6)) = r2 at H2 HN
  generalize (alertB ss q.file q.day && (q.purpose == 6 || (q.purpose == 1 && !q.called))) = r3 at H3 HN
  clear hg hA hn
  obtain ⟨la, ln, lc, sa, sn, sc⟩ := g
  obtain ⟨q0, q1, q2, q3, q4, q5⟩ := q
  unfold Gat.val Inq.val at *
  dsimp only at *
  have HR := hid hR
  have d0 := hR.g
  have dl := hR.lt0
  clear hR
  go_enter Tryd.func40, Tryd.ntmps40
  go_wp2
  obtain ⟨RG0, RQ0⟩ := rows2 w (.cells #[.slice la ln lc, .slice sa sn sc] 87) (.cells #[.int .i64 q0, .int .i64 q1, .int .i64 q2, .int .i64 q3, .int .u8 q4, .bool q5] 27)
  have HR0 := hid (And.intro RG0 RQ0)
  clear RG0 RQ0
  go_loopg [6, 9] 3 (fun gg _ s9 wr => ∃ kk : Nat, kk ≤ 3 ∧ 3 - kk ≤ gg ∧ s9 = .int .i64 kk ∧ Gr w wr ∧ wr.heap[w.heap.size]? = some (.cells #[.slice la ln lc, .slice sa sn sc] 87 (0, 0)) ∧ wr.heap[w.heap.size + 1]? = some (.cells #[.int .i64 q0, .int .i64 q1, .int .i64 q2, .int .i64 q3, .int .u8 q4, .bool q5] 27 (0, 0)) ∧ Hid ((1 ≤ kk → r1 = false) ∧ (2 ≤ kk → r2 = false) ∧ (3 ≤ kk → r3 = false)))
  case atStart => exact ⟨0, by omega, by omega, rfl, ((Gr.refl w).alloc _).alloc _, HR0.out.1, HR0.out.2, ⟨fun h => absurd h (by omega), fun h => absurd h (by omega), fun h => absurd h (by omega)⟩⟩
  case round =>
    obtain ⟨kk, hkk, hg, rfl, BW, RG, RQ, HA⟩ := hrel
    obtain ⟨g, lt, lt0, c0, c1, c2, c3, c4, c5⟩ := HR.out.gr BW
    have u0 := row_cell_at (v := .slice la ln lc) RG 0 rfl
    have u1 := row_cell_at (v := .slice sa sn sc) RG 1 rfl
    obtain ⟨v0, v1, v2, v3, v4, v5⟩ := cellsat6 RQ
    have hz1 := (Array.getElem?_eq_some_iff.1 RQ).1
    have hz0 := (Array.getElem?_eq_some_iff.1 RG).1
    obtain rfl | rfl | rfl | rfl : kk = 0 ∨ kk = 1 ∨ kk = 2 ∨ kk = 3 := by omega
    ·
      cases r1 with
      | true =>
        go_wp2_with (first
          | (go_at_call 124; (with_reducible refine (H1.out _ ?_).mono ?_); rotate_right; rintro e w1 ⟨rfl, hbw1⟩; obtain ⟨hcw1, hfw1, hzw1⟩ := hbw1.rules; (try simp at hzw1); have hzw1_0 : wr.heap.size < w1.heap.size := (by omega); have hyw1_0 : wr.heap.size ≤ w1.heap.size := (by omega)))
        all_goals first
          | (go_ret
             refine ⟨by rw [HN.out]; rfl, ?_⟩
             (repeat (first | with_reducible exact Gr.refl _ | with_reducible refine Gr.trans ?_ hbw1 | with_reducible refine Gr.trans ?_ BW | with_reducible refine Gr.alloc ?_ _ | with_reducible refine Gr.setCell ?_ (by simp) _ | with_reducible refine Gr.setCell ?_ (by simp; omega) _ | with_reducible refine Gr.drew ?_ | with_reducible refine Gr.drewN ?_ _)); done)
          | ((repeat (first | with_reducible exact Gr.refl _ | with_reducible refine Gr.trans ?_ hbw1 | with_reducible refine Gr.trans ?_ BW | with_reducible refine Gr.alloc ?_ _ | with_reducible refine Gr.setCell ?_ (by simp) _ | with_reducible refine Gr.setCell ?_ (by simp; omega) _ | with_reducible refine Gr.drew ?_ | with_reducible refine Gr.drewN ?_ _)); done)
      | false =>
        go_wp2_with (first
          | (go_at_call 124; (with_reducible refine (H1.out _ ?_).mono ?_); rotate_right; rintro e w1 ⟨rfl, hbw1⟩; obtain ⟨hcw1, hfw1, hzw1⟩ := hbw1.rules; (try simp at hzw1); have hzw1_0 : wr.heap.size < w1.heap.size := (by omega); have hyw1_0 : wr.heap.size ≤ w1.heap.size := (by omega)))
        all_goals try ((repeat (first | with_reducible exact Gr.refl _ | with_reducible refine Gr.trans ?_ hbw1 | with_reducible refine Gr.trans ?_ BW | with_reducible refine Gr.alloc ?_ _ | with_reducible refine Gr.setCell ?_ (by simp) _ | with_reducible refine Gr.setCell ?_ (by simp; omega) _ | with_reducible refine Gr.drew ?_ | with_reducible refine Gr.drewN ?_ _)); done)
        go_roundg (3 - (0 + 1))
        case measure => omega
        case rel => exact ⟨0 + 1, by omega, by omega, by simp, Gr.trans (Gr.alloc BW _) hbw1, row_gr (row_gr RG ((Gr.refl _).alloc _)) hbw1, row_gr (row_gr RQ ((Gr.refl _).alloc _)) hbw1, ⟨fun _ => (by simp), fun h => absurd h (by omega), fun h => absurd h (by omega)⟩⟩
    ·
      cases r2 with
      | true =>
        go_wp2_with (first
          | (go_at_call 126; (with_reducible refine (H2.out _ ?_).mono ?_); rotate_right; rintro e w1 ⟨rfl, hbw1⟩; obtain ⟨hcw1, hfw1, hzw1⟩ := hbw1.rules; (try simp at hzw1); have hzw1_0 : wr.heap.size < w1.heap.size := (by omega); have hyw1_0 : wr.heap.size ≤ w1.heap.size := (by omega)))
        all_goals first
          | (go_ret
             refine ⟨by rw [HN.out, (HA.out.1 (by omega))]; rfl, ?_⟩
             (repeat (first | with_reducible exact Gr.refl _ | with_reducible refine Gr.trans ?_ hbw1 | with_reducible refine Gr.trans ?_ BW | with_reducible refine Gr.alloc ?_ _ | with_reducible refine Gr.setCell ?_ (by simp) _ | with_reducible refine Gr.setCell ?_ (by simp; omega) _ | with_reducible refine Gr.drew ?_ | with_reducible refine Gr.drewN ?_ _)); done)
          | ((repeat (first | with_reducible exact Gr.refl _ | with_reducible refine Gr.trans ?_ hbw1 | with_reducible refine Gr.trans ?_ BW | with_reducible refine Gr.alloc ?_ _ | with_reducible refine Gr.setCell ?_ (by simp) _ | with_reducible refine Gr.setCell ?_ (by simp; omega) _ | with_reducible refine Gr.drew ?_ | with_reducible refine Gr.drewN ?_ _)); done)
      | false =>
        go_wp2_with (first
          | (go_at_call 126; (with_reducible refine (H2.out _ ?_).mono ?_); rotate_right; rintro e w1 ⟨rfl, hbw1⟩; obtain ⟨hcw1, hfw1, hzw1⟩ := hbw1.rules; (try simp at hzw1); have hzw1_0 : wr.heap.size < w1.heap.size := (by omega); have hyw1_0 : wr.heap.size ≤ w1.heap.size := (by omega)))
        all_goals try ((repeat (first | with_reducible exact Gr.refl _ | with_reducible refine Gr.trans ?_ hbw1 | with_reducible refine Gr.trans ?_ BW | with_reducible refine Gr.alloc ?_ _ | with_reducible refine Gr.setCell ?_ (by simp) _ | with_reducible refine Gr.setCell ?_ (by simp; omega) _ | with_reducible refine Gr.drew ?_ | with_reducible refine Gr.drewN ?_ _)); done)
        go_roundg (3 - (1 + 1))
        case measure => omega
        case rel => exact ⟨1 + 1, by omega, by omega, by simp, Gr.trans (Gr.alloc BW _) hbw1, row_gr (row_gr RG ((Gr.refl _).alloc _)) hbw1, row_gr (row_gr RQ ((Gr.refl _).alloc _)) hbw1, ⟨fun _ => HA.out.1 (by omega), fun _ => (by simp), fun h => absurd h (by omega)⟩⟩
    ·
      cases r3 with
      | true =>
        go_wp2_with (first
          | (go_at_call 127; (with_reducible refine (H3.out _ ?_).mono ?_); rotate_right; rintro e w1 ⟨rfl, hbw1⟩; obtain ⟨hcw1, hfw1, hzw1⟩ := hbw1.rules; (try simp at hzw1); have hzw1_0 : wr.heap.size < w1.heap.size := (by omega); have hyw1_0 : wr.heap.size ≤ w1.heap.size := (by omega)))
        all_goals first
          | (go_ret
             refine ⟨by rw [HN.out, (HA.out.1 (by omega)), (HA.out.2.1 (by omega))]; rfl, ?_⟩
             (repeat (first | with_reducible exact Gr.refl _ | with_reducible refine Gr.trans ?_ hbw1 | with_reducible refine Gr.trans ?_ BW | with_reducible refine Gr.alloc ?_ _ | with_reducible refine Gr.setCell ?_ (by simp) _ | with_reducible refine Gr.setCell ?_ (by simp; omega) _ | with_reducible refine Gr.drew ?_ | with_reducible refine Gr.drewN ?_ _)); done)
          | ((repeat (first | with_reducible exact Gr.refl _ | with_reducible refine Gr.trans ?_ hbw1 | with_reducible refine Gr.trans ?_ BW | with_reducible refine Gr.alloc ?_ _ | with_reducible refine Gr.setCell ?_ (by simp) _ | with_reducible refine Gr.setCell ?_ (by simp; omega) _ | with_reducible refine Gr.drew ?_ | with_reducible refine Gr.drewN ?_ _)); done)
      | false =>
        go_wp2_with (first
          | (go_at_call 127; (with_reducible refine (H3.out _ ?_).mono ?_); rotate_right; rintro e w1 ⟨rfl, hbw1⟩; obtain ⟨hcw1, hfw1, hzw1⟩ := hbw1.rules; (try simp at hzw1); have hzw1_0 : wr.heap.size < w1.heap.size := (by omega); have hyw1_0 : wr.heap.size ≤ w1.heap.size := (by omega)))
        all_goals try ((repeat (first | with_reducible exact Gr.refl _ | with_reducible refine Gr.trans ?_ hbw1 | with_reducible refine Gr.trans ?_ BW | with_reducible refine Gr.alloc ?_ _ | with_reducible refine Gr.setCell ?_ (by simp) _ | with_reducible refine Gr.setCell ?_ (by simp; omega) _ | with_reducible refine Gr.drew ?_ | with_reducible refine Gr.drewN ?_ _)); done)
        go_roundg (3 - (2 + 1))
        case measure => omega
        case rel => exact ⟨2 + 1, by omega, by omega, by simp, Gr.trans (Gr.alloc BW _) hbw1, row_gr (row_gr RG ((Gr.refl _).alloc _)) hbw1, row_gr (row_gr RQ ((Gr.refl _).alloc _)) hbw1, ⟨fun _ => HA.out.1 (by omega), fun h => HA.out.2.1 (by omega), fun _ => (by simp)⟩⟩
    · go_wp2
      go_ret
      refine ⟨by rw [HN.out, HA.out.1 (by omega), HA.out.2.1 (by omega), HA.out.2.2 (by omega)]; rfl, BW⟩

set_option maxRecDepth 100000 in
set_option maxHeartbeats 4000000 in
theorem askTop_any (g : Gat) (ls : List Lic) (ss : List Sig) (q : Inq) (b off cap : Nat) (w : World) (hg : GatIn w g ls ss) (hA : ∀ b o, g.sa = some ⟨b, o, none⟩ → b < w.heap.size) (hn : g.sn < 1000) (hR : LaidR w b off cap) (hG : LaidL w) (hu : 0 ≤ q.purpose ∧ q.purpose ≤ 255) :
    Calls Tryd.prog 14 #[g.val, q.val] w fun e w' => e = .returned (.tuple #[.int .u8 (if gateN ls ss = 0 ∧ inqB q = true then askN ls ss q else 0), .int .i64 (if gateN ls ss = 0 then (if inqB q then 0 else 92) else gateN ls ss)]) ∧ Gr w w' := by
  have HC := hid (fun W (k : Gr w W) => gateCheck_any g ls ss W (hg.gr k) (hG.gr k))
  have HS := hid (fun W => sound_any q W hu)
  have HA := hid (fun W (k : Gr w W) => ask_any g ls ss q b off cap W (hg.gr k) (fun b o e => Nat.lt_of_lt_of_le (hA b o e) k.size) hn (hR.gr k))
  have hz : gateN ls ss = 0 ∨ gateN ls ss = 90 ∨ gateN ls ss = 91 := by unfold gateN; (repeat' split) <;> simp
  generalize gateN ls ss = e at HC hz ⊢
  generalize inqB q = bs at HS ⊢
  generalize askN ls ss q = a at HA ⊢
  clear hg hA hn hR hG hu
  obtain ⟨la, ln, lc, sa, sn, sc⟩ := g
  obtain ⟨q0, q1, q2, q3, q4, q5⟩ := q
  unfold Gat.val Inq.val at *
  dsimp only at *
  obtain rfl | rfl | rfl := hz
  case' inl => cases bs
  all_goals
    go_enter Tryd.func14, Tryd.ntmps14
    go_wp2_with (first
      | (go_at_call 26; (with_reducible refine (HC.out _ ?_).mono ?_); rotate_right; rintro e w1 ⟨rfl, hbw1⟩; obtain ⟨hcw1, hfw1, hzw1⟩ := hbw1.rules; (try simp at hzw1); have hzw1_0 : w.heap.size < w1.heap.size := (by omega); have hyw1_0 : w.heap.size ≤ w1.heap.size := (by omega); have hzw1_1 : w.heap.size + 1 < w1.heap.size := (by omega); have hyw1_1 : w.heap.size + 1 ≤ w1.heap.size := (by omega))
      | (go_at_call 39; (with_reducible refine (HS.out _).mono ?_); rotate_right; rintro e w2 ⟨rfl, hbw2⟩; obtain ⟨hcw2, hfw2, hzw2⟩ := hbw2.rules; (try simp at hzw2); have hzw2_0 : w.heap.size < w2.heap.size := (by omega); have hyw2_0 : w.heap.size ≤ w2.heap.size := (by omega); have hzw2_1 : w.heap.size + 1 < w2.heap.size := (by omega); have hyw2_1 : w.heap.size + 1 ≤ w2.heap.size := (by omega))
      | (go_at_call 40; (with_reducible refine (HA.out _ ?_).mono ?_); rotate_right; rintro e w3 ⟨rfl, hbw3⟩; obtain ⟨hcw3, hfw3, hzw3⟩ := hbw3.rules; (try simp at hzw3); have hzw3_0 : w.heap.size < w3.heap.size := (by omega); have hyw3_0 : w.heap.size ≤ w3.heap.size := (by omega)))
    all_goals first
      | (go_ret2
         refine ⟨by rfl, ?_⟩
         (repeat (first | with_reducible exact Gr.refl _ | with_reducible refine Gr.trans ?_ hbw3 | with_reducible refine Gr.trans ?_ hbw2 | with_reducible refine Gr.trans ?_ hbw1 | with_reducible refine Gr.alloc ?_ _ | with_reducible refine Gr.setCell ?_ (by simp) _ | with_reducible refine Gr.setCell ?_ (by simp; omega) _ | with_reducible refine Gr.drew ?_ | with_reducible refine Gr.drewN ?_ _)); done)
      | ((repeat (first | with_reducible exact Gr.refl _ | with_reducible refine Gr.trans ?_ hbw2 | with_reducible refine Gr.trans ?_ hbw1 | with_reducible refine Gr.alloc ?_ _ | with_reducible refine Gr.setCell ?_ (by simp) _ | with_reducible refine Gr.setCell ?_ (by simp; omega) _ | with_reducible refine Gr.drew ?_ | with_reducible refine Gr.drewN ?_ _)); done)
end Go.Proofs.YtliehlefpodhaaaDoor
