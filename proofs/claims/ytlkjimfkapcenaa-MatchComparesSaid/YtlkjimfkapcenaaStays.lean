/- The package slices at stays, and what is asked of a stay. For every slice of stays. -/
import Derived.Test.YtlkjimfkapcenaaRuled
namespace Go.Proofs.Ytlkjimfkapcenaa
open Go.RowKit

/-- A stay. -/
structure Sty where
  place : Int
  from_ : Int
  to_ : Int
  deriving Inhabited
def Sty.cells (s : Sty) : List Value := [.int .i64 s.place, .int .i64 s.from_, .int .i64 s.to_]
def Sty.val (s : Sty) : Value := .agg #[.int .i64 s.place, .int .i64 s.from_, .int .i64 s.to_]
theorem Sty.len (s : Sty) : s.cells.length = 3 := rfl
/-- A stay of the list, cell by cell. -/
theorem Rd.sty {w : World} {A : Option Addr} {n : Nat} {zs : List Sty} (h : Rd w 3 A n (zs.flatMap Sty.cells)) {k : Nat} (hk : k < n) :
    k < zs.length ∧ ∃ b off, A = some ⟨b, off, none⟩ ∧ b < w.heap.size ∧ w.cell? ⟨b, off + k * 3, none⟩ = some (.int .i64 zs[k]!.place) ∧ w.cell? ⟨b, off + k * 3 + 1, none⟩ = some (.int .i64 zs[k]!.from_) ∧ w.cell? ⟨b, off + k * 3 + 2, none⟩ = some (.int .i64 zs[k]!.to_) := by
  have hl := h.len
  rw [flatMap_len Sty.len] at hl
  have hk' : k < zs.length := by omega
  obtain ⟨b, off, e, hb, hc⟩ := h.at_ (by omega)
  exact ⟨hk', b, off, e, hb, hc (k * 3) _ (by simpa [Sty.cells] using flatMap_get (i := 0) Sty.len hk' (by omega)), hc (k * 3 + 1) _ (by simpa [Sty.cells] using flatMap_get (i := 1) Sty.len hk' (by omega)), hc (k * 3 + 2) _ (by simpa [Sty.cells] using flatMap_get (i := 2) Sty.len hk' (by omega))⟩

set_option maxHeartbeats 400000 in
theorem indexFunc_sty (g : Nat) (lb : Array Value) (eg : ∀ args w, (callFunc g args).run Try.prog w = .ok (.enter g args) w) (p : Sty → Bool) (A : Option Addr) (n c : Nat) (zs : List Sty) (w : World)
    (hp : PredG Try.prog g lb Sty.val p zs w) (hr : Rd w 3 A n (zs.flatMap Sty.cells)) (hbig : n ≤ 9223372036854775807) :
    Calls Try.prog 73 #[.slice A n c, .func (.func g) #[] lb] w fun e w' => e = .returned (.int .i64 (fidx p zs)) ∧ Gr w w' := by
  have hl := hr.len
  rw [flatMap_len Sty.len] at hl
  have HL := hid hl
  clear hl
  go_enter Try.func73, Try.ntmps73
  go_wp2
  go_loopg [5, 8] n (fun gg _ s8 wr => ∃ kk : Nat, kk ≤ n ∧ n - kk ≤ gg ∧ s8 = .int .i64 kk ∧ Gr w wr ∧ Hid (∀ j, j < kk → p zs[j]! = false))
  case atStart => exact ⟨0, Nat.zero_le _, by omega, rfl, Gr.refl w, fun j hj => absurd hj (Nat.not_lt_zero _)⟩
  case round =>
    obtain ⟨kk, hkk, hg, rfl, BW, HA⟩ := hrel
    by_cases hlt : kk < n
    · obtain ⟨hk', b, off, rfl, hb, hcell, hcell1, hcell2⟩ := (hr.gr BW).sty hlt
      have hcall := hp wr zs[kk]! (mem_get (by have := HL.out; omega)) BW
      unfold Sty.val at hcall
      generalize hy : zs[kk]! = y at hcell hcell1 hcell2 hcall
      have HY := hid hy
      clear hy
      cases hq : p y with
      | true =>
        rw [hq] at hcall
        have HQ := hid hq
        clear hq
        have HC := hid hcall
        clear hcall
        go_wp2_with (go_at_fn g; refine (HC.out).mono ?_; rintro e w' ⟨rfl, hb'⟩)
        go_ret
        refine ⟨?_, BW.trans hb'⟩
        rw [fidx_hit (k := kk) (by have := HL.out; omega) (by rw [HY.out]; exact HQ.out) HA.out]
        rfl
      | false =>
        rw [hq] at hcall
        have HQ := hid hq
        clear hq
        have HC := hid hcall
        clear hcall
        go_wp2_with (go_at_fn g; refine (HC.out).mono ?_; rintro e w' ⟨rfl, hb'⟩)
        go_roundg (n - (kk + 1))
        case measure => omega
        case rel =>
          refine ⟨kk + 1, by omega, by omega, by go_num, BW.trans hb', hid fun j hj => ?_⟩
          by_cases e : j = kk
          · subst e
            rw [HY.out]; exact HQ.out
          · exact HA.out j (by omega)
    · have hltz : ¬ (kk : Int) < (n : Int) := by omega
      go_wp2
      go_ret
      refine ⟨?_, BW⟩
      rw [fidx_miss (fun j hj => HA.out j (by have := HL.out; omega))]
      rfl

theorem containsFunc_sty (g : Nat) (lb : Array Value) (eg : ∀ args w, (callFunc g args).run Try.prog w = .ok (.enter g args) w) (p : Sty → Bool) (A : Option Addr) (n c : Nat) (zs : List Sty) (w : World)
    (hp : PredG Try.prog g lb Sty.val p zs w) (hr : Rd w 3 A n (zs.flatMap Sty.cells)) (hbig : n ≤ 9223372036854775807) :
    Calls Try.prog 55 #[.slice A n c, .func (.func g) #[] lb] w fun e w' => e = .returned (.bool (zs.any p)) ∧ Gr w w' := by
  rw [← fidx_any]
  have H := hid (indexFunc_sty g lb eg p A n c zs w hp hr hbig)
  clear hp hr eg
  go_enter Try.func55, Try.ntmps55
  go_wp2_with (go_at_call 73; refine H.out.mono ?_; rintro e w' ⟨rfl, hb'⟩)
  go_ret
  exact ⟨rfl, hb'⟩

/-- Whether a stay is valid. -/
def Sty.ok (s : Sty) : Bool := inB 0 99999 s.place && (inB 0 100000 s.from_ && inB 0 100000 s.to_) && decide (s.from_ ≤ s.to_)

set_option maxHeartbeats 400000 in
theorem recorded2_any (s : Sty) (w : World) :
    Calls Try.prog 53 #[s.val] w fun e w' => e = .returned (.bool (!s.ok)) ∧ Gr w w' := by
  obtain ⟨p, f, t⟩ := s
  unfold Sty.val Sty.ok
  obtain ⟨b1, h1⟩ : ∃ b, inB 0 99999 p = b := ⟨_, rfl⟩
  obtain ⟨b2, h2⟩ : ∃ b, (inB 0 100000 f && inB 0 100000 t) = b := ⟨_, rfl⟩
  dsimp only
  rw [h1, h2]
  have H1 := hid h1
  have H2 := hid h2
  clear h1 h2
  go_enter Try.func53, Try.ntmps53
  go_wp2_with (first
    | (go_at_call 30; (with_reducible refine (within_one 0 99999 p b1 H1.out _ _ _ ?_ ?_).mono ?_); rotate_right; rintro e w1 ⟨rfl, hbw1⟩; obtain ⟨hcw1, hfw1, hzw1⟩ := hbw1.rules; (try simp at hzw1); have hzw1_0 : w.heap.size < w1.heap.size := (by omega); have hyw1_0 : w.heap.size ≤ w1.heap.size := (by omega))
    | (go_at_call 30; (with_reducible refine (within_two 0 100000 f t b2 H2.out _ _ _ ?_ ?_ ?_).mono ?_); rotate_right; rintro e w2 ⟨rfl, hbw2⟩; obtain ⟨hcw2, hfw2, hzw2⟩ := hbw2.rules; (try simp at hzw2); have hzw2_0 : w.heap.size < w2.heap.size := (by omega); have hyw2_0 : w.heap.size ≤ w2.heap.size := (by omega)))
  all_goals first
    | (simp; done)
    | (go_ret
       refine ⟨by first | (simp_all; done) | (simp_all; rw [Bool.eq_iff_iff]; simp), ?_⟩
       (repeat (first | with_reducible exact Gr.refl _ | with_reducible refine Gr.trans ?_ hbw2 | with_reducible refine Gr.trans ?_ hbw1 | with_reducible refine Gr.alloc ?_ _ | with_reducible refine Gr.setCell ?_ (by simp) _ | with_reducible refine Gr.setCell ?_ (by simp; omega) _ | with_reducible refine Gr.drew ?_ | with_reducible refine Gr.drewN ?_ _)))
end Go.Proofs.Ytlkjimfkapcenaa
