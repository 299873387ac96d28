/- The gate and the inquiries of the chapter's examples, and what is asked of them. No condition. -/
import Derived.Laws.Rows
import Derived.Test.YtliehlefpodhaaaDoorORegGr
import Derived.Test.YtliehlefpodhaaaDoorOStateTop
import Derived.Test.YtliehlefpodhaaaDoorOAsk
namespace Go.Proofs.YtliehlefpodhaaaDoor
open Go.RowKit

def gLs : List Lic := [⟨900, 1, 0, 5000⟩, ⟨901, 2, 0, 5000⟩]
def gSs : List Sig := [⟨1, 1, 5, 100, 1, 0⟩, ⟨1, 2, 5, 120, 3, 130⟩, ⟨1, 3, 5, 300, 4, 400⟩, ⟨2, 1, 5, 200, 2, 0⟩]
def crd (id day : Int) : Inq := ⟨id, day, 900, 5, 1, false⟩
/-- A row just read. -/
theorem rd_row {W : World} {b : Nat} {cs : Array Value} {t : TypeId} {fr : Nat × Nat} (h : W.heap[b]? = some (.cells cs t fr)) (size n : Nat) (hn : cs.size = n * size) : Rd W size (some ⟨b, 0, none⟩) n cs.toList := by
  refine ⟨by simpa using hn, fun _ => ⟨b, 0, rfl, (Array.getElem?_eq_some_iff.1 h).1, fun j u hu => ?_⟩⟩
  rw [Nat.zero_add, cell_of_row W b j cs t fr h]
  simpa using hu

set_option maxRecDepth 100000 in
set_option maxHeartbeats 2000000 in
theorem gate_any (w : World) :
    Calls Tryd.prog 32 #[] w fun e w' => ∃ b1 b2, e = .returned (Gat.val ⟨some ⟨b1, 0, none⟩, 2, 2, some ⟨b2, 0, none⟩, 4, 4⟩) ∧ (GatIn w' ⟨some ⟨b1, 0, none⟩, 2, 2, some ⟨b2, 0, none⟩, 4, 4⟩ gLs gSs ∧ b2 < w'.heap.size ∧ Gr w w') := by
  unfold Gat.val
  dsimp only
  go_enter Tryd.func32, Tryd.ntmps32
  go_wp2
  refine bodyPost_ret (v := .agg #[.slice (some ⟨w.heap.size + 1, 0, none⟩) 2 2, .slice (some ⟨w.heap.size + 1 + 1, 0, none⟩) 4 4]) ?_ rfl ⟨w.heap.size + 1, w.heap.size + 1 + 1, rfl, ?_, ?_, ?_⟩
  · refine results_cell_row (p := 0) (ty := 25) Tryd.results32 _ _ w.heap.size 25 _ (0, 0) _ rfl ?_ Tryd.underlying25 rfl (by kernel_rfl)
    rw [Below.heap_alloc _ _ _ (by simp; omega), Below.heap_alloc _ _ _ (by simp)]
    exact heap_alloc_new w _
  · have h1 : ∀ (o0 o1 o2 : Obj), (((w.alloc o0).alloc o1).alloc o2).heap[w.heap.size + 1]? = some o1 := fun o0 o1 o2 => by
      rw [Below.heap_alloc _ _ _ (by simp)]
      exact heap_alloc2_new w _ _
    have h2 : ∀ (o0 o1 o2 : Obj), (((w.alloc o0).alloc o1).alloc o2).heap[w.heap.size + 1 + 1]? = some o2 := fun o0 o1 o2 => by
      have := heap_alloc_new ((w.alloc o0).alloc o1) o2
      simpa using this
    exact ⟨⟨rd_row (h1 _ _ _) 4 2 rfl, by show 2 ≤ 9223372036854775807; decide, by decide⟩, ⟨rd_row (h2 _ _ _) 6 4 rfl, by show 4 ≤ 9223372036854775807; decide, by decide⟩⟩
  · simp
  · (repeat (first | with_reducible exact Gr.refl _ | with_reducible refine Gr.alloc ?_ _ | with_reducible refine Gr.setCell ?_ (by simp) _ | with_reducible refine Gr.setCell ?_ (by simp; omega) _ | with_reducible refine Gr.drew ?_ | with_reducible refine Gr.drewN ?_ _))

set_option maxRecDepth 100000 in
set_option maxHeartbeats 1000000 in
theorem credit_any (id day : Int) (w : World) :
    Calls Tryd.prog 33 #[.int .i64 id, .int .i64 day] w fun e w' => e = .returned (Inq.val (crd id day)) ∧ Gr w w' := by
  unfold Inq.val crd
  dsimp only
  go_enter Tryd.func33, Tryd.ntmps33
  go_wp2
  refine bodyPost_ret (v := .agg #[.int .i64 id, .int .i64 day, .int .i64 900, .int .i64 5, .int .u8 1, .bool false]) ?_ rfl ⟨rfl, ?_⟩
  · exact results_cell_row (p := 4) (ty := 27) Tryd.results33 _ _ w.heap.size 27 _ (0, 0) _ rfl (heap_alloc_new w _) Tryd.underlying27 rfl (by kernel_rfl)
  · (repeat (first | with_reducible exact Gr.refl _ | with_reducible refine Gr.alloc ?_ _ | with_reducible refine Gr.setCell ?_ (by simp) _ | with_reducible refine Gr.setCell ?_ (by simp; omega) _ | with_reducible refine Gr.drew ?_ | with_reducible refine Gr.drewN ?_ _))

set_option maxRecDepth 100000 in
set_option maxHeartbeats 2000000 in
theorem field_sigs (la : Option Addr) (ln lc : Nat) (sa : Option Addr) (sn sc : Nat) (w : World) : (Instr.field 25 (.agg #[.slice la ln lc, .slice sa sn sc]) 1).run Tryd.prog w = .ok (.slice sa sn sc) w := by kernel_rfl
set_option maxRecDepth 100000 in
set_option maxHeartbeats 2000000 in
theorem is_any (day : Int) (fz al : Bool) (w : World) (hG : LaidL w) :
    Calls Tryd.prog 30 #[.int .i64 day, .bool fz, .bool al] w fun e w' => e = .returned (.bool (stN gSs 5 day == 0 && (stFz gSs 5 day == fz && stAl gSs 5 day == al))) ∧ Gr w w' := by
  have hfl := field_sigs
  have HGt := hid (fun W => gate_any W)
  have HS := hid (fun b2 W (k : Gr w W) (h : SigsIn W (some ⟨b2, 0, none⟩) 4 gSs) (h2 : b2 < W.heap.size) => stateTop_any (some ⟨b2, 0, none⟩) 4 4 gSs 5 day W h (fun b o e => by cases e; exact h2) (hG.gr k) (fun _ => by omega))
  clear hG
  generalize stN gSs 5 day = sn at *
  generalize stFz gSs 5 day = sf at *
  generalize stAl gSs 5 day = sa at *
  unfold Gat.val at HGt
  dsimp only at HGt
  obtain ⟨x1, h1⟩ : ∃ x, (sn == 0) = x := ⟨_, rfl⟩
  obtain ⟨x2, h2⟩ : ∃ x, (sf == fz) = x := ⟨_, rfl⟩
  obtain ⟨x3, h3⟩ : ∃ x, (sa == al) = x := ⟨_, rfl⟩
  rw [h1, h2, h3]
  cases x1
  case' true => cases x2
  all_goals
    go_enter Tryd.func30, Tryd.ntmps30
    go_wp2_with (first
      | (go_at_call 32; refine (HGt.out _).mono ?_; rintro e w1 ⟨b1, b2, rfl, k1, k2, hb1⟩; have HK := hid (And.intro k1 k2); clear k1 k2)
      | (go_at_call 24; refine (HS.out _ _ hb1 HK.out.1.sigs HK.out.2).mono ?_; rintro e w2 ⟨rfl, hb2⟩))
    go_ret
    exact ⟨by first | rfl | simp_all, hb1.trans hb2⟩

set_option maxRecDepth 100000 in
set_option maxHeartbeats 2000000 in
theorem becomes_any (who day pu want : Int) (called : Bool) (b off cap : Nat) (w : World) (hR : LaidR w b off cap) (hG : LaidL w) (hp : 0 ≤ pu ∧ pu ≤ 255) (hi : inqB ⟨0, day, who, 5, pu, called⟩ = true) :
    Calls Tryd.prog 31 #[.int .i64 who, .int .i64 day, .int .u8 pu, .bool called, .int .u8 want] w fun e w' => e = .returned (.bool (askN gLs gSs ⟨0, day, who, 5, pu, called⟩ == want)) ∧ Gr w w' := by
  have HGt := hid (fun W => gate_any W)
  have hge : gateN gLs gSs = 0 := by decide
  have HS := hid (fun b1 b2 W (k : Gr w W) (h : GatIn W ⟨some ⟨b1, 0, none⟩, 2, 2, some ⟨b2, 0, none⟩, 4, 4⟩ gLs gSs) (h2 : b2 < W.heap.size) => askTop_any ⟨some ⟨b1, 0, none⟩, 2, 2, some ⟨b2, 0, none⟩, 4, 4⟩ gLs gSs ⟨0, day, who, 5, pu, called⟩ b off cap W h (fun b o e => by cases e; exact h2) (show 4 < 1000 by omega) (hR.gr k) (hG.gr k) hp)
  rw [hge, hi] at HS
  clear hR hG hge hi hp
  generalize askN gLs gSs ⟨0, day, who, 5, pu, called⟩ = an at *
  unfold Gat.val Inq.val at *
  dsimp only at *
  simp only [and_self, if_true] at HS
  obtain ⟨x1, h1⟩ : ∃ x, (an == want) = x := ⟨_, rfl⟩
  rw [h1]
  go_enter Tryd.func31, Tryd.ntmps31
  go_wp2_with (first
    | (go_at_call 32; refine (HGt.out _).mono ?_; rintro e w1 ⟨b1, b2, rfl, k1, k2, hb1⟩; have HK := hid (And.intro k1 k2); clear k1 k2)
    | (go_at_call 14; refine (HS.out _ _ _ hb1 HK.out.1 HK.out.2).mono ?_; rintro e w2 ⟨rfl, hb2⟩))
  go_ret
  exact ⟨by first | rfl | simp_all, hb1.trans hb2⟩
end Go.Proofs.YtliehlefpodhaaaDoor
