/- ready of the inquiry laws: whether a gate and inquiries are valid, and not great, and so are a file and a day. For every gate and inquiries. What others see of traces, and what counts, in plain functions. For all gates and inquiries. -/
import Derived.Test.YtliehlefpodhaaaDoorOGate
import Derived.Test.YtliehlefpodhaaaDoorOTraces
import Derived.Test.YtliehlefpodhaaaDoorOCount
namespace Go.Proofs.YtliehlefpodhaaaDoor
open Go.RowKit

def readyB (ln sn n : Nat) (ls : List Lic) (ss : List Sig) (zs : List Inq) (file day : Int) : Bool :=
  !greatB ln sn n && (gateN ls ss == 0) && inqsB zs && decide (0 ≤ file) && decide (file ≤ 999999) && decide (0 ≤ day) && decide (day ≤ 100000)
structure ReadyF (ln sn n : Nat) (ls : List Lic) (ss : List Sig) (zs : List Inq) (file day : Int) : Prop where
  great : ln ≤ 60 ∧ sn ≤ 60 ∧ n ≤ 60
  gate : gateN ls ss = 0
  inqs : inqsB zs = true
  file : 0 ≤ file ∧ file ≤ 999999
  day : 0 ≤ day ∧ day ≤ 100000
theorem readyB_true {ln sn n : Nat} {ls : List Lic} {ss : List Sig} {zs : List Inq} {file day : Int} (h : readyB ln sn n ls ss zs file day = true) : ReadyF ln sn n ls ss zs file day := by
  unfold readyB at h
  simp only [Bool.and_eq_true, Bool.not_eq_true', decide_eq_true_eq, beq_iff_eq] at h
  obtain ⟨⟨⟨⟨⟨⟨h1, h2⟩, h3⟩, h4⟩, h5⟩, h6⟩, h7⟩ := h
  exact ⟨greatB_false h1, h2, h3, ⟨h4, h5⟩, ⟨h6, h7⟩⟩
theorem ReadyF.sigs {ln sn n : Nat} {ls : List Lic} {ss : List Sig} {zs : List Inq} {file day : Int} (h : ReadyF ln sn n ls ss zs file day) : sigsB ss = true := by
  have := h.gate
  unfold gateN at this
  split at this
  · split at this
    · assumption
    · omega
  · omega

set_option maxRecDepth 100000 in
set_option maxHeartbeats 4000000 in
theorem ready_any (g : Gat) (ls : List Lic) (ss : List Sig) (A : Option Addr) (n c : Nat) (zs : List Inq) (file day : Int) (w : World) (hg : GatIn w g ls ss) (hi : InqsIn w A n zs) :
    Calls Tryd.prog 34 #[g.val, .slice A n c, .int .i64 file, .int .i64 day] w fun e w' => e = .returned (.bool (readyB g.ln g.sn n ls ss zs file day)) ∧ Gr w w' := by
  have HGr := hid (fun W => great9_any g A n c W)
  have HC := hid (fun W (k : Gr w W) => refGateCheck_any g ls ss W (hg.gr k))
  have HI := hid (fun W (k : Gr w W) => refInquiries_any A n c zs W (hi.gr k))
  clear hg hi
  unfold readyB
  generalize greatB g.ln g.sn n = b0 at *
  generalize gateN ls ss = gn at *
  generalize inqsB zs = b2 at *
  obtain ⟨la, ln, lc, sa, sn, sc⟩ := g
  unfold Gat.val at *
  dsimp only at *
  obtain ⟨b1, h1⟩ : ∃ b, (gn == 0) = b := ⟨_, rfl⟩
  obtain ⟨b3, h3⟩ : ∃ b, decide (0 ≤ file) = b := ⟨_, rfl⟩
  obtain ⟨b4, h4⟩ : ∃ b, decide (file ≤ 999999) = b := ⟨_, rfl⟩
  obtain ⟨b5, h5⟩ : ∃ b, decide (0 ≤ day) = b := ⟨_, rfl⟩
  obtain ⟨b6, h6⟩ : ∃ b, decide (day ≤ 100000) = b := ⟨_, rfl⟩
  rw [h1, h3, h4, h5, h6]
  cases b0
  case' false => cases b1
  case' false.true => cases b2
  case' false.true.true => cases b3
  case' false.true.true.true => cases b4
  case' false.true.true.true.true => cases b5
  all_goals
    go_enter Tryd.func34, Tryd.ntmps34
    go_wp2_with (first
      | (go_at_call 12; (with_reducible refine (HGr.out _).mono ?_); rotate_right; rintro e w1 ⟨rfl, hbw1⟩; obtain ⟨hcw1, hfw1, hzw1⟩ := hbw1.rules; (try simp at hzw1); have hzw1_0 : w.heap.size < w1.heap.size := (by omega); have hyw1_0 : w.heap.size ≤ w1.heap.size := (by omega))
      | (go_at_call 27; (with_reducible refine (HC.out _ ?_).mono ?_); rotate_right; rintro e w2 ⟨rfl, hbw2⟩; obtain ⟨hcw2, hfw2, hzw2⟩ := hbw2.rules; (try simp at hzw2); have hzw2_0 : w.heap.size < w2.heap.size := (by omega); have hyw2_0 : w.heap.size ≤ w2.heap.size := (by omega))
      | (go_at_call 38; (with_reducible refine (HI.out _ ?_).mono ?_); rotate_right; rintro e w3 ⟨rfl, hbw3⟩; obtain ⟨hcw3, hfw3, hzw3⟩ := hbw3.rules; (try simp at hzw3); have hzw3_0 : w.heap.size < w3.heap.size := (by omega); have hyw3_0 : w.heap.size ≤ w3.heap.size := (by omega)))
    all_goals first
      | (go_ret
         exact ⟨by first | rfl | simp_all, by (repeat (first | with_reducible exact Gr.refl _ | with_reducible refine Gr.trans ?_ hbw3 | with_reducible refine Gr.trans ?_ hbw2 | with_reducible refine Gr.trans ?_ hbw1 | with_reducible refine Gr.alloc ?_ _ | with_reducible refine Gr.setCell ?_ (by simp) _ | with_reducible refine Gr.setCell ?_ (by simp; omega) _ | with_reducible refine Gr.drew ?_ | with_reducible refine Gr.drewN ?_ _))⟩)
      | ((repeat (first | with_reducible exact Gr.refl _ | with_reducible refine Gr.trans ?_ hbw2 | with_reducible refine Gr.trans ?_ hbw1 | with_reducible refine Gr.alloc ?_ _ | with_reducible refine Gr.setCell ?_ (by simp) _ | with_reducible refine Gr.setCell ?_ (by simp; omega) _ | with_reducible refine Gr.drew ?_ | with_reducible refine Gr.drewN ?_ _)); done)
end Go.Proofs.YtliehlefpodhaaaDoor
namespace Go.Proofs.YtliehlefpodhaaaDoor
open Go.RowKit

/-- An inquiry that was told for credit. -/
def toldB (ls : List Lic) (ss : List Sig) (q : Inq) : Bool := askN ls ss q == 0 && q.purpose == 1
theorem told_pairwise {ls : List Lic} {ss : List Sig} {zs : List Inq} (h : inqsB zs = true) : inqsB (zs.filter (toldB ls ss)) = true := by
  have hp := (inqs_pairwise h).filter (toldB ls ss)
  have hl : (zs.filter (toldB ls ss)).length ≤ 40 := by
    have h1 := List.length_filter_le (toldB ls ss) zs
    have h2 : zs.length ≤ 40 := by unfold inqsB at h; simp only [Bool.and_eq_true, decide_eq_true_eq] at h; exact h.1
    omega
  have hm : ∀ q ∈ zs.filter (toldB ls ss), inqB q = true := fun q hq => inqsB_mem h (List.mem_filter.1 hq).1
  generalize zs.filter (toldB ls ss) = l at hp hl hm
  refine inqsB_good hl (fun j hj => ?_)
  unfold inqBad
  have h1 := hm l[j]! (mem_get hj)
  rw [h1]
  by_cases h0 : 0 < j
  · have h2 := List.pairwise_iff_getElem.1 hp (j - 1) j (by omega) hj (by omega)
    rw [getElem!_pos l j hj, getElem!_pos l (j - 1) (by omega)]
    simp; omega
  · simp [h0]
theorem hid_told {ls : List Lic} {ss : List Sig} {day : Int} {q : Inq} (h : hidB day (trcOf ls ss q) = false) : toldB ls ss q = true := by
  unfold hidB trcOf at h
  unfold toldB
  simp only [Bool.or_eq_false_iff, bne_eq_false_iff_eq, beq_iff_eq, Bool.and_eq_true] at *
  exact ⟨h.1.1, h.1.2⟩
/-- What is refused counts nowhere. -/
theorem told_traces (ls : List Lic) (ss : List Sig) (zs : List Inq) (file day : Int) : tracesL ls ss (zs.filter (toldB ls ss)) file day 1 = tracesL ls ss zs file day 1 := by
  unfold tracesL
  congr 1
  induction zs with
  | nil => rfl
  | cons q zs ih =>
    cases ht : toldB ls ss q with
    | true =>
      rw [List.filter_cons, ht]
      simp only [if_true]
      rw [List.filter_cons, List.filter_cons]
      cases hk : keptB file day q
      · simpa [hk] using ih
      · simp only [if_true, List.map_cons, List.filter_cons]
        split
        · rw [ih]
        · exact ih
    | false =>
      rw [List.filter_cons, ht]
      simp only [Bool.false_eq_true, if_false]
      rw [ih]
      rw [List.filter_cons]
      cases hk : keptB file day q
      · simp
      · have hh : hidB day (trcOf ls ss q) = true := by
          cases e : hidB day (trcOf ls ss q) with
          | true => rfl
          | false => rw [hid_told e] at ht; cases ht
        simp [hh]
/-- What others see is of what the person sees. -/
theorem others_traces {ls : List Lic} {ss : List Sig} {zs : List Inq} (h : inqsB zs = true) (file day pu : Int) (hp : (pu == 5) = false) : tracesL ls ss zs file day pu = (tracesL ls ss zs file day 5).filter (fun t => !hidB day t) := by
  unfold tracesL
  have h5 : ((5 : Int) == 5) = true := rfl
  simp only [hp, h5, Bool.false_or, Bool.true_or]
  have e : ∀ l : List Trc, l.filter (fun _ => true) = l := fun l => by simp
  rw [e]
  have hpw := keptL_pairwise (ls := ls) (ss := ss) (file := file) (now := day) h (fun _ => true)
  rw [e] at hpw
  unfold keptL at hpw
  generalize (zs.filter (keptB file day)).map (trcOf ls ss) = l at hpw
  exact (sortT_eq (hpw.filter _) ((sortT_perm l).filter _) ((sortT_sorted hpw).filter _)).symm
theorem tracesN_ok {ls : List Lic} {ss : List Sig} {zs : List Inq} {file day pu : Int} (h1 : gateN ls ss = 0) (h2 : inqsB zs = true) (h3 : 0 ≤ file ∧ file ≤ 999999) (h4 : 0 ≤ day ∧ day ≤ 100000) (h5 : 1 ≤ pu ∧ pu ≤ 6) : tracesN ls ss zs file day pu = 0 := by
  unfold tracesN inB
  rw [if_pos h1, h2]
  simp [h3, h4, h5]
theorem tracesR_ok {ls : List Lic} {ss : List Sig} {zs : List Inq} {file day pu : Int} (h : tracesN ls ss zs file day pu = 0) : tracesR ls ss zs file day pu = tracesL ls ss zs file day pu := by
  unfold tracesR; rw [if_pos h]
theorem filter_snoc {α : Type} [Inhabited α] {p : α → Bool} {l : List α} {k : Nat} (hk : k < l.length) : (l.take (k + 1)).filter p = (l.take k).filter p ++ (if p l[k]! = true then [l[k]!] else []) := by
  rw [List.take_succ_eq_append_getElem hk, List.filter_append, ← getElem!_pos l k hk]
  congr 1
  rw [List.filter_cons]
  rfl
/-- The next one that is left. -/
theorem filter_next {α : Type} [Inhabited α] {p : α → Bool} {l : List α} {k : Nat} (hk : k < l.length) (hp : p l[k]! = true) : ((l.take k).filter p).length < (l.filter p).length ∧ (l.filter p)[((l.take k).filter p).length]! = l[k]! := by
  have e : l = l.take k ++ (l[k]! :: l.drop (k + 1)) := by
    rw [getElem!_pos l k hk, ← List.drop_eq_getElem_cons hk, List.take_append_drop]
  have e2 : l.filter p = (l.take k).filter p ++ (l[k]! :: (l.drop (k + 1)).filter p) := by
    have h := congrArg (List.filter p) e
    rw [List.filter_append, List.filter_cons, if_pos hp] at h
    exact h
  have hl := congrArg List.length e2
  simp only [List.length_append, List.length_cons] at hl
  have hlt : ((l.take k).filter p).length < (l.filter p).length := by omega
  have hq : (l.filter p)[((l.take k).filter p).length]? = some l[k]! := by
    rw [e2, List.getElem?_append_right (Nat.le_refl _)]
    simp
  refine ⟨hlt, ?_⟩
  rw [List.getElem!_eq_getElem?_getD, hq]
  rfl
end Go.Proofs.YtliehlefpodhaaaDoor
