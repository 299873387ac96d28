/- Everybody but one: three questions of all, of those before and of those after somebody: reckoned through for each number of people and each place. No program in sight. Everybody but one: the three questions on the table of the statement, as tables and audits of the chapter: what they answer. No program in sight. Everybody but one: the function that asks, and a table that grows. -/
import Derived.Test.YtimhkkijoelmhaaQHideLaw10
import Derived.Test.YtimhkkijoelmhaaQBoundPure10
import Derived.Test.YtimhkkijoelmhaaQClone10
import Derived.Test.YtimhkkijoelmhaaQAliveKit10
import Derived.Test.YtimhkkijoelmhaaQAppend
namespace Go.Proofs.Ytimhkkijoelmhaa
open Go.RowKit

theorem newR_congr {n m k : Nat} {b b' : Nat → Bool} (h : ∀ j, j < n → b j = b' j) : newR n m b k = newR n m b' k := by
  unfold newR
  congr 1
  exact List.map_congr_left (fun i hi => by rw [h i (List.mem_range.1 hi)])
theorem solveR_congr {n m : Nat} {a a' : Nat → Nat → Bool} (k : Nat) (h : ∀ i, i < k → ∀ j, j < n → a i j = a' i j) : solveR n m a k = solveR n m a' k := by
  induction k with
  | zero => rfl
  | succ k ih =>
    show stepR n (solveR n m a k) (newR n m (a k) k) = stepR n (solveR n m a' k) (newR n m (a' k) k)
    rw [ih (fun i hi => h i (by omega)), newR_congr (h k (by omega))]
/-- Who is asked for, by place. -/
def as3 (k : Nat) (q j : Nat) : Bool := if q = 0 then true else if q = 1 then decide (j < k) else decide (k < j)
def folQ (n : Nat) (rows : List Rw) (i : Nat) : Bool := match lookR rows i with
  | none => false
  | some x => decide (someN n x = 1)
def chkHow (n k : Nat) : Bool := match lookR (solveR n 3 (as3 k) 3) k with
  | none => false
  | some x => decide (someN n x = 1) && decide (wholeR (x.drop n ++ [1]) = [1, if k = 0 then 0 else -1, if k + 1 = n then 0 else -1, 1])
def chkHide (n k : Nat) : Bool := (lookR (solveR n 2 (fun q j => as3 k (q + 1) j) 2) k).isNone
def chkDed (n k : Nat) : Bool := decide ((List.range n).filter (folQ n (solveR n 1 (fun _ j => decide (k < j)) 1)) = if k + 2 = n then [k + 1] else [])
theorem chk_all : ((List.range 17).all fun n => (List.range n).all fun k => chkHow n k && (chkHide n k && chkDed n k)) = true := by kernel_rfl
theorem chk_of {n k : Nat} (hn : n ≤ 16) (hk : k < n) : chkHow n k = true ∧ chkHide n k = true ∧ chkDed n k = true := by
  have h := List.all_eq_true.1 chk_all n (List.mem_range.2 (by omega))
  have h2 := List.all_eq_true.1 h k (List.mem_range.2 hk)
  simp only [Bool.and_eq_true] at h2
  exact ⟨h2.1, h2.2.1, h2.2.2⟩
end Go.Proofs.Ytimhkkijoelmhaa
namespace Go.Proofs.Ytimhkkijoelmhaa
open Go.RowKit

/-- Whoever stands at a place. -/
def butS (v : Nat → Int) (i : Nat) : Sbj := ⟨7 * (i : Int), none, 2, 0, [(i : Int), v i]⟩
def butT (v : Nat → Int) (n : Nat) : List Sbj := (List.range n).map (butS v)
/-- A question of those from lo to hi. -/
def butQ (c lo hi : Int) : Qst := ⟨none, 1, 0, [⟨0, lo, hi⟩], 1, c, 1⟩
/-- The question of those before. -/
def butF (c : Int) (k : Nat) : Qst := if k = 0 then butQ c 1 0 else butQ c 0 ((k : Int) - 1)
section
variable {v : Nat → Int} {n k : Nat} {c : Int} (hn : n ≤ 16) (hk : k < n) (hv : ∀ i, i < n → 0 ≤ v i ∧ v i ≤ 65535) (hc : 1 ≤ c ∧ c ≤ 65536)
theorem butT_len : (butT v n).length = n := by simp [butT]
theorem butT_get {i : Nat} (hi : i < n) : (butT v n)[i]! = butS v i := by
  rw [getElem!_pos _ i (by rw [butT_len]; exact hi)]
  simp [butT]
theorem butT_apart : (butT v n).Pairwise (fun x y => x.id ≠ y.id) := by
  unfold butT
  rw [List.pairwise_map]
  exact List.nodup_range.imp (fun h e => h (by unfold butS at e; dsimp only at e; omega))
theorem butT_sorted : (butT v n).Pairwise (fun x y => x.id < y.id) := by
  unfold butT
  rw [List.pairwise_map]
  exact List.pairwise_lt_range.imp (fun h => by unfold butS; dsimp only; omega)
theorem butT_ord : ordI (butT v n) = butT v n := (ord_eq butT_apart (List.Perm.refl _) butT_sorted).symm
include hn hv in
theorem butT_table : tableB 2 (butT v n) = true := by
  refine table_iff.2 ⟨⟨by omega, by omega⟩, by rw [butT_len]; exact hn, butT_apart, fun s hs => ?_⟩
  obtain ⟨i, hi, rfl⟩ := List.mem_map.1 hs
  have hi2 := List.mem_range.1 hi
  obtain ⟨h1, h2⟩ := hv i hi2
  unfold sbjB butS inB
  simp only [List.length_cons, List.length_nil, List.all_cons, List.all_nil, Bool.and_true, Bool.and_eq_true, decide_eq_true_eq, beq_iff_eq]
  refine ⟨⟨⟨by omega, by omega⟩, by omega⟩, ⟨by omega, by omega⟩, by omega, by omega⟩
include hc in
theorem butQ_ok {lo hi : Int} (h1 : 0 ≤ lo ∧ lo ≤ 1000000) (h2 : 0 ≤ hi ∧ hi ≤ 1000000) : qstB 2 (butQ c lo hi) = true := by
  unfold qstB butQ whrB inB
  simp only [List.length_cons, List.length_nil, List.all_cons, List.all_nil, Bool.and_true, Bool.and_eq_true, decide_eq_true_eq]
  refine ⟨⟨⟨?_, by omega, by omega⟩, by omega⟩, ⟨by omega, by omega⟩, ⟨by omega, by omega⟩, by omega, by omega⟩
  rw [if_neg (by omega)]
  simp only [Bool.and_eq_true, decide_eq_true_eq]
  exact ⟨⟨by omega, by omega⟩, by omega, by omega⟩
theorem butQ_ask {lo hi : Int} (i : Nat) : askedB (butS v i) (butQ c lo hi) = decide (lo ≤ (i : Int) ∧ (i : Int) ≤ hi) := by
  unfold askedB butS butQ inB
  simp
/-- The three. -/
def but3 (c : Int) (n k : Nat) : List Qst := [butQ c 0 n, butF c k, butQ c ((k : Int) + 1) 1000000]
theorem butF_is : ∃ lo hi, butF c k = butQ c lo hi ∧ (lo ≤ 1 ∧ 0 ≤ lo) ∧ (hi ≤ k ∧ 0 ≤ hi) := by
  unfold butF
  by_cases h : k = 0
  · rw [if_pos h]; exact ⟨_, _, rfl, by omega, by omega⟩
  · rw [if_neg h]; exact ⟨_, _, rfl, by omega, by omega⟩
include hn hk hc in
theorem but3_all : ∀ q ∈ but3 c n k, qstB 2 q = true ∧ ∀ a ∈ but3 c n k, kindB q a = true := by
  obtain ⟨lo, hi, e, h1, h2⟩ := butF_is (c := c) (k := k)
  unfold but3
  rw [e]
  intro q hq
  have hcol : ∀ q ∈ [butQ c 0 n, butQ c lo hi, butQ c ((k : Int) + 1) 1000000], q.col = 1 ∧ q.clip = c := by
    intro q hq
    simp only [List.mem_cons, List.not_mem_nil, or_false] at hq
    rcases hq with rfl | rfl | rfl <;> exact ⟨rfl, rfl⟩
  refine ⟨?_, fun a ha => ?_⟩
  · simp only [List.mem_cons, List.not_mem_nil, or_false] at hq
    rcases hq with rfl | rfl | rfl
    · exact butQ_ok hc (by omega) (by omega)
    · exact butQ_ok hc (by omega) (by omega)
    · exact butQ_ok hc (by omega) (by omega)
  · unfold kindB
    rw [(hcol q hq).1, (hcol q hq).2, (hcol a ha).1, (hcol a ha).2]
    simp
include hn hk hc in
theorem but3_audit {qs : List Qst} (hs : ∀ q ∈ qs, q ∈ but3 c n k) (hl : qs.length ≤ 8) : auditB 2 qs = true := by
  unfold auditB
  simp only [Bool.and_eq_true, decide_eq_true_eq, List.all_eq_true]
  refine ⟨hl, fun q hq => ⟨(but3_all hn hk hc q (hs q hq)).1, (but3_all hn hk hc q (hs q hq)).2 _ (hs _ ?_)⟩⟩
  rw [getElem!_pos qs 0 (List.length_pos_of_mem hq)]
  exact List.getElem_mem _
include hn hk hv hc in
theorem but3_auditN {qs : List Qst} (hs : ∀ q ∈ qs, q ∈ but3 c n k) (hl : qs.length ≤ 8) : auditN 2 (butT v n) qs = 0 := by
  unfold auditN
  rw [if_pos (butT_table hn hv), if_pos (but3_audit hn hk hc hs hl)]
include hn in
theorem but3_asks {q : Nat} (hq : q < 3) {i : Nat} (hi : i < n) : askedB (butT v n)[i]! (but3 c n k)[q]! = as3 k q i := by
  rw [butT_get hi]
  unfold but3 as3
  rcases (show q = 0 ∨ q = 1 ∨ q = 2 by omega) with rfl | rfl | rfl
  · show askedB (butS v i) (butQ c 0 n) = true
    rw [butQ_ask]
    exact decide_eq_true ⟨by omega, by omega⟩
  · show askedB (butS v i) (butF c k) = decide (i < k)
    unfold butF
    by_cases h : k = 0
    · rw [if_pos h, butQ_ask, decide_eq_decide]; omega
    · rw [if_neg h, butQ_ask, decide_eq_decide]; omega
  · show askedB (butS v i) (butQ c ((k : Int) + 1) 1000000) = decide (k < i)
    rw [butQ_ask, decide_eq_decide]; omega
include hk in
theorem but_idx : (ordI (butT v n)).findIdx? (fun s => s.id == 7 * (k : Int)) = some k := by
  rw [butT_ord, List.findIdx?_eq_some_iff_getElem]
  refine ⟨by rw [butT_len]; exact hk, ?_, ?_⟩
  · rw [← getElem!_pos _ k (by rw [butT_len]; exact hk), butT_get hk]
    simp [butS]
  · intro i hi
    rw [← getElem!_pos _ i (by rw [butT_len]; omega), butT_get (by omega)]
    simp only [butS, beq_iff_eq]
    omega
include hn hk hv hc in
/-- How the value follows. -/
theorem but_how : howT 2 (butT v n) (but3 c n k) (7 * (k : Int)) = ([1, if k = 0 then 0 else -1, if k + 1 = n then 0 else -1], 1, 0) := by
  have ha := but3_auditN hn hk hv hc (qs := but3 c n k) (fun q h => h) (by simp [but3])
  have hr : rowsR (butT v n) (but3 c n k) = solveR n 3 (as3 k) 3 := by
    unfold rowsR
    rw [butT_len, butT_ord]
    exact solveR_congr 3 (fun q hq i hi => but3_asks hn hq hi)
  obtain ⟨h1, _, _⟩ := chk_of hn hk
  unfold chkHow at h1
  unfold howT byR
  rw [if_pos ha, hr, but_idx hk, butT_len]
  simp only [Option.bind_some]
  cases hx : lookR (solveR n 3 (as3 k) 3) k with
  | none => rw [hx] at h1; cases h1
  | some x =>
    rw [hx] at h1
    simp only [Bool.and_eq_true, decide_eq_true_eq] at h1
    simp only [Option.bind_some]
    rw [if_pos h1.1]
    show ((wholeR (x.drop n ++ [1])).take 3, (wholeR (x.drop n ++ [1]))[3]!, (0 : Int)) = _
    rw [h1.2]
    rfl
include hn hk hv hc in
/-- The two that are not of all: something may change. -/
theorem but_hide : (hideT 2 (butT v n) [butF c k, butQ c ((k : Int) + 1) 1000000] (7 * (k : Int))).2 = 0 := by
  have ha := but3_auditN hn hk hv hc (qs := [butF c k, butQ c ((k : Int) + 1) 1000000]) (fun q h => by unfold but3; simp only [List.mem_cons, List.not_mem_nil, or_false] at h ⊢; exact .inr h) (by simp)
  have hr : rowsR (butT v n) [butF c k, butQ c ((k : Int) + 1) 1000000] = solveR n 2 (fun q j => as3 k (q + 1) j) 2 := by
    unfold rowsR
    rw [butT_len, butT_ord]
    refine solveR_congr 2 (fun q hq i hi => ?_)
    rw [← but3_asks (v := v) (c := c) hn (show q + 1 < 3 by omega) hi]
    rfl
  obtain ⟨_, h1, _⟩ := chk_of hn hk
  unfold chkHide at h1
  unfold hideT
  rw [if_pos ha, but_idx hk, hr, butT_len]
  have hf : freeR n (solveR n 2 (fun q j => as3 k (q + 1) j) 2) k = some k := by
    unfold freeR
    rw [Option.isNone_iff_eq_none.1 h1]
  simp only [hf]
include hn hk hv hc in
/-- Those after, alone. -/
theorem but_ded : auditN 2 (butT v n) [butQ c ((k : Int) + 1) 1000000] = 0 ∧ deducedT 2 (butT v n) [butQ c ((k : Int) + 1) 1000000] = if k + 2 = n then [7 * ((k : Int) + 1)] else [] := by
  have ha := but3_auditN hn hk hv hc (qs := [butQ c ((k : Int) + 1) 1000000]) (fun q h => by unfold but3; simp only [List.mem_cons, List.not_mem_nil, or_false] at h ⊢; exact .inr (.inr h)) (by simp)
  refine ⟨ha, ?_⟩
  have hr : rowsR (butT v n) [butQ c ((k : Int) + 1) 1000000] = solveR n 1 (fun _ j => decide (k < j)) 1 := by
    unfold rowsR
    rw [butT_len, butT_ord]
    refine solveR_congr 1 (fun q hq i hi => ?_)
    obtain rfl : q = 0 := by omega
    have := but3_asks (v := v) (c := c) (k := k) hn (show 2 < 3 by omega) hi
    exact this
  obtain ⟨_, _, h1⟩ := chk_of hn hk
  unfold chkDed at h1
  have h2 := of_decide_eq_true h1
  unfold deducedT
  rw [if_pos ha, ded_fol _ rfl, butT_len]
  have hfl : folB (butT v n) [butQ c ((k : Int) + 1) 1000000] = folQ n (solveR n 1 (fun _ j => decide (k < j)) 1) := by
    funext i
    unfold folB folQ
    rw [hr, butT_len]
    cases lookR (solveR n 1 (fun _ j => decide (k < j)) 1) i <;> rfl
  rw [hfl, h2, butT_ord]
  by_cases he : k + 2 = n
  · rw [if_pos he, if_pos he]
    show [(butT v n)[k + 1]!.id] = _
    rw [butT_get (by omega)]
    show [7 * ((k + 1 : Nat) : Int)] = _
    rfl
  · rw [if_neg he, if_neg he]; rfl
end
end Go.Proofs.Ytimhkkijoelmhaa
namespace Go.Proofs.Ytimhkkijoelmhaa
open Go.RowKit

/-- A question as the function lays it. -/
def butG (b : Nat) (c lo hi : Int) : Qst := ⟨some ⟨b, 0, none⟩, 1, 1, [⟨0, lo, hi⟩], 1, c, 1⟩
theorem butG_bare (b : Nat) (c lo hi : Int) : (butG b c lo hi).bare = butQ c lo hi := rfl
theorem butG_in {w : World} {b : Nat} {c lo hi : Int} {t : TypeId} (h : w.heap[b]? = some (.cells #[.int .i64 0, .int .i64 lo, .int .i64 hi] t (0, 0))) : QstIn w (butG b c lo hi) :=
  ⟨rd_row10 h 3 1 rfl, by show 1 ≤ _; omega⟩

set_option maxRecDepth 100000 in
set_option maxHeartbeats 400000 in
theorem butAsk_any (clip lo hi : Int) (g : Nat) (w : World) (hg : w.cell? ⟨g, 0, none⟩ = some (.int .u16 clip)) (hc : 0 ≤ clip ∧ clip ≤ 65535) :
    Calls Try.prog 41 #[.int .i64 lo, .int .i64 hi, .pointer (some ⟨g, 0, none⟩)] w fun e w' => ∃ b, e = .returned (.agg #[.slice (some ⟨b, 0, none⟩) 1 1, .int .i64 1, .int .i64 (1 + clip), .int .i64 1]) ∧ (Gr w w' ∧ w.heap.size ≤ b ∧ w'.heap[b]? = some (.cells #[.int .i64 0, .int .i64 lo, .int .i64 hi] 72 (0, 0))) := by
  have hgl : g < w.heap.size := block_lt_of_cell hg
  have hw : IntKind.i64.wrap clip = clip := by rw [IntKind.wrap_i64]; omega
  have hw1 : IntKind.i64.wrap (1 + clip) = 1 + clip := by rw [IntKind.wrap_i64]; omega
  go_enter Try.func41, Try.ntmps41
  go_wp2_with fail
  obtain ⟨r1, r2⟩ := rows2 w (.cells #[.slice (some ⟨w.heap.size + 1, 0, none⟩) 1 1, .int .i64 1, .int .i64 (1 + clip), .int .i64 1] 25) (.cells #[.int .i64 0, .int .i64 lo, .int .i64 hi] 72)
  have g2 : Gr w ((w.alloc (.cells #[.slice (some ⟨w.heap.size + 1, 0, none⟩) 1 1, .int .i64 1, .int .i64 (1 + clip), .int .i64 1] 25)).alloc (.cells #[.int .i64 0, .int .i64 lo, .int .i64 hi] 72)) := ((Gr.refl w).alloc _).alloc _
  exact bodyPost_ret (ret_qst (p := 5) Try.results41 _ _ w.heap.size (.slice (some ⟨w.heap.size + 1, 0, none⟩) 1 1) (.int .i64 1) (.int .i64 (1 + clip)) (.int .i64 1) rfl r1) rfl ⟨w.heap.size + 1, rfl, g2, by omega, r2⟩

/-- The table while it grows: each subject's values lie in a block of their own. -/
structure ButL (W : World) (base : Nat) (v : Nat → Int) (t : Nat) (val : Value) (zs : List Sbj) : Prop where
  own : W.ownsRow base 60 2 val t (zs.flatMap Sbj.cells)
  bare : zs.map Sbj.bare = butT v t
  each : ∀ s ∈ zs, ∃ b, s.a = some ⟨b, 0, none⟩ ∧ W.heap[b]? = some (.cells (s.vals.map (Value.int .i64)).toArray 3 (0, 0)) ∧ val.ownBlock ≠ some b
theorem ButL.start (W : World) (base : Nat) (v : Nat → Int) : ButL W base v 0 (.slice none 0 0) [] := ⟨⟨rfl, .inl ⟨rfl, rfl⟩⟩, rfl, fun s h => by cases h⟩
theorem ButL.gr {W W' : World} {base t : Nat} {v : Nat → Int} {val : Value} {zs : List Sbj} (h : ButL W base v t val zs) (g : Gr W W') : ButL W' base v t val zs :=
  ⟨ownT_gf h.own g, h.bare, fun s hs => by obtain ⟨b, h1, h2, h3⟩ := h.each s hs; exact ⟨b, h1, row_gr h2 g, h3⟩⟩
theorem butT_succ (v : Nat → Int) (n : Nat) : butT v (n + 1) = butT v n ++ [butS v n] := by
  unfold butT
  rw [List.range_succ, List.map_append]
  rfl
theorem ButL.push {W W' : World} {base t b : Nat} {v : Nat → Int} {val val' : Value} {zs : List Sbj} (h : ButL W base v t val zs)
    (hb : W.heap[b]? = some (.cells #[.int .i64 (t : Int), .int .i64 (v t)] 3 (0, 0))) (hne : val.ownBlock ≠ some b)
    (hown : W'.ownsRow base 60 2 val' (t + 1) (zs.flatMap Sbj.cells ++ [.int .i64 (7 * (t : Int)), .slice (some ⟨b, 0, none⟩) 2 2]))
    (hg : W.grownBy W' val.ownBlock) (hat : val'.ownBlock = val.ownBlock ∨ val'.ownBlock = some W.heap.size) :
    ButL W' base v (t + 1) val' (zs ++ [⟨7 * (t : Int), some ⟨b, 0, none⟩, 2, 2, [(t : Int), v t]⟩]) := by
  have key : ∀ (q : Nat) (o : Obj), W.heap[q]? = some o → val.ownBlock ≠ some q → W'.heap[q]? = some o ∧ val'.ownBlock ≠ some q := by
    intro q o h1 h2
    have hlt := (Array.getElem?_eq_some_iff.1 h1).1
    refine ⟨by rw [hg.block q hlt (fun e => h2 e.symm)]; exact h1, fun e => ?_⟩
    rcases hat with e2 | e2
    · exact h2 (e2.symm.trans e)
    · rw [e2] at e; cases e; omega
  refine ⟨by rw [List.flatMap_append, List.flatMap_singleton]; exact hown, ?_, fun s hs => ?_⟩
  · rw [List.map_append, h.bare, butT_succ]; rfl
  · rcases List.mem_append.1 hs with h1 | h1
    · obtain ⟨q, h2, h3, h4⟩ := h.each s h1
      exact ⟨q, h2, key q _ h3 h4⟩
    · rw [List.mem_singleton.1 h1]
      exact ⟨b, rfl, key b _ hb hne⟩
theorem ButL.inn {W : World} {base t : Nat} {v : Nat → Int} {A : Option Addr} {n c : Nat} {zs : List Sbj} (h : ButL W base v t (.slice A n c) zs) (ht : t ≤ 16) : n = t ∧ SbjsIn W A t zs := by
  have hm : ∀ s ∈ zs, ∃ i, i < t ∧ s.bare = butS v i := by
    intro s hs
    have : s.bare ∈ butT v t := by rw [← h.bare]; exact List.mem_map.2 ⟨s, hs, rfl⟩
    obtain ⟨i, hi, e⟩ := List.mem_map.1 this
    exact ⟨i, List.mem_range.1 hi, e.symm⟩
  have hn : n = t := by
    rcases h.own.2 with ⟨h1, h2⟩ | ⟨g, cap, cur, h1, _⟩
    · cases h1; omega
    · cases h1; rfl
  subst hn
  have hr := Rd.of_own h.own
  refine ⟨rfl, hr, by omega, fun s hs => ?_, fun s hs => ?_⟩
  · obtain ⟨b, h1, h2, _⟩ := h.each s hs
    obtain ⟨i, hi, e⟩ := hm s hs
    have e2 : s.n = 2 := congrArg Sbj.n e
    have e3 : s.vals = [(i : Int), v i] := congrArg Sbj.vals e
    rw [h1, e2, e3]
    rw [e3] at h2
    exact ⟨rd_row10 h2 1 2 rfl, by omega⟩
  · obtain ⟨i, hi, e⟩ := hm s hs
    have e2 : s.id = 7 * (i : Int) := congrArg Sbj.id e
    rw [e2]
    omega
end Go.Proofs.Ytimhkkijoelmhaa
