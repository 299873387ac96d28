/- A region that draws its order, walked by a plan: reads ahead of all, and what makes memory in every order that is left. For any program. A region that draws its order, walked by a plan in which one of three operations may come up. For any program. -/
import Derived.Test.YtlkjimfkapcenaaGreatDoorQAppend
import Derived.Test.YtlkjimfkapcenaaGreatDoorQCutFrom
import Derived.Test.YtlkjimfkapcenaaGreatDoorQMix
namespace Go.Proofs.YtlkjimfkapcenaaGreatDoor
open Go.RowKit
/-- A plan: an operation that reads is taken first; one alone may come up; one of two may come up. -/
inductive Plan where
  | done : Plan
  | take (i : Nat) (p : Plan) : Plan
  | one (i : Nat) (p : Plan) : Plan
  | two (i : Nat) (p : Plan) (j : Nat) (q : Plan) : Plan
section
variable {P : Program}
/-- What is asked of the region. -/
def planB (ops : Array Oper) : Plan → Nat → Array Bool → Bool
  | .done, _, L => (Region.ready .any ops L).isEmpty
  | .take _ _, 0, _ => false
  | .take i p, f + 1, L => (match ops[i]? with | none => false | some o => o.guard.isNone) && Region.free .any ops L i && (Region.ready .any ops L).contains i && planB ops p f (L.setIfInBounds i true)
  | .one _ _, 0, _ => false
  | .one i p, f + 1, L => (match ops[i]? with | none => false | some o => o.guard.isNone) && Region.ready .any ops L == [i] && planB ops p f (L.setIfInBounds i true)
  | .two _ _ _ _, 0, _ => false
  | .two i p j q, f + 1, L => (match ops[i]? with | none => false | some o => o.guard.isNone) && (match ops[j]? with | none => false | some o => o.guard.isNone) && Region.ready .any ops L == [i, j] && planB ops p f (L.setIfInBounds i true) && planB ops q f (L.setIfInBounds j true)
/-- The walk by the plan. -/
def PlanL (P : Program) (ops : Array Oper) (C : World → Prop) (Q : Exit → Act → World → Prop) : Plan → Act → World → Prop
  | .done, a, w => Q .normal a w
  | .take i p, a, w => ∃ o v, ops[i]? = some o ∧ (∀ w, C w → (execOp a.eval o).run P w = .ok (.value v) w) ∧ PlanL P ops C Q p (a.put o.dst v) w
  | .one i p, a, w => ∃ o, ops[i]? = some o ∧ o.wp P a w (fun a' w' => C w' ∧ PlanL P ops C Q p a' w') Q
  | .two i p j q, a, w => (∃ o, ops[i]? = some o ∧ o.wp P a w (fun a' w' => C w' ∧ PlanL P ops C Q p a' w') Q) ∧ (∃ o, ops[j]? = some o ∧ o.wp P a w (fun a' w' => C w' ∧ PlanL P ops C Q q a' w') Q)
variable {ops : Array Oper} {C : World → Prop} {Q : Exit → Act → World → Prop}
theorem wpOp_plain {i : Nat} {o : Oper} {a : Act} {w : World} {K : Act → World → Prop} (ho : ops[i]? = some o) (hg : o.guard = none) (h : o.wp P a w K Q) : wpOp P ops Q i K a w := by
  unfold wpOp
  rw [ho]
  dsimp only
  rw [if_pos (wanted_none hg)]
  exact .inl h
theorem plan_any (hs : Region.noSelect ops = true) (hQ : ∀ c (a : Act) d v w, Q (.panic c) (a.put d v) w → Q (.panic c) a w) : ∀ (p : Plan) (f : Nat) (L : Array Bool) (a : Act) (w : World), planB ops p f L = true → C w → PlanL P ops C Q p a w → wpAnyH P .any ops Q C f L a w := by
  intro p
  induction p with
  | done =>
    intro f L a w hB hC h
    unfold planB at hB
    exact wpAnyH_done (by simpa using hB) h f
  | take i p ih =>
    intro f L a w hB hC h
    cases f with
    | zero => cases hB
    | succ f =>
      unfold planB at hB
      simp only [Bool.and_eq_true] at hB
      obtain ⟨⟨⟨h1, h2⟩, h3⟩, h4⟩ := hB
      obtain ⟨o, v, ho, hv, hn⟩ := h
      rw [ho] at h1
      dsimp only at h1
      exact wpAnyH_take (v := v) ho hs h2 h3 (fun c a' w' => hQ c a' _ _ w') (.inl ⟨wanted_none (by simpa using h1), hv⟩) hC (ih f _ _ w h4 hC hn)
  | one i p ih =>
    intro f L a w hB hC h
    cases f with
    | zero => cases hB
    | succ f =>
      unfold planB at hB
      simp only [Bool.and_eq_true] at hB
      obtain ⟨⟨h1, h2⟩, h4⟩ := hB
      obtain ⟨o, ho, hw⟩ := h
      rw [ho] at h1
      dsimp only at h1
      refine wpAnyH_all (by simpa using h2) (by simp) (fun j hj => ?_)
      have : j = i := by simpa using hj
      subst this
      exact wpOp_plain ho (by simpa using h1) (Oper.wp_mono (fun a' w' hh => ⟨hh.1, ih f _ a' w' h4 hh.1 hh.2⟩) hw)
  | two i p j q ih1 ih2 =>
    intro f L a w hB hC h
    cases f with
    | zero => cases hB
    | succ f =>
      unfold planB at hB
      simp only [Bool.and_eq_true] at hB
      obtain ⟨⟨⟨⟨h1, h1'⟩, h2⟩, h4⟩, h5⟩ := hB
      obtain ⟨⟨o, ho, hw⟩, ⟨o', ho', hw'⟩⟩ := h
      rw [ho] at h1
      rw [ho'] at h1'
      dsimp only at h1 h1'
      refine wpAnyH_all (by simpa using h2) (by simp) (fun k hk => ?_)
      have : k = i ∨ k = j := by simpa using hk
      rcases this with rfl | rfl
      · exact wpOp_plain ho (by simpa using h1) (Oper.wp_mono (fun a' w' hh => ⟨hh.1, ih1 f _ a' w' h4 hh.1 hh.2⟩) hw)
      · exact wpOp_plain ho' (by simpa using h1') (Oper.wp_mono (fun a' w' hh => ⟨hh.1, ih2 f _ a' w' h5 hh.1 hh.2⟩) hw')
/-- A region walked by a plan; nothing may panic. -/
theorem wp_region_plan {id : Nat} {a : Act} {w : World} {l : List Oper} (p : Plan) (hm : P.follows .mixedOrders = true) (hs : Region.noSelect l.toArray = true) (hB : planB l.toArray p l.toArray.size (Array.replicate l.toArray.size false) = true)
    (hC : C w.drew) (h : PlanL P l.toArray C (fun e a w => e = .normal ∧ Q .normal a w) p a w.drew) : (Code.region id l.toArray true).wp P Q a w := by
  refine Code.wp_mono (Q := fun e a w => e = .normal ∧ Q .normal a w) (fun e a w ⟨he, hq⟩ => by subst he; exact hq) ?_
  refine wp_region_held (S := C) hm ?_
  exact plan_any (P := P) (C := C) hs (fun _ _ _ _ _ h => by cases h.1) p _ _ a w.drew hB hC h
variable {l : List Oper} {i j : Nat} {p q : Plan} {o : Oper} {a : Act} {w : World}
theorem at_list (h : l[i]? = some o) : l.toArray[i]? = some o := by simpa using h
theorem plan_done (h : Q .normal a w) : PlanL P l.toArray C (fun e a w => e = .normal ∧ Q .normal a w) .done a w := ⟨rfl, h⟩
theorem plan_move {x : Operand} (ho : l[i]? = some o) (hx : o.op = .move x) (h : PlanL P l.toArray C Q p (a.put o.dst (a.eval x)) w) : PlanL P l.toArray C Q (.take i p) a w :=
  ⟨o, _, at_list ho, fun w _ => by unfold execOp; rw [hx]; rfl, h⟩
theorem plan_assign {x : Operand} (ho : l[i]? = some o) (hx : o.op = .assign x) (h : PlanL P l.toArray C Q p (a.put o.dst (a.eval x)) w) : PlanL P l.toArray C Q (.take i p) a w :=
  ⟨o, _, at_list ho, fun w _ => by unfold execOp; rw [hx]; rfl, h⟩
theorem plan_run {v : Value} (ho : l[i]? = some o) (hv : ∀ w, C w → (execOp a.eval o).run P w = .ok (.value v) w) (h : PlanL P l.toArray C Q p (a.put o.dst v) w) : PlanL P l.toArray C Q (.take i p) a w := ⟨o, v, at_list ho, hv, h⟩
theorem plan_read (ho : l[i]? = some o) (hr : readOp o.op = true) (h : ∀ K : Act → Prop, (∀ a, PlanL P l.toArray C Q p a w → K a) → o.quiet P a C K) : PlanL P l.toArray C Q (.take i p) a w := by
  obtain ⟨v, hv, hn⟩ := h _ (fun _ h => h)
  exact ⟨o, v, at_list ho, fun w hw => read_quiet hr (hv w hw), hn⟩
theorem plan_one (ho : l[i]? = some o) (h : ∀ K : Act → World → Prop, Hid (∀ a w', C w' → PlanL P l.toArray C Q p a w' → K a w') → o.wp P a w K Q) : PlanL P l.toArray C Q (.one i p) a w :=
  ⟨o, at_list ho, h _ (fun _ _ h1 h2 => ⟨h1, h2⟩)⟩
theorem plan_two (h1 : PlanL P l.toArray C Q (.one i p) a w) (h2 : PlanL P l.toArray C Q (.one j q) a w) : PlanL P l.toArray C Q (.two i p j q) a w := ⟨h1, h2⟩
/-- append, met in such a walk. -/
theorem wp_append_rd (s x : Operand) (t : TypeId) {K : Act → World → Prop}
    (ho : o.op = .call { callee := .builtin .append, args := #[s, x], argTypes := #[t, t] })
    (base : Nat) (e : TypeId) (ti : TypeInfo) (z : Value) (size bytes : Nat) (ht : P.underlying t = some (.slice e)) (hi : P.info? e = some ti) (hz : ti.zero = some z)
    (hsize : ti.size = size) (hby : ti.bytes = bytes) (hzs : z.cells.size = size) (hsz : 0 < size)
    (v : Value) (n : Nat) (xs : List Value) (hs : a.eval s = v) (hown : w.ownsRow base e size v n xs)
    (A : Option Addr) (m c : Nat) (news : List Value) (hx : a.eval x = .slice A m c) (hr : Rd w size A m news) (h1 : ∀ u ∈ news, u.oneCell' = true)
    (h63 : n + m ≤ maxLen) (hbytes : (n + m) * bytes ≤ 140737488355328) (hbase : base ≤ w.heap.size)
    (h : ∀ A' c' w', w'.ownsRow base e size (.slice A' (n + m) c') (n + m) (xs ++ news) → w.grownBy w' v.ownBlock → Below base w w' → K (a.put o.dst (.slice A' (n + m) c')) w') : o.wp P a w K Q := by
  obtain ⟨v', w', hrun, h2, h3, h4⟩ := run_append_rd (P := P) w base t o.type e ti z size bytes ht hi hz hsize hby hzs hsz v n xs hown A m c news hr h1 h63 hbytes hbase
  obtain ⟨A', c', rfl⟩ := own_slice h2
  unfold Oper.wp execOp
  simp only [ho, resolve, invoke, builtin, Sem.run_bind, Sem.run_pure, Result.andThen_ok, List.map_toArray, List.map_cons, List.map_nil, hs, hx, hrun]
  refine h A' c' w' h2 h3 ((Below.refl _ _).grown h3 hbase (fun k hk => ?_))
  rcases hown.2 with ⟨rfl, _⟩ | ⟨g, cap, cur, rfl, hbg, _⟩
  · simp [Value.ownBlock] at hk
  · simp [Value.ownBlock] at hk; omega
end
/-- s[:k], as it runs. -/
theorem run_slice_to {P : Program} {t e : TypeId} {i : TypeInfo} (ht : P.underlying t = some (.slice e)) (hi : P.info? e = some i) (A : Option Addr) (n c k : Nat) (kl : IntKind) (hk : k ≤ n) (hc : n ≤ c) (w : World) :
    (Instr.sliceAt t (.slice A n c) none (some (.int kl (k : Int))) none).run P w = .ok (.slice A k c) w := by
  have hkc : k ≤ c := by omega
  have ha : ∀ x : Addr, x.add 0 = x := fun x => by simp [Addr.add]
  simp [Instr.sliceAt, Instr.slice, Instr.sliceBounds, Instr.sliceBound, asIntOf, run_underlying ht, sizeOf, typeInfo, hi, hkc, Result.andThen, ha]
theorem Rd.first {w : World} {size n k : Nat} {A : Option Addr} {xs : List Value} (h : Rd w size A n xs) (hk : k ≤ n) : Rd w size A k (xs.take (k * size)) := by
  have hm : k * size ≤ n * size := Nat.mul_le_mul_right size hk
  refine ⟨by rw [List.length_take, h.1]; omega, fun h0 => ?_⟩
  obtain ⟨b, off, e, hb, hc⟩ := h.2 (by omega)
  refine ⟨b, off, e, hb, fun j u hu => hc j u ?_⟩
  rw [List.getElem?_take] at hu
  split at hu
  · exact hu
  · cases hu
section
variable {P : Program} {l : List Oper} {C : World → Prop} {Q : Exit → Act → World → Prop} {i : Nat} {p : Plan} {o : Oper} {a : Act} {w : World}
theorem plan_slice_to (ho : l[i]? = some o) (t e : TypeId) (x hi : Operand) (hop : o.op = .slice t x none (some hi) none) (ti : TypeInfo) (ht : P.underlying t = some (.slice e)) (hti : P.info? e = some ti) (A : Option Addr) (n c k : Nat) (kl : IntKind) (hx : a.eval x = .slice A n c) (hh : a.eval hi = .int kl (k : Int)) (hk : k ≤ n) (hc : n ≤ c)
    (h : PlanL P l.toArray C Q p (a.put o.dst (.slice A k c)) w) : PlanL P l.toArray C Q (.take i p) a w :=
  plan_run ho (fun w _ => by
    have hrun := run_slice_to ht hti A n c k kl hk hc w
    simp [execOp, hop, hx, hh, hrun, Result.andThen]) h
theorem plan_slice_from (ho : l[i]? = some o) (t e : TypeId) (x lo : Operand) (hop : o.op = .slice t x (some lo) none none) (ti : TypeInfo) (size : Nat) (ht : P.underlying t = some (.slice e)) (hti : P.info? e = some ti) (hs : ti.size = size) (A : Option Addr) (n c k : Nat) (kl : IntKind) (hx : a.eval x = .slice A n c) (hl : a.eval lo = .int kl (k : Int)) (hk : k ≤ n) (hc : n ≤ c)
    (h : ∀ A', (∀ W xs, Rd W size A n xs → Rd W size A' (n - k) (xs.drop (k * size))) → PlanL P l.toArray C Q p (a.put o.dst (.slice A' (n - k) (c - k))) w) : PlanL P l.toArray C Q (.take i p) a w :=
  plan_run ho (fun w _ => by
    have hrun := run_sliceAt_from ht hti hs A n c k kl hk w
    simp [execOp, hop, hx, hl, hrun, Result.andThen]) (h _ (fun W xs hr => hr.cut hk hc))
end
end Go.Proofs.YtlkjimfkapcenaaGreatDoor
namespace Go.Proofs.YtlkjimfkapcenaaGreatDoor
open Go.RowKit
/-- A plan with threes: an operation that reads is taken first; one alone may come up; one of two may come up. -/
inductive Plan3 where
  | done : Plan3
  | take (i : Nat) (p : Plan3) : Plan3
  | one (i : Nat) (p : Plan3) : Plan3
  | two (i : Nat) (p : Plan3) (j : Nat) (q : Plan3) : Plan3
  | three (i : Nat) (p : Plan3) (j : Nat) (q : Plan3) (k : Nat) (r : Plan3) : Plan3
section
variable {P : Program}
/-- What is asked of the region. -/
def planBT (ops : Array Oper) : Plan3 → Nat → Array Bool → Bool
  | .done, _, L => (Region.ready .any ops L).isEmpty
  | .take _ _, 0, _ => false
  | .take i p, f + 1, L => (match ops[i]? with | none => false | some o => o.guard.isNone) && Region.free .any ops L i && (Region.ready .any ops L).contains i && planBT ops p f (L.setIfInBounds i true)
  | .one _ _, 0, _ => false
  | .one i p, f + 1, L => (match ops[i]? with | none => false | some o => o.guard.isNone) && Region.ready .any ops L == [i] && planBT ops p f (L.setIfInBounds i true)
  | .two _ _ _ _, 0, _ => false
  | .two i p j q, f + 1, L => (match ops[i]? with | none => false | some o => o.guard.isNone) && (match ops[j]? with | none => false | some o => o.guard.isNone) && Region.ready .any ops L == [i, j] && planBT ops p f (L.setIfInBounds i true) && planBT ops q f (L.setIfInBounds j true)
  | .three _ _ _ _ _ _, 0, _ => false
  | .three i p j q k r, f + 1, L => (match ops[i]? with | none => false | some o => o.guard.isNone) && (match ops[j]? with | none => false | some o => o.guard.isNone) && (match ops[k]? with | none => false | some o => o.guard.isNone) && Region.ready .any ops L == [i, j, k] && planBT ops p f (L.setIfInBounds i true) && planBT ops q f (L.setIfInBounds j true) && planBT ops r f (L.setIfInBounds k true)
/-- The walk by the plan. -/
def PlanLT (P : Program) (ops : Array Oper) (C : World → Prop) (Q : Exit → Act → World → Prop) : Plan3 → Act → World → Prop
  | .done, a, w => Q .normal a w
  | .take i p, a, w => ∃ o v, ops[i]? = some o ∧ (∀ w, C w → (execOp a.eval o).run P w = .ok (.value v) w) ∧ PlanLT P ops C Q p (a.put o.dst v) w
  | .one i p, a, w => ∃ o, ops[i]? = some o ∧ o.wp P a w (fun a' w' => C w' ∧ PlanLT P ops C Q p a' w') Q
  | .two i p j q, a, w => (∃ o, ops[i]? = some o ∧ o.wp P a w (fun a' w' => C w' ∧ PlanLT P ops C Q p a' w') Q) ∧ (∃ o, ops[j]? = some o ∧ o.wp P a w (fun a' w' => C w' ∧ PlanLT P ops C Q q a' w') Q)
  | .three i p j q k r, a, w => (∃ o, ops[i]? = some o ∧ o.wp P a w (fun a' w' => C w' ∧ PlanLT P ops C Q p a' w') Q) ∧ (∃ o, ops[j]? = some o ∧ o.wp P a w (fun a' w' => C w' ∧ PlanLT P ops C Q q a' w') Q) ∧ (∃ o, ops[k]? = some o ∧ o.wp P a w (fun a' w' => C w' ∧ PlanLT P ops C Q r a' w') Q)
variable {ops : Array Oper} {C : World → Prop} {Q : Exit → Act → World → Prop}
theorem plan_anyT (hs : Region.noSelect ops = true) (hQ : ∀ c (a : Act) d v w, Q (.panic c) (a.put d v) w → Q (.panic c) a w) : ∀ (p : Plan3) (f : Nat) (L : Array Bool) (a : Act) (w : World), planBT ops p f L = true → C w → PlanLT P ops C Q p a w → wpAnyH P .any ops Q C f L a w := by
  intro p
  induction p with
  | done =>
    intro f L a w hB hC h
    unfold planBT at hB
    exact wpAnyH_done (by simpa using hB) h f
  | take i p ih =>
    intro f L a w hB hC h
    cases f with
    | zero => cases hB
    | succ f =>
      unfold planBT at hB
      simp only [Bool.and_eq_true] at hB
      obtain ⟨⟨⟨h1, h2⟩, h3⟩, h4⟩ := hB
      obtain ⟨o, v, ho, hv, hn⟩ := h
      rw [ho] at h1
      dsimp only at h1
      exact wpAnyH_take (v := v) ho hs h2 h3 (fun c a' w' => hQ c a' _ _ w') (.inl ⟨wanted_none (by simpa using h1), hv⟩) hC (ih f _ _ w h4 hC hn)
  | one i p ih =>
    intro f L a w hB hC h
    cases f with
    | zero => cases hB
    | succ f =>
      unfold planBT at hB
      simp only [Bool.and_eq_true] at hB
      obtain ⟨⟨h1, h2⟩, h4⟩ := hB
      obtain ⟨o, ho, hw⟩ := h
      rw [ho] at h1
      dsimp only at h1
      refine wpAnyH_all (by simpa using h2) (by simp) (fun j hj => ?_)
      have : j = i := by simpa using hj
      subst this
      exact wpOp_plain ho (by simpa using h1) (Oper.wp_mono (fun a' w' hh => ⟨hh.1, ih f _ a' w' h4 hh.1 hh.2⟩) hw)
  | two i p j q ih1 ih2 =>
    intro f L a w hB hC h
    cases f with
    | zero => cases hB
    | succ f =>
      unfold planBT at hB
      simp only [Bool.and_eq_true] at hB
      obtain ⟨⟨⟨⟨h1, h1'⟩, h2⟩, h4⟩, h5⟩ := hB
      obtain ⟨⟨o, ho, hw⟩, ⟨o', ho', hw'⟩⟩ := h
      rw [ho] at h1
      rw [ho'] at h1'
      dsimp only at h1 h1'
      refine wpAnyH_all (by simpa using h2) (by simp) (fun k hk => ?_)
      have : k = i ∨ k = j := by simpa using hk
      rcases this with rfl | rfl
      · exact wpOp_plain ho (by simpa using h1) (Oper.wp_mono (fun a' w' hh => ⟨hh.1, ih1 f _ a' w' h4 hh.1 hh.2⟩) hw)
      · exact wpOp_plain ho' (by simpa using h1') (Oper.wp_mono (fun a' w' hh => ⟨hh.1, ih2 f _ a' w' h5 hh.1 hh.2⟩) hw')
  | three i p j q k r ih1 ih2 ih3 =>
    intro f L a w hB hC h
    cases f with
    | zero => cases hB
    | succ f =>
      unfold planBT at hB
      simp only [Bool.and_eq_true] at hB
      obtain ⟨⟨⟨⟨⟨⟨h1, h1'⟩, h1''⟩, h2⟩, h4⟩, h5⟩, h6⟩ := hB
      obtain ⟨⟨o, ho, hw⟩, ⟨o', ho', hw'⟩, ⟨o'', ho'', hw''⟩⟩ := h
      rw [ho] at h1
      rw [ho'] at h1'
      rw [ho''] at h1''
      dsimp only at h1 h1' h1''
      refine wpAnyH_all (by simpa using h2) (by simp) (fun m hm => ?_)
      have : m = i ∨ m = j ∨ m = k := by simpa using hm
      rcases this with rfl | rfl | rfl
      · exact wpOp_plain ho (by simpa using h1) (Oper.wp_mono (fun a' w' hh => ⟨hh.1, ih1 f _ a' w' h4 hh.1 hh.2⟩) hw)
      · exact wpOp_plain ho' (by simpa using h1') (Oper.wp_mono (fun a' w' hh => ⟨hh.1, ih2 f _ a' w' h5 hh.1 hh.2⟩) hw')
      · exact wpOp_plain ho'' (by simpa using h1'') (Oper.wp_mono (fun a' w' hh => ⟨hh.1, ih3 f _ a' w' h6 hh.1 hh.2⟩) hw'')
/-- A region walked by a plan; nothing may panic. -/
theorem wp_region_planT {id : Nat} {a : Act} {w : World} {l : List Oper} (p : Plan3) (hm : P.follows .mixedOrders = true) (hs : Region.noSelect l.toArray = true) (hB : planBT l.toArray p l.toArray.size (Array.replicate l.toArray.size false) = true)
    (hC : C w.drew) (h : PlanLT P l.toArray C (fun e a w => e = .normal ∧ Q .normal a w) p a w.drew) : (Code.region id l.toArray true).wp P Q a w := by
  refine Code.wp_mono (Q := fun e a w => e = .normal ∧ Q .normal a w) (fun e a w ⟨he, hq⟩ => by subst he; exact hq) ?_
  refine wp_region_held (S := C) hm ?_
  exact plan_anyT (P := P) (C := C) hs (fun _ _ _ _ _ h => by cases h.1) p _ _ a w.drew hB hC h
variable {l : List Oper} {i j : Nat} {p q : Plan3} {o : Oper} {a : Act} {w : World}
theorem plan_doneT (h : Q .normal a w) : PlanLT P l.toArray C (fun e a w => e = .normal ∧ Q .normal a w) .done a w := ⟨rfl, h⟩
theorem plan_moveT {x : Operand} (ho : l[i]? = some o) (hx : o.op = .move x) (h : PlanLT P l.toArray C Q p (a.put o.dst (a.eval x)) w) : PlanLT P l.toArray C Q (.take i p) a w :=
  ⟨o, _, at_list ho, fun w _ => by unfold execOp; rw [hx]; rfl, h⟩
theorem plan_assignT {x : Operand} (ho : l[i]? = some o) (hx : o.op = .assign x) (h : PlanLT P l.toArray C Q p (a.put o.dst (a.eval x)) w) : PlanLT P l.toArray C Q (.take i p) a w :=
  ⟨o, _, at_list ho, fun w _ => by unfold execOp; rw [hx]; rfl, h⟩
theorem plan_runT {v : Value} (ho : l[i]? = some o) (hv : ∀ w, C w → (execOp a.eval o).run P w = .ok (.value v) w) (h : PlanLT P l.toArray C Q p (a.put o.dst v) w) : PlanLT P l.toArray C Q (.take i p) a w := ⟨o, v, at_list ho, hv, h⟩
theorem plan_readT (ho : l[i]? = some o) (hr : readOp o.op = true) (h : ∀ K : Act → Prop, (∀ a, PlanLT P l.toArray C Q p a w → K a) → o.quiet P a C K) : PlanLT P l.toArray C Q (.take i p) a w := by
  obtain ⟨v, hv, hn⟩ := h _ (fun _ h => h)
  exact ⟨o, v, at_list ho, fun w hw => read_quiet hr (hv w hw), hn⟩
theorem plan_oneT (ho : l[i]? = some o) (h : ∀ K : Act → World → Prop, Hid (∀ a w', C w' → PlanLT P l.toArray C Q p a w' → K a w') → o.wp P a w K Q) : PlanLT P l.toArray C Q (.one i p) a w :=
  ⟨o, at_list ho, h _ (fun _ _ h1 h2 => ⟨h1, h2⟩)⟩
theorem plan_twoT (h1 : PlanLT P l.toArray C Q (.one i p) a w) (h2 : PlanLT P l.toArray C Q (.one j q) a w) : PlanLT P l.toArray C Q (.two i p j q) a w := ⟨h1, h2⟩
theorem plan_threeT {k : Nat} {r : Plan3} (h1 : PlanLT P l.toArray C Q (.one i p) a w) (h2 : PlanLT P l.toArray C Q (.one j q) a w) (h3 : PlanLT P l.toArray C Q (.one k r) a w) : PlanLT P l.toArray C Q (.three i p j q k r) a w := ⟨h1, h2, h3⟩
end
end Go.Proofs.YtlkjimfkapcenaaGreatDoor
