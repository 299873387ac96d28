/- What is known of an operation, or of a region, of a plain activation holds in a round of a loop over a function as well. For any program. A region that draws its order, walked by a plan, inside a fence that bars nobody: its calls may be those of a loop's body. For any program. More operations that only read: a nil check, and len. For any program. A region that draws its order, walked in an order of one's own: operations that only read whenever they may come up, the others when none else may; guarded or not. For any program. A region that draws its order, walked in an order of one's own, whose last operation waits for all others: what is asked of the worlds is asked of those ahead of it alone. For any program. A region that draws its order, walked by what each operation leaves true whatever came before it: each operation once. For any program. A frame some of whose temporaries were laid, in whatever order. For any program. -/
import Derived.OrdersIn
import Derived.OwnWalkIn
import Derived.RangeFuncNested
import Derived.TacticsIn
import Derived.Test.YtimhkkijoelmhaaQMix
import Derived.Test.YtimhkkijoelmhaaQPlan
namespace Go.Proofs.Ytimhkkijoelmhaa
open Go.RowKit

/-- No deferred call. -/
def nodef (o : Oper) : Bool := match o.op with | .defer _ => false | _ => true
section
variable {l n : Nat} {P : Program} {Q : Exit → Act → World → Prop} {ops : Array Oper}
theorem rows_in {row : String} {args : Array Value} {w : World} {R : Value → World → Prop} (h : Rows P row args w R) : RowsIn (Fence.wide.inRound l) n P row args w R :=
  fun c cs _ => let ⟨v, w', r, s⟩ := h c cs; ⟨v, w', r, stepsIn_wide.2 s⟩
theorem op_in {o : Oper} {a : Act} {w : World} {K : Act → World → Prop} (hd : nodef o = true) (h : o.wp P a w K Q) : o.wpIn (Fence.wide.inRound l) n P a w K Q := by
  refine ⟨fun _ _ => trivial, ?_⟩
  rw [show (Fence.wide.inRound l).round = some l from rfl, Oper.semAt_some l a.eval o (by intro c e; simp [nodef, e] at hd)]
  unfold Oper.wp at h
  generalize (execOp a.eval o).run P w = r at h ⊢
  cases r with
  | ok x w' =>
    cases x with
    | value v => exact h
    | skip => exact h
    | defer d => exact h
    | enter f args => exact ⟨fun hn => (by cases hn), CallsIn.inRound l (callsIn_wide.2 h)⟩
    | row row args => exact ⟨fun hn => (by cases hn), rows_in h⟩
    | _ => exact h.elim
  | halt x w' =>
    cases x <;> first | exact h | exact h.elim
theorem wpOp_in {i : Nat} {a : Act} {w : World} {K : Act → World → Prop} (hQ : ∀ a w, ¬ Q .outgrown a w) (hd : ∀ o, ops[i]? = some o → nodef o = true) (h : wpOp P ops Q i K a w) : wpOpIn (Fence.wide.inRound l) n P ops Q i K a w := by
  unfold wpOp at h
  unfold wpOpIn
  cases ho : ops[i]? with
  | none => rw [ho] at h; exact h
  | some o =>
    rw [ho] at h
    dsimp only at h ⊢
    split
    · rename_i hw
      rw [if_pos hw] at h
      rcases h with h | ⟨_, a', w', h⟩
      · exact op_in (hd o ho) h
      · exact absurd h (hQ a' w')
    · rename_i hw
      rw [if_neg hw] at h
      exact ⟨fun _ _ => trivial, h⟩
theorem wpAny_in {md : Region.Mode} (hQ : ∀ a w, ¬ Q .outgrown a w) (hd : ∀ (i : Nat) (o : Oper), ops[i]? = some o → nodef o = true) : ∀ (fuel : Nat) (L : Array Bool) (a : Act) (w : World), wpAny P md ops Q fuel L a w → wpAnyIn (Fence.wide.inRound l) n P md ops Q fuel L a w := by
  intro fuel
  induction fuel with
  | zero => intro L a w h; exact h
  | succ fuel ih =>
    intro L a w h
    exact ⟨h.1, fun i hi => wpOpIn_mono (fun a w => ih _ a w) (wpOp_in hQ (hd i) (h.2 i hi))⟩
/-- No deferred call in a region. -/
def nodefB (ops : List Oper) : Bool := ops.all nodef
theorem nodef_of {l : List Oper} (h : nodefB l = true) : ∀ (i : Nat) (o : Oper), l.toArray[i]? = some o → nodef o = true := by
  intro i o ho
  have := List.all_eq_true.1 h
  exact this o (List.mem_of_getElem? (by simpa using ho))
/-- What a region does that must end. -/
def AnyN (P : Program) (ops : List Oper) (Q : Exit → Act → World → Prop) (a : Act) (w : World) : Prop :=
  wpAny P .any ops.toArray (fun e a w => e = .normal ∧ Q .normal a w) ops.toArray.size (Array.replicate ops.toArray.size false) a w.drew
theorem region_in {id : Nat} {a : Act} {w : World} {ops : List Oper} (hm : P.follows .mixedOrders = true) (hd : nodefB ops = true) (h : AnyN P ops Q a w) : (Code.region id ops.toArray true).wpIn (Fence.wide.inRound l) n P Q a w :=
  wpIn_mono (wpIn_region_any hm (wpAny_in (fun _ _ h => by cases h.1) (nodef_of hd) _ _ _ _ h)) (fun e a w ⟨he, hq⟩ => by subst he; exact hq)
theorem any_mixN {C : World → Prop} {a : Act} {w : World} {l : List Oper} (mu : List Nat) (hB : mixB l.toArray mu = true)
    (hC : C w.drew) (h : MixL P l.toArray C (fun e a w => e = .normal ∧ Q .normal a w) mu 0 l a w.drew) : AnyN P l Q a w := by
  refine wpAny_of_held (S := C) _ _ _ _ ?_
  have := mix_any (P := P) (C := C) hB (fun _ _ _ _ _ h => by cases h.1) l 0 a w.drew (by simp) (fun j => by simp) hC h
  rw [preB_zero] at this
  simpa using this
theorem any_plan {C : World → Prop} {a : Act} {w : World} {l : List Oper} (p : Plan) (hs : Region.noSelect l.toArray = true) (hB : planB l.toArray p l.toArray.size (Array.replicate l.toArray.size false) = true)
    (hC : C w.drew) (h : PlanL P l.toArray C (fun e a w => e = .normal ∧ Q .normal a w) p a w.drew) : AnyN P l Q a w :=
  wpAny_of_held (S := C) _ _ _ _ (plan_any hs (fun _ _ _ _ _ h => by cases h.1) p _ _ a w.drew hB hC h)
/-- An operation of a region that keeps its order, in a round. -/
theorem listIn_op {o : Oper} {rest : List Oper} {a : Act} {w : World} (hg : o.guard = none) (hd : nodef o = true)
    (h : ∀ K : Act → World → Prop, (∀ a w, wpListIn (Fence.wide.inRound l) n P ops Q rest a w → K a w) → o.wp P a w K Q) : wpListIn (Fence.wide.inRound l) n P ops Q (o :: rest) a w :=
  wpListIn_plain hg fun K hK => op_in hd (h K hK)
end
end Go.Proofs.Ytimhkkijoelmhaa
namespace Go.Proofs.Ytimhkkijoelmhaa
open Go.RowKit

section
variable {F : Fence} {n : Nat} {P : Program} {ops : Array Oper} {Q : Exit → Act → World → Prop} {md : Region.Mode} {S : World → Prop}
theorem nodef_ne {o : Oper} (hd : nodef o = true) : ∀ c, o.op ≠ .defer c := by intro c e; simp [nodef, e] at hd
theorem yields_in {i : Nat} {o : Oper} {v : Value} {a : Act} (hF : ∀ f, F.fn f) (hd : nodef o = true) (hi : ops[i]? = some o) (hy : YieldsIf P ops S o v a)
    {K : Act → World → Prop} {w : World} (hS : S w) (h : K (a.put o.dst v) w) : wpOpIn F n P ops Q i K a w := by
  unfold wpOpIn
  simp only [hi]
  rcases hy with ⟨hw, hv⟩ | ⟨hw, rfl⟩
  · simp only [hw, if_true]
    refine ⟨fun f _ => hF f, ?_⟩
    rw [Oper.semAt_plain F _ o (nodef_ne hd), hv w hS]
    exact h
  · simp only [hw, Bool.false_eq_true, if_false]
    exact ⟨fun f _ => hF f, h⟩
theorem opIn_putIf {j : Nat} {oi oj : Oper} {v : Value} (hF : ∀ f, F.fn f) (hd : nodef oj = true) (hj : ops[j]? = some oj) (hap : oi.apart ops oj = true)
    (hsi : ∀ cs b, oi.op ≠ .select cs b) (hsj : ∀ cs b, oj.op ≠ .select cs b)
    (hQ : ∀ c a w, Q (.panic c) (a.put oi.dst v) w → Q (.panic c) a w) {K : Act → World → Prop} {a : Act} {w : World}
    (hy : YieldsIf P ops S oi v a) (h : wpOpIn F n P ops Q j K (a.put oi.dst v) w) :
    wpOpIn F n P ops Q j (fun a' w' => YieldsIf P ops S oi v a' ∧ K (a'.put oi.dst v) w') a w := by
  obtain ⟨h1, h2, h3⟩ := Oper.apart_spec hap
  have keep : ∀ (a : Act), YieldsIf P ops S oi v a → ∀ u, YieldsIf P ops S oi v (a.put oj.dst u) := fun a hy u =>
    hy.of_same (execOp_put oi hsi a oj.dst u h3) (wanted_put oi a oj.dst u h3)
  have keepD : ∀ d, YieldsIf P ops S oi v { a with defers := d :: a.defers } := fun d => hy.of_same rfl rfl
  unfold wpOpIn at *
  simp only [hj] at *
  rw [wanted_put oj a oi.dst v h1] at h
  split
  · rename_i hw
    simp only [hw, if_true] at h
    refine ⟨fun f _ => hF f, ?_⟩
    have h := h.2
    rw [Oper.semAt_plain F _ oj (nodef_ne hd)] at h ⊢
    rw [execOp_put oj hsj a oi.dst v h1] at h
    generalize (execOp a.eval oj).run P w = r at *
    cases r with
    | ok x w' =>
      cases x <;> simp only [Oper.uponIn] at h ⊢
      case value u => exact ⟨keep a hy u, by rw [← Act.put_comm a v u h2]; exact h⟩
      case skip => exact ⟨keep a hy _, by rw [← Act.put_comm a v undef h2]; exact h⟩
      case defer d =>
        refine ⟨keep _ (keepD d) _, ?_⟩
        rw [← Act.put_comm _ v undef h2, ← Act.put_defers]
        exact h
      case enter f args =>
        refine ⟨h.1, CallsIn.mono h.2 fun e w'' he => ?_⟩
        cases e with
        | returned u => exact ⟨keep a hy u, by rw [← Act.put_comm a v u h2]; exact he⟩
        | panicked c => exact hQ _ _ _ he
        | outgrown => exact he
      case row row args => exact ⟨h.1, RowsIn.mono h.2 fun u w'' he => ⟨keep a hy u, by rw [← Act.put_comm a v u h2]; exact he⟩⟩
      case round l f tmps assign body =>
        refine ⟨h.1, RoundIn.mono h.2 fun e w'' he => ?_⟩
        cases e with
        | returned u => exact ⟨keep a hy u, by rw [← Act.put_comm a v u h2]; exact he⟩
        | panicked c => exact hQ _ _ _ he
        | outgrown => exact he
    | halt x w' =>
      cases x <;> simp only [Oper.uponIn] at h ⊢
      case panic u => exact hQ _ _ _ h
  · rename_i hw
    simp only [hw] at h
    exact ⟨fun f _ => hF f, keep a hy _, by rw [← Act.put_comm a v undef h2]; exact h.2⟩
def wpAnyHI (F : Fence) (n : Nat) (P : Program) (md : Region.Mode) (ops : Array Oper) (Q : Exit → Act → World → Prop) (S : World → Prop) : Nat → Array Bool → Act → World → Prop
  | 0, listed, a, w => Region.ready md ops listed = [] ∧ Q .normal a w
  | fuel + 1, listed, a, w =>
    (Region.ready md ops listed = [] → Q .normal a w) ∧
    ∀ i ∈ Region.ready md ops listed, wpOpIn F n P ops Q i (fun a' w' => S w' ∧ wpAnyHI F n P md ops Q S fuel (listed.setIfInBounds i true) a' w') a w
theorem anyIn_of_held : ∀ (fuel : Nat) (listed : Array Bool) (a : Act) (w : World), wpAnyHI F n P md ops Q S fuel listed a w → wpAnyIn F n P md ops Q fuel listed a w
  | 0, _, _, _, h => h
  | fuel + 1, _, _, _, h => ⟨h.1, fun i hi => wpOpIn_mono (fun a' w' h' => anyIn_of_held fuel _ a' w' h'.2) (h.2 i hi)⟩
theorem anyHI_first {i : Nat} {oi : Oper} {v : Value} (hF : ∀ f, F.fn f) (hd : ∀ (j : Nat) (o : Oper), ops[j]? = some o → nodef o = true) (hi : ops[i]? = some oi) (hsel : ∀ (j : Nat) (o : Oper) cs b, ops[j]? = some o → o.op ≠ .select cs b)
    (hQ : ∀ c a w, Q (.panic c) (a.put oi.dst v) w → Q (.panic c) a w) :
    ∀ (fuel : Nat) (listed : Array Bool) (a : Act) (w : World),
      (∀ j oj, ops[j]? = some oj → j ≠ i → listed.getD j true = false → (∀ e ∈ oj.after, Region.binds md e = true → e.on ≠ i) → oi.apart ops oj = true) →
      i ∈ Region.ready md ops listed → YieldsIf P ops S oi v a → S w →
      wpAnyHI F n P md ops Q S fuel (listed.setIfInBounds i true) (a.put oi.dst v) w → wpAnyHI F n P md ops Q S (fuel + 1) listed a w := by
  intro fuel
  induction fuel with
  | zero =>
    intro listed a w _ hr hy hS H
    refine ⟨fun h => (by rw [h] at hr; cases hr), fun j hj => ?_⟩
    by_cases hji : j = i
    · subst hji; exact yields_in hF (hd _ _ hi) hi hy hS ⟨hS, H⟩
    · have := ready_mono hj hji
      rw [H.1] at this
      cases this
  | succ fuel ih =>
    intro listed a w hfree hr hy hS H
    refine ⟨fun h => (by rw [h] at hr; cases hr), fun j hj => ?_⟩
    by_cases hji : j = i
    · subst hji; exact yields_in hF (hd _ _ hi) hi hy hS ⟨hS, H⟩
    · have h1 := H.2 j (ready_mono hj hji)
      obtain ⟨hjun, oj, hoj, hall⟩ := mem_ready.1 hj
      have hnot : ∀ e ∈ oj.after, Region.binds md e = true → e.on ≠ i := fun e he hb heq => by
        have h1 := hall e he hb
        have h0 := (mem_ready.1 hr).1
        rw [heq] at h1
        rcases Nat.lt_or_ge i listed.size with h' | h'
        · simp [h'] at h0 h1; rw [h0] at h1; cases h1
        · simp [Array.getElem?_eq_none h'] at h1
      have h2 := opIn_putIf hF (hd _ _ hoj) hoj (hfree j oj hoj hji hjun hnot) (fun cs b => hsel i oi cs b hi) (fun cs b => hsel j oj cs b hoj) hQ hy h1
      have hfree' : ∀ k ok, ops[k]? = some ok → k ≠ i → (listed.setIfInBounds j true).getD k true = false →
          (∀ e ∈ ok.after, Region.binds md e = true → e.on ≠ i) → oi.apart ops ok = true := fun k ok hk hki hun hno => by
        refine hfree k ok hk hki ?_ hno
        by_cases hjk : j = k
        · subst hjk; exact hjun
        · rw [getD_set_ne true hjk] at hun; exact hun
      refine wpOpIn_mono (fun a' w' h3 => ⟨h3.2.1, ih (listed.setIfInBounds j true) a' w' hfree' (ready_mono hr (Ne.symm hji)) h3.1 h3.2.1 ?_⟩) h2
      rw [Array.setIfInBounds_comm _ _ hji]
      exact h3.2.2
theorem anyHI_take {i : Nat} {oi : Oper} {v : Value} {fuel : Nat} {listed : Array Bool} {a : Act} {w : World} (hF : ∀ f, F.fn f) (hd : ∀ (j : Nat) (o : Oper), ops[j]? = some o → nodef o = true) (hi : ops[i]? = some oi)
    (hs : Region.noSelect ops = true) (hf : Region.free md ops listed i = true) (hr : (Region.ready md ops listed).contains i = true)
    (hQ : ∀ c a w, Q (.panic c) (a.put oi.dst v) w → Q (.panic c) a w) (hy : YieldsIf P ops S oi v a) (hS : S w)
    (h : wpAnyHI F n P md ops Q S fuel (listed.setIfInBounds i true) (a.put oi.dst v) w) : wpAnyHI F n P md ops Q S (fuel + 1) listed a w :=
  anyHI_first hF hd hi (Region.noSelect_spec hs) hQ fuel listed a w (Region.free_spec hi hf) (by simpa using hr) hy hS h
theorem anyHI_done {listed : Array Bool} {a : Act} {w : World} (hr : Region.ready md ops listed = []) (h : Q .normal a w) :
    ∀ fuel, wpAnyHI F n P md ops Q S fuel listed a w
  | 0 => ⟨hr, h⟩
  | _ + 1 => ⟨fun _ => h, by rw [hr]; simp⟩
/-- The walk by the plan, inside the fence. -/
def PlanI (F : Fence) (n : Nat) (P : Program) (ops : Array Oper) (C : World → Prop) (Q : Exit → Act → World → Prop) : Plan → Act → World → Prop
  | .done, a, w => Q .normal a w
  | .take i p, a, w => ∃ o v, ops[i]? = some o ∧ (∀ w, C w → (execOp a.eval o).run P w = .ok (.value v) w) ∧ PlanI F n P ops C Q p (a.put o.dst v) w
  | .one i p, a, w => ∃ o, ops[i]? = some o ∧ o.wpIn F n P a w (fun a' w' => C w' ∧ PlanI F n P ops C Q p a' w') Q
  | .two i p j q, a, w => (∃ o, ops[i]? = some o ∧ o.wpIn F n P a w (fun a' w' => C w' ∧ PlanI F n P ops C Q p a' w') Q) ∧ (∃ o, ops[j]? = some o ∧ o.wpIn F n P a w (fun a' w' => C w' ∧ PlanI F n P ops C Q q a' w') Q)
variable {C : World → Prop}
theorem opIn_plain {i : Nat} {o : Oper} {a : Act} {w : World} {K : Act → World → Prop} (ho : ops[i]? = some o) (hg : o.guard = none) (h : o.wpIn F n P a w K Q) : wpOpIn F n P ops Q i K a w := by
  unfold wpOpIn
  rw [ho]
  dsimp only
  rw [if_pos (wanted_none hg)]
  exact h
theorem planI_any (hF : ∀ f, F.fn f) (hd : ∀ (j : Nat) (o : Oper), ops[j]? = some o → nodef o = true) (hs : Region.noSelect ops = true) (hQ : ∀ c (a : Act) d v w, Q (.panic c) (a.put d v) w → Q (.panic c) a w) : ∀ (p : Plan) (f : Nat) (L : Array Bool) (a : Act) (w : World), planB ops p f L = true → C w → PlanI F n P ops C Q p a w → wpAnyHI F n P .any ops Q C f L a w := by
  intro p
  induction p with
  | done =>
    intro f L a w hB hC h
    unfold planB at hB
    exact anyHI_done (by simpa using hB) h f
  | take i p ih =>
    intro f L a w hB hC h
    cases f with
    | zero => cases hB
    | succ f =>
      unfold planB at hB
      simp only [Bool.and_eq_true] at hB
      obtain ⟨⟨⟨h1, h2⟩, h3⟩, h4⟩ := hB
      obtain ⟨o, v, ho, hv, hn⟩ := h
      rw [ho] at h1
      dsimp only at h1
      exact anyHI_take (v := v) hF hd ho hs h2 h3 (fun c a' w' => hQ c a' _ _ w') (.inl ⟨wanted_none (by simpa using h1), hv⟩) hC (ih f _ _ w h4 hC hn)
  | one i p ih =>
    intro f L a w hB hC h
    cases f with
    | zero => cases hB
    | succ f =>
      unfold planB at hB
      simp only [Bool.and_eq_true] at hB
      obtain ⟨⟨h1, h2⟩, h4⟩ := hB
      obtain ⟨o, ho, hw⟩ := h
      rw [ho] at h1
      dsimp only at h1
      have hr : Region.ready .any ops L = [i] := by simpa using h2
      refine ⟨fun h0 => (by rw [hr] at h0; cases h0), fun j hj => ?_⟩
      have : j = i := by rw [hr] at hj; simpa using hj
      subst this
      exact opIn_plain ho (by simpa using h1) (Oper.wpIn_mono (fun a' w' hh => ⟨hh.1, ih f _ a' w' h4 hh.1 hh.2⟩) hw)
  | two i p j q ih1 ih2 =>
    intro f L a w hB hC h
    cases f with
    | zero => cases hB
    | succ f =>
      unfold planB at hB
      simp only [Bool.and_eq_true] at hB
      obtain ⟨⟨⟨⟨h1, h1'⟩, h2⟩, h4⟩, h5⟩ := hB
      obtain ⟨⟨o, ho, hw⟩, ⟨o', ho', hw'⟩⟩ := h
      rw [ho] at h1
      rw [ho'] at h1'
      dsimp only at h1 h1'
      have hr : Region.ready .any ops L = [i, j] := by simpa using h2
      refine ⟨fun h0 => (by rw [hr] at h0; cases h0), fun k hk => ?_⟩
      have : k = i ∨ k = j := by rw [hr] at hk; simpa using hk
      rcases this with rfl | rfl
      · exact opIn_plain ho (by simpa using h1) (Oper.wpIn_mono (fun a' w' hh => ⟨hh.1, ih1 f _ a' w' h4 hh.1 hh.2⟩) hw)
      · exact opIn_plain ho' (by simpa using h1') (Oper.wpIn_mono (fun a' w' hh => ⟨hh.1, ih2 f _ a' w' h5 hh.1 hh.2⟩) hw')
end
section
variable {F : Fence} {n : Nat} {P : Program} {Q : Exit → Act → World → Prop} {C : World → Prop} {l : List Oper}
/-- A region walked by a plan inside the fence; nothing may panic. -/
theorem wpIn_region_plan {id : Nat} {a : Act} {w : World} (hF : ∀ f, F.fn f) (p : Plan) (hm : P.follows .mixedOrders = true) (hd : nodefB l = true) (hs : Region.noSelect l.toArray = true) (hB : planB l.toArray p l.toArray.size (Array.replicate l.toArray.size false) = true)
    (hC : C w.drew) (h : PlanI F n P l.toArray C (fun e a w => e = .normal ∧ Q .normal a w) p a w.drew) : (Code.region id l.toArray true).wpIn F n P Q a w := by
  refine wpIn_mono (Q := fun e a w => e = .normal ∧ Q .normal a w) ?_ (fun e a w ⟨he, hq⟩ => by subst he; exact hq)
  refine wpIn_region_any hm (anyIn_of_held (S := C) _ _ _ _ ?_)
  exact planI_any hF (nodef_of hd) hs (fun _ _ _ _ _ h => by cases h.1) p _ _ a w.drew hB hC h
variable {i j : Nat} {p q : Plan} {o : Oper} {a : Act} {w : World}
theorem planI_done (h : Q .normal a w) : PlanI F n P l.toArray C (fun e a w => e = .normal ∧ Q .normal a w) .done a w := ⟨rfl, h⟩
theorem planI_read (ho : l[i]? = some o) (hr : readOp o.op = true) (h : ∀ K : Act → Prop, (∀ a, PlanI F n P l.toArray C Q p a w → K a) → o.quiet P a C K) : PlanI F n P l.toArray C Q (.take i p) a w := by
  obtain ⟨v, h1, h2⟩ := h _ (fun _ h => h)
  exact ⟨o, v, at_list ho, fun w hw => read_quiet hr (h1 w hw), h2⟩
theorem planI_one (ho : l[i]? = some o) (h : ∀ K : Act → World → Prop, Hid (∀ a w', C w' → PlanI F n P l.toArray C Q p a w' → K a w') → o.wpIn F n P a w K Q) : PlanI F n P l.toArray C Q (.one i p) a w :=
  ⟨o, at_list ho, h _ (fun _ _ h1 h2 => ⟨h1, h2⟩)⟩
end
/-- An operation of a plain activation, inside the widest fence. -/
theorem op_wide {n : Nat} {P : Program} {Q : Exit → Act → World → Prop} {o : Oper} {a : Act} {w : World} {K : Act → World → Prop} (hd : nodef o = true) (h : o.wp P a w K Q) : o.wpIn Fence.wide n P a w K Q := by
  refine ⟨fun _ _ => trivial, ?_⟩
  rw [Oper.semAt_plain Fence.wide a.eval o (nodef_ne hd)]
  unfold Oper.wp at h
  generalize (execOp a.eval o).run P w = r at h ⊢
  cases r with
  | ok x w' =>
    cases x with
    | value v => exact h
    | skip => exact h
    | defer d => exact h
    | enter f args => exact ⟨fun hn => (by cases hn), callsIn_wide.2 h⟩
    | row row args => exact ⟨fun hn => (by cases hn), rows_in (l := 0) h⟩
    | _ => exact h.elim
  | halt x w' =>
    cases x <;> first | exact h | exact h.elim
end Go.Proofs.Ytimhkkijoelmhaa
namespace Go.Proofs.Ytimhkkijoelmhaa
open Go.RowKit

/-- Operations that only read. -/
def readMore (o : Op) : Bool := match o with
  | .call c => match c.callee with | .builtin .len => true | _ => false
  | _ => readOp o
theorem readMore_run {P : Program} {o : Oper} (h : readMore o.op = true) (e : Operand → Value) (w : World) : Plainly ((execOp e o).run P w) := by
  by_cases h0 : readOp o.op = true
  · exact read_run h0 e w
  · unfold readMore at h
    split at h
    · rename_i c hc
      split at h
      · rename_i hb
        unfold execOp
        rw [hc]
        dsimp only
        simp only [resolve, hb, Sem.run_bind, Sem.run_pure, Result.andThen_ok, invoke, builtin]
        generalize (Builtin.len_ _ _ _).run P w = r
        cases r with
        | ok v w' => exact .inl ⟨_, _, rfl⟩
        | halt x w' => exact .inr ⟨x, w', rfl⟩
      · cases h
    · exact absurd h h0
theorem nil_run {P : Program} {o : Oper} {x : Operand} {a : Act} {ad : Addr} (hx : o.op = .nilCheck x) (he : a.eval x = .pointer (some ad)) (w : World) : (execOp a.eval o).run P w = .ok (.value (.pointer (some ad))) w := by
  unfold execOp
  rw [hx]
  dsimp only
  rw [he]
  rfl
theorem readMore_quiet {P : Program} {o : Oper} {a : Act} {C : World → Prop} {v : Value} {w : World} (h : readMore o.op = true) (hq : o.quietAt P a C w v) : (execOp a.eval o).run P w = .ok (.value v) w := by
  unfold Oper.quietAt at hq
  rcases readMore_run (P := P) h a.eval w with ⟨u, w', e⟩ | ⟨x, w', e⟩
  · rw [e] at hq ⊢
    obtain ⟨rfl, rfl⟩ := hq
    rfl
  · rw [e] at hq
    exact hq.elim
section
variable {F : Fence} {n : Nat} {P : Program} {Q : Exit → Act → World → Prop} {C : World → Prop} {l : List Oper} {i : Nat} {p : Plan} {o : Oper} {a : Act} {w : World}
theorem planI_read2 (ho : l[i]? = some o) (hr : readMore o.op = true) (h : ∀ K : Act → Prop, (∀ a, PlanI F n P l.toArray C Q p a w → K a) → o.quiet P a C K) : PlanI F n P l.toArray C Q (.take i p) a w := by
  obtain ⟨v, h1, h2⟩ := h _ (fun _ h => h)
  exact ⟨o, v, at_list ho, fun w hw => readMore_quiet hr (h1 w hw), h2⟩
theorem planI_nil {x : Operand} {ad : Addr} (ho : l[i]? = some o) (hx : o.op = .nilCheck x) (he : a.eval x = .pointer (some ad)) (h : PlanI F n P l.toArray C Q p (a.put o.dst (.pointer (some ad))) w) : PlanI F n P l.toArray C Q (.take i p) a w :=
  ⟨o, _, at_list ho, fun w _ => nil_run hx he w, h⟩
theorem plan_nil {x : Operand} {ad : Addr} (ho : l[i]? = some o) (hx : o.op = .nilCheck x) (he : a.eval x = .pointer (some ad)) (h : PlanL P l.toArray C Q p (a.put o.dst (.pointer (some ad))) w) : PlanL P l.toArray C Q (.take i p) a w :=
  ⟨o, _, at_list ho, fun w _ => nil_run hx he w, h⟩
theorem plan_read2 (ho : l[i]? = some o) (hr : readMore o.op = true) (h : ∀ K : Act → Prop, (∀ a, PlanL P l.toArray C Q p a w → K a) → o.quiet P a C K) : PlanL P l.toArray C Q (.take i p) a w := by
  obtain ⟨v, h1, h2⟩ := h _ (fun _ h => h)
  exact ⟨o, v, at_list ho, fun w hw => readMore_quiet hr (h1 w hw), h2⟩
end
end Go.Proofs.Ytimhkkijoelmhaa
namespace Go.Proofs.Ytimhkkijoelmhaa
open Go.RowKit

section
variable {P : Program} {ops : Array Oper} {C : World → Prop} {Q : Exit → Act → World → Prop}
def OrdL (P : Program) (ops : Array Oper) (C : World → Prop) (Q : Exit → Act → World → Prop) : List (Nat × Bool) → Act → World → Prop
  | [], a, w => Q .normal a w
  | (i, mem) :: rest, a, w => ∃ o, ops[i]? = some o ∧ (if Region.wanted o (yielded ops a.tmps) = true then
      (if mem = true then o.wp P a w (fun a' w' => C w' ∧ OrdL P ops C Q rest a' w') Q
       else ∃ v, (∀ w, C w → (execOp a.eval o).run P w = .ok (.value v) w) ∧ OrdL P ops C Q rest (a.put o.dst v) w)
    else OrdL P ops C Q rest (a.put o.dst undef) w)
def ordB (ops : Array Oper) : List (Nat × Bool) → Nat → Array Bool → Bool
  | [], _, L => (Region.ready .any ops L).isEmpty
  | _ :: _, 0, _ => false
  | (i, true) :: p, f + 1, L => Region.ready .any ops L == [i] && ordB ops p f (L.setIfInBounds i true)
  | (i, false) :: p, f + 1, L => Region.free .any ops L i && (Region.ready .any ops L).contains i && ordB ops p f (L.setIfInBounds i true)
theorem ord_any (hs : Region.noSelect ops = true) (hQ : ∀ c (a : Act) d v w, Q (.panic c) (a.put d v) w → Q (.panic c) a w) : ∀ (p : List (Nat × Bool)) (f : Nat) (L : Array Bool) (a : Act) (w : World), ordB ops p f L = true → C w → OrdL P ops C Q p a w → wpAnyH P .any ops Q C f L a w := by
  intro p
  induction p with
  | nil =>
    intro f L a w hB hC h
    unfold ordB at hB
    exact wpAnyH_done (by simpa using hB) h f
  | cons im p ih =>
    obtain ⟨i, mem⟩ := im
    intro f L a w hB hC h
    cases f with
    | zero => cases mem <;> cases hB
    | succ f =>
      obtain ⟨o, ho, h⟩ := h
      cases mem with
      | true =>
        unfold ordB at hB
        simp only [Bool.and_eq_true] at hB
        refine wpAnyH_all (by simpa using hB.1) (by simp) (fun j hj => ?_)
        have : j = i := by simpa using hj
        subst this
        unfold wpOp
        rw [ho]
        dsimp only
        by_cases hw : Region.wanted o (yielded ops a.tmps) = true
        · rw [if_pos hw] at h ⊢
          exact .inl (Oper.wp_mono (fun a' w' hh => ⟨hh.1, ih f _ a' w' hB.2 hh.1 hh.2⟩) h)
        · rw [if_neg hw] at h ⊢
          exact ⟨hC, ih f _ _ w hB.2 hC h⟩
      | false =>
        unfold ordB at hB
        simp only [Bool.and_eq_true] at hB
        by_cases hw : Region.wanted o (yielded ops a.tmps) = true
        · rw [if_pos hw] at h
          obtain ⟨v, hv, hn⟩ := h
          exact wpAnyH_take (v := v) ho hs hB.1.1 hB.1.2 (fun c a' w' => hQ c a' _ _ w') (.inl ⟨hw, hv⟩) hC (ih f _ _ w hB.2 hC hn)
        · rw [if_neg hw] at h
          exact wpAnyH_take (v := undef) ho hs hB.1.1 hB.1.2 (fun c a' w' => hQ c a' _ _ w') (.inr ⟨by simpa using hw, rfl⟩) hC (ih f _ _ w hB.2 hC h)
variable {l : List Oper} {i : Nat} {p : List (Nat × Bool)} {o : Oper} {a : Act} {w : World}
theorem wp_region_ord {id : Nat} (p : List (Nat × Bool)) (hm : P.follows .mixedOrders = true) (hs : Region.noSelect l.toArray = true) (hB : ordB l.toArray p l.toArray.size (Array.replicate l.toArray.size false) = true)
    (hC : C w.drew) (h : OrdL P l.toArray C (fun e a w => e = .normal ∧ Q .normal a w) p a w.drew) : (Code.region id l.toArray true).wp P Q a w := by
  refine Code.wp_mono (Q := fun e a w => e = .normal ∧ Q .normal a w) (fun e a w ⟨he, hq⟩ => by subst he; exact hq) ?_
  refine wp_region_held (S := C) hm ?_
  exact ord_any (P := P) (C := C) hs (fun _ _ _ _ _ h => by cases h.1) p _ _ a w.drew hB hC h
theorem ord_nil (h : Q .normal a w) : OrdL P l.toArray C (fun e a w => e = .normal ∧ Q .normal a w) [] a w := ⟨rfl, h⟩
theorem ord_read0 (ho : l[i]? = some o) (hg : o.guard = none) (hr : readMore o.op = true) (h : ∀ K : Act → Prop, (∀ a, OrdL P l.toArray C Q p a w → K a) → o.quiet P a C K) : OrdL P l.toArray C Q ((i, false) :: p) a w := by
  obtain ⟨v, h1, h2⟩ := h _ (fun _ h => h)
  refine ⟨o, at_list ho, ?_⟩
  rw [if_pos (wanted_none hg)]
  exact ⟨v, fun w hw => readMore_quiet hr (h1 w hw), h2⟩
theorem ord_readG {j d : Nat} {want b : Bool} (ho : l[i]? = some o) (hg : o.guard = some (j, want)) (hd : (l.toArray[j]?).bind (·.dst) = some d) (hv : a.tmps[d]? = some (.bool b)) (hb : (b == want) = true) (hr : readMore o.op = true) (h : ∀ K : Act → Prop, (∀ a, OrdL P l.toArray C Q p a w → K a) → o.quiet P a C K) : OrdL P l.toArray C Q ((i, false) :: p) a w := by
  obtain ⟨v, h1, h2⟩ := h _ (fun _ h => h)
  refine ⟨o, at_list ho, ?_⟩
  rw [if_pos ((wanted_some hg hd hv).trans hb)]
  exact ⟨v, fun w hw => readMore_quiet hr (h1 w hw), h2⟩
theorem ord_skipG {j d : Nat} {want b mem : Bool} (ho : l[i]? = some o) (hg : o.guard = some (j, want)) (hd : (l.toArray[j]?).bind (·.dst) = some d) (hv : a.tmps[d]? = some (.bool b)) (hb : (b == want) = false) (h : OrdL P l.toArray C Q p (a.put o.dst undef) w) : OrdL P l.toArray C Q ((i, mem) :: p) a w := by
  refine ⟨o, at_list ho, ?_⟩
  rw [if_neg (by rw [(wanted_some hg hd hv).trans hb]; simp)]
  exact h
theorem ord_nilc {x : Operand} {ad : Addr} (ho : l[i]? = some o) (hg : o.guard = none) (hx : o.op = .nilCheck x) (he : a.eval x = .pointer (some ad)) (h : OrdL P l.toArray C Q p (a.put o.dst (.pointer (some ad))) w) : OrdL P l.toArray C Q ((i, false) :: p) a w := by
  refine ⟨o, at_list ho, ?_⟩
  rw [if_pos (wanted_none hg)]
  exact ⟨_, fun w _ => nil_run hx he w, h⟩
theorem ord_mem0 (ho : l[i]? = some o) (hg : o.guard = none) (h : ∀ K : Act → World → Prop, Hid (∀ a w', C w' → OrdL P l.toArray C Q p a w' → K a w') → o.wp P a w K Q) : OrdL P l.toArray C Q ((i, true) :: p) a w := by
  refine ⟨o, at_list ho, ?_⟩
  rw [if_pos (wanted_none hg)]
  exact h _ (fun _ _ h1 h2 => ⟨h1, h2⟩)
theorem ord_memG {j d : Nat} {want b : Bool} (ho : l[i]? = some o) (hg : o.guard = some (j, want)) (hd : (l.toArray[j]?).bind (·.dst) = some d) (hv : a.tmps[d]? = some (.bool b)) (hb : (b == want) = true) (h : ∀ K : Act → World → Prop, Hid (∀ a w', C w' → OrdL P l.toArray C Q p a w' → K a w') → o.wp P a w K Q) : OrdL P l.toArray C Q ((i, true) :: p) a w := by
  refine ⟨o, at_list ho, ?_⟩
  rw [if_pos ((wanted_some hg hd hv).trans hb)]
  exact h _ (fun _ _ h1 h2 => ⟨h1, h2⟩)
end
end Go.Proofs.Ytimhkkijoelmhaa
namespace Go.Proofs.Ytimhkkijoelmhaa
open Go.RowKit

section
variable {P : Program} {C : World → Prop} {Q : Exit → Act → World → Prop}
theorem wp_region_ordAt {id : Nat} {a : Act} {w : World} {l : List Oper} (n : Nat) (p : List (Nat × Bool)) (last : Oper) (hl : l = l.take n ++ [last]) (hm : P.follows .mixedOrders = true) (hs : Region.noSelect (l.take n).toArray = true)
    (hT : tailB .any (l.take n) last = true) (hB : ordB (l.take n).toArray p (l.take n).toArray.size (Array.replicate (l.take n).toArray.size false) = true)
    (hC : C w.drew) (h : OrdL P (l.take n).toArray C (TailQ P last Q) p a w.drew) : (Code.region id l.toArray true).wp P Q a w := by
  have h1 := ord_any (P := P) (C := C) (Q := TailQ P last Q) hs (fun _ _ _ _ _ h => by cases h.1) p _ _ a w.drew hB hC h
  have h2 := wpAny_tail (P := P) (Q := Q) hT (l.take n).toArray.size (Array.replicate (l.take n).toArray.size false) a w.drew (by simp) (wpAny_of_held _ _ _ _ (by simpa using h1))
  have e : (Array.replicate (l.take n).toArray.size false).push false = Array.replicate (l.take n ++ [last]).toArray.size false := by
    simp [Array.replicate_succ]
  rw [e] at h2
  have h3 : (Code.region id (l.take n ++ [last]).toArray true).wp P Q a w := wp_region_any hm (by simpa using h2)
  rwa [← hl] at h3
theorem ordAt_nil {ops : Array Oper} {a : Act} {w : World} {last : Oper} (h : ∀ K : Act → World → Prop, (∀ a' w', Q .normal a' w' → K a' w') → last.wp P a w K Q) : OrdL P ops C (TailQ P last Q) [] a w :=
  ⟨rfl, h _ (fun _ _ h => h)⟩
end
end Go.Proofs.Ytimhkkijoelmhaa
namespace Go.Proofs.Ytimhkkijoelmhaa
open Go.RowKit

section
variable {P : Program} {ops : Array Oper} {Q : Exit → Act → World → Prop}
/-- Each operation waits for none but those before it in the text. -/
def lowB (l : List Oper) : Bool := (List.range l.length).all fun i => match l[i]? with | none => false | some o => o.guard.isNone && o.after.all fun e => decide (e.on < i)
theorem low_of {l : List Oper} (h : lowB l = true) {i : Nat} {o : Oper} (hi : l.toArray[i]? = some o) : o.guard = none ∧ ∀ e ∈ o.after, e.on < i := by
  have hi' : l[i]? = some o := by simpa using hi
  have hlt : i < l.length := (List.getElem?_eq_some_iff.1 hi').1
  have := List.all_eq_true.1 h i (List.mem_range.2 hlt)
  rw [hi'] at this
  simp only [Bool.and_eq_true, Array.all_eq_true'] at this
  exact ⟨by simpa using this.1, fun e he => by simpa using this.2 e he⟩
theorem getD_set (L : Array Bool) (i j : Nat) : (L.setIfInBounds i true).getD j true = if j = i then true else L.getD j true := by
  by_cases h : j = i
  · subst h
    rw [if_pos rfl]
    by_cases hj : j < L.size
    · simp [Array.getD, hj]
    · simp [Array.getD, hj]
  · rw [if_neg h]
    by_cases hj : j < L.size
    · simp [Array.getD, hj, Ne.symm h]
    · simp [Array.getD, hj]
/-- How many have not come up. -/
def openN (L : Array Bool) : Nat := ((List.range L.size).filter fun j => !L.getD j true).length
theorem openN_set (L : Array Bool) {i : Nat} (h : L.getD i true = false) : openN (L.setIfInBounds i true) < openN L := by
  unfold openN
  have hi : i < L.size := by
    rcases Nat.lt_or_ge i L.size with h' | h'
    · exact h'
    · simp [Array.getD, Nat.not_lt.2 h'] at h
  rw [Array.size_setIfInBounds]
  have e : (List.range L.size).filter (fun j => !(L.setIfInBounds i true).getD j true) = ((List.range L.size).filter fun j => !L.getD j true).filter fun j => decide (j ≠ i) := by
    rw [List.filter_filter]
    refine List.filter_congr fun j _ => ?_
    rw [getD_set]
    by_cases hj : j = i
    · subst hj; simp
    · simp [hj]
  rw [e]
  refine List.length_filter_lt_length_iff_exists.2 ⟨i, ?_, by simp⟩
  rw [List.mem_filter]
  exact ⟨List.mem_range.2 hi, by rw [h]; rfl⟩
theorem any_inv {l : List Oper} (Inv : (Nat → Bool) → Act → World → Prop) (hB : lowB l = true)
    (hstep : ∀ (L : Nat → Bool) (a : Act) (w : World) (i : Nat) (o : Oper), Inv L a w → l[i]? = some o → L i = false → (∀ e ∈ o.after, Region.binds .any e = true → L e.on = true) → o.wp P a w (fun a' w' => Inv (fun j => if j = i then true else L j) a' w') Q)
    (hend : ∀ (L : Nat → Bool) (a : Act) (w : World), Inv L a w → (∀ i, i < l.length → L i = true) → Q .normal a w) :
    ∀ (fuel : Nat) (L : Array Bool) (a : Act) (w : World), L.size = l.length → openN L ≤ fuel → Inv (fun j => L.getD j true) a w → wpAny P .any l.toArray Q fuel L a w := by
  have hfull : ∀ (L : Array Bool), L.size = l.length → Region.ready .any l.toArray L = [] → ∀ i, i < l.length → L.getD i true = true := by
    intro L hs hr i
    induction i using Nat.strongRecOn with
    | ind i ih =>
      intro hi
      cases hb : L.getD i true with
      | true => rfl
      | false =>
        have ho : l.toArray[i]? = some l[i] := by simp [hi]
        have hm : i ∈ Region.ready .any l.toArray L := mem_ready.2 ⟨hb, l[i], ho, fun e he _ => by
          have hlt := (low_of hB ho).2 e he
          have := ih e.on hlt (by omega)
          have hsz : e.on < L.size := by omega
          simp [Array.getD, hsz] at this ⊢
          exact this⟩
        rw [hr] at hm
        cases hm
  intro fuel
  induction fuel with
  | zero =>
    intro L a w hs hf hI
    have hr : Region.ready .any l.toArray L = [] := by
      cases hh : Region.ready .any l.toArray L with
      | nil => rfl
      | cons i r =>
        have hm : i ∈ Region.ready .any l.toArray L := by rw [hh]; exact List.mem_cons_self
        have := openN_set L (mem_ready.1 hm).1
        omega
    exact ⟨hr, hend _ _ _ hI (hfull L hs hr)⟩
  | succ fuel ih =>
    intro L a w hs hf hI
    refine ⟨fun hr => hend _ _ _ hI (hfull L hs hr), fun i hi => ?_⟩
    obtain ⟨hun, o, ho, hall⟩ := mem_ready.1 hi
    have ho' : l[i]? = some o := by simpa using ho
    refine wpOp_plain ho (low_of hB ho).1 (Oper.wp_mono (fun a' w' hI' => ih _ a' w' (by simpa using hs) ?_ ?_) (hstep _ a w i o hI ho' hun (fun e he hb => ?_)))
    · have := openN_set L hun; omega
    · have e : (fun j => (L.setIfInBounds i true).getD j true) = fun j => if j = i then true else L.getD j true := funext fun j => getD_set L i j
      rw [e]; exact hI'
    · have := hall e he hb
      have hlt := (low_of hB ho).2 e he
      have hl : i < l.length := (List.getElem?_eq_some_iff.1 ho').1
      have hsz : e.on < L.size := by omega
      simp [Array.getD, hsz] at this ⊢
      exact this
theorem wp_region_inv {id : Nat} {a : Act} {w : World} {l : List Oper} (Inv : (Nat → Bool) → Act → World → Prop) (hm : P.follows .mixedOrders = true) (hB : lowB l = true) (h0 : Inv (fun j => decide (l.length ≤ j)) a w.drew)
    (hstep : ∀ (L : Nat → Bool) (a : Act) (w : World) (i : Nat) (o : Oper), Inv L a w → l[i]? = some o → L i = false → (∀ e ∈ o.after, Region.binds .any e = true → L e.on = true) → o.wp P a w (fun a' w' => Inv (fun j => if j = i then true else L j) a' w') Q)
    (hend : ∀ (L : Nat → Bool) (a : Act) (w : World), Inv L a w → (∀ i, i < l.length → L i = true) → Q .normal a w) : (Code.region id l.toArray true).wp P Q a w := by
  refine wp_region_any hm ?_
  refine any_inv Inv hB hstep hend _ _ _ _ (by simp) ?_ ?_
  · unfold openN
    refine Nat.le_trans (List.length_filter_le _ _) (by simp)
  · have e : (fun j => (Array.replicate l.toArray.size false).getD j true) = fun j => decide (l.length ≤ j) := by
      funext j
      by_cases h : j < l.length
      · simp [Array.getD, h, Nat.not_le.2 h]
      · simp [Array.getD, h, Nat.not_lt.1 h]
    rw [e]; exact h0
end
end Go.Proofs.Ytimhkkijoelmhaa
namespace Go.Proofs.Ytimhkkijoelmhaa
open Go.RowKit

def putAll (a : Act) (l : List (Nat × Value)) : Act := l.foldl (fun a p => a.put (some p.1) p.2) a
theorem putAll_nil (a : Act) : putAll a [] = a := rfl
theorem putAll_cons (a : Act) (p : Nat × Value) (l : List (Nat × Value)) : putAll a (p :: l) = putAll (a.put (some p.1) p.2) l := rfl
def setK (l : List (Nat × Value)) (d : Nat) (v : Value) : List (Nat × Value) := l.map fun p => if p.1 = d then (p.1, v) else p
theorem put_put (a : Act) (d : Nat) (v u : Value) : (a.put (some d) v).put (some d) u = a.put (some d) u := by
  simp [Act.put]
theorem put_swap (a : Act) {d e : Nat} (h : d ≠ e) (v u : Value) : (a.put (some d) v).put (some e) u = (a.put (some e) u).put (some d) v := by
  simp [Act.put]
  exact Array.setIfInBounds_comm _ _ h
theorem putAll_out (l : List (Nat × Value)) : ∀ (a : Act) (d : Nat) (v : Value), d ∉ l.map (·.1) → (putAll a l).put (some d) v = putAll (a.put (some d) v) l := by
  induction l with
  | nil => intro a d v _; rfl
  | cons p l ih =>
    intro a d v h
    rw [List.map_cons, List.mem_cons, not_or] at h
    rw [putAll_cons, ih _ _ _ h.2, putAll_cons, put_swap _ h.1]
theorem setK_out (l : List (Nat × Value)) (d : Nat) (v : Value) (h : d ∉ l.map (·.1)) : setK l d v = l := by
  unfold setK
  induction l with
  | nil => rfl
  | cons p l ih =>
    rw [List.map_cons, List.mem_cons, not_or] at h
    rw [List.map_cons, ih h.2, if_neg (fun e => h.1 e.symm)]
theorem putAll_in (l : List (Nat × Value)) : ∀ (a : Act) (d : Nat) (v : Value), (l.map (·.1)).Nodup → d ∈ l.map (·.1) → (putAll a l).put (some d) v = putAll a (setK l d v) := by
  induction l with
  | nil => intro a d v _ h; cases h
  | cons p l ih =>
    intro a d v hn h
    rw [List.map_cons, List.nodup_cons] at hn
    by_cases e : p.1 = d
    · subst e
      rw [putAll_cons, putAll_out _ _ _ _ hn.1, put_put]
      show _ = putAll a ((if p.1 = p.1 then (p.1, v) else p) :: setK l p.1 v)
      rw [if_pos rfl, setK_out _ _ _ hn.1, putAll_cons]
    · have h' : d ∈ l.map (·.1) := by
        rw [List.map_cons, List.mem_cons] at h
        rcases h with h | h
        · exact absurd h.symm e
        · exact h
      rw [putAll_cons, ih _ _ _ hn.2 h']
      show _ = putAll a ((if p.1 = d then (p.1, v) else p) :: setK l d v)
      rw [if_neg e, putAll_cons]
theorem putAll_size (l : List (Nat × Value)) : ∀ (a : Act), (putAll a l).tmps.size = a.tmps.size := by
  induction l with
  | nil => intro a; rfl
  | cons p l ih => intro a; rw [putAll_cons, ih]; simp [Act.put]
theorem putAll_far (l : List (Nat × Value)) : ∀ (a : Act) (d : Nat), d ∉ l.map (·.1) → (putAll a l).tmps[d]? = a.tmps[d]? := by
  induction l with
  | nil => intro a d _; rfl
  | cons p l ih =>
    intro a d h
    rw [List.map_cons, List.mem_cons, not_or] at h
    rw [putAll_cons, ih _ _ h.2]
    simp [Act.put, Ne.symm h.1]
theorem putAll_near (l : List (Nat × Value)) : ∀ (a : Act) (d : Nat) (v : Value), (l.map (·.1)).Nodup → (d, v) ∈ l → d < a.tmps.size → (putAll a l).tmps[d]? = some v := by
  induction l with
  | nil => intro a d v _ h; cases h
  | cons p l ih =>
    intro a d v hn h hd
    rw [List.map_cons, List.nodup_cons] at hn
    rw [putAll_cons]
    rcases List.mem_cons.1 h with rfl | h
    · rw [putAll_far _ _ _ hn.1]
      simp [Act.put, hd]
    · exact ih _ _ _ hn.2 h (by simpa [Act.put] using hd)
theorem eval_tmp {a : Act} {d : Nat} {v : Value} (h : a.tmps[d]? = some v) : a.eval (.tmp d) = v := by
  simp [Act.eval, h]
theorem eval_near {l : List (Nat × Value)} {a : Act} {d : Nat} {v : Value} (hn : (l.map (·.1)).Nodup) (h : (d, v) ∈ l) (hd : d < a.tmps.size) : (putAll a l).eval (.tmp d) = v := eval_tmp (putAll_near l a d v hn h hd)
theorem eval_far {l : List (Nat × Value)} {a : Act} {d : Nat} {v : Value} (hn : d ∉ l.map (·.1)) (h : a.tmps[d]? = some v) : (putAll a l).eval (.tmp d) = v := eval_tmp ((putAll_far l a d hn).trans h)
/-- A frame is itself with what it holds laid once more. -/
theorem putAll_self (l : List (Nat × Value)) : ∀ (a : Act), (∀ p ∈ l, a.tmps[p.1]? = some p.2) → putAll a l = a := by
  induction l with
  | nil => intro a _; rfl
  | cons p l ih =>
    intro a h
    have e : a.put (some p.1) p.2 = a := by
      have hp := h p List.mem_cons_self
      obtain ⟨tm, df⟩ := a
      show Act.mk _ _ = Act.mk _ _
      congr 1
      refine Array.ext_getElem? (fun j => ?_)
      by_cases e : j = p.1
      · subst e
        rw [hp]
        have := (Array.getElem?_eq_some_iff.1 hp).1
        simp [this]
      · simp [Ne.symm e]
    rw [putAll_cons, e]
    exact ih a (fun q hq => h q (List.mem_cons_of_mem _ hq))
/-- A frame with values laid at some slots. -/
def frameV (a : Act) (ks : List Nat) (V : Nat → Value) : Act := putAll a (ks.map fun k => (k, V k))
def updV (V : Nat → Value) (d : Nat) (v : Value) : Nat → Value := fun k => if k = d then v else V k
theorem frame_keys (ks : List Nat) (V : Nat → Value) : (ks.map fun k => (k, V k)).map (·.1) = ks := by
  rw [List.map_map]
  exact List.map_id' _
section
variable {a : Act} {ks : List Nat} {V : Nat → Value} {d : Nat} {v : Value}
theorem frame_put (hn : ks.Nodup) (hd : d ∈ ks) : (frameV a ks V).put (some d) v = frameV a ks (updV V d v) := by
  unfold frameV
  rw [putAll_in _ _ _ _ (by rw [frame_keys]; exact hn) (by rw [frame_keys]; exact hd)]
  congr 1
  unfold setK updV
  rw [List.map_map]
  refine List.map_congr_left fun k _ => ?_
  show (if k = d then (k, v) else (k, V k)) = _
  by_cases h : k = d <;> simp [h]
theorem frame_near (hn : ks.Nodup) (hd : d ∈ ks) (hs : d < a.tmps.size) : (frameV a ks V).eval (.tmp d) = V d :=
  eval_near (by rw [frame_keys]; exact hn) (List.mem_map.2 ⟨d, hd, rfl⟩) hs
theorem frame_far (hd : d ∉ ks) (h : a.tmps[d]? = some v) : (frameV a ks V).eval (.tmp d) = v := eval_far (by rw [frame_keys]; exact hd) h
theorem frame_get (hn : ks.Nodup) (hd : d ∈ ks) (hs : d < a.tmps.size) : (frameV a ks V).tmps[d]? = some (V d) :=
  putAll_near _ _ _ _ (by rw [frame_keys]; exact hn) (List.mem_map.2 ⟨d, hd, rfl⟩) hs
theorem frame_got (hd : d ∉ ks) (h : a.tmps[d]? = some v) : (frameV a ks V).tmps[d]? = some v := (putAll_far _ _ _ (by rw [frame_keys]; exact hd)).trans h
theorem frame_self (hk : ∀ k ∈ ks, k < a.tmps.size) : frameV a ks (fun k => a.tmps.getD k undef) = a := by
  refine putAll_self _ _ (fun p hp => ?_)
  obtain ⟨k, hkm, rfl⟩ := List.mem_map.1 hp
  have := hk k hkm
  simp [Array.getD, this]
end
theorem wp_region_frame {P : Program} {Q : Exit → Act → World → Prop} {id : Nat} {a : Act} {w : World} {l : List Oper} (ks : List Nat) (Inv : (Nat → Bool) → (Nat → Value) → World → Prop) (hm : P.follows .mixedOrders = true) (hB : lowB l = true)
    (hk : ∀ k ∈ ks, k < a.tmps.size) (h0 : ∀ V, Inv (fun j => decide (l.length ≤ j)) V w.drew)
    (hstep : ∀ (L : Nat → Bool) (V : Nat → Value) (w : World) (i : Nat) (o : Oper), Inv L V w → l[i]? = some o → L i = false → (∀ e ∈ o.after, Region.binds .any e = true → L e.on = true) →
      o.wp P (frameV a ks V) w (fun a' w' => ∃ V', a' = frameV a ks V' ∧ Inv (fun j => if j = i then true else L j) V' w') Q)
    (hend : ∀ (L : Nat → Bool) (V : Nat → Value) (w : World), Inv L V w → (∀ i, i < l.length → L i = true) → Q .normal (frameV a ks V) w) : (Code.region id l.toArray true).wp P Q a w := by
  refine wp_region_inv (Inv := fun L a' w' => ∃ V, a' = frameV a ks V ∧ Inv L V w') hm hB ⟨_, (frame_self hk).symm, h0 _⟩ ?_ ?_
  · rintro L a' w' i o ⟨V, rfl, hI⟩ ho hun hall
    exact hstep L V w' i o hI ho hun hall
  · rintro L a' w' ⟨V, rfl, hI⟩ hL
    exact hend L V w' hI hL
/-- What an operation yields, and what it leaves. -/
theorem op_value {P : Program} {o : Oper} {a : Act} {w w' : World} {v : Value} {K : Act → World → Prop} {Q : Exit → Act → World → Prop} (h : (execOp a.eval o).run P w = .ok (.value v) w') (hK : K (a.put o.dst v) w') : o.wp P a w K Q := by
  unfold Oper.wp
  rw [h]
  exact hK
theorem op_enter {P : Program} {o : Oper} {a : Act} {w w' : World} {f : FuncId} {args : Array Value} {K : Act → World → Prop} {Q : Exit → Act → World → Prop} (h : (execOp a.eval o).run P w = .ok (.enter f args) w')
    (hK : Calls P f args w' fun e w'' => ∃ v, e = .returned v ∧ K (a.put o.dst v) w'') : o.wp P a w K Q := by
  unfold Oper.wp
  rw [h, Oper.upon_enter]
  refine hK.mono ?_
  rintro e w'' ⟨v, rfl, hk⟩
  exact hk
theorem op_skip {P : Program} {o : Oper} {a : Act} {w w' : World} {K : Act → World → Prop} {Q : Exit → Act → World → Prop} (h : (execOp a.eval o).run P w = .ok .skip w') (hK : K (a.put o.dst undef) w') : o.wp P a w K Q := by
  unfold Oper.wp
  rw [h]
  exact hK
end Go.Proofs.Ytimhkkijoelmhaa
