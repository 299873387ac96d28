/- Whether a table and a question are valid, and not great; slices cut in a region that draws its order. -/
import Derived.Test.YtimhkkijoelmhaaQBoundPure10
import Derived.Test.YtimhkkijoelmhaaQOrd10
import Derived.Test.YtimhkkijoelmhaaQWithin10
import Derived.Test.YtimhkkijoelmhaaQRound10
import Derived.Test.YtimhkkijoelmhaaQAway10
import Derived.Test.YtimhkkijoelmhaaQPlan
namespace Go.Proofs.Ytimhkkijoelmhaa
open Go.RowKit

section
variable {P : Program} {l : List Oper} {C : World → Prop} {Q : Exit → Act → World → Prop} {p : List (Nat × Bool)} {o : Oper} {a : Act} {w : World} {i : Nat}
theorem ord_run {v : Value} (ho : l[i]? = some o) (hg : o.guard = none) (hrun : ∀ w, C w → (execOp a.eval o).run P w = .ok (.value v) w) (h : OrdL P l.toArray C Q p (a.put o.dst v) w) : OrdL P l.toArray C Q ((i, false) :: p) a w := by
  refine ⟨o, at_list ho, ?_⟩
  rw [if_pos (wanted_none hg)]
  exact ⟨v, hrun, h⟩
theorem ord_slice_to (ho : l[i]? = some o) (hg : o.guard = none) (t e : TypeId) (x hi : Operand) (hop : o.op = .slice t x none (some hi) none) (ti : TypeInfo) (ht : P.underlying t = some (.slice e)) (hti : P.info? e = some ti) (A : Option Addr) (n c k : Nat) (kl : IntKind) (hx : a.eval x = .slice A n c) (hh : a.eval hi = .int kl (k : Int)) (hk : k ≤ n) (hc : n ≤ c)
    (h : OrdL P l.toArray C Q p (a.put o.dst (.slice A k c)) w) : OrdL P l.toArray C Q ((i, false) :: p) a w :=
  ord_run ho hg (fun w _ => by
    have hrun := run_slice_to ht hti A n c k kl hk hc w
    simp [execOp, hop, hx, hh, hrun, Result.andThen]) h
theorem ord_slice_from (ho : l[i]? = some o) (hg : o.guard = none) (t e : TypeId) (x lo : Operand) (hop : o.op = .slice t x (some lo) none none) (ti : TypeInfo) (size : Nat) (ht : P.underlying t = some (.slice e)) (hti : P.info? e = some ti) (hs : ti.size = size) (A : Option Addr) (n c k : Nat) (kl : IntKind) (K : Int) (hx : a.eval x = .slice A n c) (hl : a.eval lo = .int kl K) (hK : K = (k : Int)) (hk : k ≤ n) (hc : n ≤ c)
    (h : ∀ A', (∀ W xs, Rd W size A n xs → Rd W size A' (n - k) (xs.drop (k * size))) → OrdL P l.toArray C Q p (a.put o.dst (.slice A' (n - k) (c - k))) w) : OrdL P l.toArray C Q ((i, false) :: p) a w := by
  subst hK
  exact ord_run ho hg (fun w _ => by
    have hrun := run_sliceAt_from ht hti hs A n c k kl hk w
    simp [execOp, hop, hx, hl, hrun, Result.andThen]) (h _ (fun W xs hr => hr.cut hk hc))
end
/-- One question that lies by itself. -/
theorem qsts_one {w W : World} {q : Qst} (hq : QstIn w q) (g : Gr w W) {b : Nat} {t : TypeId} (hb : W.heap[b]? = some (.cells #[.slice q.a q.n q.c, .int .i64 q.col, .int .i64 q.clip, .int .i64 q.step] t (0, 0))) : QstsIn W (some ⟨b, 0, none⟩) 1 [q] :=
  ⟨rd_row10 hb 4 1 rfl, by omega, fun s hs => by
    rw [List.mem_singleton] at hs
    subst hs
    exact hq.gr g⟩
def asksB (columns : Int) (n : Nat) (zs : List Sbj) (q : Qst) : Bool := !greatT n 1 zs [q] && (tableB columns zs && qstB columns q)

set_option maxRecDepth 100000 in
set_option maxHeartbeats 4000000 in
theorem asks_any (columns : Int) (A : Option Addr) (n c : Nat) (zs : List Sbj) (q : Qst) (w : World) (hi : SbjsIn w A n zs) (hq : QstIn w q) :
    Calls Try.prog 35 #[.int .i64 columns, .slice A n c, q.val] w fun e w' => e = .returned (.bool (asksB columns n zs q)) ∧ Gr w w' := by
  have HQ1 := hid (fun (b : Nat) (W : World) (g : Gr w W) (hb : W.heap[b]? = some (.cells #[.slice q.a q.n q.c, .int .i64 q.col, .int .i64 q.clip, .int .i64 q.step] 25 (0, 0))) => qsts_one hq g hb)
  have HG := hid (fun B W (g : Gr w W) (hB : QstsIn W B 1 [q]) => great10_any A n c zs B 1 1 [q] W (hi.gr g) hB)
  have HC := hid (fun W (k : Gr w W) => refCheck_any columns A n c zs W (hi.gr k))
  have HQ := hid (fun W (k : Gr w W) (h : tableB columns zs = true) => refQuestion_any columns q W (hq.gr k) (table_cols h))
  unfold asksB
  unfold tableN at HC
  obtain ⟨G, hG⟩ : ∃ G, greatT n 1 zs [q] = G := ⟨_, rfl⟩
  rw [hG] at HG ⊢
  clear hi hq hG
  obtain ⟨tb, htb⟩ : ∃ tb, tableB columns zs = tb := ⟨_, rfl⟩
  rw [htb] at HC HQ ⊢
  obtain ⟨qb, hqb⟩ : ∃ qb, qstB columns q = qb := ⟨_, rfl⟩
  rw [hqb] at HQ ⊢
  clear htb hqb
  unfold Qst.val at *
  obtain ⟨r1, r2⟩ := rows2 w (.cells #[.slice q.a q.n q.c, .int .i64 q.col, .int .i64 q.clip, .int .i64 q.step] 25) (.cells #[.slice q.a q.n q.c, .int .i64 q.col, .int .i64 q.clip, .int .i64 q.step] 25)
  have H2 := hid (show Gr w ((w.alloc (.cells #[.slice q.a q.n q.c, .int .i64 q.col, .int .i64 q.clip, .int .i64 q.step] 25)).alloc (.cells #[.slice q.a q.n q.c, .int .i64 q.col, .int .i64 q.clip, .int .i64 q.step] 25)) from ((Gr.refl w).alloc _).alloc _)
  have HS := hid (HQ1.out _ _ H2.out r2)
  have HR1 := hid r1
  clear r1 r2
  cases G with
  | true =>
    go_enter Try.func35, Try.ntmps35
    go_wp2_with (go_at_call 13; (with_reducible refine (HG.out _ _ H2.out HS.out).mono ?_); rintro e w1 ⟨rfl, hb1⟩)
    go_ret
    exact ⟨rfl, H2.out.trans hb1⟩
  | false =>
    cases tb with
    | false =>
      go_enter Try.func35, Try.ntmps35
      go_wp2_with (first
        | (go_at_call 13; (with_reducible refine (HG.out _ _ H2.out HS.out).mono ?_); rintro e w1 ⟨rfl, hb1⟩)
        | (go_at_call 21; (with_reducible refine (HC.out _ (H2.out.trans hb1)).mono ?_); rintro e w2 ⟨rfl, hb2⟩))
      go_ret
      exact ⟨rfl, (H2.out.trans hb1).trans hb2⟩
    | true =>
      have HQ2 := hid (fun W k => HQ.out W k rfl)
      clear HQ
      go_enter Try.func35, Try.ntmps35
      go_wp2_with (first
        | (go_at_call 13; (with_reducible refine (HG.out _ _ H2.out HS.out).mono ?_); rintro e w1 ⟨rfl, hb1⟩)
        | (go_at_call 21; (with_reducible refine (HC.out _ (H2.out.trans hb1)).mono ?_); rintro e w2 ⟨rfl, hb2⟩; obtain ⟨c0, c1, c2, c3⟩ := cellsat4 (row_gr (row_gr HR1.out hb1) hb2))
        | (go_at_call 45; (with_reducible refine (HQ2.out _ ((H2.out.trans hb1).trans hb2)).mono ?_); rintro e w3 ⟨rfl, hb3⟩))
      go_ret
      exact ⟨rfl, ((H2.out.trans hb1).trans hb2).trans hb3⟩
end Go.Proofs.Ytimhkkijoelmhaa
