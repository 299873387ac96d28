/- among of the package match: whether given names are some of others, in their order. For all records with names of one to twenty letters. -/
import Derived.RangeFuncNested
import Derived.Shelf.RegionOpen
import Derived.Test.YtlkjimfkapcenaaGiven
import Derived.Test.YtlkjimfkapcenaaAmongOne
import Derived.Test.YtlkjimfkapcenaaCmpSpec
import Derived.Test.YtlkjimfkapcenaaCutFrom
import Derived.Test.YtlkjimfkapcenaaSlStr
import Derived.Test.YtlkjimfkapcenaaTwin
namespace Go.Proofs.Ytlkjimfkapcenaa
open Go.RowKit Go.Shelf
attribute [local go_sem] Oper.semAt_some

/-- A word of one to twenty letters. -/
abbrev Wrd := { x : ByteArray // 0 < x.size ∧ x.size ≤ 20 }
def Wrd.one : Wrd := ⟨⟨#[65]⟩, by decide⟩
theorem wrd_list {l : List ByteArray} (h : ∀ s ∈ l, 0 < s.size ∧ s.size ≤ 20) : ∃ ws : List Wrd, ws.map (·.1) = l := by
  induction l with
  | nil => exact ⟨[], rfl⟩
  | cons x l ih =>
    obtain ⟨ws, e⟩ := ih (fun s hs => h s (by simp [hs]))
    exact ⟨⟨x, h x (by simp)⟩ :: ws, by simp [e]⟩

def AmI (w : World) (k : Int) (ys : List ByteArray) (pre : List Wrd) (W : World) : Prop :=
  ∃ l A n c, (pre.map (·.1)).foldlM (amStep k) ys = some l ∧ Rd w 1 A n (l.map Value.string) ∧ n ≤ c ∧ c ≤ 9223372036854775807 ∧ (∀ s ∈ l, s ∈ ys) ∧
    Boxed W (w.heap.size + 1 + 1 + 1 + 1) 24 (.slice A n c) ∧ Boxed W (w.heap.size + 1 + 1) 3 (.int .i64 k) ∧ Boxed W (w.heap.size + 1 + 1 + 1) 4 (.bool false) ∧ Below w.heap.size w W
def AmX (w : World) (k : Int) (ys : List ByteArray) (c : Code) (pre : List Wrd) (W : World) : Prop :=
  c = .ret ∧ (pre.map (·.1)).foldlM (amStep k) ys = none ∧ Boxed W (w.heap.size + 1 + 1 + 1) 4 (.bool false) ∧ Below w.heap.size w W
theorem amI_own (w : World) (k : Int) (ys : List ByteArray) {B : Nat} (hB : w.heap.size ≤ B) : OwnFrom B (AmI w k ys) := by
  rintro s X Y row ⟨l, A, n, c, e1, e2, e3, e4, e5, b1, b2, b3, hb⟩ hg hr
  have hr' : ∀ r, row = some r → ∃ o : Obj, X.heap[r]? = some o ∧ o.isCells = false := fun r e => (hr r e).2
  exact ⟨l, A, n, c, e1, e2, e3, e4, e5, boxed_own _ _ (fun (_ : Unit) => Value.slice A n c) () X Y row b1 hg hr', boxed_own _ _ (fun (_ : Unit) => Value.int .i64 k) () X Y row b2 hg hr', boxed_own _ _ (fun (_ : Unit) => Value.bool false) () X Y row b3 hg hr',
    ownFrom_below (β := Unit) (Nat.le_refl _) hB () X Y row hb hg hr⟩
theorem amX_own (w : World) (k : Int) (ys : List ByteArray) {B : Nat} (hB : w.heap.size ≤ B) (c : Code) : OwnFrom B (AmX w k ys c) := by
  rintro s X Y row ⟨e1, e2, b3, hb⟩ hg hr
  exact ⟨e1, e2, boxed_own _ _ (fun (_ : Unit) => Value.bool false) () X Y row b3 hg (fun r e => (hr r e).2), ownFrom_below (β := Unit) (Nat.le_refl _) hB () X Y row hb hg hr⟩
theorem grown_of_gr {w w' : World} (g : Gr w w') : w.grownBy w' none := ⟨g.os, g.tape, g.output, Gr.size g, fun _ hi _ => Gr.heap g hi⟩
theorem boxed_gr {W W' : World} {B : Nat} {t : TypeId} {v : Value} (h : Boxed W B t v) (g : Gr W W') : Boxed W' B t v := h.kept (grown_of_gr g) (by simp)
theorem keeps_of_gr {W W' : World} (g : Gr W W') : KeepsOthers W W' := KeepsOthers.of_grownBy (grown_of_gr g) (fun j o e _ => by cases e)

set_option maxRecDepth 100000 in
set_option maxHeartbeats 4000000 in
theorem among_any (a b : Rcd) (k : Int) (b0 o0 n c : Nat) (B : Option Addr) (m d : Nat) (b1 o1 n' c' : Nat) (B' : Option Addr) (m' d' : Nat) (w : World)
    (ha : Rd w 1 (some ⟨b0, o0, none⟩) n (a.names.map Value.string)) (hb : Rd w 1 (some ⟨b1, o1, none⟩) n' (b.names.map Value.string)) (h1 : 1 ≤ n) (h1' : 1 ≤ n') (hc : n ≤ c) (hcb : c ≤ 9223372036854775807) (hc' : n' ≤ c') (hcb' : c' ≤ 9223372036854775807)
    (h5 : n ≤ 100) (wa : ∀ s ∈ a.names, 0 < s.size ∧ s.size ≤ 20) (wb : ∀ s ∈ b.names, 0 < s.size ∧ s.size ≤ 20) :
    Calls Try.prog 74 #[a.val (some ⟨b0, o0, none⟩) n c B m d, b.val (some ⟨b1, o1, none⟩) n' c' B' m' d', .int .i64 k] w fun e w' => e = .returned (.bool (amongB k a.names.tail b.names.tail)) ∧ Gr w w' := by
  obtain ⟨i0, hi0, hz0, hs0, hy0⟩ := info_parts info_string
  have HI0 := hid hi0
  have HS0 := hid hs0
  clear hi0 hz0 hs0 hy0
  have HG := hid (fun W => given_in Fence.wide 2 trivial trivial rfl (Nat.le_refl _) a b0 o0 n c B m d W h1 hc hcb)
  obtain ⟨id', names', suf', l2, h2, q, tw', stays'⟩ := b
  obtain ⟨id, names, suf, l1, hh1, p, tw, stays⟩ := a
  unfold Rcd.val at HG ⊢
  dsimp only at HG ha hb wa wb ⊢
  refine (callsIn_wide (n := 3)).1 ?_
  refine callsIn_of_wp_marks Try.func74 rfl trivial ?_ rfl
  simp only [Try.ntmps74, List.size_toArray, List.length_cons, List.length_nil, Nat.reduceAdd, Nat.reduceSub, Array.replicate_succ, Array.replicate_zero, List.push_toArray, List.append_toArray, List.nil_append, List.cons_append]
  gi_wp2_with (first
    | (refine ⟨trivial, ?_⟩; gi_at_call 92; refine (HG.out _).mono ?_; rintro e w' ⟨rfl, o', T1, T2, C, ho, rfl⟩; have HO := hid ho; clear ho)
    | (refine wpListIn_slice_from rfl (.tmp 12) (.const (.int .i64 1)) 24 rfl 9 i0 1 Try.underlying24 HI0.out HS0.out (some ⟨b1, o1, none⟩) n' c' 1 .i64 1 rfl rfl rfl h1' hc' ?_; intro A1 hA1; have HA1 := hid hA1; clear hA1))
  obtain ⟨ws, hws⟩ := wrd_list (l := names.tail) (fun s hs => wa s (List.mem_of_mem_tail hs))
  have hwl : ws.length = n - 1 := by
    have h := congrArg List.length hws
    have h2 := ha.len
    simp at h h2
    omega
  have bL := (((Boxed.new ((w.alloc (.cells #[.int .i64 id, .slice (some ⟨b0, o0, none⟩) n c, .int .u8 suf, .int .i64 l1, .int .i64 hh1, .string p, .bool tw, .slice B m d] 106)).alloc (.cells #[.int .i64 id', .slice (some ⟨b1, o1, none⟩) n' c', .int .u8 suf', .int .i64 l2, .int .i64 h2, .string q, .bool tw', .slice B' m' d'] 106)) 3 (.int .i64 k)).alloc (.cells #[.bool false] 4)).alloc (.cells #[.slice A1 (n' - 1) (c' - 1)] 24))
  have bR := ((Boxed.new (((w.alloc (.cells #[.int .i64 id, .slice (some ⟨b0, o0, none⟩) n c, .int .u8 suf, .int .i64 l1, .int .i64 hh1, .string p, .bool tw, .slice B m d] 106)).alloc (.cells #[.int .i64 id', .slice (some ⟨b1, o1, none⟩) n' c', .int .u8 suf', .int .i64 l2, .int .i64 h2, .string q, .bool tw', .slice B' m' d'] 106)).alloc (.cells #[.int .i64 k] 3)) 4 (.bool false)).alloc (.cells #[.slice A1 (n' - 1) (c' - 1)] 24))
  have bS := Boxed.new ((((w.alloc (.cells #[.int .i64 id, .slice (some ⟨b0, o0, none⟩) n c, .int .u8 suf, .int .i64 l1, .int .i64 hh1, .string p, .bool tw, .slice B m d] 106)).alloc (.cells #[.int .i64 id', .slice (some ⟨b1, o1, none⟩) n' c', .int .u8 suf', .int .i64 l2, .int .i64 h2, .string q, .bool tw', .slice B' m' d'] 106)).alloc (.cells #[.int .i64 k] 3)).alloc (.cells #[.bool false] 4)) 24 (.slice A1 (n' - 1) (c' - 1))
  have g5 : Gr w (((((w.alloc (.cells #[.int .i64 id, .slice (some ⟨b0, o0, none⟩) n c, .int .u8 suf, .int .i64 l1, .int .i64 hh1, .string p, .bool tw, .slice B m d] 106)).alloc (.cells #[.int .i64 id', .slice (some ⟨b1, o1, none⟩) n' c', .int .u8 suf', .int .i64 l2, .int .i64 h2, .string q, .bool tw', .slice B' m' d'] 106)).alloc (.cells #[.int .i64 k] 3)).alloc (.cells #[.bool false] 4)).alloc (.cells #[.slice A1 (n' - 1) (c' - 1)] 24)) := (((((Gr.refl w).alloc _).alloc _).alloc _).alloc _).alloc _
  have hsz : (((((w.alloc (.cells #[.int .i64 id, .slice (some ⟨b0, o0, none⟩) n c, .int .u8 suf, .int .i64 l1, .int .i64 hh1, .string p, .bool tw, .slice B m d] 106)).alloc (.cells #[.int .i64 id', .slice (some ⟨b1, o1, none⟩) n' c', .int .u8 suf', .int .i64 l2, .int .i64 h2, .string q, .bool tw', .slice B' m' d'] 106)).alloc (.cells #[.int .i64 k] 3)).alloc (.cells #[.bool false] 4)).alloc (.cells #[.slice A1 (n' - 1) (c' - 1)] 24)).heap.size = w.heap.size + 1 + 1 + 1 + 1 + 1 := by simp
  simp only [World.size_alloc] at bL bR bS
  generalize ((((w.alloc (.cells #[.int .i64 id, .slice (some ⟨b0, o0, none⟩) n c, .int .u8 suf, .int .i64 l1, .int .i64 hh1, .string p, .bool tw, .slice B m d] 106)).alloc (.cells #[.int .i64 id', .slice (some ⟨b1, o1, none⟩) n' c', .int .u8 suf', .int .i64 l2, .int .i64 h2, .string q, .bool tw', .slice B' m' d'] 106)).alloc (.cells #[.int .i64 k] 3)).alloc (.cells #[.bool false] 4)).alloc (.cells #[.slice A1 (n' - 1) (c' - 1)] 24) = W5 at bL bR bS g5 hsz ⊢
  have bV := Boxed.new (W5.alloc (.cells C T1)) T2 (.slice (some ⟨b0, o', none⟩) (n - 1) (c - 1))
  rw [World.size_alloc, hsz] at bV
  have g7 : Gr w ((W5.alloc (.cells C T1)).alloc (.cells #[.slice (some ⟨b0, o', none⟩) (n - 1) (c - 1)] T2)) := (g5.alloc _).alloc _
  have bL := (bL.alloc (.cells C T1)).alloc (.cells #[.slice (some ⟨b0, o', none⟩) (n - 1) (c - 1)] T2)
  have bR := (bR.alloc (.cells C T1)).alloc (.cells #[.slice (some ⟨b0, o', none⟩) (n - 1) (c - 1)] T2)
  have bS := (bS.alloc (.cells C T1)).alloc (.cells #[.slice (some ⟨b0, o', none⟩) (n - 1) (c - 1)] T2)
  have hsz7 : ((W5.alloc (.cells C T1)).alloc (.cells #[.slice (some ⟨b0, o', none⟩) (n - 1) (c - 1)] T2)).heap.size = w.heap.size + 7 := by simp [hsz]
  generalize (W5.alloc (.cells C T1)).alloc (.cells #[.slice (some ⟨b0, o', none⟩) (n - 1) (c - 1)] T2) = W0 at bV bL bR bS g7 hsz7 ⊢
  have hlt0 : b0 < w.heap.size := by
    obtain ⟨b, off, e, hb, _⟩ := ha.at_ h1
    cases e
    exact hb
  have hcs : SqStrs (fun x : Wrd => x.1) Wrd.one w.heap.size W0 (.slice (some ⟨b0, o', none⟩) (n - 1) (c - 1)) ws := by
    refine .inr ⟨b0, o', c - 1, by rw [hwl], hlt0, fun j hj => ?_⟩
    obtain ⟨b, off, e, hb, hcell⟩ := ha.at_ h1
    cases e
    rw [HO.out (by omega), g7.cell hlt0]
    have h := hcell (j + 1) (.string (ws[j]?.getD Wrd.one).1) (by
      have hx : names.tail[j]? = some (ws[j]?.getD Wrd.one).1 := by rw [← hws, List.getElem?_map, List.getElem?_eq_getElem hj]; rfl
      rw [List.getElem?_tail] at hx
      rw [List.getElem?_map, hx]; rfl)
    rw [← h, Nat.add_assoc, Nat.add_comm 1 j]
  have hI0 : AmI w k names'.tail [] W0 := by
    refine ⟨names'.tail, A1, n' - 1, c' - 1, rfl, ?_, by omega, by omega, fun s hs => hs, bS, bL, bR, g7⟩
    have h := HA1.out w _ hb
    rw [Nat.one_mul, ← List.map_drop, List.drop_one] at h
    exact h
  refine wpIn_rangeFunc_ownH rfl (by omega) (gf := 119) (lb := #[.pointer (some ⟨w.heap.size + 1 + 1 + 1 + 1 + 1 + 1, 0, none⟩)]) rfl trivial (enters_of Try.func119 (by kernel_rfl) rfl)
    (sq_values_stops (fun x : Wrd => x.1) Wrd.one Fence.wide 2 trivial rfl (by omega) (w.heap.size + 1 + 1 + 1 + 1 + 1 + 1) w.heap.size (.slice (some ⟨b0, o', none⟩) (n - 1) (c - 1)) ws (by rw [hwl]; omega) W0 (by omega) (by omega) bV.cell hcs) belowK_t (belowK_b (n₀ := w.heap.size) (w := W0) (by omega)) (Below.refl _ _) (fun _ => rfl)
    (AmI w k names'.tail) (AmX w k names'.tail) (amI_own w k _ (by omega)) (fun c => amX_own w k _ (by omega) c) hI0
    (fun x a' W => ∃ Bx, w.heap.size + 1 + 1 + 1 + 1 < Bx ∧ Boxed W Bx 9 (.string x.1) ∧ a' = { tmps := #[.agg #[.int .i64 id, .slice (some ⟨b0, o0, none⟩) n c, .int .u8 suf, .int .i64 l1, .int .i64 hh1, .string p, .bool tw, .slice B m d], .agg #[.int .i64 id', .slice (some ⟨b1, o1, none⟩) n' c', .int .u8 suf', .int .i64 l2, .int .i64 h2, .string q, .bool tw', .slice B' m' d'], .int .i64 k, .pointer (some ⟨w.heap.size, 0, none⟩), .pointer (some ⟨w.heap.size + 1, 0, none⟩), .pointer (some ⟨w.heap.size + 1 + 1, 0, none⟩), .pointer (some ⟨w.heap.size + 1 + 1 + 1, 0, none⟩), .pointer (some ⟨w.heap.size + 1 + 1 + 1 + 1, 0, none⟩), .pointer (some ⟨Bx, 0, none⟩), undef, .pointer (some ⟨w.heap.size + 1, 0, none⟩), .pointer (some ⟨w.heap.size + 1, 1, none⟩), .slice (some ⟨b1, o1, none⟩) n' c', .slice A1 (n' - 1) (c' - 1), .agg #[.int .i64 id, .slice (some ⟨b0, o0, none⟩) n c, .int .u8 suf, .int .i64 l1, .int .i64 hh1, .string p, .bool tw, .slice B m d], .func (.func 119) #[] #[.pointer (some ⟨w.heap.size + 1 + 1 + 1 + 1 + 1 + 1, 0, none⟩)], .string x.1, undef, undef, undef, undef, undef, undef, undef, undef, undef], defers := [] })
    (fun x a' _ X Y row hs hg hr => by obtain ⟨Bx, e1, e2, e3⟩ := hs; exact ⟨Bx, e1, boxed_own Bx 9 (fun (_ : Unit) => Value.string x.1) () X Y row e2 hg (fun r e => (hr r e).2), e3⟩)
    ?assign ?body ?done ?stop
  case assign =>
    rintro l pre x W K ⟨ll, A2, n2, c2, e1, e2, e3, e4, e5, d1, d2, d3, hB⟩ hK
    gi_wp2
    exact hK _ _ ((KeepsOthers.alloc _ _).from _) ((Below.refl _ W).alloc hB.size _) ⟨ll, A2, n2, c2, e1, e2, e3, e4, e5, d1.alloc _, d2.alloc _, d3.alloc _, hB.alloc hB.size _⟩ ⟨W.heap.size, d1.lt, Boxed.new W 9 _, rfl⟩
  case body =>
    rintro l pre x a' W hl ⟨r, hr⟩ ⟨ll, A2, n2, c2, e1, e2, e3, e4, e5, d1, d2, d3, hB⟩ ⟨Bx, hBx, dX, rfl⟩ hlt
    have HP := indexFunc_str 93 #[.pointer (some ⟨Bx, 0, none⟩), .pointer (some ⟨w.heap.size + 1 + 1, 0, none⟩)] (enters_of Try.func93 (by kernel_rfl) rfl) (fun y => alikeB x.1 y k) A2 n2 c2 ll W
      (fun W' y hy g => among1_any y x.1 k Bx (w.heap.size + 1 + 1) W' (wb y (List.mem_of_mem_tail (e5 y hy))).1 x.2.1 (wb y (List.mem_of_mem_tail (e5 y hy))).2 x.2.2 (Boxed.cell (boxed_gr dX g)) (Boxed.cell (boxed_gr d2 g))) (e2.gr hB) (by omega)
    have hl2 := e2.len
    simp only [List.length_map, Nat.mul_one] at hl2
    have hpre : (pre ++ [x]).map (fun y : Wrd => y.1) = pre.map (fun y : Wrd => y.1) ++ [x.1] := by simp
    rcases amStep_fidx k ll x.1 with ⟨q1, q2⟩ | ⟨i, hi, q1, q2⟩
    · rw [q1] at HP
      have hstep : ((pre ++ [x]).map (fun y : Wrd => y.1)).foldlM (amStep k) names'.tail = none := by rw [hpre, among_snoc, e1]; exact q2
      have HS := hid hstep
      have HP := hid HP
      have HD := hid d3
      have HB := hid hB
      have cL := Boxed.cell d1
      clear hstep q1 q2 hl2 hpre e1 hr bL bR bS bV g5 g7
      gi_wp2_with (refine ⟨trivial, ?_⟩; gi_at_call 72; refine (CallsIn.inRound l (callsIn_wide.2 HP.out)).mono ?_; rintro e w1 ⟨rfl, hb1⟩; have cR := (Boxed.cell (boxed_gr HD.out hb1)); have fR := (Boxed.frozen (boxed_gr HD.out hb1)))
      exact ⟨((keeps_of_gr hb1).trans (KeepsOthers.setCell _ _ _)).from _, rfl, HS.out, Boxed.set _ (boxed_gr HD.out hb1), Gr.setCell (Gr.trans (show Gr w W from HB.out) hb1) (p := ⟨w.heap.size + 1 + 1 + 1, 0, none⟩) (by simp; omega) _⟩
    · rw [q1] at HP
      have hstep : ((pre ++ [x]).map (fun y : Wrd => y.1)).foldlM (amStep k) names'.tail = some (ll.drop (i + 1)) := by rw [hpre, among_snoc, e1]; exact q2
      have HS := hid hstep
      have HP := hid HP
      have HD := hid d1
      have HD3 := hid d3
      have HB := hid hB
      have cL := Boxed.cell d1
      have hi' : i + 1 ≤ n2 := by omega
      clear hstep q1 q2 hl2 hpre e1 hr bL bR bS bV g5 g7
      gi_wp2_with (first
        | (refine ⟨trivial, ?_⟩; gi_at_call 72; refine (CallsIn.inRound l (callsIn_wide.2 HP.out)).mono ?_; rintro e w1 ⟨rfl, hb1⟩; have cR := (Boxed.cell (boxed_gr HD.out hb1)); have fR := (Boxed.frozen (boxed_gr HD.out hb1)))
        | (refine wpListIn_slice_from rfl (.tmp 22) (.tmp 24) 24 rfl 9 i0 1 Try.underlying24 HI0.out HS0.out A2 n2 c2 (i + 1) .i64 (i + 1) rfl rfl rfl hi' e3 ?_; intro A3 hA3; have HA3 := hid hA3; clear hA3))
      have gw := Gr.trans (show Gr w W from HB.out) hb1
      refine ⟨((keeps_of_gr hb1).trans (KeepsOthers.setCell _ _ _)).from _, (Below.mono hb1 HB.out.size).setCell (p := ⟨w.heap.size + 1 + 1 + 1 + 1, 0, none⟩) (by simp; omega) _, ll.drop (i + 1), A3, n2 - (i + 1), c2 - (i + 1), HS.out, ?_, by omega, by omega, fun s hs => e5 s (List.mem_of_mem_drop hs),
        Boxed.set _ (boxed_gr HD.out hb1), Boxed.other (boxed_gr d2 hb1) (by omega) _, Boxed.other (boxed_gr HD3.out hb1) (by omega) _, Gr.setCell gw (p := ⟨w.heap.size + 1 + 1 + 1 + 1, 0, none⟩) (by simp; omega) _⟩
      have h := HA3.out w _ e2
      rwa [Nat.mul_one, ← List.map_drop] at h
  case done =>
    rintro D zs W hD rfl ⟨ll, A2, n2, c2, e1, e2, e3, e4, e5, d1, d2, d3, hB⟩ hK
    have hv : amongB k names.tail names'.tail = true := by
      unfold amongB
      rw [← hws, e1]
      rfl
    have HV := hid hv
    have HB := hid hB
    have D3 := hid d3
    have cR := Boxed.cell d3
    have fR := Boxed.frozen d3
    clear hv e1 e2 e3 e4 e5 d1 d2 d3 hB bL bR bS bV g5 g7
    gi_wp2
    have hK' := (KeepsOthers.setCell W ⟨w.heap.size + 1 + 1 + 1, 0, none⟩ (.bool true)).same D _ hK rfl
    refine ⟨by simp, .inl ⟨_, _, rfl, run_takeDeferred hK', ?_⟩⟩
    have hc5 := cell_kept (Boxed.cell (Boxed.set (.bool true) D3.out)) (grownBy_putObj' _ D (.deferred none)) (fun r e => by cases e; exact ⟨_, hK', rfl⟩)
    refine ⟨.bool true, ?_, by rw [HV.out], ?_⟩
    · simp [results, Try.f74, go_sem, hc5]
    · exact (HB.out.setCell (p := ⟨w.heap.size + 1 + 1 + 1, 0, none⟩) (by simp; omega) _).trans (belowK_b (w := w) (Nat.le_refl _) _ D _ _ (by omega) hK' rfl rfl)
  case stop =>
    rintro D c pre W hD hpre ⟨rfl, e2, d3, hB⟩ hK
    have hv : amongB k names.tail names'.tail = false := by
      obtain ⟨t, ht⟩ := hpre
      unfold amongB
      rw [← hws, ← ht, List.map_append, List.foldlM_append, e2]
      rfl
    have HV := hid hv
    have HB := hid hB
    have D3 := hid d3
    clear hv e2 d3 hB bL bR bS bV g5 g7
    gi_wp2
    refine ⟨by simp, .inl ⟨_, _, rfl, run_takeDeferred hK, ?_⟩⟩
    have hc5 := cell_kept (Boxed.cell D3.out) (grownBy_putObj' _ D (.deferred none)) (fun r e => by cases e; exact ⟨_, hK, rfl⟩)
    refine ⟨.bool false, ?_, by rw [HV.out], ?_⟩
    · simp [results, Try.f74, go_sem, hc5]
    · exact HB.out.trans (belowK_b (w := w) (Nat.le_refl _) W D _ _ (by omega) hK rfl rfl)
end Go.Proofs.Ytlkjimfkapcenaa
