/- among of the package match: whether given names are some of others, in their order. For all records with names of one to twenty letters. slices.Collect over slices.Values, at records: a copy of the elements in a row of the call's own. For up to a thousand elements. How names agree, in the package match. For all valid names. How names agree, in the reference. For all valid names. -/
import Derived.OwnWalkIn
import Derived.RangeFuncNested
import Derived.Shelf.RegionOpen
import Derived.Test.YtlkjimfkapcenaaGreatDoorQWithin
import Derived.Test.YtlkjimfkapcenaaGreatDoorQSeqStr
import Derived.Test.YtlkjimfkapcenaaGreatDoorQTwin
import Derived.Test.YtlkjimfkapcenaaGreatDoorQEditsTop
import Derived.Test.YtlkjimfkapcenaaGreatDoorQCutFrom
import Derived.Test.YtlkjimfkapcenaaGreatDoorQRegGr
namespace Go.Proofs.YtlkjimfkapcenaaGreatDoor
open Go.RowKit Go.Shelf
attribute [local go_sem] Oper.semAt_some

/-- A word of one to twenty letters. -/
abbrev Wrd := { x : ByteArray // 0 < x.size ∧ x.size ≤ 20 }
def Wrd.one : Wrd := ⟨⟨#[65]⟩, by decide⟩
theorem wrd_list {l : List ByteArray} (h : ∀ s ∈ l, 0 < s.size ∧ s.size ≤ 20) : ∃ ws : List Wrd, ws.map (·.1) = l := by
  induction l with
  | nil => exact ⟨[], rfl⟩
  | cons x l ih =>
    obtain ⟨ws, e⟩ := ih (fun s hs => h s (by simp [hs]))
    exact ⟨⟨x, h x (by simp)⟩ :: ws, by simp [e]⟩

def AmI (w : World) (k : Int) (ys : List ByteArray) (pre : List Wrd) (W : World) : Prop :=
  ∃ l A n c, (pre.map (·.1)).foldlM (amStep k) ys = some l ∧ Rd w 1 A n (l.map Value.string) ∧ n ≤ c ∧ c ≤ 9223372036854775807 ∧ (∀ s ∈ l, s ∈ ys) ∧
    Boxed W (w.heap.size + 1 + 1 + 1 + 1) 36 (.slice A n c) ∧ Boxed W (w.heap.size + 1 + 1) 3 (.int .i64 k) ∧ Boxed W (w.heap.size + 1 + 1 + 1) 4 (.bool false) ∧ Below w.heap.size w W
def AmX (w : World) (k : Int) (ys : List ByteArray) (c : Code) (pre : List Wrd) (W : World) : Prop :=
  c = .ret ∧ (pre.map (·.1)).foldlM (amStep k) ys = none ∧ Boxed W (w.heap.size + 1 + 1 + 1) 4 (.bool false) ∧ Below w.heap.size w W
theorem amI_own (w : World) (k : Int) (ys : List ByteArray) {B : Nat} (hB : w.heap.size ≤ B) : OwnFrom B (AmI w k ys) := by
  rintro s X Y row ⟨l, A, n, c, e1, e2, e3, e4, e5, b1, b2, b3, hb⟩ hg hr
  have hr' : ∀ r, row = some r → ∃ o : Obj, X.heap[r]? = some o ∧ o.isCells = false := fun r e => (hr r e).2
  exact ⟨l, A, n, c, e1, e2, e3, e4, e5, boxed_own _ _ (fun (_ : Unit) => Value.slice A n c) () X Y row b1 hg hr', boxed_own _ _ (fun (_ : Unit) => Value.int .i64 k) () X Y row b2 hg hr', boxed_own _ _ (fun (_ : Unit) => Value.bool false) () X Y row b3 hg hr',
    ownFrom_below (β := Unit) (Nat.le_refl _) hB () X Y row hb hg hr⟩
theorem amX_own (w : World) (k : Int) (ys : List ByteArray) {B : Nat} (hB : w.heap.size ≤ B) (c : Code) : OwnFrom B (AmX w k ys c) := by
  rintro s X Y row ⟨e1, e2, b3, hb⟩ hg hr
  exact ⟨e1, e2, boxed_own _ _ (fun (_ : Unit) => Value.bool false) () X Y row b3 hg (fun r e => (hr r e).2), ownFrom_below (β := Unit) (Nat.le_refl _) hB () X Y row hb hg hr⟩
theorem grown_of_gr {w w' : World} (g : Gr w w') : w.grownBy w' none := ⟨g.os, g.tape, g.output, Gr.size g, fun _ hi _ => Gr.heap g hi⟩
theorem boxed_gr {W W' : World} {B : Nat} {t : TypeId} {v : Value} (h : Boxed W B t v) (g : Gr W W') : Boxed W' B t v := h.kept (grown_of_gr g) (by simp)
theorem keeps_of_gr {W W' : World} (g : Gr W W') : KeepsOthers W W' := KeepsOthers.of_grownBy (grown_of_gr g) (fun j o e _ => by cases e)

set_option maxRecDepth 100000 in
set_option maxHeartbeats 4000000 in
theorem among_any (a b : Rcd) (k : Int) (b0 o0 n c : Nat) (B : Option Addr) (m d : Nat) (b1 o1 n' c' : Nat) (B' : Option Addr) (m' d' : Nat) (w : World)
    (ha : Rd w 1 (some ⟨b0, o0, none⟩) n (a.names.map Value.string)) (hb : Rd w 1 (some ⟨b1, o1, none⟩) n' (b.names.map Value.string)) (h1 : 1 ≤ n) (h1' : 1 ≤ n') (hc : n ≤ c) (hcb : c ≤ 9223372036854775807) (hc' : n' ≤ c') (hcb' : c' ≤ 9223372036854775807)
    (h5 : n ≤ 100) (wa : ∀ s ∈ a.names, 0 < s.size ∧ s.size ≤ 20) (wb : ∀ s ∈ b.names, 0 < s.size ∧ s.size ≤ 20) :
    Calls Tryz.prog 47 #[a.val (some ⟨b0, o0, none⟩) n c B m d, b.val (some ⟨b1, o1, none⟩) n' c' B' m' d', .int .i64 k] w fun e w' => e = .returned (.bool (amongB k a.names.tail b.names.tail)) ∧ Gr w w' := by
  obtain ⟨i0, hi0, hz0, hs0, hy0⟩ := info_parts info_string
  have HI0 := hid hi0
  have HS0 := hid hs0
  clear hi0 hz0 hs0 hy0
  have HG := hid (fun W => given_in Fence.wide 2 trivial trivial rfl (Nat.le_refl _) a b0 o0 n c B m d W h1 hc hcb)
  obtain ⟨id', names', suf', l2, h2, q, tw', stays'⟩ := b
  obtain ⟨id, names, suf, l1, hh1, p, tw, stays⟩ := a
  unfold Rcd.val at HG ⊢
  dsimp only at HG ha hb wa wb ⊢
  refine (callsIn_wide (n := 3)).1 ?_
  refine callsIn_of_wp_marks Tryz.func47 rfl trivial ?_ rfl
  simp only [Tryz.ntmps47, List.size_toArray, List.length_cons, List.length_nil, Nat.reduceAdd, Nat.reduceSub, Array.replicate_succ, Array.replicate_zero, List.push_toArray, List.append_toArray, List.nil_append, List.cons_append]
  gi_wp2_with (first
    | (refine ⟨trivial, ?_⟩; gi_at_call 70; refine (HG.out _).mono ?_; rintro e w' ⟨rfl, o', T1, T2, C, ho, rfl⟩; have HO := hid ho; clear ho)
    | (refine wpListIn_slice_from rfl (.tmp 12) (.const (.int .i64 1)) 36 rfl 9 i0 1 Tryz.underlying36 HI0.out HS0.out (some ⟨b1, o1, none⟩) n' c' 1 .i64 1 rfl rfl rfl h1' hc' ?_; intro A1 hA1; have HA1 := hid hA1; clear hA1))
  obtain ⟨ws, hws⟩ := wrd_list (l := names.tail) (fun s hs => wa s (List.mem_of_mem_tail hs))
  have hwl : ws.length = n - 1 := by
    have h := congrArg List.length hws
    have h2 := ha.len
    simp at h h2
    omega
  have bL := (((Boxed.new ((w.alloc (.cells #[.int .i64 id, .slice (some ⟨b0, o0, none⟩) n c, .int .u8 suf, .int .i64 l1, .int .i64 hh1, .string p, .bool tw, .slice B m d] 75)).alloc (.cells #[.int .i64 id', .slice (some ⟨b1, o1, none⟩) n' c', .int .u8 suf', .int .i64 l2, .int .i64 h2, .string q, .bool tw', .slice B' m' d'] 75)) 3 (.int .i64 k)).alloc (.cells #[.bool false] 4)).alloc (.cells #[.slice A1 (n' - 1) (c' - 1)] 36))
  have bR := ((Boxed.new (((w.alloc (.cells #[.int .i64 id, .slice (some ⟨b0, o0, none⟩) n c, .int .u8 suf, .int .i64 l1, .int .i64 hh1, .string p, .bool tw, .slice B m d] 75)).alloc (.cells #[.int .i64 id', .slice (some ⟨b1, o1, none⟩) n' c', .int .u8 suf', .int .i64 l2, .int .i64 h2, .string q, .bool tw', .slice B' m' d'] 75)).alloc (.cells #[.int .i64 k] 3)) 4 (.bool false)).alloc (.cells #[.slice A1 (n' - 1) (c' - 1)] 36))
  have bS := Boxed.new ((((w.alloc (.cells #[.int .i64 id, .slice (some ⟨b0, o0, none⟩) n c, .int .u8 suf, .int .i64 l1, .int .i64 hh1, .string p, .bool tw, .slice B m d] 75)).alloc (.cells #[.int .i64 id', .slice (some ⟨b1, o1, none⟩) n' c', .int .u8 suf', .int .i64 l2, .int .i64 h2, .string q, .bool tw', .slice B' m' d'] 75)).alloc (.cells #[.int .i64 k] 3)).alloc (.cells #[.bool false] 4)) 36 (.slice A1 (n' - 1) (c' - 1))
  have g5 : Gr w (((((w.alloc (.cells #[.int .i64 id, .slice (some ⟨b0, o0, none⟩) n c, .int .u8 suf, .int .i64 l1, .int .i64 hh1, .string p, .bool tw, .slice B m d] 75)).alloc (.cells #[.int .i64 id', .slice (some ⟨b1, o1, none⟩) n' c', .int .u8 suf', .int .i64 l2, .int .i64 h2, .string q, .bool tw', .slice B' m' d'] 75)).alloc (.cells #[.int .i64 k] 3)).alloc (.cells #[.bool false] 4)).alloc (.cells #[.slice A1 (n' - 1) (c' - 1)] 36)) := (((((Gr.refl w).alloc _).alloc _).alloc _).alloc _).alloc _
  have hsz : (((((w.alloc (.cells #[.int .i64 id, .slice (some ⟨b0, o0, none⟩) n c, .int .u8 suf, .int .i64 l1, .int .i64 hh1, .string p, .bool tw, .slice B m d] 75)).alloc (.cells #[.int .i64 id', .slice (some ⟨b1, o1, none⟩) n' c', .int .u8 suf', .int .i64 l2, .int .i64 h2, .string q, .bool tw', .slice B' m' d'] 75)).alloc (.cells #[.int .i64 k] 3)).alloc (.cells #[.bool false] 4)).alloc (.cells #[.slice A1 (n' - 1) (c' - 1)] 36)).heap.size = w.heap.size + 1 + 1 + 1 + 1 + 1 := by simp
  simp only [World.size_alloc] at bL bR bS
  generalize ((((w.alloc (.cells #[.int .i64 id, .slice (some ⟨b0, o0, none⟩) n c, .int .u8 suf, .int .i64 l1, .int .i64 hh1, .string p, .bool tw, .slice B m d] 75)).alloc (.cells #[.int .i64 id', .slice (some ⟨b1, o1, none⟩) n' c', .int .u8 suf', .int .i64 l2, .int .i64 h2, .string q, .bool tw', .slice B' m' d'] 75)).alloc (.cells #[.int .i64 k] 3)).alloc (.cells #[.bool false] 4)).alloc (.cells #[.slice A1 (n' - 1) (c' - 1)] 36) = W5 at bL bR bS g5 hsz ⊢
  have bV := Boxed.new (W5.alloc (.cells C T1)) T2 (.slice (some ⟨b0, o', none⟩) (n - 1) (c - 1))
  rw [World.size_alloc, hsz] at bV
  have g7 : Gr w ((W5.alloc (.cells C T1)).alloc (.cells #[.slice (some ⟨b0, o', none⟩) (n - 1) (c - 1)] T2)) := (g5.alloc _).alloc _
  have bL := (bL.alloc (.cells C T1)).alloc (.cells #[.slice (some ⟨b0, o', none⟩) (n - 1) (c - 1)] T2)
  have bR := (bR.alloc (.cells C T1)).alloc (.cells #[.slice (some ⟨b0, o', none⟩) (n - 1) (c - 1)] T2)
  have bS := (bS.alloc (.cells C T1)).alloc (.cells #[.slice (some ⟨b0, o', none⟩) (n - 1) (c - 1)] T2)
  have hsz7 : ((W5.alloc (.cells C T1)).alloc (.cells #[.slice (some ⟨b0, o', none⟩) (n - 1) (c - 1)] T2)).heap.size = w.heap.size + 7 := by simp [hsz]
  generalize (W5.alloc (.cells C T1)).alloc (.cells #[.slice (some ⟨b0, o', none⟩) (n - 1) (c - 1)] T2) = W0 at bV bL bR bS g7 hsz7 ⊢
  have hlt0 : b0 < w.heap.size := by
    obtain ⟨b, off, e, hb, _⟩ := ha.at_ h1
    cases e
    exact hb
  have hcs : SqStrs (fun x : Wrd => x.1) Wrd.one w.heap.size W0 (.slice (some ⟨b0, o', none⟩) (n - 1) (c - 1)) ws := by
    refine .inr ⟨b0, o', c - 1, by rw [hwl], hlt0, fun j hj => ?_⟩
    obtain ⟨b, off, e, hb, hcell⟩ := ha.at_ h1
    cases e
    rw [HO.out (by omega), g7.cell hlt0]
    have h := hcell (j + 1) (.string (ws[j]?.getD Wrd.one).1) (by
      have hx : names.tail[j]? = some (ws[j]?.getD Wrd.one).1 := by rw [← hws, List.getElem?_map, List.getElem?_eq_getElem hj]; rfl
      rw [List.getElem?_tail] at hx
      rw [List.getElem?_map, hx]; rfl)
    rw [← h, Nat.add_assoc, Nat.add_comm 1 j]
  have hI0 : AmI w k names'.tail [] W0 := by
    refine ⟨names'.tail, A1, n' - 1, c' - 1, rfl, ?_, by omega, by omega, fun s hs => hs, bS, bL, bR, g7⟩
    have h := HA1.out w _ hb
    rw [Nat.one_mul, ← List.map_drop, List.drop_one] at h
    exact h
  refine wpIn_rangeFunc_ownH rfl (by omega) (gf := 102) (lb := #[.pointer (some ⟨w.heap.size + 1 + 1 + 1 + 1 + 1 + 1, 0, none⟩)]) rfl trivial (enters_of Tryz.func102 (by kernel_rfl) rfl)
    (sq_values_stops (fun x : Wrd => x.1) Wrd.one Fence.wide 2 trivial rfl (by omega) (w.heap.size + 1 + 1 + 1 + 1 + 1 + 1) w.heap.size (.slice (some ⟨b0, o', none⟩) (n - 1) (c - 1)) ws (by rw [hwl]; omega) W0 (by omega) (by omega) bV.cell hcs) belowK_t (belowK_b (n₀ := w.heap.size) (w := W0) (by omega)) (Below.refl _ _) (fun _ => rfl)
    (AmI w k names'.tail) (AmX w k names'.tail) (amI_own w k _ (by omega)) (fun c => amX_own w k _ (by omega) c) hI0
    (fun x a' W => ∃ Bx, w.heap.size + 1 + 1 + 1 + 1 < Bx ∧ Boxed W Bx 9 (.string x.1) ∧ a' = { tmps := #[.agg #[.int .i64 id, .slice (some ⟨b0, o0, none⟩) n c, .int .u8 suf, .int .i64 l1, .int .i64 hh1, .string p, .bool tw, .slice B m d], .agg #[.int .i64 id', .slice (some ⟨b1, o1, none⟩) n' c', .int .u8 suf', .int .i64 l2, .int .i64 h2, .string q, .bool tw', .slice B' m' d'], .int .i64 k, .pointer (some ⟨w.heap.size, 0, none⟩), .pointer (some ⟨w.heap.size + 1, 0, none⟩), .pointer (some ⟨w.heap.size + 1 + 1, 0, none⟩), .pointer (some ⟨w.heap.size + 1 + 1 + 1, 0, none⟩), .pointer (some ⟨w.heap.size + 1 + 1 + 1 + 1, 0, none⟩), .pointer (some ⟨Bx, 0, none⟩), undef, .pointer (some ⟨w.heap.size + 1, 0, none⟩), .pointer (some ⟨w.heap.size + 1, 1, none⟩), .slice (some ⟨b1, o1, none⟩) n' c', .slice A1 (n' - 1) (c' - 1), .agg #[.int .i64 id, .slice (some ⟨b0, o0, none⟩) n c, .int .u8 suf, .int .i64 l1, .int .i64 hh1, .string p, .bool tw, .slice B m d], .func (.func 102) #[] #[.pointer (some ⟨w.heap.size + 1 + 1 + 1 + 1 + 1 + 1, 0, none⟩)], .string x.1, undef, undef, undef, undef, undef, undef, undef, undef, undef], defers := [] })
    (fun x a' _ X Y row hs hg hr => by obtain ⟨Bx, e1, e2, e3⟩ := hs; exact ⟨Bx, e1, boxed_own Bx 9 (fun (_ : Unit) => Value.string x.1) () X Y row e2 hg (fun r e => (hr r e).2), e3⟩)
    ?assign ?body ?done ?stop
  case assign =>
    rintro l pre x W K ⟨ll, A2, n2, c2, e1, e2, e3, e4, e5, d1, d2, d3, hB⟩ hK
    gi_wp2
    exact hK _ _ ((KeepsOthers.alloc _ _).from _) ((Below.refl _ W).alloc hB.size _) ⟨ll, A2, n2, c2, e1, e2, e3, e4, e5, d1.alloc _, d2.alloc _, d3.alloc _, hB.alloc hB.size _⟩ ⟨W.heap.size, d1.lt, Boxed.new W 9 _, rfl⟩
  case body =>
    rintro l pre x a' W hl ⟨r, hr⟩ ⟨ll, A2, n2, c2, e1, e2, e3, e4, e5, d1, d2, d3, hB⟩ ⟨Bx, hBx, dX, rfl⟩ hlt
    have HP := indexFunc_str 71 #[.pointer (some ⟨Bx, 0, none⟩), .pointer (some ⟨w.heap.size + 1 + 1, 0, none⟩)] (enters_of Tryz.func71 (by kernel_rfl) rfl) (fun y => alikeB x.1 y k) A2 n2 c2 ll W
      (fun W' y hy g => among1_any y x.1 k Bx (w.heap.size + 1 + 1) W' (wb y (List.mem_of_mem_tail (e5 y hy))).1 x.2.1 (wb y (List.mem_of_mem_tail (e5 y hy))).2 x.2.2 (Boxed.cell (boxed_gr dX g)) (Boxed.cell (boxed_gr d2 g))) (e2.gr hB) (by omega)
    have hl2 := e2.len
    simp only [List.length_map, Nat.mul_one] at hl2
    have hpre : (pre ++ [x]).map (fun y : Wrd => y.1) = pre.map (fun y : Wrd => y.1) ++ [x.1] := by simp
    rcases amStep_fidx k ll x.1 with ⟨q1, q2⟩ | ⟨i, hi, q1, q2⟩
    · rw [q1] at HP
      have hstep : ((pre ++ [x]).map (fun y : Wrd => y.1)).foldlM (amStep k) names'.tail = none := by rw [hpre, among_snoc, e1]; exact q2
      have HS := hid hstep
      have HP := hid HP
      have HD := hid d3
      have HB := hid hB
      have cL := Boxed.cell d1
      clear hstep q1 q2 hl2 hpre e1 hr bL bR bS bV g5 g7
      gi_wp2_with (refine ⟨trivial, ?_⟩; gi_at_call 68; refine (CallsIn.inRound l (callsIn_wide.2 HP.out)).mono ?_; rintro e w1 ⟨rfl, hb1⟩; have cR := (Boxed.cell (boxed_gr HD.out hb1)); have fR := (Boxed.frozen (boxed_gr HD.out hb1)))
      exact ⟨((keeps_of_gr hb1).trans (KeepsOthers.setCell _ _ _)).from _, rfl, HS.out, Boxed.set _ (boxed_gr HD.out hb1), Gr.setCell (Gr.trans (show Gr w W from HB.out) hb1) (p := ⟨w.heap.size + 1 + 1 + 1, 0, none⟩) (by simp; omega) _⟩
    · rw [q1] at HP
      have hstep : ((pre ++ [x]).map (fun y : Wrd => y.1)).foldlM (amStep k) names'.tail = some (ll.drop (i + 1)) := by rw [hpre, among_snoc, e1]; exact q2
      have HS := hid hstep
      have HP := hid HP
      have HD := hid d1
      have HD3 := hid d3
      have HB := hid hB
      have cL := Boxed.cell d1
      have hi' : i + 1 ≤ n2 := by omega
      clear hstep q1 q2 hl2 hpre e1 hr bL bR bS bV g5 g7
      gi_wp2_with (first
        | (refine ⟨trivial, ?_⟩; gi_at_call 68; refine (CallsIn.inRound l (callsIn_wide.2 HP.out)).mono ?_; rintro e w1 ⟨rfl, hb1⟩; have cR := (Boxed.cell (boxed_gr HD.out hb1)); have fR := (Boxed.frozen (boxed_gr HD.out hb1)))
        | (refine wpListIn_slice_from rfl (.tmp 22) (.tmp 24) 36 rfl 9 i0 1 Tryz.underlying36 HI0.out HS0.out A2 n2 c2 (i + 1) .i64 (i + 1) rfl rfl rfl hi' e3 ?_; intro A3 hA3; have HA3 := hid hA3; clear hA3))
      have gw := Gr.trans (show Gr w W from HB.out) hb1
      refine ⟨((keeps_of_gr hb1).trans (KeepsOthers.setCell _ _ _)).from _, (Below.mono hb1 HB.out.size).setCell (p := ⟨w.heap.size + 1 + 1 + 1 + 1, 0, none⟩) (by simp; omega) _, ll.drop (i + 1), A3, n2 - (i + 1), c2 - (i + 1), HS.out, ?_, by omega, by omega, fun s hs => e5 s (List.mem_of_mem_drop hs),
        Boxed.set _ (boxed_gr HD.out hb1), Boxed.other (boxed_gr d2 hb1) (by omega) _, Boxed.other (boxed_gr HD3.out hb1) (by omega) _, Gr.setCell gw (p := ⟨w.heap.size + 1 + 1 + 1 + 1, 0, none⟩) (by simp; omega) _⟩
      have h := HA3.out w _ e2
      rwa [Nat.mul_one, ← List.map_drop] at h
  case done =>
    rintro D zs W hD rfl ⟨ll, A2, n2, c2, e1, e2, e3, e4, e5, d1, d2, d3, hB⟩ hK
    have hv : amongB k names.tail names'.tail = true := by
      unfold amongB
      rw [← hws, e1]
      rfl
    have HV := hid hv
    have HB := hid hB
    have D3 := hid d3
    have cR := Boxed.cell d3
    have fR := Boxed.frozen d3
    clear hv e1 e2 e3 e4 e5 d1 d2 d3 hB bL bR bS bV g5 g7
    gi_wp2
    have hK' := (KeepsOthers.setCell W ⟨w.heap.size + 1 + 1 + 1, 0, none⟩ (.bool true)).same D _ hK rfl
    refine ⟨by simp, .inl ⟨_, _, rfl, run_takeDeferred hK', ?_⟩⟩
    have hc5 := cell_kept (Boxed.cell (Boxed.set (.bool true) D3.out)) (grownBy_putObj' _ D (.deferred none)) (fun r e => by cases e; exact ⟨_, hK', rfl⟩)
    refine ⟨.bool true, ?_, by rw [HV.out], ?_⟩
    · simp [results, Tryz.f47, go_sem, hc5]
    · exact (HB.out.setCell (p := ⟨w.heap.size + 1 + 1 + 1, 0, none⟩) (by simp; omega) _).trans (belowK_b (w := w) (Nat.le_refl _) _ D _ _ (by omega) hK' rfl rfl)
  case stop =>
    rintro D c pre W hD hpre ⟨rfl, e2, d3, hB⟩ hK
    have hv : amongB k names.tail names'.tail = false := by
      obtain ⟨t, ht⟩ := hpre
      unfold amongB
      rw [← hws, ← ht, List.map_append, List.foldlM_append, e2]
      rfl
    have HV := hid hv
    have HB := hid hB
    have D3 := hid d3
    clear hv e2 d3 hB bL bR bS bV g5 g7
    gi_wp2
    refine ⟨by simp, .inl ⟨_, _, rfl, run_takeDeferred hK, ?_⟩⟩
    have hc5 := cell_kept (Boxed.cell D3.out) (grownBy_putObj' _ D (.deferred none)) (fun r e => by cases e; exact ⟨_, hK, rfl⟩)
    refine ⟨.bool false, ?_, by rw [HV.out], ?_⟩
    · simp [results, Tryz.f47, go_sem, hc5]
    · exact HB.out.trans (belowK_b (w := w) (Nat.le_refl _) W D _ _ (by omega) hK rfl rfl)
end Go.Proofs.YtlkjimfkapcenaaGreatDoor
namespace Go.Proofs.YtlkjimfkapcenaaGreatDoor
open Go.RowKit Go.Shelf
attribute [local go_sem] Oper.semAt_some

theorem info_rec : (Tryz.prog.info? 41).map (fun i => (i.zero, i.size, i.bytes)) = some (some (.agg #[.int .i64 0, .slice none 0 0, .int .u8 0, .int .i64 0, .int .i64 0, .string ByteArray.empty, .bool false, .slice none 0 0]), 8, 104) := by kernel_rfl

def flatE (es : List Elt) : List Value := es.flatMap Elt.cells
theorem flatE_len (es : List Elt) : (flatE es).length = es.length * 8 := by
  induction es with
  | nil => rfl
  | cons e es ih => simp only [flatE, List.flatMap_cons, List.length_append, List.length_cons] at ih ⊢; rw [ih, e.len]; omega
theorem flatE_snoc (es : List Elt) (x : Elt) : flatE (es ++ [x]) = flatE es ++ x.cells := by simp [flatE]
theorem flatE_one (es : List Elt) : ∀ v ∈ flatE es, v.oneCell' = true := fun v hv => by
  obtain ⟨e, _, h⟩ := List.mem_flatMap.1 hv
  exact e.one v h
theorem own_kept {W W' : World} {base : Nat} {e : TypeId} {size n : Nat} {v : Value} {xs : List Value} {row : Option Nat} (h : W.ownsRow base e size v n xs) (hg : W.grownBy W' row) (hr : ∀ r, row = some r → ∃ o : Obj, W.heap[r]? = some o ∧ o.isCells = false) : W'.ownsRow base e size v n xs := by
  refine h.kept hg ?_
  rcases h.2 with ⟨rfl, _⟩ | ⟨g, cap, cur, rfl, _, hgg, _⟩
  · exact .inl rfl
  · refine .inr fun e' => ?_
    obtain ⟨o, ho, hc⟩ := hr g e'.symm
    rw [hgg] at ho
    cases ho
    cases hc
theorem row_kept {W W' : World} {B : Nat} {C : Array Value} {t : TypeId} {z : Nat × Nat} {row : Option Nat} (h : W.heap[B]? = some (.cells C t z)) (hg : W.grownBy W' row) (hr : ∀ r, row = some r → ∃ o : Obj, W.heap[r]? = some o ∧ o.isCells = false) : W'.heap[B]? = some (.cells C t z) := by
  refine (hg.block B (Array.getElem?_eq_some_iff.1 h).1 (fun e' => ?_)).trans h
  obtain ⟨o, ho, hc⟩ := hr B e'.symm
  rw [h] at ho
  cases ho
  cases hc

theorem cells_new (W : World) (C : Array Value) (t : TypeId) (xs : List Value) (h : C.toList = xs) : ∀ j u, xs[j]? = some u → (W.alloc (.cells C t)).cell? ((⟨W.heap.size, 0, none⟩ : Addr).add j) = some u := by
  intro j u hu
  subst h
  have := cell_of_row (W.alloc (.cells C t)) W.heap.size j C t _ (heap_alloc_new W _)
  have e : ((⟨W.heap.size, 0, none⟩ : Addr).add j) = ⟨W.heap.size, j, none⟩ := by
    simp only [Addr.add, Nat.zero_add]
    split
    · rename_i h0; rw [h0]
    · rfl
  rw [e, this]
  simpa using hu
/-- The box of a slice is not the row that it owns. -/
theorem own_not {W : World} {base : Nat} {e : TypeId} {size n : Nat} {v : Value} {xs : List Value} (h : W.ownsRow base e size v n xs) {B : Nat} (hB : B < base) : some B ≠ v.ownBlock := by
  rcases h.2 with ⟨rfl, _⟩ | ⟨g, cap, cur, rfl, hb, _⟩
  · simp [Value.ownBlock]
  · simp only [Value.ownBlock, ne_eq, Option.some.injEq]
    omega

theorem own_cells {W : World} {base : Nat} {e : TypeId} {size n : Nat} {v : Value} {xs : List Value} (h : W.ownsRow base e size v n xs) {j : Nat} {o : Obj} (hj : v.ownBlock = some j) (ho : W.heap[j]? = some o) : o.isCells = true := by
  rcases h.2 with ⟨rfl, _⟩ | ⟨g, cap, cur, rfl, hb, hg, _⟩
  · simp [Value.ownBlock] at hj
  · simp [Value.ownBlock] at hj
    subst hj
    rw [hg] at ho
    cases ho
    rfl
theorem own_base {W : World} {base base' : Nat} {e : TypeId} {size n : Nat} {v : Value} {xs : List Value} (h : W.ownsRow base e size v n xs) (hb : base' ≤ base) : W.ownsRow base' e size v n xs := by
  refine ⟨h.1, ?_⟩
  rcases h.2 with hn | ⟨g, cap, cur, hv, hbg, rest⟩
  · exact .inl hn
  · exact .inr ⟨g, cap, cur, hv, Nat.le_trans hb hbg, rest⟩

def ApI (w : World) (pre : List Elt) (W : World) : Prop :=
  ∃ v, Boxed W w.heap.size 25 v ∧ W.ownsRow (w.heap.size + 1) 41 8 v pre.length (flatE pre) ∧ Below w.heap.size w W
theorem apI_own (w : World) {B : Nat} (hB : w.heap.size ≤ B) : OwnFrom B (ApI w) := by
  rintro s X Y row ⟨v, b1, e1, hb⟩ hg hr
  have hr' : ∀ r, row = some r → ∃ o : Obj, X.heap[r]? = some o ∧ o.isCells = false := fun r e => (hr r e).2
  exact ⟨v, boxed_own _ _ (fun (_ : Unit) => v) () X Y row b1 hg hr', own_kept e1 hg hr', ownFrom_below (β := Unit) (Nat.le_refl _) hB () X Y row hb hg hr⟩

set_option maxRecDepth 100000 in
set_option maxHeartbeats 4000000 in
theorem sr_appendSeq (es : List Elt) (A : Option Addr) (cap Bs : Nat) (w0 w : World) (hw : Gr w0 w) (hBs : Bs < w.heap.size) (hc : w.cell? ⟨Bs, 0, none⟩ = some (.slice A es.length cap)) (hI : RdE w0 A es.length es) (hN : es.length ≤ 1000) :
    CallsIn Fence.wide 3 Tryz.prog 93 #[.slice none 0 0, .func (.func 75) #[] #[.pointer (some ⟨Bs, 0, none⟩)]] w fun e w' => ∃ v, e = .returned v ∧ w'.ownsRow w.heap.size 41 8 v es.length (flatE es) ∧ Gr w w' := by
  obtain ⟨i0, hi0, hz0, hs0, hy0⟩ := info_parts info_rec
  refine callsIn_of_wp_marks Tryz.func93 rfl trivial ?_ rfl
  simp only [Tryz.ntmps93, List.size_toArray, List.length_cons, List.length_nil, Nat.reduceAdd, Nat.reduceSub, Array.replicate_succ, Array.replicate_zero, List.push_toArray, List.append_toArray, List.nil_append, List.cons_append]
  gi_wp2
  have b0 := Boxed.new w 25 (.slice none 0 0)
  have g1 : Gr w (w.alloc (.cells #[.slice none 0 0] 25)) := (Gr.refl w).alloc _
  have hsz : (w.alloc (.cells #[.slice none 0 0] 25)).heap.size = w.heap.size + 1 := by simp
  have c0 : (w.alloc (.cells #[.slice none 0 0] 25)).cell? ⟨Bs, 0, none⟩ = some (.slice A es.length cap) := (g1.cell hBs).trans hc
  generalize w.alloc (.cells #[.slice none 0 0] 25) = W0 at b0 g1 hsz c0 ⊢
  have hI0 : ApI w [] W0 := ⟨_, b0, ⟨rfl, .inl ⟨rfl, rfl⟩⟩, g1⟩
  refine wpIn_rangeFunc_ownH rfl (by omega) (gf := 75) (lb := #[.pointer (some ⟨Bs, 0, none⟩)]) rfl trivial (enters_of Tryz.func75 (by kernel_rfl) rfl)
    (sr_values_stops Fence.wide 2 trivial rfl (by omega) Bs w0.heap.size A cap es (by omega) w0 W0 (by omega) rfl (hw.trans g1) c0 hI) belowK_t (belowK_b (n₀ := w0.heap.size) (w := W0) (by have := hw.size; omega)) (Below.refl _ _) (fun _ => rfl)
    (ApI w) (fun _ _ _ => False) (apI_own w (by omega)) (fun c => fun _ _ _ _ h _ _ => h) hI0
    (fun x a' W => ∃ Bx, w.heap.size < Bx ∧ W.heap[Bx]? = some (.cells x.cells.toArray 41 (0, 0)) ∧ a' = { tmps := #[.slice none 0 0, .func (.func 75) #[] #[.pointer (some ⟨Bs, 0, none⟩)], .pointer (some ⟨w.heap.size, 0, none⟩), undef, .slice none 0 0, .pointer (some ⟨Bx, 0, none⟩), .func (.func 75) #[] #[.pointer (some ⟨Bs, 0, none⟩)], x.val, undef, undef, undef, undef, undef], defers := [] })
    (fun x a' _ X Y row hs hg hr => by obtain ⟨Bx, e1, e2, e3⟩ := hs; exact ⟨Bx, e1, row_kept e2 hg (fun r e => (hr r e).2), e3⟩)
    ?assign ?body ?done ?stop
  case assign =>
    rintro l pre x W K ⟨v, d1, e1, hB⟩ hK
    have HK := hid (hK { tmps := #[.slice none 0 0, .func (.func 75) #[] #[.pointer (some ⟨Bs, 0, none⟩)], .pointer (some ⟨w.heap.size, 0, none⟩), undef, .slice none 0 0, .pointer (some ⟨W.heap.size, 0, none⟩), .func (.func 75) #[] #[.pointer (some ⟨Bs, 0, none⟩)], x.val, undef, undef, undef, undef, undef], defers := [] } (W.alloc (.cells x.cells.toArray 41))
      ((KeepsOthers.alloc _ _).from _) ((Below.refl _ W).alloc (Nat.le_trans hw.size hB.size) _) ⟨v, d1.alloc _, own_kept e1 (World.grownBy_alloc W _ none) (fun r e => by cases e), hB.alloc hB.size _⟩ ⟨W.heap.size, d1.lt, by simpa using World.alloc_heap_new W (.cells x.cells.toArray 41), rfl⟩)
    clear hK e1 d1 hB
    obtain ⟨⟨id, names, suf, l1, h1, p, tw, stays⟩, A', n1, c', B, m, d⟩ := x
    unfold Elt.val Elt.cells at *
    dsimp only at *
    gi_wp2
    exact HK.out
  case body =>
    rintro l pre x a' W hl ⟨r, hr⟩ ⟨v, d1, e1, hB⟩ ⟨Bx, hBx, dX, rfl⟩ hlt
    obtain ⟨⟨id, names, suf, l1, h1, p, tw, stays⟩, A', n1, c', B, m, d⟩ := x
    unfold Elt.val Elt.cells at *
    dsimp only at *
    obtain ⟨x0, x1, x2, x3, x4, x5, x6, x7⟩ := cellsat8 dX
    have cL := Boxed.cell d1
    have hBl : w.heap.size < W.heap.size := d1.lt
    have hXl : Bx < W.heap.size := (Array.getElem?_eq_some_iff.1 dX).1
    have HE := hid e1
    have HD := hid d1
    have HB := hid hB
    have hBz := hB.size
    have hwz := hw.size
    clear e1 d1 hB dX hr hI hc c0 b0 g1 hI0
    gi_wp2_with (gi_at_builtin; refine wpListIn_append_own _ rfl _ _ 25 rfl (w.heap.size + 1) 41 i0 (.agg #[.int .i64 0, .slice none 0 0, .int .u8 0, .int .i64 0, .int .i64 0, .string ByteArray.empty, .bool false, .slice none 0 0]) 8 104 Tryz.underlying25 hi0 hz0 hs0 hy0 rfl (by decide) v pre.length (flatE pre) rfl (HE.out.alloc _) ⟨W.heap.size, 0, none⟩ 1 1 [.int .i64 id, .slice A' n1 c', .int .u8 suf, .int .i64 l1, .int .i64 h1, .string p, .bool tw, .slice B m d] rfl rfl (cells_new W _ _ _ rfl) (by intro u hu; simp at hu; rcases hu with rfl | rfl | rfl | rfl | rfl | rfl | rfl | rfl <;> rfl) (by have : maxLen = 9223372036854775807 := rfl; omega) (by omega) (by simp; omega) ?_; intro v' w3 hown' hg3 hnil3; obtain ⟨A9, c9, rfl⟩ := own_slice hown'; have b3 := (HD.out.alloc (.cells #[.int .i64 id, .slice A' n1 c', .int .u8 suf, .int .i64 l1, .int .i64 h1, .string p, .bool tw, .slice B m d] 41)).kept hg3 (own_not HE.out (by omega)); have cR := Boxed.cell b3; have fR := Boxed.frozen b3; have H3 := hid (And.intro hown' (And.intro hg3 b3)); clear hown' hg3 hnil3 b3)
    obtain ⟨hown', hg3, b3⟩ := H3.out
    have gW : Below w.heap.size w w3 := (HB.out.alloc hBz _).grown hg3 (by simp; omega) (fun k e => Nat.le_of_lt (by
      have := (HE.out.lt k e).1
      omega))
    have hE : flatE (pre ++ [⟨⟨id, names, suf, l1, h1, p, tw, stays⟩, A', n1, c', B, m, d⟩]) = flatE pre ++ [.int .i64 id, .slice A' n1 c', .int .u8 suf, .int .i64 l1, .int .i64 h1, .string p, .bool tw, .slice B m d] := flatE_snoc _ _
    refine ⟨?_, ?_, .slice A9 (pre.length + 1) c9, Boxed.set _ b3, ?_, gW.setCell (p := ⟨w.heap.size, 0, none⟩) (Nat.le_refl _) _⟩
    · refine (((KeepsOthers.alloc _ _).trans (KeepsOthers.of_grownBy hg3 (fun j o e ho => ?_))).trans (KeepsOthers.setCell _ _ _)).from _
      exact own_cells (HE.out.alloc _) e ho
    · refine Below.setCell (p := ⟨w.heap.size, 0, none⟩) ?_ hwz _
      exact ((Below.refl w0.heap.size W).alloc (by omega) _).grown hg3 (by simp; omega) (fun k e => by
        have := (HE.out.lt k e).1
        omega)
    · rw [hE, List.length_append]
      refine hown'.kept (grownBy_setCell' w3 w.heap.size _) (.inr (Ne.symm (own_not hown' (by omega))))
  case done =>
    rintro D zs W hD rfl ⟨v, d1, e1, hB⟩ hK
    have HB := hid hB
    have D3 := hid d1
    have cR := Boxed.cell d1
    have fR := Boxed.frozen d1
    have HE := hid e1
    clear d1 e1 hB hI hc c0 b0 g1 hI0
    gi_wp2
    refine ⟨by simp, .inl ⟨_, _, rfl, run_takeDeferred hK, ?_⟩⟩
    exact ⟨_, results_tmp rfl _ _ _, v, rfl, own_base (own_kept HE.out (grownBy_putObj' _ D (.deferred none)) (fun r e => by cases e; exact ⟨_, hK, rfl⟩)) (by omega), HB.out.trans (belowK_b (w := w) (Nat.le_refl _) W D _ _ (by omega) hK rfl rfl)⟩
  case stop =>
    rintro D c pre W hD hpre h hK
    exact h.elim
end Go.Proofs.YtlkjimfkapcenaaGreatDoor
namespace Go.Proofs.YtlkjimfkapcenaaGreatDoor
open Go.RowKit

/-- A record's names are few, and words; and how the slice of them lies. -/
structure Fine (a : Rcd) (n c : Nat) : Prop where
  lo : 1 ≤ n
  hi : n ≤ 100
  cap : n ≤ c
  big : c ≤ 9223372036854775807
  words : ∀ s ∈ a.names, 0 < s.size ∧ s.size ≤ 20
theorem Fine.first {a : Rcd} {w : World} {b0 o0 n c : Nat} {B : Option Addr} {m : Nat} (f : Fine a n c) (h : a.In w (some ⟨b0, o0, none⟩) n B m) : w.cell? ⟨b0, o0, none⟩ = some (.string a.names[0]!) ∧ 0 < a.names[0]!.size ∧ a.names[0]!.size ≤ 20 := by
  obtain ⟨b, off, e, _, hc⟩ := h.names.at_ f.lo
  cases e
  have hl := h.nlen
  have := f.lo
  refine ⟨?_, f.words _ (mem_get (by omega))⟩
  simpa using hc 0 _ (Rd.get (by omega))

set_option maxRecDepth 100000 in
set_option maxHeartbeats 8000000 in
theorem names_gt (r : Rul) (a b : Rcd) (A : Option Addr) (n c : Nat) (B : Option Addr) (m d : Nat) (A' : Option Addr) (n' c' : Nat) (B' : Option Addr) (m' d' : Nat) (w : World)
    (ha : a.In w A n B m) (hb : b.In w A' n' B' m') (fa : Fine a n c) (fb : Fine b n' c') (hlt : n' < n) :
    Calls Tryz.prog 30 #[r.val, a.val A n c B m d, b.val A' n' c' B' m' d'] w fun e w' => e = .returned (.int .u8 (namesO r.letters b.names a.names)) ∧ Gr w w' := by
  obtain ⟨b0, o0, rfl, hb0, _⟩ := ha.names.at_ fa.lo
  obtain ⟨b1, o1, rfl, hb1, _⟩ := hb.names.at_ fb.lo
  have HM := hid (fun (kk : Int) W (g : Gr w W) => among_any b a kk b1 o1 n' c' B' m' d' b0 o0 n c B m d W (hb.names.gr g) (ha.names.gr g) fb.lo fa.lo fb.cap fb.big fa.cap fa.big fb.hi fb.words fa.words)
  obtain ⟨k0, z0, z0'⟩ := fb.first hb
  obtain ⟨k1, z1, z1'⟩ := fa.first ha
  obtain ⟨l, dg, dy, tg⟩ := r
  obtain ⟨id, names, suf, l1, h1, p, tw, stays⟩ := a
  obtain ⟨id', names', suf', l2, h2, q, tw', stays'⟩ := b
  have z2 : 0 < n := fa.lo
  have z3 : 0 < n' := fb.lo
  have z4 : (0 : Int) < n := by omega
  have z5 : (0 : Int) < n' := by omega
  clear ha hb fa fb
  unfold namesO
  unfold Rcd.val Rul.val
  unfold Rcd.val at HM
  dsimp only at k0 k1 z0 z1 z0' z1' HM ⊢
  generalize names'[0]! = x at k0 z0 z0' ⊢
  generalize names[0]! = y at k1 z1 z1' ⊢
  have HE := hid (fun W => edits_any x y W (by omega) z1')
  generalize lev x y x.size y.size = v at HE ⊢
  have HM1 := hid (fun W g => HM.out (-1) W g)
  have HM2 := hid (fun W g => HM.out l W g)
  clear HM z0 z1 z0' z1'
  generalize amongB (-1) names'.tail names.tail = v1 at HM1 ⊢
  generalize amongB l names'.tail names.tail = v2 at HM2 ⊢
  obtain ⟨NV, hNV⟩ : ∃ z : Int, z = if x = y ∧ v1 = true then 3 else if (v : Int) ≤ l ∧ v2 = true then 2 else 0 := ⟨_, rfl⟩
  rw [← hNV]
  have HNV := hid hNV
  clear hNV
  obtain ⟨E1, E2, E3⟩ := rows3 w (.cells #[.int .i64 l, .int .i64 dg, .int .i64 dy, .int .i64 tg] 34) (.cells #[.int .i64 id', .slice (some ⟨b1, o1, none⟩) n' c', .int .u8 suf', .int .i64 l2, .int .i64 h2, .string q, .bool tw', .slice B' m' d'] 75) (.cells #[.int .i64 id, .slice (some ⟨b0, o0, none⟩) n c, .int .u8 suf, .int .i64 l1, .int .i64 h1, .string p, .bool tw, .slice B m d] 75)
  have g3 : Gr w (((w.alloc (.cells #[.int .i64 l, .int .i64 dg, .int .i64 dy, .int .i64 tg] 34)).alloc (.cells #[.int .i64 id', .slice (some ⟨b1, o1, none⟩) n' c', .int .u8 suf', .int .i64 l2, .int .i64 h2, .string q, .bool tw', .slice B' m' d'] 75)).alloc (.cells #[.int .i64 id, .slice (some ⟨b0, o0, none⟩) n c, .int .u8 suf, .int .i64 l1, .int .i64 h1, .string p, .bool tw, .slice B m d] 75)) := (((Gr.refl w).alloc _).alloc _).alloc _
  have K0 := hid ((g3.cell hb1).trans k0)
  have K1 := hid ((g3.cell hb0).trans k1)
  clear k0 k1
  obtain ⟨p0, p1, p2, p3, p4, p5, p6, p7⟩ := row8 E2
  obtain ⟨q0, q1, q2, q3, q4, q5, q6, q7⟩ := row8 E3
  have e0 := GrW.cell K0.out
  have e1 := GrW.cell K1.out
  have HE1 := hid E1
  have HE2 := hid E2
  have HE3 := hid E3
  have HG := hid g3
  clear E1 E2 E3 g3
  have hlt' : (n' : Int) < n := by omega
  by_cases hxy : x = y
  · subst hxy
    cases v1
    · have EY := hid (show NV = if (v : Int) ≤ l ∧ v2 = true then 2 else 0 from HNV.out.trans (if_neg (fun h => Bool.false_ne_true h.2)))
      clear HNV
      by_cases hv : (v : Int) ≤ l
      · have hv2 : decide ((v : Int) ≤ l) = true := decide_eq_true hv
        cases v2
        · have EX := hid (show NV = 0 from EY.out.trans (if_neg (fun h => Bool.false_ne_true h.2)))
          clear EY
          go_enter Tryz.func30, Tryz.ntmps30
          go_wp2
          (refine wp_region_gr (by kernel_rfl) (by kernel_rfl) ?_; (repeat (first | go_big_quiet_step ((fail)) | quiet_step ((fail)))); refine wpQuiet_nil ?_; intro wq hw; obtain ⟨⟨_, hbwq⟩, hw⟩ := hw; subst hw; obtain ⟨hcwq, hfwq, hzwq⟩ := hbwq.rules; (try simp at hzwq); have hzwq_0 : w.heap.size < wq.heap.size := (by omega); have hywq_0 : w.heap.size ≤ wq.heap.size := (by omega); have hzwq_1 : w.heap.size + 1 < wq.heap.size := (by omega); have hywq_1 : w.heap.size + 1 ≤ wq.heap.size := (by omega); have hzwq_2 : w.heap.size + 2 < wq.heap.size := (by omega); have hywq_2 : w.heap.size + 2 ≤ wq.heap.size := (by omega))
          go_wp2_with ((go_at_call 47; (with_reducible refine (HM1.out _ ?_).mono ?_); rotate_right; rintro e w1 ⟨rfl, hbw1⟩; obtain ⟨hcw1, hfw1, hzw1⟩ := hbw1.rules; (try simp at hzw1); have hzw1_0 : w.heap.size < w1.heap.size := (by omega); have hyw1_0 : w.heap.size ≤ w1.heap.size := (by omega); have hzw1_1 : w.heap.size + 1 < w1.heap.size := (by omega); have hyw1_1 : w.heap.size + 1 ≤ w1.heap.size := (by omega); have hzw1_2 : w.heap.size + 2 < w1.heap.size := (by omega); have hyw1_2 : w.heap.size + 2 ≤ w1.heap.size := (by omega)))
          rotate_right
          · exact HG.out.trans hbwq
          have GG := hid (hbwq.trans hbw1)
          clear p0 p1 p2 p3 p4 p5 p6 p7 q0 q1 q2 q3 q4 q5 q6 q7 e0 e1
          obtain ⟨r0, r1, r2, r3⟩ := row4 (row_gr HE1.out GG.out)
          obtain ⟨p0, p1, p2, p3, p4, p5, p6, p7⟩ := row8 (row_gr HE2.out GG.out)
          obtain ⟨q0, q1, q2, q3, q4, q5, q6, q7⟩ := row8 (row_gr HE3.out GG.out)
          (refine wp_region_gr (by kernel_rfl) (by kernel_rfl) ?_; (repeat (first | go_big_quiet_step ((first | (go_at_call 17; exact calls_gr (HE.out _)) | (go_at_call 47; exact calls_gr (HM2.out _ (HG.out.trans (GG.out.trans (GrW.gr _))))))) | quiet_step ((first | (go_at_call 17; exact calls_gr (HE.out _)) | (go_at_call 47; exact calls_gr (HM2.out _ (HG.out.trans (GG.out.trans (GrW.gr _))))))))); refine wpQuiet_nil ?_; intro wz hw; obtain ⟨⟨_, hbwz⟩, hw⟩ := hw; subst hw; obtain ⟨hcwz, hfwz, hzwz⟩ := hbwz.rules; (try simp at hzwz))
          go_wp2
          go_ret
          exact ⟨by rw [EX.out]; rfl, HG.out.trans (GG.out.trans hbwz)⟩
        · have EX := hid (show NV = 2 from EY.out.trans (if_pos ⟨hv, rfl⟩))
          clear EY
          go_enter Tryz.func30, Tryz.ntmps30
          go_wp2
          (refine wp_region_gr (by kernel_rfl) (by kernel_rfl) ?_; (repeat (first | go_big_quiet_step ((fail)) | quiet_step ((fail)))); refine wpQuiet_nil ?_; intro wq hw; obtain ⟨⟨_, hbwq⟩, hw⟩ := hw; subst hw; obtain ⟨hcwq, hfwq, hzwq⟩ := hbwq.rules; (try simp at hzwq); have hzwq_0 : w.heap.size < wq.heap.size := (by omega); have hywq_0 : w.heap.size ≤ wq.heap.size := (by omega); have hzwq_1 : w.heap.size + 1 < wq.heap.size := (by omega); have hywq_1 : w.heap.size + 1 ≤ wq.heap.size := (by omega); have hzwq_2 : w.heap.size + 2 < wq.heap.size := (by omega); have hywq_2 : w.heap.size + 2 ≤ wq.heap.size := (by omega))
          go_wp2_with ((go_at_call 47; (with_reducible refine (HM1.out _ ?_).mono ?_); rotate_right; rintro e w1 ⟨rfl, hbw1⟩; obtain ⟨hcw1, hfw1, hzw1⟩ := hbw1.rules; (try simp at hzw1); have hzw1_0 : w.heap.size < w1.heap.size := (by omega); have hyw1_0 : w.heap.size ≤ w1.heap.size := (by omega); have hzw1_1 : w.heap.size + 1 < w1.heap.size := (by omega); have hyw1_1 : w.heap.size + 1 ≤ w1.heap.size := (by omega); have hzw1_2 : w.heap.size + 2 < w1.heap.size := (by omega); have hyw1_2 : w.heap.size + 2 ≤ w1.heap.size := (by omega)))
          rotate_right
          · exact HG.out.trans hbwq
          have GG := hid (hbwq.trans hbw1)
          clear p0 p1 p2 p3 p4 p5 p6 p7 q0 q1 q2 q3 q4 q5 q6 q7 e0 e1
          obtain ⟨r0, r1, r2, r3⟩ := row4 (row_gr HE1.out GG.out)
          obtain ⟨p0, p1, p2, p3, p4, p5, p6, p7⟩ := row8 (row_gr HE2.out GG.out)
          obtain ⟨q0, q1, q2, q3, q4, q5, q6, q7⟩ := row8 (row_gr HE3.out GG.out)
          (refine wp_region_gr (by kernel_rfl) (by kernel_rfl) ?_; (repeat (first | go_big_quiet_step ((first | (go_at_call 17; exact calls_gr (HE.out _)) | (go_at_call 47; exact calls_gr (HM2.out _ (HG.out.trans (GG.out.trans (GrW.gr _))))))) | quiet_step ((first | (go_at_call 17; exact calls_gr (HE.out _)) | (go_at_call 47; exact calls_gr (HM2.out _ (HG.out.trans (GG.out.trans (GrW.gr _))))))))); refine wpQuiet_nil ?_; intro wz hw; obtain ⟨⟨_, hbwz⟩, hw⟩ := hw; subst hw; obtain ⟨hcwz, hfwz, hzwz⟩ := hbwz.rules; (try simp at hzwz))
          go_wp2
          go_ret
          exact ⟨by rw [EX.out]; rfl, HG.out.trans (GG.out.trans hbwz)⟩
      · have hv2 : decide ((v : Int) ≤ l) = false := decide_eq_false hv
        have EX := hid (show NV = 0 from EY.out.trans (if_neg (fun h => hv h.1)))
        clear EY
        go_enter Tryz.func30, Tryz.ntmps30
        go_wp2
        (refine wp_region_gr (by kernel_rfl) (by kernel_rfl) ?_; (repeat (first | go_big_quiet_step ((fail)) | quiet_step ((fail)))); refine wpQuiet_nil ?_; intro wq hw; obtain ⟨⟨_, hbwq⟩, hw⟩ := hw; subst hw; obtain ⟨hcwq, hfwq, hzwq⟩ := hbwq.rules; (try simp at hzwq); have hzwq_0 : w.heap.size < wq.heap.size := (by omega); have hywq_0 : w.heap.size ≤ wq.heap.size := (by omega); have hzwq_1 : w.heap.size + 1 < wq.heap.size := (by omega); have hywq_1 : w.heap.size + 1 ≤ wq.heap.size := (by omega); have hzwq_2 : w.heap.size + 2 < wq.heap.size := (by omega); have hywq_2 : w.heap.size + 2 ≤ wq.heap.size := (by omega))
        go_wp2_with ((go_at_call 47; (with_reducible refine (HM1.out _ ?_).mono ?_); rotate_right; rintro e w1 ⟨rfl, hbw1⟩; obtain ⟨hcw1, hfw1, hzw1⟩ := hbw1.rules; (try simp at hzw1); have hzw1_0 : w.heap.size < w1.heap.size := (by omega); have hyw1_0 : w.heap.size ≤ w1.heap.size := (by omega); have hzw1_1 : w.heap.size + 1 < w1.heap.size := (by omega); have hyw1_1 : w.heap.size + 1 ≤ w1.heap.size := (by omega); have hzw1_2 : w.heap.size + 2 < w1.heap.size := (by omega); have hyw1_2 : w.heap.size + 2 ≤ w1.heap.size := (by omega)))
        rotate_right
        · exact HG.out.trans hbwq
        have GG := hid (hbwq.trans hbw1)
        clear p0 p1 p2 p3 p4 p5 p6 p7 q0 q1 q2 q3 q4 q5 q6 q7 e0 e1
        obtain ⟨r0, r1, r2, r3⟩ := row4 (row_gr HE1.out GG.out)
        obtain ⟨p0, p1, p2, p3, p4, p5, p6, p7⟩ := row8 (row_gr HE2.out GG.out)
        obtain ⟨q0, q1, q2, q3, q4, q5, q6, q7⟩ := row8 (row_gr HE3.out GG.out)
        (refine wp_region_gr (by kernel_rfl) (by kernel_rfl) ?_; (repeat (first | go_big_quiet_step ((first | (go_at_call 17; exact calls_gr (HE.out _)) | (go_at_call 47; exact calls_gr (HM2.out _ (HG.out.trans (GG.out.trans (GrW.gr _))))))) | quiet_step ((first | (go_at_call 17; exact calls_gr (HE.out _)) | (go_at_call 47; exact calls_gr (HM2.out _ (HG.out.trans (GG.out.trans (GrW.gr _))))))))); refine wpQuiet_nil ?_; intro wz hw; obtain ⟨⟨_, hbwz⟩, hw⟩ := hw; subst hw; obtain ⟨hcwz, hfwz, hzwz⟩ := hbwz.rules; (try simp at hzwz))
        go_wp2
        go_ret
        exact ⟨by rw [EX.out]; rfl, HG.out.trans (GG.out.trans hbwz)⟩
    · have EX := hid (show NV = 3 from HNV.out.trans (if_pos ⟨rfl, rfl⟩))
      clear HNV
      go_enter Tryz.func30, Tryz.ntmps30
      go_wp2
      (refine wp_region_gr (by kernel_rfl) (by kernel_rfl) ?_; (repeat (first | go_big_quiet_step ((fail)) | quiet_step ((fail)))); refine wpQuiet_nil ?_; intro wq hw; obtain ⟨⟨_, hbwq⟩, hw⟩ := hw; subst hw; obtain ⟨hcwq, hfwq, hzwq⟩ := hbwq.rules; (try simp at hzwq); have hzwq_0 : w.heap.size < wq.heap.size := (by omega); have hywq_0 : w.heap.size ≤ wq.heap.size := (by omega); have hzwq_1 : w.heap.size + 1 < wq.heap.size := (by omega); have hywq_1 : w.heap.size + 1 ≤ wq.heap.size := (by omega); have hzwq_2 : w.heap.size + 2 < wq.heap.size := (by omega); have hywq_2 : w.heap.size + 2 ≤ wq.heap.size := (by omega))
      go_wp2_with ((go_at_call 47; (with_reducible refine (HM1.out _ ?_).mono ?_); rotate_right; rintro e w1 ⟨rfl, hbw1⟩; obtain ⟨hcw1, hfw1, hzw1⟩ := hbw1.rules; (try simp at hzw1); have hzw1_0 : w.heap.size < w1.heap.size := (by omega); have hyw1_0 : w.heap.size ≤ w1.heap.size := (by omega); have hzw1_1 : w.heap.size + 1 < w1.heap.size := (by omega); have hyw1_1 : w.heap.size + 1 ≤ w1.heap.size := (by omega); have hzw1_2 : w.heap.size + 2 < w1.heap.size := (by omega); have hyw1_2 : w.heap.size + 2 ≤ w1.heap.size := (by omega)))
      · go_ret
        exact ⟨by rw [EX.out]; rfl, HG.out.trans (hbwq.trans hbw1)⟩
      · exact HG.out.trans hbwq
  · have EY := hid (show NV = if (v : Int) ≤ l ∧ v2 = true then 2 else 0 from HNV.out.trans (if_neg (fun h => hxy h.1)))
    clear HNV
    have tl := toList_ne' hxy
    have tb := toList_beq hxy
    by_cases hv : (v : Int) ≤ l
    · have hv2 : decide ((v : Int) ≤ l) = true := decide_eq_true hv
      cases v2
      · have EX := hid (show NV = 0 from EY.out.trans (if_neg (fun h => Bool.false_ne_true h.2)))
        clear EY
        go_enter Tryz.func30, Tryz.ntmps30
        go_wp2
        (refine wp_region_gr (by kernel_rfl) (by kernel_rfl) ?_; (repeat (first | go_big_quiet_step ((fail)) | quiet_step ((fail)))); refine wpQuiet_nil ?_; intro wq hw; obtain ⟨⟨_, hbwq⟩, hw⟩ := hw; subst hw; obtain ⟨hcwq, hfwq, hzwq⟩ := hbwq.rules; (try simp at hzwq); have hzwq_0 : w.heap.size < wq.heap.size := (by omega); have hywq_0 : w.heap.size ≤ wq.heap.size := (by omega); have hzwq_1 : w.heap.size + 1 < wq.heap.size := (by omega); have hywq_1 : w.heap.size + 1 ≤ wq.heap.size := (by omega); have hzwq_2 : w.heap.size + 2 < wq.heap.size := (by omega); have hywq_2 : w.heap.size + 2 ≤ wq.heap.size := (by omega))
        go_wp2
        have GG := hid (hbwq)
        clear p0 p1 p2 p3 p4 p5 p6 p7 q0 q1 q2 q3 q4 q5 q6 q7 e0 e1
        obtain ⟨r0, r1, r2, r3⟩ := row4 (row_gr HE1.out GG.out)
        obtain ⟨p0, p1, p2, p3, p4, p5, p6, p7⟩ := row8 (row_gr HE2.out GG.out)
        obtain ⟨q0, q1, q2, q3, q4, q5, q6, q7⟩ := row8 (row_gr HE3.out GG.out)
        (refine wp_region_gr (by kernel_rfl) (by kernel_rfl) ?_; (repeat (first | go_big_quiet_step ((first | (go_at_call 17; exact calls_gr (HE.out _)) | (go_at_call 47; exact calls_gr (HM2.out _ (HG.out.trans (GG.out.trans (GrW.gr _))))))) | quiet_step ((first | (go_at_call 17; exact calls_gr (HE.out _)) | (go_at_call 47; exact calls_gr (HM2.out _ (HG.out.trans (GG.out.trans (GrW.gr _))))))))); refine wpQuiet_nil ?_; intro wz hw; obtain ⟨⟨_, hbwz⟩, hw⟩ := hw; subst hw; obtain ⟨hcwz, hfwz, hzwz⟩ := hbwz.rules; (try simp at hzwz))
        go_wp2
        go_ret
        exact ⟨by rw [EX.out]; rfl, HG.out.trans (GG.out.trans hbwz)⟩
      · have EX := hid (show NV = 2 from EY.out.trans (if_pos ⟨hv, rfl⟩))
        clear EY
        go_enter Tryz.func30, Tryz.ntmps30
        go_wp2
        (refine wp_region_gr (by kernel_rfl) (by kernel_rfl) ?_; (repeat (first | go_big_quiet_step ((fail)) | quiet_step ((fail)))); refine wpQuiet_nil ?_; intro wq hw; obtain ⟨⟨_, hbwq⟩, hw⟩ := hw; subst hw; obtain ⟨hcwq, hfwq, hzwq⟩ := hbwq.rules; (try simp at hzwq); have hzwq_0 : w.heap.size < wq.heap.size := (by omega); have hywq_0 : w.heap.size ≤ wq.heap.size := (by omega); have hzwq_1 : w.heap.size + 1 < wq.heap.size := (by omega); have hywq_1 : w.heap.size + 1 ≤ wq.heap.size := (by omega); have hzwq_2 : w.heap.size + 2 < wq.heap.size := (by omega); have hywq_2 : w.heap.size + 2 ≤ wq.heap.size := (by omega))
        go_wp2
        have GG := hid (hbwq)
        clear p0 p1 p2 p3 p4 p5 p6 p7 q0 q1 q2 q3 q4 q5 q6 q7 e0 e1
        obtain ⟨r0, r1, r2, r3⟩ := row4 (row_gr HE1.out GG.out)
        obtain ⟨p0, p1, p2, p3, p4, p5, p6, p7⟩ := row8 (row_gr HE2.out GG.out)
        obtain ⟨q0, q1, q2, q3, q4, q5, q6, q7⟩ := row8 (row_gr HE3.out GG.out)
        (refine wp_region_gr (by kernel_rfl) (by kernel_rfl) ?_; (repeat (first | go_big_quiet_step ((first | (go_at_call 17; exact calls_gr (HE.out _)) | (go_at_call 47; exact calls_gr (HM2.out _ (HG.out.trans (GG.out.trans (GrW.gr _))))))) | quiet_step ((first | (go_at_call 17; exact calls_gr (HE.out _)) | (go_at_call 47; exact calls_gr (HM2.out _ (HG.out.trans (GG.out.trans (GrW.gr _))))))))); refine wpQuiet_nil ?_; intro wz hw; obtain ⟨⟨_, hbwz⟩, hw⟩ := hw; subst hw; obtain ⟨hcwz, hfwz, hzwz⟩ := hbwz.rules; (try simp at hzwz))
        go_wp2
        go_ret
        exact ⟨by rw [EX.out]; rfl, HG.out.trans (GG.out.trans hbwz)⟩
    · have hv2 : decide ((v : Int) ≤ l) = false := decide_eq_false hv
      have EX := hid (show NV = 0 from EY.out.trans (if_neg (fun h => hv h.1)))
      clear EY
      go_enter Tryz.func30, Tryz.ntmps30
      go_wp2
      (refine wp_region_gr (by kernel_rfl) (by kernel_rfl) ?_; (repeat (first | go_big_quiet_step ((fail)) | quiet_step ((fail)))); refine wpQuiet_nil ?_; intro wq hw; obtain ⟨⟨_, hbwq⟩, hw⟩ := hw; subst hw; obtain ⟨hcwq, hfwq, hzwq⟩ := hbwq.rules; (try simp at hzwq); have hzwq_0 : w.heap.size < wq.heap.size := (by omega); have hywq_0 : w.heap.size ≤ wq.heap.size := (by omega); have hzwq_1 : w.heap.size + 1 < wq.heap.size := (by omega); have hywq_1 : w.heap.size + 1 ≤ wq.heap.size := (by omega); have hzwq_2 : w.heap.size + 2 < wq.heap.size := (by omega); have hywq_2 : w.heap.size + 2 ≤ wq.heap.size := (by omega))
      go_wp2
      have GG := hid (hbwq)
      clear p0 p1 p2 p3 p4 p5 p6 p7 q0 q1 q2 q3 q4 q5 q6 q7 e0 e1
      obtain ⟨r0, r1, r2, r3⟩ := row4 (row_gr HE1.out GG.out)
      obtain ⟨p0, p1, p2, p3, p4, p5, p6, p7⟩ := row8 (row_gr HE2.out GG.out)
      obtain ⟨q0, q1, q2, q3, q4, q5, q6, q7⟩ := row8 (row_gr HE3.out GG.out)
      (refine wp_region_gr (by kernel_rfl) (by kernel_rfl) ?_; (repeat (first | go_big_quiet_step ((first | (go_at_call 17; exact calls_gr (HE.out _)) | (go_at_call 47; exact calls_gr (HM2.out _ (HG.out.trans (GG.out.trans (GrW.gr _))))))) | quiet_step ((first | (go_at_call 17; exact calls_gr (HE.out _)) | (go_at_call 47; exact calls_gr (HM2.out _ (HG.out.trans (GG.out.trans (GrW.gr _))))))))); refine wpQuiet_nil ?_; intro wz hw; obtain ⟨⟨_, hbwz⟩, hw⟩ := hw; subst hw; obtain ⟨hcwz, hfwz, hzwz⟩ := hbwz.rules; (try simp at hzwz))
      go_wp2
      go_ret
      exact ⟨by rw [EX.out]; rfl, HG.out.trans (GG.out.trans hbwz)⟩

set_option maxRecDepth 100000 in
set_option maxHeartbeats 8000000 in
theorem names_le (r : Rul) (a b : Rcd) (A : Option Addr) (n c : Nat) (B : Option Addr) (m d : Nat) (A' : Option Addr) (n' c' : Nat) (B' : Option Addr) (m' d' : Nat) (w : World)
    (ha : a.In w A n B m) (hb : b.In w A' n' B' m') (fa : Fine a n c) (fb : Fine b n' c') (hlt : n ≤ n') :
    Calls Tryz.prog 30 #[r.val, a.val A n c B m d, b.val A' n' c' B' m' d'] w fun e w' => e = .returned (.int .u8 (namesO r.letters a.names b.names)) ∧ Gr w w' := by
  obtain ⟨b0, o0, rfl, hb0, _⟩ := ha.names.at_ fa.lo
  obtain ⟨b1, o1, rfl, hb1, _⟩ := hb.names.at_ fb.lo
  have HM := hid (fun (kk : Int) W (g : Gr w W) => among_any a b kk b0 o0 n c B m d b1 o1 n' c' B' m' d' W (ha.names.gr g) (hb.names.gr g) fa.lo fb.lo fa.cap fa.big fb.cap fb.big fa.hi fa.words fb.words)
  obtain ⟨k0, z0, z0'⟩ := fa.first ha
  obtain ⟨k1, z1, z1'⟩ := fb.first hb
  obtain ⟨l, dg, dy, tg⟩ := r
  obtain ⟨id, names, suf, l1, h1, p, tw, stays⟩ := a
  obtain ⟨id', names', suf', l2, h2, q, tw', stays'⟩ := b
  have z2 : 0 < n := fa.lo
  have z3 : 0 < n' := fb.lo
  have z4 : (0 : Int) < n := by omega
  have z5 : (0 : Int) < n' := by omega
  clear ha hb fa fb
  unfold namesO
  unfold Rcd.val Rul.val
  unfold Rcd.val at HM
  dsimp only at k0 k1 z0 z1 z0' z1' HM ⊢
  generalize names[0]! = x at k0 z0 z0' ⊢
  generalize names'[0]! = y at k1 z1 z1' ⊢
  have HE := hid (fun W => edits_any x y W (by omega) z1')
  generalize lev x y x.size y.size = v at HE ⊢
  have HM1 := hid (fun W g => HM.out (-1) W g)
  have HM2 := hid (fun W g => HM.out l W g)
  clear HM z0 z1 z0' z1'
  generalize amongB (-1) names.tail names'.tail = v1 at HM1 ⊢
  generalize amongB l names.tail names'.tail = v2 at HM2 ⊢
  obtain ⟨NV, hNV⟩ : ∃ z : Int, z = if x = y ∧ v1 = true then 3 else if (v : Int) ≤ l ∧ v2 = true then 2 else 0 := ⟨_, rfl⟩
  rw [← hNV]
  have HNV := hid hNV
  clear hNV
  obtain ⟨E1, E2, E3⟩ := rows3 w (.cells #[.int .i64 l, .int .i64 dg, .int .i64 dy, .int .i64 tg] 34) (.cells #[.int .i64 id, .slice (some ⟨b0, o0, none⟩) n c, .int .u8 suf, .int .i64 l1, .int .i64 h1, .string p, .bool tw, .slice B m d] 75) (.cells #[.int .i64 id', .slice (some ⟨b1, o1, none⟩) n' c', .int .u8 suf', .int .i64 l2, .int .i64 h2, .string q, .bool tw', .slice B' m' d'] 75)
  have g3 : Gr w (((w.alloc (.cells #[.int .i64 l, .int .i64 dg, .int .i64 dy, .int .i64 tg] 34)).alloc (.cells #[.int .i64 id, .slice (some ⟨b0, o0, none⟩) n c, .int .u8 suf, .int .i64 l1, .int .i64 h1, .string p, .bool tw, .slice B m d] 75)).alloc (.cells #[.int .i64 id', .slice (some ⟨b1, o1, none⟩) n' c', .int .u8 suf', .int .i64 l2, .int .i64 h2, .string q, .bool tw', .slice B' m' d'] 75)) := (((Gr.refl w).alloc _).alloc _).alloc _
  have K0 := hid ((g3.cell hb0).trans k0)
  have K1 := hid ((g3.cell hb1).trans k1)
  clear k0 k1
  obtain ⟨p0, p1, p2, p3, p4, p5, p6, p7⟩ := row8 E2
  obtain ⟨q0, q1, q2, q3, q4, q5, q6, q7⟩ := row8 E3
  have e0 := GrW.cell K0.out
  have e1 := GrW.cell K1.out
  have HE1 := hid E1
  have HE2 := hid E2
  have HE3 := hid E3
  have HG := hid g3
  clear E1 E2 E3 g3
  have hlt' : (n : Int) ≤ n' := by omega
  by_cases hxy : x = y
  · subst hxy
    cases v1
    · have EY := hid (show NV = if (v : Int) ≤ l ∧ v2 = true then 2 else 0 from HNV.out.trans (if_neg (fun h => Bool.false_ne_true h.2)))
      clear HNV
      by_cases hv : (v : Int) ≤ l
      · have hv2 : decide ((v : Int) ≤ l) = true := decide_eq_true hv
        cases v2
        · have EX := hid (show NV = 0 from EY.out.trans (if_neg (fun h => Bool.false_ne_true h.2)))
          clear EY
          go_enter Tryz.func30, Tryz.ntmps30
          go_wp2
          (refine wp_region_gr (by kernel_rfl) (by kernel_rfl) ?_; (repeat (first | go_big_quiet_step ((fail)) | quiet_step ((fail)))); refine wpQuiet_nil ?_; intro wq hw; obtain ⟨⟨_, hbwq⟩, hw⟩ := hw; subst hw; obtain ⟨hcwq, hfwq, hzwq⟩ := hbwq.rules; (try simp at hzwq); have hzwq_0 : w.heap.size < wq.heap.size := (by omega); have hywq_0 : w.heap.size ≤ wq.heap.size := (by omega); have hzwq_1 : w.heap.size + 1 < wq.heap.size := (by omega); have hywq_1 : w.heap.size + 1 ≤ wq.heap.size := (by omega); have hzwq_2 : w.heap.size + 2 < wq.heap.size := (by omega); have hywq_2 : w.heap.size + 2 ≤ wq.heap.size := (by omega))
          go_wp2_with ((go_at_call 47; (with_reducible refine (HM1.out _ ?_).mono ?_); rotate_right; rintro e w1 ⟨rfl, hbw1⟩; obtain ⟨hcw1, hfw1, hzw1⟩ := hbw1.rules; (try simp at hzw1); have hzw1_0 : w.heap.size < w1.heap.size := (by omega); have hyw1_0 : w.heap.size ≤ w1.heap.size := (by omega); have hzw1_1 : w.heap.size + 1 < w1.heap.size := (by omega); have hyw1_1 : w.heap.size + 1 ≤ w1.heap.size := (by omega); have hzw1_2 : w.heap.size + 2 < w1.heap.size := (by omega); have hyw1_2 : w.heap.size + 2 ≤ w1.heap.size := (by omega)))
          rotate_right
          · exact HG.out.trans hbwq
          have GG := hid (hbwq.trans hbw1)
          clear p0 p1 p2 p3 p4 p5 p6 p7 q0 q1 q2 q3 q4 q5 q6 q7 e0 e1
          obtain ⟨r0, r1, r2, r3⟩ := row4 (row_gr HE1.out GG.out)
          obtain ⟨p0, p1, p2, p3, p4, p5, p6, p7⟩ := row8 (row_gr HE2.out GG.out)
          obtain ⟨q0, q1, q2, q3, q4, q5, q6, q7⟩ := row8 (row_gr HE3.out GG.out)
          (refine wp_region_gr (by kernel_rfl) (by kernel_rfl) ?_; (repeat (first | go_big_quiet_step ((first | (go_at_call 17; exact calls_gr (HE.out _)) | (go_at_call 47; exact calls_gr (HM2.out _ (HG.out.trans (GG.out.trans (GrW.gr _))))))) | quiet_step ((first | (go_at_call 17; exact calls_gr (HE.out _)) | (go_at_call 47; exact calls_gr (HM2.out _ (HG.out.trans (GG.out.trans (GrW.gr _))))))))); refine wpQuiet_nil ?_; intro wz hw; obtain ⟨⟨_, hbwz⟩, hw⟩ := hw; subst hw; obtain ⟨hcwz, hfwz, hzwz⟩ := hbwz.rules; (try simp at hzwz))
          go_wp2
          go_ret
          exact ⟨by rw [EX.out]; rfl, HG.out.trans (GG.out.trans hbwz)⟩
        · have EX := hid (show NV = 2 from EY.out.trans (if_pos ⟨hv, rfl⟩))
          clear EY
          go_enter Tryz.func30, Tryz.ntmps30
          go_wp2
          (refine wp_region_gr (by kernel_rfl) (by kernel_rfl) ?_; (repeat (first | go_big_quiet_step ((fail)) | quiet_step ((fail)))); refine wpQuiet_nil ?_; intro wq hw; obtain ⟨⟨_, hbwq⟩, hw⟩ := hw; subst hw; obtain ⟨hcwq, hfwq, hzwq⟩ := hbwq.rules; (try simp at hzwq); have hzwq_0 : w.heap.size < wq.heap.size := (by omega); have hywq_0 : w.heap.size ≤ wq.heap.size := (by omega); have hzwq_1 : w.heap.size + 1 < wq.heap.size := (by omega); have hywq_1 : w.heap.size + 1 ≤ wq.heap.size := (by omega); have hzwq_2 : w.heap.size + 2 < wq.heap.size := (by omega); have hywq_2 : w.heap.size + 2 ≤ wq.heap.size := (by omega))
          go_wp2_with ((go_at_call 47; (with_reducible refine (HM1.out _ ?_).mono ?_); rotate_right; rintro e w1 ⟨rfl, hbw1⟩; obtain ⟨hcw1, hfw1, hzw1⟩ := hbw1.rules; (try simp at hzw1); have hzw1_0 : w.heap.size < w1.heap.size := (by omega); have hyw1_0 : w.heap.size ≤ w1.heap.size := (by omega); have hzw1_1 : w.heap.size + 1 < w1.heap.size := (by omega); have hyw1_1 : w.heap.size + 1 ≤ w1.heap.size := (by omega); have hzw1_2 : w.heap.size + 2 < w1.heap.size := (by omega); have hyw1_2 : w.heap.size + 2 ≤ w1.heap.size := (by omega)))
          rotate_right
          · exact HG.out.trans hbwq
          have GG := hid (hbwq.trans hbw1)
          clear p0 p1 p2 p3 p4 p5 p6 p7 q0 q1 q2 q3 q4 q5 q6 q7 e0 e1
          obtain ⟨r0, r1, r2, r3⟩ := row4 (row_gr HE1.out GG.out)
          obtain ⟨p0, p1, p2, p3, p4, p5, p6, p7⟩ := row8 (row_gr HE2.out GG.out)
          obtain ⟨q0, q1, q2, q3, q4, q5, q6, q7⟩ := row8 (row_gr HE3.out GG.out)
          (refine wp_region_gr (by kernel_rfl) (by kernel_rfl) ?_; (repeat (first | go_big_quiet_step ((first | (go_at_call 17; exact calls_gr (HE.out _)) | (go_at_call 47; exact calls_gr (HM2.out _ (HG.out.trans (GG.out.trans (GrW.gr _))))))) | quiet_step ((first | (go_at_call 17; exact calls_gr (HE.out _)) | (go_at_call 47; exact calls_gr (HM2.out _ (HG.out.trans (GG.out.trans (GrW.gr _))))))))); refine wpQuiet_nil ?_; intro wz hw; obtain ⟨⟨_, hbwz⟩, hw⟩ := hw; subst hw; obtain ⟨hcwz, hfwz, hzwz⟩ := hbwz.rules; (try simp at hzwz))
          go_wp2
          go_ret
          exact ⟨by rw [EX.out]; rfl, HG.out.trans (GG.out.trans hbwz)⟩
      · have hv2 : decide ((v : Int) ≤ l) = false := decide_eq_false hv
        have EX := hid (show NV = 0 from EY.out.trans (if_neg (fun h => hv h.1)))
        clear EY
        go_enter Tryz.func30, Tryz.ntmps30
        go_wp2
        (refine wp_region_gr (by kernel_rfl) (by kernel_rfl) ?_; (repeat (first | go_big_quiet_step ((fail)) | quiet_step ((fail)))); refine wpQuiet_nil ?_; intro wq hw; obtain ⟨⟨_, hbwq⟩, hw⟩ := hw; subst hw; obtain ⟨hcwq, hfwq, hzwq⟩ := hbwq.rules; (try simp at hzwq); have hzwq_0 : w.heap.size < wq.heap.size := (by omega); have hywq_0 : w.heap.size ≤ wq.heap.size := (by omega); have hzwq_1 : w.heap.size + 1 < wq.heap.size := (by omega); have hywq_1 : w.heap.size + 1 ≤ wq.heap.size := (by omega); have hzwq_2 : w.heap.size + 2 < wq.heap.size := (by omega); have hywq_2 : w.heap.size + 2 ≤ wq.heap.size := (by omega))
        go_wp2_with ((go_at_call 47; (with_reducible refine (HM1.out _ ?_).mono ?_); rotate_right; rintro e w1 ⟨rfl, hbw1⟩; obtain ⟨hcw1, hfw1, hzw1⟩ := hbw1.rules; (try simp at hzw1); have hzw1_0 : w.heap.size < w1.heap.size := (by omega); have hyw1_0 : w.heap.size ≤ w1.heap.size := (by omega); have hzw1_1 : w.heap.size + 1 < w1.heap.size := (by omega); have hyw1_1 : w.heap.size + 1 ≤ w1.heap.size := (by omega); have hzw1_2 : w.heap.size + 2 < w1.heap.size := (by omega); have hyw1_2 : w.heap.size + 2 ≤ w1.heap.size := (by omega)))
        rotate_right
        · exact HG.out.trans hbwq
        have GG := hid (hbwq.trans hbw1)
        clear p0 p1 p2 p3 p4 p5 p6 p7 q0 q1 q2 q3 q4 q5 q6 q7 e0 e1
        obtain ⟨r0, r1, r2, r3⟩ := row4 (row_gr HE1.out GG.out)
        obtain ⟨p0, p1, p2, p3, p4, p5, p6, p7⟩ := row8 (row_gr HE2.out GG.out)
        obtain ⟨q0, q1, q2, q3, q4, q5, q6, q7⟩ := row8 (row_gr HE3.out GG.out)
        (refine wp_region_gr (by kernel_rfl) (by kernel_rfl) ?_; (repeat (first | go_big_quiet_step ((first | (go_at_call 17; exact calls_gr (HE.out _)) | (go_at_call 47; exact calls_gr (HM2.out _ (HG.out.trans (GG.out.trans (GrW.gr _))))))) | quiet_step ((first | (go_at_call 17; exact calls_gr (HE.out _)) | (go_at_call 47; exact calls_gr (HM2.out _ (HG.out.trans (GG.out.trans (GrW.gr _))))))))); refine wpQuiet_nil ?_; intro wz hw; obtain ⟨⟨_, hbwz⟩, hw⟩ := hw; subst hw; obtain ⟨hcwz, hfwz, hzwz⟩ := hbwz.rules; (try simp at hzwz))
        go_wp2
        go_ret
        exact ⟨by rw [EX.out]; rfl, HG.out.trans (GG.out.trans hbwz)⟩
    · have EX := hid (show NV = 3 from HNV.out.trans (if_pos ⟨rfl, rfl⟩))
      clear HNV
      go_enter Tryz.func30, Tryz.ntmps30
      go_wp2
      (refine wp_region_gr (by kernel_rfl) (by kernel_rfl) ?_; (repeat (first | go_big_quiet_step ((fail)) | quiet_step ((fail)))); refine wpQuiet_nil ?_; intro wq hw; obtain ⟨⟨_, hbwq⟩, hw⟩ := hw; subst hw; obtain ⟨hcwq, hfwq, hzwq⟩ := hbwq.rules; (try simp at hzwq); have hzwq_0 : w.heap.size < wq.heap.size := (by omega); have hywq_0 : w.heap.size ≤ wq.heap.size := (by omega); have hzwq_1 : w.heap.size + 1 < wq.heap.size := (by omega); have hywq_1 : w.heap.size + 1 ≤ wq.heap.size := (by omega); have hzwq_2 : w.heap.size + 2 < wq.heap.size := (by omega); have hywq_2 : w.heap.size + 2 ≤ wq.heap.size := (by omega))
      go_wp2_with ((go_at_call 47; (with_reducible refine (HM1.out _ ?_).mono ?_); rotate_right; rintro e w1 ⟨rfl, hbw1⟩; obtain ⟨hcw1, hfw1, hzw1⟩ := hbw1.rules; (try simp at hzw1); have hzw1_0 : w.heap.size < w1.heap.size := (by omega); have hyw1_0 : w.heap.size ≤ w1.heap.size := (by omega); have hzw1_1 : w.heap.size + 1 < w1.heap.size := (by omega); have hyw1_1 : w.heap.size + 1 ≤ w1.heap.size := (by omega); have hzw1_2 : w.heap.size + 2 < w1.heap.size := (by omega); have hyw1_2 : w.heap.size + 2 ≤ w1.heap.size := (by omega)))
      · go_ret
        exact ⟨by rw [EX.out]; rfl, HG.out.trans (hbwq.trans hbw1)⟩
      · exact HG.out.trans hbwq
  · have EY := hid (show NV = if (v : Int) ≤ l ∧ v2 = true then 2 else 0 from HNV.out.trans (if_neg (fun h => hxy h.1)))
    clear HNV
    have tl := toList_ne' hxy
    have tb := toList_beq hxy
    by_cases hv : (v : Int) ≤ l
    · have hv2 : decide ((v : Int) ≤ l) = true := decide_eq_true hv
      cases v2
      · have EX := hid (show NV = 0 from EY.out.trans (if_neg (fun h => Bool.false_ne_true h.2)))
        clear EY
        go_enter Tryz.func30, Tryz.ntmps30
        go_wp2
        (refine wp_region_gr (by kernel_rfl) (by kernel_rfl) ?_; (repeat (first | go_big_quiet_step ((fail)) | quiet_step ((fail)))); refine wpQuiet_nil ?_; intro wq hw; obtain ⟨⟨_, hbwq⟩, hw⟩ := hw; subst hw; obtain ⟨hcwq, hfwq, hzwq⟩ := hbwq.rules; (try simp at hzwq); have hzwq_0 : w.heap.size < wq.heap.size := (by omega); have hywq_0 : w.heap.size ≤ wq.heap.size := (by omega); have hzwq_1 : w.heap.size + 1 < wq.heap.size := (by omega); have hywq_1 : w.heap.size + 1 ≤ wq.heap.size := (by omega); have hzwq_2 : w.heap.size + 2 < wq.heap.size := (by omega); have hywq_2 : w.heap.size + 2 ≤ wq.heap.size := (by omega))
        go_wp2
        have GG := hid (hbwq)
        clear p0 p1 p2 p3 p4 p5 p6 p7 q0 q1 q2 q3 q4 q5 q6 q7 e0 e1
        obtain ⟨r0, r1, r2, r3⟩ := row4 (row_gr HE1.out GG.out)
        obtain ⟨p0, p1, p2, p3, p4, p5, p6, p7⟩ := row8 (row_gr HE2.out GG.out)
        obtain ⟨q0, q1, q2, q3, q4, q5, q6, q7⟩ := row8 (row_gr HE3.out GG.out)
        (refine wp_region_gr (by kernel_rfl) (by kernel_rfl) ?_; (repeat (first | go_big_quiet_step ((first | (go_at_call 17; exact calls_gr (HE.out _)) | (go_at_call 47; exact calls_gr (HM2.out _ (HG.out.trans (GG.out.trans (GrW.gr _))))))) | quiet_step ((first | (go_at_call 17; exact calls_gr (HE.out _)) | (go_at_call 47; exact calls_gr (HM2.out _ (HG.out.trans (GG.out.trans (GrW.gr _))))))))); refine wpQuiet_nil ?_; intro wz hw; obtain ⟨⟨_, hbwz⟩, hw⟩ := hw; subst hw; obtain ⟨hcwz, hfwz, hzwz⟩ := hbwz.rules; (try simp at hzwz))
        go_wp2
        go_ret
        exact ⟨by rw [EX.out]; rfl, HG.out.trans (GG.out.trans hbwz)⟩
      · have EX := hid (show NV = 2 from EY.out.trans (if_pos ⟨hv, rfl⟩))
        clear EY
        go_enter Tryz.func30, Tryz.ntmps30
        go_wp2
        (refine wp_region_gr (by kernel_rfl) (by kernel_rfl) ?_; (repeat (first | go_big_quiet_step ((fail)) | quiet_step ((fail)))); refine wpQuiet_nil ?_; intro wq hw; obtain ⟨⟨_, hbwq⟩, hw⟩ := hw; subst hw; obtain ⟨hcwq, hfwq, hzwq⟩ := hbwq.rules; (try simp at hzwq); have hzwq_0 : w.heap.size < wq.heap.size := (by omega); have hywq_0 : w.heap.size ≤ wq.heap.size := (by omega); have hzwq_1 : w.heap.size + 1 < wq.heap.size := (by omega); have hywq_1 : w.heap.size + 1 ≤ wq.heap.size := (by omega); have hzwq_2 : w.heap.size + 2 < wq.heap.size := (by omega); have hywq_2 : w.heap.size + 2 ≤ wq.heap.size := (by omega))
        go_wp2
        have GG := hid (hbwq)
        clear p0 p1 p2 p3 p4 p5 p6 p7 q0 q1 q2 q3 q4 q5 q6 q7 e0 e1
        obtain ⟨r0, r1, r2, r3⟩ := row4 (row_gr HE1.out GG.out)
        obtain ⟨p0, p1, p2, p3, p4, p5, p6, p7⟩ := row8 (row_gr HE2.out GG.out)
        obtain ⟨q0, q1, q2, q3, q4, q5, q6, q7⟩ := row8 (row_gr HE3.out GG.out)
        (refine wp_region_gr (by kernel_rfl) (by kernel_rfl) ?_; (repeat (first | go_big_quiet_step ((first | (go_at_call 17; exact calls_gr (HE.out _)) | (go_at_call 47; exact calls_gr (HM2.out _ (HG.out.trans (GG.out.trans (GrW.gr _))))))) | quiet_step ((first | (go_at_call 17; exact calls_gr (HE.out _)) | (go_at_call 47; exact calls_gr (HM2.out _ (HG.out.trans (GG.out.trans (GrW.gr _))))))))); refine wpQuiet_nil ?_; intro wz hw; obtain ⟨⟨_, hbwz⟩, hw⟩ := hw; subst hw; obtain ⟨hcwz, hfwz, hzwz⟩ := hbwz.rules; (try simp at hzwz))
        go_wp2
        go_ret
        exact ⟨by rw [EX.out]; rfl, HG.out.trans (GG.out.trans hbwz)⟩
    · have hv2 : decide ((v : Int) ≤ l) = false := decide_eq_false hv
      have EX := hid (show NV = 0 from EY.out.trans (if_neg (fun h => hv h.1)))
      clear EY
      go_enter Tryz.func30, Tryz.ntmps30
      go_wp2
      (refine wp_region_gr (by kernel_rfl) (by kernel_rfl) ?_; (repeat (first | go_big_quiet_step ((fail)) | quiet_step ((fail)))); refine wpQuiet_nil ?_; intro wq hw; obtain ⟨⟨_, hbwq⟩, hw⟩ := hw; subst hw; obtain ⟨hcwq, hfwq, hzwq⟩ := hbwq.rules; (try simp at hzwq); have hzwq_0 : w.heap.size < wq.heap.size := (by omega); have hywq_0 : w.heap.size ≤ wq.heap.size := (by omega); have hzwq_1 : w.heap.size + 1 < wq.heap.size := (by omega); have hywq_1 : w.heap.size + 1 ≤ wq.heap.size := (by omega); have hzwq_2 : w.heap.size + 2 < wq.heap.size := (by omega); have hywq_2 : w.heap.size + 2 ≤ wq.heap.size := (by omega))
      go_wp2
      have GG := hid (hbwq)
      clear p0 p1 p2 p3 p4 p5 p6 p7 q0 q1 q2 q3 q4 q5 q6 q7 e0 e1
      obtain ⟨r0, r1, r2, r3⟩ := row4 (row_gr HE1.out GG.out)
      obtain ⟨p0, p1, p2, p3, p4, p5, p6, p7⟩ := row8 (row_gr HE2.out GG.out)
      obtain ⟨q0, q1, q2, q3, q4, q5, q6, q7⟩ := row8 (row_gr HE3.out GG.out)
      (refine wp_region_gr (by kernel_rfl) (by kernel_rfl) ?_; (repeat (first | go_big_quiet_step ((first | (go_at_call 17; exact calls_gr (HE.out _)) | (go_at_call 47; exact calls_gr (HM2.out _ (HG.out.trans (GG.out.trans (GrW.gr _))))))) | quiet_step ((first | (go_at_call 17; exact calls_gr (HE.out _)) | (go_at_call 47; exact calls_gr (HM2.out _ (HG.out.trans (GG.out.trans (GrW.gr _))))))))); refine wpQuiet_nil ?_; intro wz hw; obtain ⟨⟨_, hbwz⟩, hw⟩ := hw; subst hw; obtain ⟨hcwz, hfwz, hzwz⟩ := hbwz.rules; (try simp at hzwz))
      go_wp2
      go_ret
      exact ⟨by rw [EX.out]; rfl, HG.out.trans (GG.out.trans hbwz)⟩

theorem names_any (r : Rul) (a b : Rcd) (A : Option Addr) (n c : Nat) (B : Option Addr) (m d : Nat) (A' : Option Addr) (n' c' : Nat) (B' : Option Addr) (m' d' : Nat) (w : World)
    (ha : a.In w A n B m) (hb : b.In w A' n' B' m') (fa : Fine a n c) (fb : Fine b n' c') :
    Calls Tryz.prog 30 #[r.val, a.val A n c B m d, b.val A' n' c' B' m' d'] w fun e w' => e = .returned (.int .u8 (namesN r.letters a.names b.names)) ∧ Gr w w' := by
  unfold namesN
  have h1 := ha.nlen
  have h2 := hb.nlen
  by_cases h : n' < n
  · rw [if_pos (by omega)]
    exact names_gt r a b A n c B m d A' n' c' B' m' d' w ha hb fa fb h
  · rw [if_neg (by omega)]
    exact names_le r a b A n c B m d A' n' c' B' m' d' w ha hb fa fb (by omega)
end Go.Proofs.YtlkjimfkapcenaaGreatDoor
namespace Go.Proofs.YtlkjimfkapcenaaGreatDoor
open Go.RowKit

end Go.Proofs.YtlkjimfkapcenaaGreatDoor
