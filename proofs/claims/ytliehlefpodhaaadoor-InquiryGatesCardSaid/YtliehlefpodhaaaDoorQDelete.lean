/- slices.DeleteFunc at traces: those that a function names are left out, in place. For every row of the call's own. Traces of the call's own: some left out, and in the order of their days. For up to forty traces. -/
import Derived.Deep.LoopGhost
import Derived.Test.YtliehlefpodhaaaDoorQBase
import Derived.Test.YtliehlefpodhaaaDoorQIn
import Derived.Test.YtliehlefpodhaaaDoorQOrder
import Derived.Test.YtliehlefpodhaaaDoorQAmong9
import Derived.Test.YtliehlefpodhaaaDoorQTrRow
import Derived.Test.YtliehlefpodhaaaDoorQCutFrom
namespace Go.Proofs.YtliehlefpodhaaaDoor
open Go.RowKit Go.Shelf Go.Sort

theorem info_trc : (Tryd.prog.info? 72).map (fun i => (i.zero, i.size, i.bytes)) = some (some (.agg #[.int .i64 0, .int .i64 0, .int .i64 0, .int .u8 0, .int .u8 0]), 5, 32) := by kernel_rfl
theorem fidx_spec (p : Trc → Bool) (zs : List Trc) : (fidx p zs = -1 ∧ ∀ x ∈ zs, p x = false) ∨ ∃ k : Nat, k < zs.length ∧ fidx p zs = k ∧ p zs[k]! = true ∧ ∀ j, j < k → p zs[j]! = false := by
  cases e : zs.findIdx? p with
  | none =>
    refine .inl ⟨by unfold fidx; rw [e], fun x hx => ?_⟩
    have := List.findIdx?_eq_none_iff.1 e x hx
    simpa using this
  | some k =>
    obtain ⟨hk, h1, h2⟩ := List.findIdx?_eq_some_iff_getElem.1 e
    refine .inr ⟨k, hk, by unfold fidx; rw [e], by rw [getElem!_pos zs k hk]; exact h1, fun j hj => ?_⟩
    have := h2 j hj
    rw [getElem!_pos zs j (by omega)]
    simpa using this
/-- How far the leaving out has come. -/
structure DQ (p : Trc → Bool) (zs : List Trc) (i j : Nat) (d : Array Trc) : Prop where
  size : d.size = zs.length
  lt : i < j
  le : j ≤ zs.length
  pre : (d.toList.take i) = (zs.take j).filter fun x => !p x
  post : ∀ q, j ≤ q → q < zs.length → d[q]! = zs[q]!
theorem DQ.start {p : Trc → Bool} {zs : List Trc} {k : Nat} (hk : k < zs.length) (hp : p zs[k]! = true) (h : ∀ j, j < k → p zs[j]! = false) : DQ p zs k (k + 1) zs.toArray := by
  refine ⟨by simp, by omega, by omega, ?_, fun q _ h2 => by simp [h2]⟩
  rw [List.take_succ_eq_append_getElem hk, List.filter_append]
  have e1 : (zs.take k).filter (fun x => !p x) = zs.take k := by
    rw [List.filter_eq_self]
    intro x hx
    obtain ⟨j, hj, rfl⟩ := List.getElem_of_mem hx
    have hj' : j < k := by simp at hj; omega
    have := h j hj'
    rw [getElem!_pos zs j (by omega)] at this
    simp [this]
  have e2 : p zs[k] = true := by rw [← getElem!_pos zs k hk]; exact hp
  simp [e1, e2]
theorem DQ.skip {p : Trc → Bool} {zs : List Trc} {i j : Nat} {d : Array Trc} (h : DQ p zs i j d) (hj : j < zs.length) (hp : p zs[j]! = true) : DQ p zs i (j + 1) d := by
  refine ⟨h.size, by have := h.lt; omega, by omega, ?_, fun q h1 h2 => h.post q (by omega) h2⟩
  rw [h.pre, List.take_succ_eq_append_getElem hj, List.filter_append]
  rw [getElem!_pos zs j hj] at hp
  simp [hp]
theorem DQ.put {p : Trc → Bool} {zs : List Trc} {i j : Nat} {d : Array Trc} (h : DQ p zs i j d) (hj : j < zs.length) (hp : p zs[j]! = false) : DQ p zs (i + 1) (j + 1) (d.setIfInBounds i zs[j]!) := by
  have hl := h.lt
  have hs := h.size
  refine ⟨by simpa using hs, by omega, by omega, ?_, fun q h1 h2 => ?_⟩
  · rw [List.take_succ_eq_append_getElem hj, List.filter_append, ← h.pre]
    have hi : i < (d.setIfInBounds i zs[j]!).toList.length := by simp; omega
    rw [List.take_succ_eq_append_getElem hi]
    congr 1
    · simp [List.take_set_of_le]
    · rw [getElem!_pos zs j hj] at hp
      simp [hp, hj]
  · rw [← h.post q (by omega) h2, getElem!_pos _ q (by simp; omega), getElem!_pos d q (by omega), Array.getElem_setIfInBounds, if_neg (by omega)]
theorem DQ.done {p : Trc → Bool} {zs : List Trc} {i : Nat} {d : Array Trc} (h : DQ p zs i zs.length d) : d.extract 0 i = (zs.filter fun x => !p x).toArray := by
  have := h.pre
  rw [List.take_length] at this
  rw [← this]
  apply Array.ext'
  simp

theorem run_clear_own {P : Program} {t e : TypeId} {z : Value} (ht : P.underlying t = some (.slice e)) (hv : ∀ w, (zeroValue e).run P w = .ok z w) (b o n c : Nat) (hn : 0 < n) (w : World)
    (hc : ∀ j, j < n * z.cells.size → (w.cell? ⟨b, o + j, none⟩).isSome = true) (hf : ∀ j, j < n * z.cells.size → w.frozen? ⟨b, o + j, none⟩ = false) (h1 : ∀ v ∈ (Builtin.zeroCells z.cells n).toList, v.oneCell' = true) (ty : TypeId) :
    (Builtin.clear_ #[t] ty #[.slice (some ⟨b, o, none⟩) n c]).run P w = .ok (.tuple #[]) (w.setCells b o (Builtin.zeroCells z.cells n).toList) := by
  have hl : (Builtin.zeroCells z.cells n).toList.length = n * z.cells.size := by simp [Builtin.zeroCells]
  have hst := run_storeCells_cells (P := P) b o (Builtin.zeroCells z.cells n).toList 0 w (by rw [hl]; simpa using hc) (by rw [hl]; simpa using hf) h1
  simp only [Nat.add_zero] at hst
  obtain ⟨m, rfl⟩ : ∃ m, n = m + 1 := ⟨n - 1, by omega⟩
  simp [Builtin.clear_, run_underlying ht, hv, hst]
theorem zero_trc_one (n : Nat) : ∀ v ∈ (Builtin.zeroCells (Value.cells (.agg #[.int .i64 0, .int .i64 0, .int .i64 0, .int .u8 0, .int .u8 0])) n).toList, v.oneCell' = true := by
  intro v hv
  have e : Value.cells (.agg #[.int .i64 0, .int .i64 0, .int .i64 0, .int .u8 0, .int .u8 0]) = #[.int .i64 0, .int .i64 0, .int .i64 0, .int .u8 0, .int .u8 0] := rfl
  rw [e] at hv
  unfold Builtin.zeroCells at hv
  simp only [Array.toList_map, List.mem_map] at hv
  obtain ⟨j, _, rfl⟩ := hv
  have : j % 5 < 5 := Nat.mod_lt _ (by omega)
  show (#[Value.int .i64 0, .int .i64 0, .int .i64 0, .int .u8 0, .int .u8 0][j % 5]!).oneCell' = true
  generalize j % 5 = q at this
  match q, this with
  | 0, _ => rfl
  | 1, _ => rfl
  | 2, _ => rfl
  | 3, _ => rfl
  | 4, _ => rfl

set_option maxRecDepth 100000 in
set_option maxHeartbeats 4000000 in
theorem deleteFunc_trc (g : Nat) (lb : Array Value) (eg : ∀ args w, (callFunc g args).run Tryd.prog w = .ok (.enter g args) w) (p : Trc → Bool) (zs : List Trc) (b cap : Nat) (w0 w : World) (hp : PredG Tryd.prog g lb Trc.val p zs w0)
    (hw : Gr w0 w) (hb : w0.heap.size ≤ b) (hbl : b < w.heap.size) (hH : HoldsK Trc.cells 5 w b 0 zs.toArray) (hcap : zs.length ≤ cap) (hbig : cap ≤ 9223372036854775807) :
    Calls Tryd.prog 43 #[.slice (some ⟨b, 0, none⟩) zs.length cap, .func (.func g) #[] lb] w fun e w' => e = .returned (.slice (some ⟨b, 0, none⟩) (zs.filter fun x => !p x).length cap) ∧
      (Gr w0 w' ∧ HoldsK Trc.cells 5 w' b 0 (zs.filter fun x => !p x).toArray ∧ b < w'.heap.size) := by
  have HI := hid (indexFunc_trc g lb eg p (some ⟨b, 0, none⟩) zs.length cap zs w (hp.gr hw) (by simpa using rdT_holds hH hbl) (by omega))
  have HH := hid hH
  have HP := hid hp
  have HW := hid hw
  clear hH hp hw
  rcases fidx_spec p zs with ⟨e1, e2⟩ | ⟨k, hk, e1, e2, e3⟩
  · rw [e1] at HI
    have HN : Hid ((zs.filter fun x => !p x) = zs) := by
      show (zs.filter fun x => !p x) = zs
      rw [List.filter_eq_self]
      intro x hx
      simp [e2 x hx]
    clear e1 e2
    go_enter Tryd.func43, Tryd.ntmps43
    go_wp2_with (go_at_call 51; refine HI.out.mono ?_; rintro e w1 ⟨rfl, hb1⟩; have HB := hid hb1; clear hb1)
    go_ret
    rw [HN.out]
    exact ⟨rfl, HW.out.trans HB.out, holdsT_gr HH.out HB.out hbl, Nat.lt_of_lt_of_le hbl HB.out.size⟩
  · rw [e1] at HI
    have HD := hid (DQ.start hk e2 e3)
    have hk1 : ((k : Int) == -1) = false := by simp
    clear e1 e2 e3
    obtain ⟨n, hn⟩ : ∃ n, zs.length = n := ⟨_, rfl⟩
    have HLn := hid hn
    rw [hn] at HI hk hcap
    rw [hn]
    clear hn
    have hbig' : (n : Int) ≤ 9223372036854775807 := by omega
    go_enter Tryd.func43, Tryd.ntmps43
    go_wp2_with (go_at_call 51; refine HI.out.mono ?_; rintro e w1 ⟨rfl, hb1⟩; have HB := hid hb1; clear hb1)
    go_loopg [5, 6, 7] n (fun gg s5 s6 _ wr => ∃ (i j : Nat) (d : Array Trc), s5 = .int .i64 i ∧ s6 = .int .i64 j ∧ j ≤ n ∧ i < j ∧ n - j ≤ gg ∧ Gr w0 wr ∧ b < wr.heap.size ∧ Hid (DQ p zs i j d ∧ HoldsK Trc.cells 5 wr b 0 d))
    case atStart => exact ⟨k, k + 1, zs.toArray, rfl, rfl, by omega, by omega, by omega, HW.out.trans HB.out, Nat.lt_of_lt_of_le hbl HB.out.size, HD.out, holdsT_gr HH.out HB.out hbl⟩
    case round =>
      obtain ⟨i, j, d, rfl, rfl, hjn, hij, hg, BW, hbw, HQ⟩ := hrel
      clear HI HB HH HD hk1
      by_cases hlt : j < n
      · have hjz : j < zs.length := by have := HLn.out; omega
        obtain ⟨x, hx⟩ : ∃ x, zs[j]! = x := ⟨_, rfl⟩
        have hdx : d[j]! = x := (HQ.out.1.post j (Nat.le_refl _) hjz).trans hx
        have hds : d.size = n := HQ.out.1.size.trans HLn.out
        obtain ⟨⟨c0, c1, c2, c3, c4⟩, _⟩ := holdsT_cells HQ.out.2 (i := j) (by omega)
        rw [hdx] at c0 c1 c2 c3 c4
        have HM : Hid (x ∈ zs) := by show x ∈ zs; rw [← hx]; exact mem_get hjz
        have HC := hid (HP.out (wr.alloc (.cells x.cells.toArray 72)) x HM.out (BW.alloc _))
        have HRow := hid (heap_alloc_new wr (.cells x.cells.toArray 72))
        have HX := hid hx
        have HZ := hid (And.intro hjz hds)
        clear hjz hdx hds hx
        have hin : i < n := by omega
        cases hq : p x with
        | true =>
          rw [hq] at HC
          have HT := hid hq
          clear hq
          obtain ⟨x0, x1, x2, x3, x4⟩ := x
          unfold Trc.cells Trc.val at HC
          unfold Trc.cells at HRow
          dsimp only at HC HRow c0 c1 c2 c3 c4
          go_wp2_with (go_at_fn g; refine HC.out.mono ?_; rintro e w2 ⟨rfl, hb2⟩; have HB2 := hid hb2; clear hb2)
          go_roundg (n - (j + 1))
          case measure => omega
          case rel =>
            have gg := (Gr.refl wr).alloc _ |>.trans HB2.out
            exact ⟨i, j + 1, d, rfl, by go_num, by omega, by omega, by omega, BW.trans gg, Nat.lt_of_lt_of_le hbw gg.size, HQ.out.1.skip HZ.out.1 (by rw [HX.out]; exact HT.out), holdsT_gr HQ.out.2 gg hbw⟩
        | false =>
          rw [hq] at HC
          have HT := hid hq
          clear hq
          have hi' : (i : Int) < (n : Int) := by omega
          obtain ⟨x0, x1, x2, x3, x4⟩ := x
          unfold Trc.cells Trc.val at HC
          unfold Trc.cells at HRow
          dsimp only at HC HRow c0 c1 c2 c3 c4
          go_wp2_with (go_at_fn g; refine HC.out.mono ?_; rintro e w2 ⟨rfl, hb2⟩; have hr2 := row_gr HRow.out hb2; have m0 := row_cell_at (v := .int .i64 x0) hr2 0 rfl; have m1 := row_cell_at (v := .int .i64 x1) hr2 1 rfl; have m2 := row_cell_at (v := .int .i64 x2) hr2 2 rfl; have m3 := row_cell_at (v := .int .u8 x3) hr2 3 rfl; have m4 := row_cell_at (v := .int .u8 x4) hr2 4 rfl; have gg := ((Gr.refl wr).alloc _).trans hb2; obtain ⟨⟨a0, a1, a2, a3, a4⟩, f0, f1, f2, f3, f4⟩ := holdsT_cells (holdsT_gr HQ.out.2 gg hbw) (i := i) (by have := HZ.out.2; omega); have HB2 := hid gg; clear hb2 hr2 gg)
          go_roundg (n - (j + 1))
          case measure => omega
          case rel =>
            refine ⟨i + 1, j + 1, d.setIfInBounds i ⟨x0, x1, x2, x3, x4⟩, by go_num, by go_num, by omega, by omega, by omega, ?_, ?_, ?_, ?_⟩
            · exact gr_setCells (BW.trans HB2.out) hb (i * 5) (⟨x0, x1, x2, x3, x4⟩ : Trc).cells
            · simpa using Nat.lt_of_lt_of_le hbw HB2.out.size
            · have h := HQ.out.1.put HZ.out.1 (by rw [HX.out]; exact HT.out)
              rwa [HX.out] at h
            · exact holdsT_set (holdsT_gr HQ.out.2 HB2.out hbw) (by have := HZ.out.2; omega) ⟨x0, x1, x2, x3, x4⟩
      · obtain rfl : j = n := by omega
        have HE := hid (HQ.out.1)
        have hds : d.size = j := HQ.out.1.size.trans HLn.out
        have hpl : Hid ((zs.filter fun x => !p x).length = i) := by
          show (zs.filter fun x => !p x).length = i
          have h1 := HQ.out.1.pre
          rw [show zs.take j = zs by rw [← HLn.out, List.take_length]] at h1
          rw [← h1]
          simp; omega
        have hcl := fun ty => run_clear_own (P := Tryd.prog) (t := 36) (e := 72) Tryd.underlying36 Tryd.zeroValue72 b (i * 5) (j - i) (cap - i) (by omega) wr
          (fun q hq => by
            have h5 : i * 5 + q < d.size * 5 := by rw [hds]; have : (j - i) * 5 = j * 5 - i * 5 := Nat.sub_mul _ _ _; have hq' : q < (j - i) * 5 := hq; omega
            have := (HQ.out.2 (i * 5 + q) (by rw [size_flatK]; exact h5)).1
            rw [Nat.zero_add] at this
            rw [this]; rfl)
          (fun q hq => by
            have h5 : i * 5 + q < d.size * 5 := by rw [hds]; have : (j - i) * 5 = j * 5 - i * 5 := Nat.sub_mul _ _ _; have hq' : q < (j - i) * 5 := hq; omega
            have := (HQ.out.2 (i * 5 + q) (by rw [size_flatK]; exact h5)).2
            rwa [Nat.zero_add] at this)
          (zero_trc_one _) ty
        obtain ⟨vs, hvs⟩ : ∃ vs, (Builtin.zeroCells (Value.cells (.agg #[.int .i64 0, .int .i64 0, .int .i64 0, .int .u8 0, .int .u8 0])) (j - i)).toList = vs := ⟨_, rfl⟩
        rw [hvs] at hcl
        have hi1 : (i : Int) < (j : Int) := by omega
        have hci : ¬ cap = i := by omega
        have HWf := hid (show Gr w0 (wr.setCells b (i * 5) vs) from gr_setCells BW hb _ _)
        have HHf := hid (holdsT_pre HQ.out.2 (i := i) (by omega) vs)
        have HS := hid (show b < (wr.setCells b (i * 5) vs).heap.size by simpa using hbw)
        clear hvs
        go_wp2
        go_ret
        refine ⟨by rw [hpl.out]; rfl, HWf.out, ?_, HS.out⟩
        have h := HE.out
        rw [← HLn.out] at h
        rw [← h.done]
        exact HHf.out
end Go.Proofs.YtliehlefpodhaaaDoor
namespace Go.Proofs.YtliehlefpodhaaaDoor
open Go.RowKit Go.Shelf Go.Sort

/-- A slice of traces in a row of the call's own. -/
structure TrOwn (w0 W : World) (A : Option Addr) (n cap : Nat) (l : List Trc) : Prop where
  len : n = l.length
  le : n ≤ cap
  big : cap ≤ 9223372036854775807
  row : (A = none ∧ n = 0 ∧ cap = 0) ∨ ∃ b, A = some ⟨b, 0, none⟩ ∧ w0.heap.size ≤ b ∧ b < W.heap.size ∧ HoldsK Trc.cells 5 W b 0 l.toArray
theorem TrOwn.gr {w0 W W' : World} {A : Option Addr} {n cap : Nat} {l : List Trc} (h : TrOwn w0 W A n cap l) (g : Gr W W') : TrOwn w0 W' A n cap l :=
  ⟨h.len, h.le, h.big, h.row.imp id fun ⟨b, e, h1, h2, h3⟩ => ⟨b, e, h1, Nat.lt_of_lt_of_le h2 g.size, holdsT_gr h3 g h2⟩⟩
theorem TrOwn.rd {w0 W : World} {A : Option Addr} {n cap : Nat} {l : List Trc} (h : TrOwn w0 W A n cap l) : Rd W 5 A n (l.flatMap Trc.cells) := by
  rcases h.row with ⟨rfl, h0, _⟩ | ⟨b, rfl, _, h2, h3⟩
  · have : l = [] := List.length_eq_zero_iff.1 (h.len.symm.trans h0)
    subst this
    exact ⟨by simp [h0], fun hn => absurd h0 (by omega)⟩
  · have := rdT_holds h3 h2
    rw [h.len]
    simpa using this
theorem trOwn_of {w0 W : World} {v : Value} {l : List Trc} (h : W.ownsRow w0.heap.size 72 5 v l.length (l.flatMap Trc.cells)) : ∃ A cap, v = .slice A l.length cap ∧ TrOwn w0 W A l.length cap l := by
  rcases h.2 with ⟨rfl, h0⟩ | ⟨g, cap, cur, rfl, hbg, hgg, h1, h2, h3, h4⟩
  · exact ⟨none, 0, by rw [h0], rfl, by omega, by omega, .inl ⟨rfl, h0, rfl⟩⟩
  · exact ⟨_, cap, rfl, rfl, h1, h2, .inr ⟨g, rfl, hbg, (Array.getElem?_eq_some_iff.1 hgg).1, holdsT_own hgg h4⟩⟩

set_option maxRecDepth 100000 in
set_option maxHeartbeats 2000000 in
theorem delete_own (g : Nat) (lb : Array Value) (eg : ∀ args w, (callFunc g args).run Tryd.prog w = .ok (.enter g args) w) (p : Trc → Bool) (l : List Trc) (A : Option Addr) (n cap : Nat) (w0 w : World) (hp : PredG Tryd.prog g lb Trc.val p l w0)
    (hw : Gr w0 w) (hO : TrOwn w0 w A n cap l) :
    Calls Tryd.prog 43 #[.slice A n cap, .func (.func g) #[] lb] w fun e w' => e = .returned (.slice A (l.filter fun x => !p x).length cap) ∧
      (Gr w0 w' ∧ TrOwn w0 w' A (l.filter fun x => !p x).length cap (l.filter fun x => !p x)) := by
  obtain ⟨rfl, hle, hbig, hrow⟩ := hO
  rcases hrow with ⟨rfl, h0, rfl⟩ | ⟨b, rfl, h1, h2, h3⟩
  · have hl : l = [] := List.length_eq_zero_iff.1 h0
    subst hl
    have HI := hid (indexFunc_trc g lb eg p none 0 0 [] w (fun W x hx => by simp at hx) ⟨rfl, fun h => absurd h (by simp)⟩ (by omega))
    have HW := hid hw
    clear hp hw
    have e1 : fidx p [] = -1 := rfl
    rw [e1] at HI
    simp only [List.length_nil, List.filter_nil]
    go_enter Tryd.func43, Tryd.ntmps43
    go_wp2_with (go_at_call 51; refine HI.out.mono ?_; rintro e w1 ⟨rfl, hb1⟩; have HB := hid hb1; clear hb1)
    go_ret
    exact ⟨rfl, HW.out.trans HB.out, rfl, by omega, by omega, .inl ⟨rfl, rfl, rfl⟩⟩
  · refine (deleteFunc_trc g lb eg p l b cap w0 w hp hw h1 h2 h3 hle hbig).mono ?_
    rintro e w' ⟨rfl, k1, k2, k3⟩
    exact ⟨rfl, k1, rfl, Nat.le_trans (List.length_filter_le _ _) hle, hbig, .inr ⟨b, rfl, h1, k3, k2⟩⟩

theorem cmpLays_trc (b size : Nat) (w : World) : CmpLays Tryd.prog 46 #[] Trc.cells 5 (fun x y => cmpI x.day y.day) b 0 size w :=
  fun _ _ _ _ x y => trCmp_any x y _
theorem swo_day : SWO (ltOf (fun x y : Trc => cmpI x.day y.day)) := {
  irrefl := fun x => by simp only [ltOf, decide_eq_false_iff_not, cmpI_neg]; omega
  trans := fun x y z h1 h2 => by
    simp only [ltOf, decide_eq_true_eq, cmpI_neg] at *
    omega
  ntrans := fun x y z h1 h2 => by
    simp only [ltOf, decide_eq_false_iff_not, cmpI_neg] at *
    omega }
theorem sep_day {x y : Trc} (h : x.inq < y.inq) : SepA AhT (ltOf (fun x y : Trc => cmpI x.day y.day)) x y := by
  unfold SepA ltOf AhT
  simp only [decide_eq_true_eq, decide_eq_false_iff_not, cmpI_neg]
  omega

set_option maxRecDepth 100000 in
set_option maxHeartbeats 2000000 in
theorem insertionT_none (fn : Value) (w : World) : Calls Tryd.prog 82 #[.slice none 0 0, .int .i64 0, .int .i64 0, fn] w fun e w' => e = .returned (.tuple #[]) ∧ w = w' := by
  go_enter Tryd.func82, Tryd.ntmps82
  go_wp2
  refine wp_loop_rounds 1 ?_
  rw [rounds_succ]
  go_wp2
  go_end0
  exact ⟨rfl, rfl⟩
set_option maxRecDepth 100000 in
set_option maxHeartbeats 2000000 in
theorem stableT_none (fn : Value) (w : World) : Calls Tryd.prog 70 #[.slice none 0 0, .int .i64 0, fn] w fun e w' => e = .returned (.tuple #[]) ∧ w = w' := by
  go_enter Tryd.func70, Tryd.ntmps70
  go_wp2
  refine wp_loop_rounds 1 ?_
  rw [rounds_succ]
  go_wp2_with ((go_at_call 82; (with_reducible refine (insertionT_none _ _).mono ?_); rotate_right; rintro e w' ⟨rfl, rfl⟩))
  refine wp_loop_rounds 1 ?_
  rw [rounds_succ]
  go_wp2
  go_end0
  exact ⟨rfl, rfl⟩

set_option maxRecDepth 100000 in
set_option maxHeartbeats 2000000 in
theorem sortStable_trc (l : List Trc) (A : Option Addr) (n cap : Nat) (w0 w : World) (hw : Gr w0 w) (hO : TrOwn w0 w A n cap l) (hn : n ≤ 40) (hd : l.Pairwise (fun x y => x.inq < y.inq)) :
    Calls Tryd.prog 45 #[.slice A n cap, .func (.func 46) #[] #[]] w fun e w' => e = .returned (.tuple #[]) ∧ (Gr w0 w' ∧ TrOwn w0 w' A n cap (sortT l)) := by
  have hsl : (sortT l).length = l.length := (sortT_perm l).length_eq
  obtain ⟨rfl, hle, hbig, hrow⟩ := hO
  rcases hrow with ⟨rfl, h0, rfl⟩ | ⟨b, rfl, h1, h2, h3⟩
  · have hl : l = [] := List.length_eq_zero_iff.1 h0
    subst hl
    have HW := hid hw
    clear hw hd hn h0 hsl
    simp only [List.length_nil]
    go_enter Tryd.func45, Tryd.ntmps45
    go_wp2_with ((go_at_call 70; (with_reducible refine (stableT_none _ _).mono ?_); rotate_right; rintro e w' ⟨rfl, rfl⟩))
    go_end0
    exact ⟨rfl, HW.out, rfl, by omega, by omega, .inl ⟨rfl, rfl, rfl⟩⟩
  · have R : RowK Trc.cells 5 w b 0 l.toArray := ⟨Trc.len, Trc.one, h3, h2⟩
    have eg : ∀ args w, (callFunc 46 args).run Tryd.prog w = .ok (.enter 46 args) w := enters_of Tryd.func46 (by kernel_rfl) rfl
    have HC := hid (stable_k Trc.cells (fun x y => cmpI x.day y.day) swo_day 46 #[] b 0 cap l.toArray w AhT (fun x y z h1 h2 => h1.trans h2) eg
      (cmpLays_trc b l.toArray.size w) R (by simpa using hn) (fun p q h4 h5 => sep_day (by
        have hq : q < l.length := by simpa using h5
        rw [getElem!_pos l.toArray p (by simp; omega), getElem!_pos l.toArray q (by simpa using hq)]
        simpa using List.pairwise_iff_getElem.1 hd p q (by omega) hq h4)))
    simp only [List.size_toArray] at HC
    have HR := hid R
    have HW := hid hw
    have HD := hid hd
    clear hw hd R eg h3
    go_enter Tryd.func45, Tryd.ntmps45
    go_wp2_with (go_at_call 70; refine HC.out.mono ?_; rintro e w1 ⟨rfl, d', T1, T2, S⟩; have T := hid (And.intro T1 (And.intro T2 S)); clear T1 T2 S)
    go_end0
    obtain ⟨T1, T2, S⟩ := T.out
    have hs : d'.size = l.length := by simpa using T1.1
    have hp : d'.toList.Perm l := by
      have p := T1.2.2
      have e1 : d'.extract 0 l.toArray.size = d' := by simp [← hs]
      have e2 : l.toArray.extract 0 l.toArray.size = l.toArray := by simp
      simp only [List.size_toArray] at e1 e2
      rw [e1, e2] at p
      simpa using p
    have ho : d'.toList.Pairwise AhT := by
      refine List.pairwise_iff_getElem.2 (fun i j hi hj hij => ?_)
      have q := T2 i j (Nat.zero_le _) hij (by simp at hj; omega)
      simp at hi hj
      rw [getElem!_pos d' i hi, getElem!_pos d' j hj] at q
      simpa using q
    have he := sortT_eq HD.out hp ho
    refine ⟨rfl, gr_sortT HW.out S h1, hsl.symm, hle, hbig, .inr ⟨b, rfl, h1, S.lt HR.out.hblk, ?_⟩⟩
    rw [← he]
    simpa using S.holds HR.out.hblk HR.out.hH (by simpa using hs)
end Go.Proofs.YtliehlefpodhaaaDoor
