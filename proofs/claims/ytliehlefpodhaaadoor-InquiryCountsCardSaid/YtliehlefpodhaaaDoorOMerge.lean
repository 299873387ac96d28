/- Merge of the package inquiry: the signals of two bureaus. For all lists of signals. -/
import Derived.Deep.LoopGhost
import Derived.Deep.RegionWith
import Derived.ScopeJumps
import Derived.WalkMore
import Derived.Test.YtliehlefpodhaaaDoorORegGr
import Derived.Test.YtliehlefpodhaaaDoorOMix
import Derived.Test.YtliehlefpodhaaaDoorORight
import Derived.Test.YtliehlefpodhaaaDoorOMapIs
import Derived.Test.YtliehlefpodhaaaDoorOOwnKept
import Derived.Test.YtliehlefpodhaaaDoorOAppend
namespace Go.Proofs.YtliehlefpodhaaaDoor
open Go.RowKit Go.Shelf Go.Sort Go.Maps

theorem info_sig : (Tryd.prog.info? 67).map (fun i => (i.zero, i.size, i.bytes)) = some (some (.agg #[.int .i64 0, .int .i64 0, .int .i64 0, .int .i64 0, .int .u8 0, .int .i64 0]), 6, 48) := by kernel_rfl
/-- What lies ahead of the list i. -/
def prcS (a b : List Sig) (i : Nat) : List Sig := if i = 0 then [] else if i = 1 then a else a ++ b
def curS (a b : List Sig) (i : Nat) : List Sig := if i = 0 then a else b
theorem prc_next {a b : List Sig} {i : Nat} (hi : i < 2) : prcS a b (i + 1) = prcS a b i ++ curS a b i := by
  have : i = 0 ∨ i = 1 := by omega
  rcases this with rfl | rfl <;> simp [prcS, curS]
theorem prc_part {a b : List Sig} {i k : Nat} (hi : i < 2) : ∃ r, a ++ b = (prcS a b i ++ (curS a b i).take k) ++ r := by
  have : i = 0 ∨ i = 1 := by omega
  rcases this with rfl | rfl
  · refine ⟨a.drop k ++ b, ?_⟩
    simp only [prcS, curS, if_true, List.nil_append]
    rw [← List.append_assoc, List.take_append_drop]
  · refine ⟨b.drop k, ?_⟩
    simp only [prcS, curS]
    simp

/-- What merging keeps in memory: the map of places, the two lists, the row of what is known. -/
structure MgSt (W : World) (h g cap : Nat) (la lb : Value) (o : List Sig) : Prop where
  map : MapIs Tryd.prog 104 encPl W h (plF o)
  row : W.heap[h + 1 + 1]? = some (.cells #[la, lb] 23 (0, 0))
  own : W.ownsRow (h + 1) 67 6 (.slice (some ⟨g, 0, none⟩) o.length cap) o.length (o.flatMap Sig.cells)
theorem MgSt.gr {W W' : World} {h g cap : Nat} {la lb : Value} {o : List Sig} (s : MgSt W h g cap la lb o) (k : Gr W W') : MgSt W' h g cap la lb o :=
  ⟨s.map.gr k, row_gr s.row k, ownT_gr s.own k⟩
/-- The map is written. -/
theorem MgSt.put {W W' : World} {h g cap : Nat} {la lb : Value} {o : List Sig} {x : Sig} (s : MgSt W h g cap la lb o) (hf : o.find? (samePl x) = none) (hm : MapIs Tryd.prog 104 encPl W' h (fun p => if p = (x.bureau, x.id) then some x.val else plF o p)) (hg : W.grownBy W' (some h)) :
    MapIs Tryd.prog 104 encPl W' h (plF (o ++ [x])) ∧ W'.heap[h + 1 + 1]? = some (.cells #[la, lb] 23 (0, 0)) ∧ W'.ownsRow (h + 1) 67 6 (.slice (some ⟨g, 0, none⟩) o.length cap) o.length (o.flatMap Sig.cells) := by
  refine ⟨hm.congr (plF_snoc hf), ?_, s.own.kept hg (.inr ?_)⟩
  · refine (hg.block _ (Array.getElem?_eq_some_iff.1 s.row).1 (fun e => ?_)).trans s.row
    injection e; omega
  · have := (s.own.lt g rfl).1
    show some g ≠ some h
    intro e; injection e; omega
/-- The row has grown. -/
theorem MgSt.app {W W' : World} {h g cap : Nat} {la lb : Value} {o : List Sig} {x : Sig} {v' : Value} (hm : MapIs Tryd.prog 104 encPl W h (plF (o ++ [x]))) (hr : W.heap[h + 1 + 1]? = some (.cells #[la, lb] 23 (0, 0)))
    (hw : W.ownsRow (h + 1) 67 6 (.slice (some ⟨g, 0, none⟩) o.length cap) o.length (o.flatMap Sig.cells)) (hown : W'.ownsRow (h + 1) 67 6 v' (o.length + 1) (o.flatMap Sig.cells ++ x.cells)) (hg : W.grownBy W' (Value.ownBlock (.slice (some ⟨g, 0, none⟩) o.length cap))) :
    ∃ g' cap', v' = .slice (some ⟨g', 0, none⟩) (o ++ [x]).length cap' ∧ MgSt W' h g' cap' la lb (o ++ [x]) := by
  have hf : o.flatMap Sig.cells ++ x.cells = (o ++ [x]).flatMap Sig.cells := by simp
  have hl : o.length + 1 = (o ++ [x]).length := by simp
  rw [hf, hl] at hown
  have hown2 := hown
  rcases hown.2 with ⟨_, h0⟩ | ⟨g', cap', cur, rfl, _⟩
  · simp at h0
  · refine ⟨g', cap', rfl, mapIs_beside hw hg hm (by omega), beside_row hw hg hr (by decide), hown2⟩

set_option maxRecDepth 100000 in
set_option maxHeartbeats 8000000 in
theorem merge_any (A : Option Addr) (n c : Nat) (B : Option Addr) (m d : Nat) (a b : List Sig) (w : World) (ha : SigsIn w A n a) (hb : SigsIn w B m b) (hG : LaidL w) :
    Calls Tryd.prog 22 #[.slice A n c, .slice B m d] w fun e w' => ∃ R r q, e = .returned (.tuple #[.slice R r q, .int .i64 (mergeN a b)]) ∧ (Gr w w' ∧ OwnK Sig.cells 6 w w' R r q (mergeL a b)) := by
  have HRa := hid (fun W (k : Gr w W) => right_any A n c a W (ha.gr k) (hG.gr k))
  have HRb := hid (fun W (k : Gr w W) => right_any B m d b W (hb.gr k) (hG.gr k))
  have HIa := hid ha
  have HIb := hid hb
  have hla : a.length = n := by have := ha.rd.len; rw [flatMap_len Sig.len] at this; omega
  have hlb : b.length = m := by have := hb.rd.len; rw [flatMap_len Sig.len] at this; omega
  have HLa := hid hla
  have HLb := hid hlb
  have HN : Hid (mergeN a b = if (!sigsB a || !sigsB b) = true then 91 else if clashB a b = true then 91 else if 40 < (mergeAll a b).length then 4 else 0) := rfl
  have HB : Hid (mergeN a b ≠ 0 → mergeL a b = []) := fun h => by unfold mergeL; rw [if_neg h]
  have HS : Hid (sigsB a = true → sigsB b = true → a.Pairwise BefS ∧ b.Pairwise BefS ∧ a.length ≤ 40 ∧ b.length ≤ 40 ∧ (∀ x ∈ a ++ b, sigB x = true)) := fun h1 h2 => ⟨sigs_pairwise h1, sigs_pairwise h2, sigsB_len h1, sigsB_len h2, fun x hx => (List.mem_append.1 hx).elim (sigsB_mem h1) (sigsB_mem h2)⟩
  clear ha hb hG hla hlb
  obtain ⟨b1, h1⟩ : ∃ b1, sigsB a = b1 := ⟨_, rfl⟩
  obtain ⟨b2, h2⟩ : ∃ b2, sigsB b = b2 := ⟨_, rfl⟩
  rw [h1] at HRa
  rw [h2] at HRb
  rw [h1, h2] at HN HS
  clear h1 h2
  cases b1
  case' true => cases b2
  case true.true =>
    obtain ⟨hpa, hpb, hna, hnb, hmem⟩ := HS.out rfl rfl
    have HP := hid (And.intro hpa (And.intro hpb hmem))
    have hna' : n ≤ 40 := by have := HLa.out; omega
    have hnb' : m ≤ 40 := by have := HLb.out; omega
    have HV : Hid ((a ++ b).foldl mgStep (some []) = if clashB a b = true then none else some (a ++ newsS a b)) := mg_all hpa hpb
    have HC : Hid (clashB a b = true → mergeN a b = 91) := fun h => by rw [HN.out, if_neg (by simp), if_pos h]
    have HC0 : Hid (clashB a b = false → mergeN a b = if 40 < (mergeAll a b).length then 4 else 0) := fun h => by rw [HN.out, if_neg (by simp), if_neg (by simp [h])]
    clear hpa hpb hna hnb hmem HN HS
    obtain ⟨i0, hi0, hz0, hs0, hy0⟩ := info_parts info_sig
    have HI0 := hid hi0
    have HZ0 := hid hz0
    have HS0 := hid hs0
    have HY0 := hid hy0
    clear hi0 hz0 hs0 hy0
    have hmm := @run_makeMap Tryd.prog
    go_enter Tryd.func22, Tryd.ntmps22
    go_wp2_with fail
    go_step3
    go_wp2_with (first
      | (go_at_call 53; (with_reducible refine (HRa.out _ ?_).mono ?_); rotate_right; rintro e w1 ⟨rfl, hbw1⟩)
      | (go_at_call 53; (with_reducible refine (HRb.out _ ?_).mono ?_); rotate_right; rintro e w2 ⟨rfl, hbw2⟩))
    all_goals try ((repeat (first | with_reducible exact Gr.refl _ | with_reducible refine Gr.trans ?_ hbw1 | with_reducible refine Gr.alloc ?_ _ | with_reducible refine Gr.setCell ?_ (by simp) _ | with_reducible refine Gr.setCell ?_ (by simp; omega) _ | with_reducible refine Gr.drew ?_ | with_reducible refine Gr.drewN ?_ _)); done)
    go_step3
    go_wp2_with fail
    have G2 : Hid (Gr w w2) := hbw1.trans hbw2
    have HS0 : Hid (MgSt (((w2.alloc (Obj.map #[] 0)).alloc (Obj.cells #[] 67)).alloc (Obj.cells #[Value.slice A n c, Value.slice B m d] 23)) w2.heap.size (w2.heap.size + 1) 0 (.slice A n c) (.slice B m d) []) :=
      ⟨((MapIs.new (P := Tryd.prog) (k := 104) (enc := encPl) w2).congr (fun q => plF_nil q) |>.alloc _).alloc _, by
        have := heap_alloc_new ((w2.alloc (Obj.map #[] 0)).alloc (Obj.cells #[] 67)) (Obj.cells #[Value.slice A n c, Value.slice B m d] 23)
        simpa using this, (own_new (w2.alloc (Obj.map #[] 0)) (w2.heap.size + 1) 67 6 (by simp)).alloc _⟩
    have G5 : Hid (Gr w (((w2.alloc (Obj.map #[] 0)).alloc (Obj.cells #[] 67)).alloc (Obj.cells #[Value.slice A n c, Value.slice B m d] 23))) := ((G2.out.alloc _).alloc _).alloc _
    have hwh : w.heap.size ≤ w2.heap.size := G2.out.size
    obtain ⟨h, hh⟩ : ∃ h, w2.heap.size = h := ⟨_, rfl⟩
    rw [hh] at HS0 hwh ⊢
    generalize ((w2.alloc (Obj.map #[] 0)).alloc (Obj.cells #[] 67)).alloc (Obj.cells #[Value.slice A n c, Value.slice B m d] 23) = w5 at HS0 G5 ⊢
    clear hh G2 hbw1 hbw2 hmm HRa HRb
    have hmax : (a ++ b).length ≤ 80 := by simp; have := HLa.out; have := HLb.out; omega
    go_loopg [7, 28] 2 (fun gg s7 s28 wr => ∃ (i : Nat) (o : List Sig) (g cap : Nat), i ≤ 2 ∧ 2 - i ≤ gg ∧ s7 = .slice (some ⟨g, 0, none⟩) o.length cap ∧ s28 = .int .i64 i ∧ Gr w wr ∧ Hid (MgSt wr h g cap (.slice A n c) (.slice B m d) o ∧ (prcS a b i).foldl mgStep (some []) = some o))
    case atStart => exact ⟨0, [], h + 1, 0, by omega, by omega, rfl, rfl, G5.out, HS0.out, rfl⟩
    case round =>
      clear HS0 G5
      obtain ⟨i, o, g, cap, hi, hgg, rfl, rfl, BW, HQ⟩ := hrel
      by_cases hlt : i < 2
      · obtain ⟨C, L, cc, hcell, hsig, hL40⟩ : ∃ C L cc, wr.cell? ⟨h + 1 + 1, i, none⟩ = some (.slice C L cc) ∧ Hid (SigsIn w C L (curS a b i)) ∧ L ≤ 40 := by
          have : i = 0 ∨ i = 1 := by omega
          rcases this with rfl | rfl
          · exact ⟨A, n, c, row_cell_at HQ.out.1.row 0 rfl, HIa.out, hna'⟩
          · exact ⟨B, m, d, row_cell_at HQ.out.1.row 1 rfl, HIb.out, hnb'⟩
        have hi0 : (0 : Int) ≤ (i : Int) := by omega
        have hi2 : (i : Int) < 2 := by omega
        obtain ⟨wo, rfl⟩ : ∃ wo : World, wo = wr := ⟨_, rfl⟩
        go_wp2_with fail
        go_loopg [7, 34] L (fun gg s7 s34 wr => ∃ (k : Nat) (o : List Sig) (g cap : Nat), k ≤ L ∧ L - k ≤ gg ∧ s7 = .slice (some ⟨g, 0, none⟩) o.length cap ∧ s34 = .int .i64 k ∧ Gr w wr ∧ Hid (MgSt wr h g cap (.slice A n c) (.slice B m d) o ∧ (prcS a b i ++ (curS a b i).take k).foldl mgStep (some []) = some o))
        case atStart => exact ⟨0, o, g, cap, Nat.zero_le _, by omega, rfl, rfl, BW, HQ.out.1, by simpa using HQ.out.2⟩
        case round =>
          clear HQ BW hcell
          obtain ⟨k, o, g, cap, hk, hgk, rfl, rfl, BW, HQ⟩ := hrel
          have hcl : (curS a b i).length = L := by have := hsig.out.rd.len; rw [flatMap_len Sig.len] at this; omega
          have hol : o.length ≤ 80 := by
            obtain ⟨r, hr⟩ := prc_part (a := a) (b := b) (i := i) (k := k) hlt
            have h1 := mg_len HQ.out.2
            have h2 := congrArg List.length hr
            simp only [List.length_append, List.length_nil] at h1 h2 hmax
            omega
          by_cases hkl : k < L
          · obtain ⟨hk', b1, of1, rfl, hb1, c0, c1, c2, c3, c4, c5⟩ := (hsig.out.gr BW).rd.sig hkl
            have hmx : (curS a b i)[k]! ∈ a ++ b := by
              obtain ⟨r, hr⟩ := prc_part (a := a) (b := b) (i := i) (k := k + 1) hlt
              rw [hr]
              refine List.mem_append_left _ (List.mem_append_right _ ?_)
              rw [List.take_succ_eq_append_getElem hk', getElem!_pos (curS a b i) k hk']
              exact List.mem_append_right _ (List.mem_singleton.2 rfl)
            have HSt : Hid ((prcS a b i ++ (curS a b i).take (k + 1)).foldl mgStep (some []) = mgStep (some o) (curS a b i)[k]!) := by
              show _ = _
              rw [List.take_succ_eq_append_getElem hk', ← List.append_assoc, List.foldl_append, HQ.out.2, getElem!_pos (curS a b i) k hk']; rfl
            have hval := HP.out.2.2 _ hmx
            have HStk : Hid (mgStep (some o) (curS a b i)[k]! = none → mergeN a b = 91) := fun e => by
              obtain ⟨r, hr⟩ := prc_part (a := a) (b := b) (i := i) (k := k + 1) hlt
              have hv := HV.out
              rw [hr, List.foldl_append, HSt.out, e, mg_none] at hv
              cases hc : clashB a b with
              | true => exact HC.out hc
              | false => rw [hc] at hv; simp at hv
            clear hmx hk'
            generalize (curS a b i)[k]! = x at c0 c1 c2 c3 c4 c5 HSt HStk hval
            obtain ⟨l, hkey⟩ := key_pl x.bureau x.id (sigB_place hval).1 (sigB_place hval).2
            have HKey := hid hkey
            clear hkey hval
            have HLk : Hid (∀ W, Gr wr W → (Instr.lookup 101 (.map (some h)) (encPl (x.bureau, x.id)) true).run Tryd.prog W = .ok (.tuple #[(plF o (x.bureau, x.id)).getD (.agg #[.int .i64 0, .int .i64 0, .int .i64 0, .int .i64 0, .int .u8 0, .int .i64 0]), .bool (plF o (x.bureau, x.id)).isSome]) W) := fun W kk =>
              (HQ.out.1.map.gr kk).lookOk keyed_pl encPl_inj Tryd.underlying101 HKey.out (by kernel_rfl)
            have hkn : (k : Int) < (L : Int) := by omega
            have hk0 : (0 : Int) ≤ (k : Int) := by omega
            rw [plF_at] at HLk
            obtain ⟨wi, rfl⟩ : ∃ wi : World, wi = wr := ⟨_, rfl⟩
            cases hf : o.find? (samePl x) with
            | none =>
              have HF := hid hf
              rw [hf] at HLk
              have HSt2 : Hid ((prcS a b i ++ (curS a b i).take (k + 1)).foldl mgStep (some []) = some (o ++ [x])) := by
                show _ = _
                rw [HSt.out]; unfold mgStep; simp only [hf]
              clear hf HSt HStk
              have HX : Hid (x = ⟨x.bureau, x.id, x.file, x.day, x.kind, x.till⟩) := rfl
              have HAt := hid (fun W => at_any x W)
              obtain ⟨x0, x1, x2, x3, x4, x5⟩ := x
              unfold Sig.val encPl at HAt
              unfold encPl at HLk
              dsimp only [Option.map_none, Option.getD_none, Option.isSome_none] at *
              go_wp2_with (first
                | (go_at_call 54; (with_reducible refine (HAt.out _).mono ?_); rintro e w6 ⟨rfl, hb6⟩; have hb6g := hb6.gr; have hlk := HLk.out w6 (((Gr.refl wi).alloc _).trans hb6g); obtain ⟨hc6, hf6, hz6⟩ := hb6g.rules; (try simp at hz6); have hz6_0 : wi.heap.size < w6.heap.size := (by omega)))
              have G6 : Hid (Gr wi (w6.alloc (.cells #[.int .i64 0, .int .i64 0, .int .i64 0, .int .i64 0, .int .u8 0, .int .i64 0] 67))) := (((Gr.refl wi).alloc _).trans hb6g).alloc _
              have RB : (w6.alloc (.cells #[.int .i64 0, .int .i64 0, .int .i64 0, .int .i64 0, .int .u8 0, .int .i64 0] 67)).heap[wi.heap.size]? = some (.cells #[.int .i64 x0, .int .i64 x1, .int .i64 x2, .int .i64 x3, .int .u8 x4, .int .i64 x5] 67 (0, 0)) := row_gr (heap_alloc_new wi _) (hb6g.alloc _)
              clear hc6 hf6 hz6 hz6_0 hlk hb6 hb6g c0 c1 c2 c3 c4 c5
              generalize w6.alloc (.cells #[.int .i64 0, .int .i64 0, .int .i64 0, .int .i64 0, .int .u8 0, .int .i64 0] 67) = w7 at G6 RB ⊢
              obtain ⟨u0, u1, u2, u3, u4, u5⟩ := cellsat6 RB
              have HRB := hid RB
              clear RB HLk
              go_region_with (go_at_call 54; (with_reducible refine (HAt.out _).mono ?_); rintro e w8 ⟨rfl, hk8⟩; have hg8 : Gr w7.drew w8 := hk8.gr; obtain ⟨v0, v1, v2, v3, v4, v5⟩ := cellsat6 (row_gr (show w7.drew.heap[wi.heap.size]? = _ from HRB.out) hg8); obtain ⟨w9, hrun, r1, r2, r3⟩ := (HQ.out.1.map.gr (G6.out.drew.trans hg8)).put keyed_pl encPl_inj Tryd.underlying101 (q := (x0, x1)) HKey.out (Sig.val ⟨x0, x1, x2, x3, x4, x5⟩); have HR9 := hid (And.intro r1 (And.intro r2 r3)); have HK8 := hid hg8; unfold encPl Sig.val at hrun; dsimp only at hrun; clear r1 r2 r3 hk8 hg8)
              all_goals
                obtain ⟨r1, r2, r3⟩ := HR9.out
                have hzh : h < wi.heap.size := HQ.out.1.map.lt
                have RB9 : w9.heap[wi.heap.size]? = some (.cells #[.int .i64 x0, .int .i64 x1, .int .i64 x2, .int .i64 x3, .int .u8 x4, .int .i64 x5] 67 (0, 0)) :=
                  (r2.block wi.heap.size (show wi.heap.size < w8.heap.size from block_lt_of_cell v0) (fun e => by have := Option.some.inj e; omega)).trans (row_gr (show w7.drew.heap[wi.heap.size]? = _ from HRB.out) HK8.out)
                obtain ⟨t0, t1, t2, t3, t4, t5⟩ := cellsat6 RB9
                have P9 := hid (MgSt.put (HQ.out.1.gr (G6.out.drew.trans HK8.out)) HF.out r1 r2)
                have G9 : Hid (Gr w w9) := Gr.grown (BW.trans (G6.out.drew.trans HK8.out)) r2 (fun q e => by have := Option.some.inj e; omega)
                have hz9 : h + 1 ≤ w9.heap.size := by have h1 := r2.size; have h2 := HK8.out.size; have h3 := G6.out.size; have h4 : w7.drew.heap.size = w7.heap.size := rfl; omega
                clear r1 r2 r3 RB9 v0 v1 v2 v3 v4 v5 u0 u1 u2 u3 u4 u5 hrun
                have hlen := hol
                go_wp2_with ((refine wpList_append_own _ rfl (.tmp 53) (.tmp 55) 23 rfl (h + 1) 67 i0 (.agg #[.int .i64 0, .int .i64 0, .int .i64 0, .int .i64 0, .int .u8 0, .int .i64 0]) 6 48 Tryd.underlying23 HI0.out HZ0.out HS0.out HY0.out rfl (by decide) _ _ _ rfl (P9.out.2.2.alloc _) ⟨w9.heap.size, 0, none⟩ 1 1 [.int .i64 x0, .int .i64 x1, .int .i64 x2, .int .i64 x3, .int .u8 x4, .int .i64 x5] rfl rfl (cellsT_new w9 _ _ _ rfl) (by intro u hu; simp at hu; rcases hu with rfl | rfl | rfl | rfl | rfl | rfl <;> rfl) (by have : maxLen = 9223372036854775807 := rfl; omega) (by omega) (by simp; omega) ?_; intro v' wb hown' hgrow hnil; obtain ⟨g', cap', rfl, hst⟩ := MgSt.app (x := ⟨x0, x1, x2, x3, x4, x5⟩) ((P9.out.1).gr ((Gr.refl w9).alloc _)) (row_gr P9.out.2.1 ((Gr.refl w9).alloc _)) (P9.out.2.2.alloc _) hown' hgrow; have HST := hid (And.intro hst hgrow); clear hown' hgrow hnil hst))
                go_roundg (L - (k + 1))
                case measure => omega
                case rel =>
                  refine ⟨k + 1, o ++ [⟨x0, x1, x2, x3, x4, x5⟩], g', cap', by omega, by omega, by rw [List.length_append]; rfl, by go_num, ?_, HST.out.1, HSt2.out⟩
                  refine Gr.grown (G9.out.alloc _) HST.out.2 (fun q e => ?_)
                  have := (P9.out.2.2.lt q e).1
                  omega
            | some y =>
              have HF := hid hf
              have hy1 := List.find?_some hf
              rw [samePl_iff] at hy1
              rw [hf] at HLk
              have HSt2 : Hid (mgStep (some o) x = if y = x then some o else none) := by
                show _ = _
                unfold mgStep; simp only [hf]
              clear hf
              have HAt := hid (fun W => at_any x W)
              obtain ⟨x0, x1, x2, x3, x4, x5⟩ := x
              obtain ⟨y0, y1, y2, y3, y4, y5⟩ := y
              obtain ⟨rfl, rfl⟩ : x0 = y0 ∧ x1 = y1 := hy1
              unfold Sig.val encPl at HAt
              unfold encPl Sig.val at HLk
              dsimp only [Option.map_some, Option.getD_some, Option.isSome_some] at *
              by_cases hall : y2 = x2 ∧ y3 = x3 ∧ y4 = x4 ∧ y5 = x5
              · obtain ⟨rfl, rfl, rfl, rfl⟩ := hall
                have HSt3 : Hid ((prcS a b i ++ (curS a b i).take (k + 1)).foldl mgStep (some []) = some o) := by
                  show _ = _
                  rw [HSt.out, HSt2.out, if_pos rfl]
                go_wp2_with (first
                  | (go_at_call 54; (with_reducible refine (HAt.out _).mono ?_); rintro e w6 ⟨rfl, hb6⟩; have hb6g := hb6.gr; have hlk := HLk.out w6 (((Gr.refl wi).alloc _).trans hb6g); obtain ⟨hc6, hf6, hz6⟩ := hb6g.rules; (try simp at hz6); have hz6_0 : wi.heap.size < w6.heap.size := (by omega)))
                go_roundg (L - (k + 1))
                case measure => omega
                case rel =>
                  have gg := (((Gr.refl wi).alloc _).trans hb6g).alloc (.cells #[.int .i64 x0, .int .i64 x1, .int .i64 y2, .int .i64 y3, .int .u8 y4, .int .i64 y5] 67)
                  exact ⟨k + 1, o, g, cap, by omega, by omega, rfl, by go_num, BW.trans gg, HQ.out.1.gr gg, HSt3.out⟩
              · have HE : Hid (mergeN a b = 91) := HStk.out (by rw [HSt2.out, if_neg (fun e => by injection e with _ _ e2 e3 e4 e5; exact hall ⟨e2, e3, e4, e5⟩)])
                have HE2 := hid (HB.out (by rw [HE.out]; omega))
                have hnil := fun W => Lib.run_eql_slice_nil (P := Tryd.prog) W 23 67 none 0 0 0 0 Tryd.underlying23
                have hd : (¬ x2 = y2) ∨ (x2 = y2 ∧ ¬ x3 = y3) ∨ (x2 = y2 ∧ x3 = y3 ∧ ¬ x4 = y4) ∨ (x2 = y2 ∧ x3 = y3 ∧ x4 = y4 ∧ ¬ x5 = y5) := by omega
                clear hall HSt HSt2 HStk
                rcases hd with d2 | ⟨rfl, d3⟩ | ⟨rfl, rfl, d4⟩ | ⟨rfl, rfl, rfl, d5⟩
                all_goals
                  go_wp2_with (first
                    | (go_at_call 54; (with_reducible refine (HAt.out _).mono ?_); rintro e w6 ⟨rfl, hb6⟩; have hb6g := hb6.gr; have hlk := HLk.out w6 (((Gr.refl wi).alloc _).trans hb6g); obtain ⟨hc6, hf6, hz6⟩ := hb6g.rules; (try simp at hz6); have hz6_0 : wi.heap.size < w6.heap.size := (by omega)))
                  (try rw [Exit.noGoto_ret])
                  go_ret2
                  refine ⟨none, 0, 0, by rw [HE.out]; rfl, BW.trans ((((Gr.refl wi).alloc _).trans hb6g).alloc _), ?_⟩
                  rw [HE2.out]
                  exact OwnK.none_
          · have hkl2 : ¬ (k : Int) < (L : Int) := by omega
            have hfull : (curS a b i).take k = curS a b i := by rw [show k = (curS a b i).length by omega, List.take_length]
            have HQ2 : Hid ((prcS a b (i + 1)).foldl mgStep (some []) = some o) := by
              have h := HQ.out.2
              rw [hfull] at h
              show _ = _
              rw [prc_next hlt]; exact h
            go_wp2_with fail
            go_roundg (2 - (i + 1))
            case measure => omega
            case rel => exact ⟨i + 1, o, g, cap, by omega, by omega, rfl, by go_num, BW, HQ.out.1, HQ2.out⟩
      · have hi2 : ¬ (i : Int) < 2 := by omega
        obtain rfl : i = 2 := by omega
        have hv := HV.out
        have hp2 : prcS a b 2 = a ++ b := by simp [prcS]
        have hq := HQ.out.2
        rw [hp2, hv] at hq
        have hcl : clashB a b = false := by
          cases hc : clashB a b with
          | false => rfl
          | true => rw [hc] at hq; simp at hq
        rw [hcl] at hq
        have ho : o = a ++ newsS a b := by simpa using hq.symm
        have hml : (mergeAll a b).length = o.length := by rw [(mergeAll_perm a b).length_eq, ho]
        have HNN : Hid (mergeN a b = if 40 < o.length then 4 else 0) := by show _ = _; rw [HC0.out hcl, hml]
        have hnil := fun W => Lib.run_eql_slice_nil (P := Tryd.prog) W 23 67 (some ⟨g, 0, none⟩) o.length cap 0 0 Tryd.underlying23
        simp only [Option.isNone_some] at hnil
        obtain ⟨A', cap', e, hO⟩ := ownK_of (w0 := w) Sig.len HQ.out.1.own (by omega)
        injection e with e1 e2 e3
        subst e1 e3
        have HO := hid hO
        have HOE := hid ho
        clear hv hp2 hq hcl ho hml hO
        obtain ⟨on, hon⟩ : ∃ on, o.length = on := ⟨_, rfl⟩
        rw [hon] at hnil HO HNN ⊢
        clear hon
        by_cases h40 : 40 < on
        · have h40' : (40 : Int) < (on : Int) := by omega
          have HE : Hid (mergeN a b = 4) := by show _ = _; rw [HNN.out, if_pos h40]
          have HE2 := hid (HB.out (by rw [HE.out]; omega))
          go_wp2
          (try rw [Exit.noGoto_ret])
          go_ret2
          refine ⟨none, 0, 0, by rw [HE.out]; rfl, BW, ?_⟩
          rw [HE2.out]
          exact OwnK.none_
        · have h40' : ¬ (40 : Int) < (on : Int) := by omega
          have HE : Hid (mergeN a b = 0) := by show _ = _; rw [HNN.out, if_neg h40]
          have HE2 : Hid (mergeL a b = mergeAll a b) := by show _ = _; unfold mergeL; rw [if_pos HE.out]
          have HSo := hid (sortSig_any a b o (some ⟨g, 0, none⟩) on cap w wr BW HO.out ⟨g, rfl⟩ HOE.out HP.out.1 HP.out.2.1 (by omega))
          go_wp2_with (go_at_call 55; refine HSo.out.mono ?_; rintro e w9 ⟨rfl, k1, k2⟩; have HT9 := hid (And.intro k1 k2); clear k1 k2)
          (try rw [Exit.noGoto_ret])
          go_ret2
          refine ⟨some ⟨g, 0, none⟩, on, cap, by rw [HE.out]; rfl, HT9.out.1, ?_⟩
          rw [HE2.out]
          exact HT9.out.2
  all_goals
    have HE : Hid (mergeN a b = 91) := by show _ = _; rw [HN.out]; rfl
    have HE2 := hid (HB.out (by rw [HE.out]; omega))
    clear HN HS HB
    go_enter Tryd.func22, Tryd.ntmps22
    go_wp2_with fail
    go_step3
    go_wp2_with (first
      | (go_at_call 53; (with_reducible refine (HRa.out _ ?_).mono ?_); rotate_right; rintro e w1 ⟨rfl, hbw1⟩)
      | (go_at_call 53; (with_reducible refine (HRb.out _ ?_).mono ?_); rotate_right; rintro e w2 ⟨rfl, hbw2⟩))
    all_goals first
      | ((repeat (first | with_reducible exact Gr.refl _ | with_reducible refine Gr.trans ?_ hbw1 | with_reducible refine Gr.alloc ?_ _ | with_reducible refine Gr.setCell ?_ (by simp) _ | with_reducible refine Gr.setCell ?_ (by simp; omega) _ | with_reducible refine Gr.drew ?_ | with_reducible refine Gr.drewN ?_ _)); done)
      | ((try rw [Exit.noGoto_ret])
         go_ret2
         refine ⟨none, 0, 0, by rw [HE.out]; rfl, by (repeat (first | with_reducible exact Gr.refl _ | with_reducible refine Gr.trans ?_ hbw2 | with_reducible refine Gr.trans ?_ hbw1 | with_reducible refine Gr.alloc ?_ _ | with_reducible refine Gr.setCell ?_ (by simp) _ | with_reducible refine Gr.setCell ?_ (by simp; omega) _ | with_reducible refine Gr.drew ?_ | with_reducible refine Gr.drewN ?_ _)), ?_⟩
         rw [HE2.out]
         exact OwnK.none_)
end Go.Proofs.YtliehlefpodhaaaDoor
