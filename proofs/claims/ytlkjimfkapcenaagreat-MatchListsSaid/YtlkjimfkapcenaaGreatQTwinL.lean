/- Twin of the reference of layer 1: records in new memory. For up to thirty records that are not great. -/
import Derived.Laws.IdiomCopy
import Derived.Test.YtlkjimfkapcenaaGreatQTwin
import Derived.Test.YtlkjimfkapcenaaGreatQPairSpec
import Derived.Test.YtlkjimfkapcenaaGreatQRefPairs
namespace Go.Proofs.YtlkjimfkapcenaaGreat
open Go.RowKit Go.Shelf Go.Sort Go.Lib

theorem gr_setCells {a : World} {g : Nat} (hg : a.heap.size ≤ g) : ∀ (vs : List Value) (o : Nat) (W : World), Gr a W → Gr a (W.setCells g o vs)
  | [], _, _, h => h
  | v :: r, o, _, h => gr_setCells hg r (o + 1) _ (Gr.setCell h (p := ⟨g, o, none⟩) hg v)
theorem size_setCells (g : Nat) : ∀ (vs : List Value) (o : Nat) (W : World), (W.setCells g o vs).heap.size = W.heap.size
  | [], _, _ => rfl
  | v :: r, o, W => (size_setCells g r (o + 1) (W.setCell ⟨g, o, none⟩ v)).trans (by simp [World.setCell])
/-- An element's rows lie in other blocks. -/
def Off (g : Nat) (e : Elt) : Prop := (0 < e.n → ∀ a, e.A = some a → a.block ≠ g) ∧ (0 < e.m → ∀ a, e.B = some a → a.block ≠ g)
theorem rd_far {W : World} {size n g o : Nat} {A : Option Addr} {xs vs : List Value} (h : Rd W size A n xs) (hf : 0 < n → ∀ a, A = some a → a.block ≠ g) : Rd (W.setCells g o vs) size A n xs :=
  ⟨h.1, fun hn => by
    obtain ⟨b, off, e, hb, hc⟩ := h.2 hn
    have hne : b ≠ g := hf hn _ e
    refine ⟨b, off, e, by rw [size_setCells]; exact hb, fun j u hu => ?_⟩
    rw [World.cell?_setCells_out g vs o W ⟨b, off + j, none⟩ (fun e => absurd e hne)]
    exact hc j u hu⟩
theorem EltIn.far {W : World} {g o : Nat} {e : Elt} {vs : List Value} (h : EltIn W e) (hf : Off g e) : EltIn (W.setCells g o vs) e :=
  ⟨⟨rd_far h.at_.names hf.1, rd_far h.at_.stays hf.2, h.at_.nbig, h.at_.mbig, h.at_.words, h.at_.number⟩, h.cap, h.sfx⟩
theorem off_old {w : World} {g : Nat} {e : Elt} (h : EltIn w e) (hg : w.heap.size ≤ g) : Off g e := by
  refine ⟨fun hn a ha => ?_, fun hn a ha => ?_⟩
  · obtain ⟨b, off, e1, hb, _⟩ := h.at_.names.2 hn
    rw [ha] at e1
    injection e1 with e1
    subst e1
    show b ≠ g
    omega
  · obtain ⟨b, off, e1, hb, _⟩ := h.at_.stays.2 hn
    rw [ha] at e1
    injection e1 with e1
    subst e1
    show b ≠ g
    omega
theorem holds8_set {W : World} {g : Nat} {d : Array Elt} (h : HoldsK Elt.cells 8 W g 0 d) {i : Nat} (hi : i < d.size) (x : Elt) : HoldsK Elt.cells 8 (W.setCells g (i * 8) x.cells) g 0 (d.setIfInBounds i x) := by
  intro j hj
  rw [size_flatK] at hj
  have hj' : j < d.size * 8 := by simpa using hj
  rw [Nat.zero_add, World.frozen?_setCells, get_flatK _ _ _ _ hj]
  have h0 := holds8_get h (i := j / 8) (by omega) (j % 8) (by omega)
  rw [show j / 8 * 8 + j % 8 = j by omega] at h0
  refine ⟨?_, h0.2⟩
  by_cases e : j / 8 = i
  · subst e
    have h1 := World.cell?_setCells_in g x.cells (j / 8 * 8) W (fun q hq => by
      rw [Elt.len] at hq
      rw [(holds8_get h hi q hq).1]; rfl) (j % 8) (by rw [Elt.len]; omega)
    rw [show j / 8 * 8 + j % 8 = j by omega] at h1
    rw [h1, getElem!_pos (d.setIfInBounds (j / 8) x) (j / 8) (by simpa using hi)]
    rw [Array.getElem_setIfInBounds_self]
    rw [getElem!_pos x.cells (j % 8) (by rw [Elt.len]; omega)]
    rfl
  · have h2 : j / 8 < d.size := by omega
    rw [World.cell?_setCells_out g x.cells (i * 8) W ⟨g, j, none⟩ (fun _ _ => by rw [Elt.len]; show j < i * 8 ∨ i * 8 + 8 ≤ j; omega), h0.1, getElem!_pos (d.setIfInBounds i x) (j / 8) (by simpa using h2), getElem!_pos d (j / 8) h2, Array.getElem_setIfInBounds_ne (h := fun k => e k.symm)]
    rfl
theorem holds8_gr {W W' : World} {g : Nat} {d : Array Elt} (h : HoldsK Elt.cells 8 W g 0 d) (k : Gr W W') (hg : g < W.heap.size) : HoldsK Elt.cells 8 W' g 0 d := fun j hj => by
  obtain ⟨h1, h2⟩ := h j hj
  exact ⟨(k.cell hg).trans h1, (k.frozen hg).trans h2⟩
theorem own_off {w : World} {base g : Nat} {e : TypeId} {size n c : Nat} {A : Option Addr} {xs : List Value} (h : w.ownsRow base e size (.slice A n c) n xs) (hg : g < base) : ∀ a, A = some a → a.block ≠ g := by
  intro a ha
  rcases h.2 with ⟨e0, _⟩ | ⟨g', cap, cur, h1, h2, h3, h4⟩
  · injection e0 with e1
    rw [ha] at e1; cases e1
  · injection h1 with e1
    rw [ha] at e1
    injection e1 with e2
    subst e2
    show g' ≠ g
    omega
/-- Where the copies stand when some have been made. -/
structure TwI (W : World) (g n : Nat) (es : List Elt) (d : Array Elt) : Prop where
  size : d.size = n
  holds : HoldsK Elt.cells 8 W g 0 d
  each : ∀ j, j < n → d[j]!.r = es[j]!.r ∧ EltIn W d[j]! ∧ Off g d[j]!
theorem TwI.gr {W W' : World} {g n : Nat} {es : List Elt} {d : Array Elt} (h : TwI W g n es d) (k : Gr W W') (hg : g < W.heap.size) : TwI W' g n es d :=
  ⟨h.size, holds8_gr h.holds k hg, fun j hj => ⟨(h.each j hj).1, (h.each j hj).2.1.gr k, (h.each j hj).2.2⟩⟩
theorem TwI.set_ {W : World} {g n i : Nat} {es : List Elt} {d : Array Elt} {x : Elt} (h : TwI W g n es d) (hi : i < n) (hr : x.r = es[i]!.r) (hx : EltIn W x) (ho : Off g x) : TwI (W.setCells g (i * 8) x.cells) g n es (d.setIfInBounds i x) := by
  have hs := h.size
  refine ⟨by simpa using hs, holds8_set h.holds (by omega) x, fun j hj => ?_⟩
  rw [getElem!_pos (d.setIfInBounds i x) j (by simp; omega)]
  by_cases e : j = i
  · subst e
    rw [Array.getElem_setIfInBounds_self]
    exact ⟨hr, hx.far ho, ho⟩
  · rw [Array.getElem_setIfInBounds_ne (h := fun k => e k.symm), ← getElem!_pos d j (by omega)]
    exact ⟨(h.each j hj).1, (h.each j hj).2.1.far (h.each j hj).2.2, (h.each j hj).2.2⟩
    omega
/-- What Twin hands back. -/
def TwinLRet (es : List Elt) (n : Nat) (w : World) (e : Ending) (w' : World) : Prop := ∃ B cap zs, e = .returned (.slice B n cap) ∧ zs.map (·.r) = es.map (·.r) ∧ RecsIn w' B n zs ∧ Gr w w'
theorem great_small {r : Rcd} (h : r.great = false) : r.names.length ≤ 8 ∧ r.stays.length ≤ 10 := by
  unfold Rcd.great at h
  simp only [Bool.or_eq_false_iff, decide_eq_false_iff_not] at h
  omega

set_option maxRecDepth 100000 in
set_option maxHeartbeats 8000000 in
theorem twinL_any (A : Option Addr) (n c : Nat) (es : List Elt) (w : World) (hi : RecsIn w A n es) (hn : n ≤ 30) (hgr : ∀ e ∈ es, e.r.great = false) :
    Calls Tryz.prog 5 #[.slice A n c] w (TwinLRet es n w) := by
  obtain ⟨i0, hi0, hz0, hs0, hy0⟩ := info_parts info_rec
  have HI0 := hid hi0
  have HZ0 := hid hz0
  have HS0 := hid hs0
  have HY0 := hid hy0
  have HRd := hid (hi.rd.gr ((Gr.refl w).alloc (.cells #[] 48)))
  have HL := hid hi.len
  have HR := hid hi
  have HSM := hid hgr
  clear hi hi0 hz0 hs0 hy0 hgr
  go_enter Tryz.func5, Tryz.ntmps5
  go_wp2_with (first
    | ((with_reducible show wpList _ _ _ (⟨some 7, _, _, _, _, _⟩ :: _) _ _); refine wpList_append_rd _ rfl (.tmp 5) (.tmp 6) 24 rfl w.heap.size 48 i0 (.agg #[.int .i64 0, .slice none 0 0, .int .u8 0, .int .i64 0, .int .i64 0, .string ByteArray.empty, .bool false, .slice none 0 0]) 8 104 Tryz.underlying24 HI0.out HZ0.out HS0.out HY0.out rfl (by decide) _ _ _ rfl (own_new w w.heap.size 48 8 rfl) A n c (es.flatMap Elt.cells) rfl HRd.out (flatE_one es) (by have : maxLen = 9223372036854775807 := rfl; omega) (by omega) (by simp) ?_; intro B cap w9 hown hbel; rw [Nat.zero_add, List.nil_append] at hown; have HO := hid hown; have hb9 : Below w.heap.size w w9 := Below.trans ((Gr.refl w).alloc _) hbel; have HB := hid hb9; clear hown hbel hb9; simp only [Nat.zero_add]))
  rcases Nat.eq_zero_or_pos n with h0 | h0
  · subst h0
    have hz : es = [] := List.length_eq_zero_iff.1 HL.out
    subst hz
    go_wp2_with fail
    go_loopg [4] 0 (fun gg s4 wr => s4 = .int .i64 0 ∧ wr = w9)
    case atStart => exact ⟨rfl, rfl⟩
    case round =>
      obtain ⟨rfl, rfl⟩ := hrel
      go_wp2
      go_ret
      unfold TwinLRet
      exact ⟨B, cap, [], rfl, rfl, ⟨Rd.nil_, by omega, fun e he => by cases he⟩, HB.out⟩
  · obtain ⟨g, hBg, hbg, hgl, hnc, hcm, HH0⟩ : ∃ g, B = some ⟨g, 0, none⟩ ∧ w.heap.size ≤ g ∧ g < w9.heap.size ∧ n ≤ cap ∧ cap ≤ 9223372036854775807 ∧ Hid (HoldsK Elt.cells 8 w9 g 0 es.toArray) := by
      rcases HO.out.2 with ⟨_, h⟩ | ⟨g, cap', cur, hv, h1, h2, h3, h4, h5, h6⟩
      · omega
      · injection hv with e1 e2 e3
        subst e1 e3
        refine ⟨g, rfl, h1, (Array.getElem?_eq_some_iff.1 h2).1, h3, h4, holds_own h2 ?_⟩
        rw [show es.length = n from HL.out]
        exact h6
    subst hBg
    have HGl := hid hgl
    have HGb := hid hbg
    have HT0 : Hid (TwI w9 g n es es.toArray) := by
      have hl := HL.out
      refine ⟨by simp; omega, HH0.out, fun j hj => ?_⟩
      have e : es.toArray[j]! = es[j]! := by
        rw [getElem!_pos es.toArray j (by simp; omega), getElem!_pos es j (by omega)]
        simp
      rw [e]
      have h := HR.out.each es[j]! (mem_get (by omega))
      exact ⟨rfl, h.gr HB.out, off_old h hbg⟩
    go_wp2_with fail
    go_loopg [4] n (fun gg s4 wr => ∃ (i : Nat) (d : Array Elt), i ≤ n ∧ n - i ≤ gg ∧ s4 = .int .i64 i ∧ Gr w wr ∧ g < wr.heap.size ∧ Hid (TwI wr g n es d))
    case atStart => exact ⟨0, es.toArray, Nat.zero_le _, by omega, rfl, HB.out, hgl, HT0⟩
    case round =>
      clear HT0 HH0
      obtain ⟨i, d, hin, hgi, rfl, BW, hgw, HD⟩ := hrel
      by_cases hil : i < n
      · have hin' : (i : Int) < (n : Int) := by omega
        have hi0 : (0 : Int) ≤ (i : Int) := by omega
        have hds := HD.out.size
        obtain ⟨⟨a0, a1, a2, a3, a4, a5, a6, a7⟩, f0, f1, f2, f3, f4, f5, f6, f7⟩ := holds8_cells HD.out.holds (show i < d.size by omega)
        obtain ⟨er, ei, eo⟩ := HD.out.each i hil
        have hsm := great_small (HSM.out es[i]! (mem_get (by have := HL.out; omega)))
        rw [← er] at hsm
        have h1n := ei.at_.nlen
        have h1m := ei.at_.mlen
        have HC := hid (fun W (k : Gr wr W) => twin_own d[i]!.r d[i]!.A d[i]!.n d[i]!.c d[i]!.B d[i]!.m d[i]!.d W (ei.at_.gr k) (by omega) (by omega))
        have hsf := ei.sfx
        have hat := ei.at_
        generalize d[i]! = x at *
        have HER := hid er
        have HSF := hid hsf
        have HAT := hid hat
        obtain ⟨⟨id, names, suf, lo, hi, num, tw, stays⟩, A1, n1, c1, B1, m1, d1⟩ := x
        unfold Rcd.val at HC
        dsimp only at *
        clear er ei eo hsm h1n h1m hsf hat hds
        go_wp2_with (go_at_call 14; (with_reducible refine (HC.out _ ?_).mono ?_); rotate_right; rintro e w2 ⟨A', c', B', d', mid, rfl, k1, k2, k3, k4, k5, hbw2⟩; have K1 := hid k1; have K2 := hid k2; have K3 := hid (And.intro k3 (And.intro k4 k5)); clear k1 k2 k3 k4 k5; obtain ⟨hcw2, hfw2, hzw2⟩ := hbw2.rules)
        · show Handed _ _ _ (w2.setCells g (i * 8) [.int .i64 id, .slice A' n1 c', .int .u8 suf, .int .i64 lo, .int .i64 hi, .string num, .bool tw, .slice B' m1 d'])
          go_roundg (n - (i + 1))
          case measure => omega
          case rel =>
            obtain ⟨k3, k4, k5⟩ := K3.out
            have hat := HAT.out
            refine ⟨i + 1, d.setIfInBounds i ⟨⟨id, names, suf, lo, hi, num, tw, stays⟩, A', n1, c', B', m1, d'⟩, by omega, by omega, by go_num, gr_setCells HGb.out _ _ _ (BW.trans hbw2), by rw [size_setCells]; omega, ?_⟩
            exact TwI.set_ (x := ⟨⟨id, names, suf, lo, hi, num, tw, stays⟩, A', n1, c', B', m1, d'⟩) (HD.out.gr hbw2 hgw) hil HER.out
              ⟨⟨Rd.of_own K1.out, Rd.of_own K2.out, hat.nbig, hat.mbig, hat.words, hat.number⟩, own_cap K1.out, HSF.out⟩ ⟨fun _ => own_off K1.out (by omega), fun _ => own_off K2.out (by omega)⟩
        all_goals first
          | exact Gr.refl _
          | sorry
      · have hin' : ¬ (i : Int) < (n : Int) := by omega
        have hds := HD.out.size
        have hl := HL.out
        have hmap : d.toList.map (·.r) = es.map (·.r) := by
          apply List.ext_getElem
          · simp; omega
          · intro j h1 h2
            simp at h1 h2
            have := (HD.out.each j (by omega)).1
            rw [getElem!_pos d j (by omega), getElem!_pos es j (by omega)] at this
            simpa using this
        have hrd := rd_of_rdE (rdE_holds HD.out.holds hgw)
        rw [hds] at hrd
        have HF : Hid (RecsIn wr (some ⟨g, 0, none⟩) n d.toList) := ⟨hrd, by omega, fun e he => by
          obtain ⟨j, hj, rfl⟩ := List.getElem_of_mem he
          simp at hj
          have := (HD.out.each j (by omega)).2.1
          rw [getElem!_pos d j (by omega)] at this
          simpa using this⟩
        have HMP := hid hmap
        clear hds hl hmap hrd HD
        go_wp2
        go_ret
        unfold TwinLRet
        exact ⟨_, cap, _, rfl, HMP.out, HF.out, BW⟩
end Go.Proofs.YtlkjimfkapcenaaGreat
