/- A world that only grew, told exactly; cmp.Compare at ints. For every input. by of the package inquiry, at signals: two signals compared by numbers of them. For every list of numbers. sound of the package inquiry, the test of a licence, and Check. For all inquiries, licences and gates. by of the package inquiry, at traces: two traces compared by numbers of them. For every list of numbers. -/
import Derived.Deep.LoopGhost
import Derived.Shelf.SlSortCmp.QuietGrown
import Derived.Test.YtliehlefpodhaaaDoorOIn
namespace Go.Proofs.YtliehlefpodhaaaDoor
open Go.RowKit Go.Shelf Go.Sort

/-- Some draws, and some blocks behind. -/
def Gs (w w' : World) : Prop := ∃ q os, w' = grow (w.drewN q) os
theorem Gs.refl (w : World) : Gs w w := ⟨0, #[], by rw [grow_empty]; rfl⟩
theorem Gs.alloc {a w : World} (h : Gs a w) (o : Obj) : Gs a (w.alloc o) := by
  obtain ⟨q, os, rfl⟩ := h
  exact ⟨q, os ++ #[o], by rw [alloc_eq_grow, grow_grow]⟩
theorem Gs.grown {a w : World} (h : Gs a w) (n : Nat) (os : Array Obj) : Gs a (grow (w.drewN n) os) := by
  obtain ⟨q, os', rfl⟩ := h
  exact ⟨q + n, os' ++ os, by
    show grow (grow ((a.drewN q).drewN n) os') os = _
    rw [grow_grow]
    unfold World.drewN
    simp only [Nat.add_assoc]⟩
theorem Gs.trans {a b c : World} (h : Gs a b) (k : Gs b c) : Gs a c := by
  obtain ⟨q, os, rfl⟩ := k
  exact h.grown q os
theorem Gs.drew {a w : World} (h : Gs a w) : Gs a w.drew := by
  obtain ⟨q, os, rfl⟩ := h
  exact ⟨q + 1, os, rfl⟩
theorem Gs.gr {a w : World} (h : Gs a w) : Gr a w := by
  obtain ⟨q, os, rfl⟩ := h
  refine ⟨rfl, rfl, rfl, by simp [grow, World.drewN], fun k hk => ?_⟩
  show (a.heap ++ os)[k]? = a.heap[k]?
  rw [Array.getElem?_append_left hk]

/-- A cell of the block just made. -/
theorem cell_top (W : World) (cs : Array Value) (t : TypeId) (b o : Nat) (h : b = W.heap.size) : (W.alloc (.cells cs t)).cell? ⟨b, o, none⟩ = cs[o]? := by
  subst h
  exact cell_of_row _ _ o cs t (0, 0) (heap_alloc_new W _)

set_option maxHeartbeats 1000000 in
theorem isNaN_any (x : Int) (w : World) : Calls Tryd.prog 84 #[.int .i64 x] w fun e w' => e = .returned (.bool false) ∧ w = w' := by
  go_enter Tryd.func84, Tryd.ntmps84
  go_wp2
  go_ret
  exact ⟨by simp, rfl⟩

set_option maxHeartbeats 1000000 in
theorem cmp_any (x y : Int) (w : World) : Calls Tryd.prog 71 #[.int .i64 x, .int .i64 y] w fun e w' => e = .returned (.int .i64 (cmpI x y)) ∧ w = w' := by
  go_enter Tryd.func71, Tryd.ntmps71
  go_wp2_with ((go_at_call 84; (with_reducible refine (isNaN_any _ _).mono ?_); rotate_right; rintro e w' ⟨rfl, rfl⟩))
  all_goals (go_ret; refine ⟨?_, rfl⟩; unfold cmpI; (repeat' split) <;> first | rfl | (exfalso; omega))
end Go.Proofs.YtliehlefpodhaaaDoor
namespace Go.Proofs.YtliehlefpodhaaaDoor
open Go.RowKit Go.Shelf Go.Sort

def fnSig (p : Nat × (Sig → Int)) : Value := .func (.func p.1) #[] #[]
/-- What is asked of a number of a thing. -/
structure NumSig (p : Nat × (Sig → Int)) : Prop where
  enters : ∀ args w, (callFunc p.1 args).run Tryd.prog w = .ok (.enter p.1 args) w
  gives : ∀ (x : Sig) (W : World), Calls Tryd.prog p.1 #[x.val] W fun e w' => e = .returned (.int .i64 (p.2 x)) ∧ Gs W w'
/-- The cells of the two boxes. -/
def BoxSig (W : World) (g : Nat) (x : Sig) : Prop := W.cell? ⟨g, 0, none⟩ = some (.int .i64 x.bureau) ∧ W.cell? ⟨g, 1, none⟩ = some (.int .i64 x.id) ∧ W.cell? ⟨g, 2, none⟩ = some (.int .i64 x.file) ∧ W.cell? ⟨g, 3, none⟩ = some (.int .i64 x.day) ∧ W.cell? ⟨g, 4, none⟩ = some (.int .u8 x.kind) ∧ W.cell? ⟨g, 5, none⟩ = some (.int .i64 x.till)
theorem BoxSig.gr {W W' : World} {g : Nat} {x : Sig} (h : BoxSig W g x) (k : Gr W W') : BoxSig W' g x := by
  obtain ⟨h0, h1, h2, h3, h4, h5⟩ := h
  exact ⟨(k.cell (block_lt_of_cell h0)).trans h0, (k.cell (block_lt_of_cell h1)).trans h1, (k.cell (block_lt_of_cell h2)).trans h2, (k.cell (block_lt_of_cell h3)).trans h3, (k.cell (block_lt_of_cell h4)).trans h4, (k.cell (block_lt_of_cell h5)).trans h5⟩
theorem BoxSig.gr_grown {W : World} {g : Nat} {x : Sig} (h : BoxSig W g x) (n : Nat) (os : Array Obj) : BoxSig (grow (W.drewN n) os) g x := h.gr ((Gs.refl W).grown n os).gr
theorem BoxSig.new (w : World) (t : TypeId) (x : Sig) : BoxSig (w.alloc (.cells #[.int .i64 x.bureau, .int .i64 x.id, .int .i64 x.file, .int .i64 x.day, .int .u8 x.kind, .int .i64 x.till] t)) w.heap.size x := by
  unfold BoxSig
  refine ⟨?_, ?_, ?_, ?_, ?_, ?_⟩ <;> simp
theorem byN_stepSig (l : List (Sig → Int)) (a b : Sig) : ∀ k, k < l.length → (∀ j, j < k → cmpI (l[j]! a) (l[j]! b) = 0) → cmpI (l[k]! a) (l[k]! b) ≠ 0 → byN l a b = cmpI (l[k]! a) (l[k]! b) := by
  induction l with
  | nil => intro k hk; simp at hk
  | cons f r ih =>
    intro k hk hj hne
    unfold byN
    cases k with
    | zero => rw [if_neg (by simpa using hne)]; simp
    | succ k =>
      rw [if_pos (by simpa using hj 0 (by omega))]
      have := ih k (by simpa using hk) (fun j hjk => by simpa using hj (j + 1) (by omega)) (by simpa using hne)
      rw [this]; simp
theorem byN_endSig (l : List (Sig → Int)) (a b : Sig) : (∀ j, j < l.length → cmpI (l[j]! a) (l[j]! b) = 0) → byN l a b = 0 := by
  induction l with
  | nil => intro _; rfl
  | cons f r ih =>
    intro hj
    unfold byN
    rw [if_pos (by simpa using hj 0 (by simp))]
    exact ih (fun j hjk => by simpa using hj (j + 1) (by simpa using hjk))

set_option maxRecDepth 100000 in
set_option maxHeartbeats 4000000 in
theorem bySig_any (x y : Sig) (fs : List (Nat × (Sig → Int))) (A : Option Addr) (n c : Nat) (w : World) (hr : Rd w 1 A n (fs.map fnSig)) (hn : n ≤ 1000) (hf : ∀ p ∈ fs, NumSig p) :
    Calls Tryd.prog 57 #[x.val, y.val, .slice A n c] w fun e w' => e = .returned (.int .i64 (byN (fs.map Prod.snd) x y)) ∧ Gs w w' := by
  have hl := hr.len
  simp only [List.length_map, Nat.mul_one] at hl
  have HL := hid hl
  clear hl
  have HF := hid hf
  clear hf
  have HR := hid hr
  clear hr
  obtain ⟨fl, hfl⟩ : ∃ fl, fs.map Prod.snd = fl := ⟨_, rfl⟩
  have HFL := hid hfl
  rw [hfl]
  have HX := hid (fun k (hk : k < n) => show fl[k]! = (fs[k]!).2 by
    have h : k < fs.length := by have := HL.out; omega
    rw [← HFL.out, getElem!_pos _ k (by simpa using h), getElem!_pos fs k h]; simp)
  have HK := hid (byN_stepSig fl x y)
  have HE := hid (byN_endSig fl x y)
  have HN : Hid (fl.length = n) := by rw [← HFL.out, List.length_map]; exact HL.out
  clear hfl
  generalize byN fl x y = r at *
  obtain ⟨X, hX⟩ : ∃ X, x = X := ⟨_, rfl⟩
  obtain ⟨Y, hY⟩ : ∃ Y, y = Y := ⟨_, rfl⟩
  have hXv : X.val = .agg #[.int .i64 X.bureau, .int .i64 X.id, .int .i64 X.file, .int .i64 X.day, .int .u8 X.kind, .int .i64 X.till] := rfl
  have hYv : Y.val = .agg #[.int .i64 Y.bureau, .int .i64 Y.id, .int .i64 Y.file, .int .i64 Y.day, .int .u8 Y.kind, .int .i64 Y.till] := rfl
  rw [hX, hY, hXv, hYv]
  rw [hX, hY] at HK HE
  clear hX hY hXv hYv
  have hn' : (n : Int) ≤ 1000 := by omega
  go_enter Tryd.func57, Tryd.ntmps57
  go_wp2
  go_loopg [8, 9, 12] n (fun gg _ _ s12 wr => ∃ kk : Nat, kk ≤ n ∧ n - kk ≤ gg ∧ s12 = .int .i64 kk ∧ Gs w wr ∧ BoxSig wr w.heap.size X ∧ BoxSig wr (w.heap.size + 1) Y ∧ Hid (∀ j, j < kk → cmpI (fl[j]! X) (fl[j]! Y) = 0))
  case atStart =>
    refine ⟨0, Nat.zero_le _, by omega, rfl, ((Gs.refl w).alloc _).alloc _, (BoxSig.new w _ X).gr ((Gr.refl _).alloc _), ?_, fun j hj => absurd hj (Nat.not_lt_zero _)⟩
    have h := BoxSig.new (w.alloc (.cells #[.int .i64 X.bureau, .int .i64 X.id, .int .i64 X.file, .int .i64 X.day, .int .u8 X.kind, .int .i64 X.till] 67)) 67 Y
    rwa [World.size_alloc] at h
  case round =>
    obtain ⟨kk, hkk, hg, rfl, BW, h1, h2, HA⟩ := hrel
    by_cases hlt : kk < n
    · have hlen : kk < fs.length := by have := HL.out; omega
      obtain ⟨b, off, rfl, hb, hc⟩ := (HR.out.gr BW.gr).at_ (by omega)
      have hcell : wr.cell? ⟨b, off + kk, none⟩ = some (fnSig fs[kk]!) := hc kk _ (Rd.get hlen)
      have hcall := HF.out fs[kk]! (mem_get hlen)
      clear hc
      have HFX := HX.out kk hlt
      generalize fs[kk]! = p at hcell hcall HFX
      have HFX := hid HFX
      obtain ⟨F, f⟩ := p
      unfold fnSig at hcell
      dsimp only at hcell
      have eg := hcall.enters
      have H1 := hid (fun (z : Sig) (q : Nat) (os : Array Obj) => (hcall.gives z (grow (wr.drewN q) os)).mono (R' := fun e w'' => e = .returned (.int .i64 (f z)) ∧ ∃ q' os', w'' = grow ((grow (wr.drewN q) os).drewN q') os') (fun e w' h => ⟨h.1, h.2⟩))
      have H2 := hid (fun (a b : Int) (q : Nat) (os : Array Obj) => (cmp_any a b (grow (wr.drewN q) os)).mono (R' := fun e w'' => e = .returned (.int .i64 (cmpI a b)) ∧ ∃ q' os', w'' = grow ((grow (wr.drewN q) os).drewN q') os') (fun e w' h => ⟨h.1, 0, #[], by rw [← h.2, grow_empty]; rfl⟩))
      have H1x := hid (fun q os => H1.out X q os)
      have H1y := hid (fun q os => H1.out Y q os)
      have H2x := hid (fun q os => H2.out (f X) (f Y) q os)
      clear H1 H2 hcall
      unfold Sig.val at H1x H1y
      have CL : ∀ {b o : Nat} {v : Value}, wr.cell? ⟨b, o, none⟩ = some v → ∀ n os, (grow (wr.drewN n) os).cell? ⟨b, o, none⟩ = some v := fun h => cell_grown (block_lt_of_cell h) h
      unfold BoxSig at h1 h2
      have HB1 := hid h1
      have HB2 := hid h2
      obtain ⟨a0, a1, a2, a3, a4, a5⟩ := h1
      obtain ⟨b0, b1, b2, b3, b4, b5⟩ := h2
      have a0 := CL a0
      have b0 := CL b0
      have a1 := CL a1
      have b1 := CL b1
      have a2 := CL a2
      have b2 := CL b2
      have a3 := CL a3
      have b3 := CL b3
      have a4 := CL a4
      have b4 := CL b4
      have a5 := CL a5
      have b5 := CL b5
      clear CL
      have mixed : Tryd.prog.follows .mixedOrders = true := by rfl
      have HV : Hid ((fl[kk]! X) = f X ∧ (fl[kk]! Y) = f Y) := by rw [HFX.out]; exact ⟨rfl, rfl⟩
      obtain ⟨vv, hvv⟩ : ∃ vv, cmpI (f X) (f Y) = vv := ⟨_, rfl⟩
      have HVV := hid hvv
      rw [hvv] at H2x
      generalize f X = fx at *
      generalize f Y = fy at *
      clear hvv
      by_cases hz : vv = 0
      · have hz1 : (vv != 0) = false := by rw [hz]; rfl
        have HZ := hid hz
        clear hz
        go_wp2
        go_quiet_grown (first
          | (go_at_fn F; with_reducible refine Calls.grown_of (H1x.out _ _))
          | (go_at_fn F; with_reducible refine Calls.grown_of (H1y.out _ _))
          | (go_at_call 71; with_reducible refine Calls.grown_of (H2x.out _ _)))
        go_wp2
        go_roundg (n - (kk + 1))
        case measure => omega
        case rel =>
          refine ⟨kk + 1, by omega, by omega, by go_num, BW.grown nq osq, BoxSig.gr_grown HB1.out nq osq, BoxSig.gr_grown HB2.out nq osq, hid fun j hj => ?_⟩
          by_cases e : j = kk
          · subst e
            rw [HV.out.1, HV.out.2, HVV.out]; exact HZ.out
          · exact HA.out j (by omega)
      · have hz1 : (vv != 0) = true := by simpa using hz
        have HZ := hid hz
        clear hz
        go_wp2
        go_quiet_grown (first
          | (go_at_fn F; with_reducible refine Calls.grown_of (H1x.out _ _))
          | (go_at_fn F; with_reducible refine Calls.grown_of (H1y.out _ _))
          | (go_at_call 71; with_reducible refine Calls.grown_of (H2x.out _ _)))
        go_wp2
        go_ret
        refine ⟨?_, BW.grown nq osq⟩
        rw [HK.out kk (by rw [HN.out]; omega) HA.out (by rw [HV.out.1, HV.out.2, HVV.out]; exact HZ.out), HV.out.1, HV.out.2, HVV.out]
        rfl
    · have hltz : ¬ (kk : Int) < (n : Int) := by omega
      go_wp2
      go_ret
      refine ⟨?_, BW⟩
      rw [HE.out (fun j hj => HA.out j (by have := HN.out; omega))]
      rfl
end Go.Proofs.YtliehlefpodhaaaDoor
namespace Go.Proofs.YtliehlefpodhaaaDoor
open Go.RowKit Go.Shelf Go.Sort

set_option maxRecDepth 100000 in
set_option maxHeartbeats 2000000 in
theorem sound_any (q : Inq) (w : World) (hu : 0 ≤ q.purpose ∧ q.purpose ≤ 255) :
    Calls Tryd.prog 39 #[q.val] w fun e w' => e = .returned (.bool (inqB q)) ∧ Gr w w' := by
  obtain ⟨id, day, who, file, pu, called⟩ := q
  unfold Inq.val inqB
  dsimp only at *
  obtain ⟨u1, u2⟩ := hu
  obtain ⟨b1, h1⟩ : ∃ b, (inB 0 999999 id && inB 0 999999 who && inB 0 999999 file) = b := ⟨_, rfl⟩
  obtain ⟨b2, h2⟩ : ∃ b, inB 0 100000 day = b := ⟨_, rfl⟩
  obtain ⟨b3, h3⟩ : ∃ b, inB 1 6 pu = b := ⟨_, rfl⟩
  rw [h1, h2, h3]
  have H1 := hid h1
  have H2 := hid h2
  have H3 := hid h3
  clear h1 h2 h3
  cases b1
  case' true => cases b2
  all_goals
    go_enter Tryd.func39, Tryd.ntmps39
    go_wp2_with (first
      | (go_at_call 42; (with_reducible refine (in_three 0 999999 id who file _ H1.out _ _ _ ?_ ?_ ?_ ?_).mono ?_); rotate_right; rintro e w1 ⟨rfl, hbw1⟩; obtain ⟨hcw1, hfw1, hzw1⟩ := hbw1.rules; (try simp at hzw1); have hzw1_0 : w.heap.size < w1.heap.size := (by omega); have hyw1_0 : w.heap.size ≤ w1.heap.size := (by omega))
      | (go_at_call 42; (with_reducible refine (in_one 0 100000 day _ H2.out _ _ _ ?_ ?_).mono ?_); rotate_right; rintro e w2 ⟨rfl, hbw2⟩; obtain ⟨hcw2, hfw2, hzw2⟩ := hbw2.rules; (try simp at hzw2); have hzw2_0 : w.heap.size < w2.heap.size := (by omega); have hyw2_0 : w.heap.size ≤ w2.heap.size := (by omega))
      | (go_at_call 42; (with_reducible refine (in_one 1 6 pu _ H3.out _ _ _ ?_ ?_).mono ?_); rotate_right; rintro e w3 ⟨rfl, hbw3⟩; obtain ⟨hcw3, hfw3, hzw3⟩ := hbw3.rules; (try simp at hzw3); have hzw3_0 : w.heap.size < w3.heap.size := (by omega); have hyw3_0 : w.heap.size ≤ w3.heap.size := (by omega)))
  all_goals first
    | (simp; done)
    | (rw [cell_top _ _ _ _ _ (by simp)]; rfl)
    | (go_ret
       refine ⟨by rfl, ?_⟩
       (repeat (first | with_reducible exact Gr.refl _ | with_reducible refine Gr.trans ?_ hbw3 | with_reducible refine Gr.trans ?_ hbw2 | with_reducible refine Gr.trans ?_ hbw1 | with_reducible refine Gr.alloc ?_ _ | with_reducible refine Gr.setCell ?_ (by simp) _ | with_reducible refine Gr.setCell ?_ (by simp; omega) _ | with_reducible refine Gr.drew ?_ | with_reducible refine Gr.drewN ?_ _)))

set_option maxRecDepth 100000 in
set_option maxHeartbeats 2000000 in
theorem check1_any (x : Lic) (w : World) (hu : 0 ≤ x.purpose ∧ x.purpose ≤ 255) :
    Calls Tryd.prog 64 #[x.val] w fun e w' => e = .returned (.bool (!licB x)) ∧ Gr w w' := by
  obtain ⟨who, pu, lo, hi⟩ := x
  unfold Lic.val licB
  dsimp only at *
  obtain ⟨u1, u2⟩ := hu
  obtain ⟨b1, h1⟩ : ∃ b, inB 0 999999 who = b := ⟨_, rfl⟩
  obtain ⟨b2, h2⟩ : ∃ b, inB 1 6 pu = b := ⟨_, rfl⟩
  obtain ⟨b3, h3⟩ : ∃ b, (inB 0 100000 lo && inB 0 100000 hi) = b := ⟨_, rfl⟩
  rw [h1, h2, h3]
  have H1 := hid h1
  have H2 := hid h2
  have H3 := hid h3
  clear h1 h2 h3
  cases b1
  case' true => cases b2
  case' true.true => by_cases h5 : pu = 5
  case' pos => subst h5
  case' neg =>
    have h5' : (pu == 5) = false := by simpa using h5
    have h5n : (pu != 5) = true := by simpa using h5
    cases b3
  case' neg.true => by_cases h6 : lo ≤ hi
  all_goals
    go_enter Tryd.func64, Tryd.ntmps64
    go_wp2_with (first
      | (go_at_call 42; (with_reducible refine (in_one 0 999999 who _ H1.out _ _ _ ?_ ?_).mono ?_); rotate_right; rintro e w1 ⟨rfl, hbw1⟩; obtain ⟨hcw1, hfw1, hzw1⟩ := hbw1.rules; (try simp at hzw1); have hzw1_0 : w.heap.size < w1.heap.size := (by omega); have hyw1_0 : w.heap.size ≤ w1.heap.size := (by omega))
      | (go_at_call 42; (with_reducible refine (in_one 1 6 _ _ H2.out _ _ _ ?_ ?_).mono ?_); rotate_right; rintro e w2 ⟨rfl, hbw2⟩; obtain ⟨hcw2, hfw2, hzw2⟩ := hbw2.rules; (try simp at hzw2); have hzw2_0 : w.heap.size < w2.heap.size := (by omega); have hyw2_0 : w.heap.size ≤ w2.heap.size := (by omega))
      | (go_at_call 42; (with_reducible refine (in_two 0 100000 lo hi _ H3.out _ _ _ ?_ ?_ ?_).mono ?_); rotate_right; rintro e w3 ⟨rfl, hbw3⟩; obtain ⟨hcw3, hfw3, hzw3⟩ := hbw3.rules; (try simp at hzw3); have hzw3_0 : w.heap.size < w3.heap.size := (by omega); have hyw3_0 : w.heap.size ≤ w3.heap.size := (by omega)))
  all_goals first
    | (simp; done)
    | (rw [cell_top _ _ _ _ _ (by simp)]; rfl)
    | (go_ret
       refine ⟨by first | rfl | (simp_all; done) | (rw [h5n]; simp_all; done) | (simp_all; omega), ?_⟩
       (repeat (first | with_reducible exact Gr.refl _ | with_reducible refine Gr.trans ?_ hbw3 | with_reducible refine Gr.trans ?_ hbw2 | with_reducible refine Gr.trans ?_ hbw1 | with_reducible refine Gr.alloc ?_ _ | with_reducible refine Gr.setCell ?_ (by simp) _ | with_reducible refine Gr.setCell ?_ (by simp; omega) _ | with_reducible refine Gr.drew ?_ | with_reducible refine Gr.drewN ?_ _)))
end Go.Proofs.YtliehlefpodhaaaDoor
namespace Go.Proofs.YtliehlefpodhaaaDoor
open Go.RowKit Go.Shelf Go.Sort

def fnTrc (p : Nat × (Trc → Int)) : Value := .func (.func p.1) #[] #[]
/-- What is asked of a number of a thing. -/
structure NumTrc (p : Nat × (Trc → Int)) : Prop where
  enters : ∀ args w, (callFunc p.1 args).run Tryd.prog w = .ok (.enter p.1 args) w
  gives : ∀ (x : Trc) (W : World), Calls Tryd.prog p.1 #[x.val] W fun e w' => e = .returned (.int .i64 (p.2 x)) ∧ Gs W w'
/-- The cells of the two boxes. -/
def BoxTrc (W : World) (g : Nat) (x : Trc) : Prop := W.cell? ⟨g, 0, none⟩ = some (.int .i64 x.inq) ∧ W.cell? ⟨g, 1, none⟩ = some (.int .i64 x.who) ∧ W.cell? ⟨g, 2, none⟩ = some (.int .i64 x.day) ∧ W.cell? ⟨g, 3, none⟩ = some (.int .u8 x.purpose) ∧ W.cell? ⟨g, 4, none⟩ = some (.int .u8 x.became)
theorem BoxTrc.gr {W W' : World} {g : Nat} {x : Trc} (h : BoxTrc W g x) (k : Gr W W') : BoxTrc W' g x := by
  obtain ⟨h0, h1, h2, h3, h4⟩ := h
  exact ⟨(k.cell (block_lt_of_cell h0)).trans h0, (k.cell (block_lt_of_cell h1)).trans h1, (k.cell (block_lt_of_cell h2)).trans h2, (k.cell (block_lt_of_cell h3)).trans h3, (k.cell (block_lt_of_cell h4)).trans h4⟩
theorem BoxTrc.gr_grown {W : World} {g : Nat} {x : Trc} (h : BoxTrc W g x) (n : Nat) (os : Array Obj) : BoxTrc (grow (W.drewN n) os) g x := h.gr ((Gs.refl W).grown n os).gr
theorem BoxTrc.new (w : World) (t : TypeId) (x : Trc) : BoxTrc (w.alloc (.cells #[.int .i64 x.inq, .int .i64 x.who, .int .i64 x.day, .int .u8 x.purpose, .int .u8 x.became] t)) w.heap.size x := by
  unfold BoxTrc
  refine ⟨?_, ?_, ?_, ?_, ?_⟩ <;> simp
theorem byN_stepTrc (l : List (Trc → Int)) (a b : Trc) : ∀ k, k < l.length → (∀ j, j < k → cmpI (l[j]! a) (l[j]! b) = 0) → cmpI (l[k]! a) (l[k]! b) ≠ 0 → byN l a b = cmpI (l[k]! a) (l[k]! b) := by
  induction l with
  | nil => intro k hk; simp at hk
  | cons f r ih =>
    intro k hk hj hne
    unfold byN
    cases k with
    | zero => rw [if_neg (by simpa using hne)]; simp
    | succ k =>
      rw [if_pos (by simpa using hj 0 (by omega))]
      have := ih k (by simpa using hk) (fun j hjk => by simpa using hj (j + 1) (by omega)) (by simpa using hne)
      rw [this]; simp
theorem byN_endTrc (l : List (Trc → Int)) (a b : Trc) : (∀ j, j < l.length → cmpI (l[j]! a) (l[j]! b) = 0) → byN l a b = 0 := by
  induction l with
  | nil => intro _; rfl
  | cons f r ih =>
    intro hj
    unfold byN
    rw [if_pos (by simpa using hj 0 (by simp))]
    exact ih (fun j hjk => by simpa using hj (j + 1) (by simpa using hjk))

set_option maxRecDepth 100000 in
set_option maxHeartbeats 4000000 in
theorem byTrc_any (x y : Trc) (fs : List (Nat × (Trc → Int))) (A : Option Addr) (n c : Nat) (w : World) (hr : Rd w 1 A n (fs.map fnTrc)) (hn : n ≤ 1000) (hf : ∀ p ∈ fs, NumTrc p) :
    Calls Tryd.prog 47 #[x.val, y.val, .slice A n c] w fun e w' => e = .returned (.int .i64 (byN (fs.map Prod.snd) x y)) ∧ Gs w w' := by
  have hl := hr.len
  simp only [List.length_map, Nat.mul_one] at hl
  have HL := hid hl
  clear hl
  have HF := hid hf
  clear hf
  have HR := hid hr
  clear hr
  obtain ⟨fl, hfl⟩ : ∃ fl, fs.map Prod.snd = fl := ⟨_, rfl⟩
  have HFL := hid hfl
  rw [hfl]
  have HX := hid (fun k (hk : k < n) => show fl[k]! = (fs[k]!).2 by
    have h : k < fs.length := by have := HL.out; omega
    rw [← HFL.out, getElem!_pos _ k (by simpa using h), getElem!_pos fs k h]; simp)
  have HK := hid (byN_stepTrc fl x y)
  have HE := hid (byN_endTrc fl x y)
  have HN : Hid (fl.length = n) := by rw [← HFL.out, List.length_map]; exact HL.out
  clear hfl
  generalize byN fl x y = r at *
  obtain ⟨X, hX⟩ : ∃ X, x = X := ⟨_, rfl⟩
  obtain ⟨Y, hY⟩ : ∃ Y, y = Y := ⟨_, rfl⟩
  have hXv : X.val = .agg #[.int .i64 X.inq, .int .i64 X.who, .int .i64 X.day, .int .u8 X.purpose, .int .u8 X.became] := rfl
  have hYv : Y.val = .agg #[.int .i64 Y.inq, .int .i64 Y.who, .int .i64 Y.day, .int .u8 Y.purpose, .int .u8 Y.became] := rfl
  rw [hX, hY, hXv, hYv]
  rw [hX, hY] at HK HE
  clear hX hY hXv hYv
  have hn' : (n : Int) ≤ 1000 := by omega
  go_enter Tryd.func47, Tryd.ntmps47
  go_wp2
  go_loopg [8, 9, 12] n (fun gg _ _ s12 wr => ∃ kk : Nat, kk ≤ n ∧ n - kk ≤ gg ∧ s12 = .int .i64 kk ∧ Gs w wr ∧ BoxTrc wr w.heap.size X ∧ BoxTrc wr (w.heap.size + 1) Y ∧ Hid (∀ j, j < kk → cmpI (fl[j]! X) (fl[j]! Y) = 0))
  case atStart =>
    refine ⟨0, Nat.zero_le _, by omega, rfl, ((Gs.refl w).alloc _).alloc _, (BoxTrc.new w _ X).gr ((Gr.refl _).alloc _), ?_, fun j hj => absurd hj (Nat.not_lt_zero _)⟩
    have h := BoxTrc.new (w.alloc (.cells #[.int .i64 X.inq, .int .i64 X.who, .int .i64 X.day, .int .u8 X.purpose, .int .u8 X.became] 72)) 72 Y
    rwa [World.size_alloc] at h
  case round =>
    obtain ⟨kk, hkk, hg, rfl, BW, h1, h2, HA⟩ := hrel
    by_cases hlt : kk < n
    · have hlen : kk < fs.length := by have := HL.out; omega
      obtain ⟨b, off, rfl, hb, hc⟩ := (HR.out.gr BW.gr).at_ (by omega)
      have hcell : wr.cell? ⟨b, off + kk, none⟩ = some (fnTrc fs[kk]!) := hc kk _ (Rd.get hlen)
      have hcall := HF.out fs[kk]! (mem_get hlen)
      clear hc
      have HFX := HX.out kk hlt
      generalize fs[kk]! = p at hcell hcall HFX
      have HFX := hid HFX
      obtain ⟨F, f⟩ := p
      unfold fnTrc at hcell
      dsimp only at hcell
      have eg := hcall.enters
      have H1 := hid (fun (z : Trc) (q : Nat) (os : Array Obj) => (hcall.gives z (grow (wr.drewN q) os)).mono (R' := fun e w'' => e = .returned (.int .i64 (f z)) ∧ ∃ q' os', w'' = grow ((grow (wr.drewN q) os).drewN q') os') (fun e w' h => ⟨h.1, h.2⟩))
      have H2 := hid (fun (a b : Int) (q : Nat) (os : Array Obj) => (cmp_any a b (grow (wr.drewN q) os)).mono (R' := fun e w'' => e = .returned (.int .i64 (cmpI a b)) ∧ ∃ q' os', w'' = grow ((grow (wr.drewN q) os).drewN q') os') (fun e w' h => ⟨h.1, 0, #[], by rw [← h.2, grow_empty]; rfl⟩))
      have H1x := hid (fun q os => H1.out X q os)
      have H1y := hid (fun q os => H1.out Y q os)
      have H2x := hid (fun q os => H2.out (f X) (f Y) q os)
      clear H1 H2 hcall
      unfold Trc.val at H1x H1y
      have CL : ∀ {b o : Nat} {v : Value}, wr.cell? ⟨b, o, none⟩ = some v → ∀ n os, (grow (wr.drewN n) os).cell? ⟨b, o, none⟩ = some v := fun h => cell_grown (block_lt_of_cell h) h
      unfold BoxTrc at h1 h2
      have HB1 := hid h1
      have HB2 := hid h2
      obtain ⟨a0, a1, a2, a3, a4⟩ := h1
      obtain ⟨b0, b1, b2, b3, b4⟩ := h2
      have a0 := CL a0
      have b0 := CL b0
      have a1 := CL a1
      have b1 := CL b1
      have a2 := CL a2
      have b2 := CL b2
      have a3 := CL a3
      have b3 := CL b3
      have a4 := CL a4
      have b4 := CL b4
      clear CL
      have mixed : Tryd.prog.follows .mixedOrders = true := by rfl
      have HV : Hid ((fl[kk]! X) = f X ∧ (fl[kk]! Y) = f Y) := by rw [HFX.out]; exact ⟨rfl, rfl⟩
      obtain ⟨vv, hvv⟩ : ∃ vv, cmpI (f X) (f Y) = vv := ⟨_, rfl⟩
      have HVV := hid hvv
      rw [hvv] at H2x
      generalize f X = fx at *
      generalize f Y = fy at *
      clear hvv
      by_cases hz : vv = 0
      · have hz1 : (vv != 0) = false := by rw [hz]; rfl
        have HZ := hid hz
        clear hz
        go_wp2
        go_quiet_grown (first
          | (go_at_fn F; with_reducible refine Calls.grown_of (H1x.out _ _))
          | (go_at_fn F; with_reducible refine Calls.grown_of (H1y.out _ _))
          | (go_at_call 71; with_reducible refine Calls.grown_of (H2x.out _ _)))
        go_wp2
        go_roundg (n - (kk + 1))
        case measure => omega
        case rel =>
          refine ⟨kk + 1, by omega, by omega, by go_num, BW.grown nq osq, BoxTrc.gr_grown HB1.out nq osq, BoxTrc.gr_grown HB2.out nq osq, hid fun j hj => ?_⟩
          by_cases e : j = kk
          · subst e
            rw [HV.out.1, HV.out.2, HVV.out]; exact HZ.out
          · exact HA.out j (by omega)
      · have hz1 : (vv != 0) = true := by simpa using hz
        have HZ := hid hz
        clear hz
        go_wp2
        go_quiet_grown (first
          | (go_at_fn F; with_reducible refine Calls.grown_of (H1x.out _ _))
          | (go_at_fn F; with_reducible refine Calls.grown_of (H1y.out _ _))
          | (go_at_call 71; with_reducible refine Calls.grown_of (H2x.out _ _)))
        go_wp2
        go_ret
        refine ⟨?_, BW.grown nq osq⟩
        rw [HK.out kk (by rw [HN.out]; omega) HA.out (by rw [HV.out.1, HV.out.2, HVV.out]; exact HZ.out), HV.out.1, HV.out.2, HVV.out]
        rfl
    · have hltz : ¬ (kk : Int) < (n : Int) := by omega
      go_wp2
      go_ret
      refine ⟨?_, BW⟩
      rw [HE.out (fun j hj => HA.out j (by have := HN.out; omega))]
      rfl
end Go.Proofs.YtliehlefpodhaaaDoor
