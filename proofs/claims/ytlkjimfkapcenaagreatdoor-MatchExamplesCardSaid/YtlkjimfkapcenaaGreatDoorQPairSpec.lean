/- Lists of records in order, and their pairs: plain functions. No condition. people, rules and span of the examples: what they hand back. No condition. Who was at one place: plain functions. No condition. What the examples come to: reckoned by the kernel. No condition. Pairs of the package match: the pairs that are surely, and perhaps, one person. For all rules and lists of records. A list of records, as it lies. For every list. What the chapter's further examples come to: reckoned by the kernel. No condition. (Printed by gen_exam1.py.) -/
import Derived.Deep.AppendLies
import Derived.Deep.CutRange
import Derived.Deep.DeepCutAuto
import Derived.Deep.RegionHeld3
import Derived.Test.YtlkjimfkapcenaaGreatDoorQEditsTop
import Derived.Test.YtlkjimfkapcenaaGreatDoorQRegGr
import Derived.Test.YtlkjimfkapcenaaGreatDoorQOrdered
import Derived.Test.YtlkjimfkapcenaaGreatDoorQListed
import Derived.Test.YtlkjimfkapcenaaGreatDoorQCompareTop
import Derived.Test.YtlkjimfkapcenaaGreatDoorQFar
namespace Go.Proofs.YtlkjimfkapcenaaGreatDoor
open Go.RowKit

instance : Inhabited Rcd := ⟨(default : Elt).r⟩

/-- Two lists in order, of the same records: one list. -/
theorem sorted_eq {l l' : List Rcd} (p : l'.Perm l) (h' : l'.Pairwise (fun x y => x.id < y.id)) (h : l.Pairwise (fun x y => x.id < y.id)) : l' = l := by
  induction l generalizing l' with
  | nil => exact List.Perm.eq_nil p
  | cons a l ih =>
    cases l' with
    | nil => exact absurd p.symm.eq_nil (by simp)
    | cons b l' =>
      have hab : b = a := by
        have h1 : b ∈ a :: l := p.mem_iff.1 (by simp)
        have h2 : a ∈ b :: l' := p.mem_iff.2 (by simp)
        rcases List.mem_cons.1 h1 with e | h1
        · exact e
        · rcases List.mem_cons.1 h2 with e | h2
          · exact e.symm
          · have k1 := (List.pairwise_cons.1 h).1 b h1
            have k2 := (List.pairwise_cons.1 h').1 a h2
            omega
      subst hab
      rw [ih ((List.perm_cons b).1 p) (List.pairwise_cons.1 h').2 (List.pairwise_cons.1 h).2]

def insR (a : Rcd) : List Rcd → List Rcd
  | [] => [a]
  | b :: l => if a.id < b.id then a :: b :: l else b :: insR a l
/-- Records by their Ids. -/
def srt : List Rcd → List Rcd
  | [] => []
  | a :: l => insR a (srt l)
theorem insR_perm (a : Rcd) (l : List Rcd) : (insR a l).Perm (a :: l) := by
  induction l with
  | nil => exact List.Perm.refl _
  | cons b l ih =>
    unfold insR
    split
    · exact List.Perm.refl _
    · exact (List.Perm.cons b ih).trans (List.Perm.swap a b l)
theorem srt_perm (l : List Rcd) : (srt l).Perm l := by
  induction l with
  | nil => exact List.Perm.refl _
  | cons a l ih => exact (insR_perm a _).trans (List.Perm.cons a ih)
theorem insR_sorted (a : Rcd) {l : List Rcd} (h : l.Pairwise (fun x y => x.id < y.id)) (hn : ∀ b ∈ l, b.id ≠ a.id) : (insR a l).Pairwise (fun x y => x.id < y.id) := by
  induction l with
  | nil => simp [insR]
  | cons b l ih =>
    obtain ⟨h1, h2⟩ := List.pairwise_cons.1 h
    unfold insR
    split
    · rename_i hlt
      refine List.pairwise_cons.2 ⟨fun x hx => ?_, h⟩
      rcases List.mem_cons.1 hx with rfl | hx
      · exact hlt
      · have := h1 x hx; omega
    · rename_i hlt
      refine List.pairwise_cons.2 ⟨fun x hx => ?_, ih h2 (fun x hx => hn x (by simp [hx]))⟩
      rcases List.mem_cons.1 ((insR_perm a l).mem_iff.1 hx) with rfl | hx
      · have := hn b (by simp); omega
      · exact h1 x hx
theorem srt_sorted {l : List Rcd} (h : (l.map (·.id)).Nodup) : (srt l).Pairwise (fun x y => x.id < y.id) := by
  induction l with
  | nil => simp [srt]
  | cons a l ih =>
    obtain ⟨h1, h2⟩ := List.nodup_cons.1 h
    exact insR_sorted a (ih h2) (fun b hb e => h1 (by show a.id ∈ _; rw [← e]; exact List.mem_map_of_mem ((srt_perm l).mem_iff.1 hb)))
theorem srt_eq {l l' : List Rcd} (p : l'.Perm l) (h : l'.Pairwise (fun x y => x.id < y.id)) : l' = srt l := by
  refine sorted_eq (p.trans (srt_perm l).symm) h (srt_sorted ?_)
  refine (List.Perm.nodup_iff (p.map (·.id))).1 ?_
  refine (List.pairwise_map).2 (h.imp (fun {x y} h => ?_))
  show x.id ≠ y.id
  omega
theorem recsE_zero {rs : List Rcd} (h : recsE rs = 0) : rs.length ≤ 24 ∧ (∀ x ∈ rs, x.ok = true) ∧ (rs.map (·.id)).Nodup := by
  unfold recsE at h
  split at h
  · cases h
  · split at h
    · rename_i h1 h2
      split at h
      · rename_i h3
        exact ⟨by omega, fun x hx => List.all_eq_true.1 h2 x hx, h3⟩
      · cases h
    · cases h

/-- The pair of two records, if the first is the lesser, and they agree so. -/
def pairAt (r : Rul) (v : Int) (x y : Rcd) : List (Int × Int) := if x.id < y.id ∧ (cmpN r x y).vd = v then [(x.id, y.id)] else []
def pairsK (r : Rul) (rs : List Rcd) (v : Int) (k : Nat) : List (Int × Int) := (List.range k).flatMap (fun t => pairAt r v rs[t / rs.length]! rs[t % rs.length]!)
theorem pairsK_succ (r : Rul) (rs : List Rcd) (v : Int) (k : Nat) : pairsK r rs v (k + 1) = pairsK r rs v k ++ pairAt r v rs[k / rs.length]! rs[k % rs.length]! := by
  simp [pairsK, List.range_succ]
def pairErr (r : Rul) (rs : List Rcd) : Int := if r.ok then recsE rs else 10
/-- The pairs of a list. -/
def pairsN (r : Rul) (rs : List Rcd) (v : Int) : List (Int × Int) := if pairErr r rs = 0 then pairsK r (srt rs) v (rs.length * rs.length) else []
def pcells (l : List (Int × Int)) : List Value := l.flatMap (fun p => [.int .i64 p.1, .int .i64 p.2])
theorem pcells_append (l m : List (Int × Int)) : pcells (l ++ m) = pcells l ++ pcells m := by simp [pcells]
theorem pcells_len (l : List (Int × Int)) : (pcells l).length = l.length * 2 := by
  induction l with
  | nil => rfl
  | cons a l ih => simp only [pcells, List.flatMap_cons, List.length_append, List.length_cons, List.length_nil] at ih ⊢; omega
theorem pairAt_len (r : Rul) (v : Int) (x y : Rcd) : (pairAt r v x y).length ≤ 1 := by
  unfold pairAt
  split <;> simp
theorem pairsK_len (r : Rul) (rs : List Rcd) (v : Int) (k : Nat) : (pairsK r rs v k).length ≤ k := by
  induction k with
  | zero => simp [pairsK]
  | succ k ih =>
    rw [pairsK_succ, List.length_append]
    have := pairAt_len r v rs[k / rs.length]! rs[k % rs.length]!
    omega
/-- A value is a slice that holds these pairs. -/
def PairsIn (W : World) (v : Value) (l : List (Int × Int)) : Prop := ∃ A c, v = .slice A l.length c ∧ Rd W 2 A l.length (pcells l)
theorem PairsIn.gr {W W' : World} {v : Value} {l : List (Int × Int)} (h : PairsIn W v l) (g : Gr W W') : PairsIn W' v l := by
  obtain ⟨A, c, e, h⟩ := h
  exact ⟨A, c, e, h.gr g⟩
/-- What a walk asks of an element. -/
structure EltIn (w : World) (e : Elt) : Prop where
  at_ : e.r.In w e.A e.n e.B e.m
  cap : e.n ≤ e.c ∧ e.c ≤ 9223372036854775807
  sfx : 0 ≤ e.r.suffix
theorem EltIn.gr {w w' : World} {e : Elt} (h : EltIn w e) (g : Gr w w') : EltIn w' e := ⟨h.at_.gr g, h.cap, h.sfx⟩
end Go.Proofs.YtlkjimfkapcenaaGreatDoor
namespace Go.Proofs.YtlkjimfkapcenaaGreatDoor
open Go.RowKit

def ex1 : Rcd := ⟨1, [⟨#[83, 77, 73, 84, 72]⟩, ⟨#[74, 79, 72, 78]⟩, ⟨#[80, 65, 85, 76]⟩], 0, 5000, 5000, ⟨#[49, 50, 51, 52, 53, 54, 55, 56, 57]⟩, false, [⟨7, 100, 200⟩]⟩
def ex2 : Rcd := ⟨2, [⟨#[83, 77, 89, 84, 72]⟩, ⟨#[74, 79, 72, 78]⟩], 0, 5000, 5000, ⟨#[49, 50, 51, 52, 53, 54, 55, 56, 48]⟩, false, [⟨7, 150, 300⟩]⟩
def ex3 : Rcd := ⟨3, [⟨#[83, 77, 73, 84, 72]⟩, ⟨#[74]⟩], 0, 5000, 5000, ⟨#[]⟩, false, [⟨7, 180, 190⟩]⟩
def ex4 : Rcd := ⟨4, [⟨#[83, 77, 73, 84, 72]⟩, ⟨#[74, 79, 72, 78]⟩], 2, 14000, 14100, ⟨#[]⟩, false, [⟨7, 100, 400⟩]⟩
def ex5 : Rcd := ⟨5, [⟨#[83, 77, 73, 84, 72]⟩, ⟨#[74, 79, 72, 78]⟩, ⟨#[80, 65, 85, 76]⟩], 1, 5000, 5000, ⟨#[57, 56, 55, 54, 53, 52, 51, 50, 49]⟩, false, [⟨8, 0, 50⟩]⟩
/-- The people of the examples. -/
def exL : List Rcd := [ex1, ex2, ex3, ex4, ex5]
/-- The rules of the examples. -/
def exR : Rul := ⟨2, 1, 30, 10⟩
theorem Rd.of_row {W : World} {b n size : Nat} {t : TypeId} {cs : Array Value} {xs : List Value} (h : W.heap[b]? = some (.cells cs t (0, 0))) (hx : cs.toList = xs) (hl : xs.length = n * size) : Rd W size (some ⟨b, 0, none⟩) n xs :=
  ⟨hl, fun _ => ⟨b, 0, rfl, (Array.getElem?_eq_some_iff.1 h).1, fun j u hu => by
    rw [Nat.zero_add, cell_of_row W b j cs t _ h]
    subst hx
    simpa using hu⟩⟩
theorem RdE.of_row {W : World} {b : Nat} {t : TypeId} {cs : Array Value} {es : List Elt} (h : W.heap[b]? = some (.cells cs t (0, 0))) (hx : cs.toList = flatE es) : RdE W (some ⟨b, 0, none⟩) es.length es :=
  ⟨rfl, fun _ => ⟨b, 0, rfl, (Array.getElem?_eq_some_iff.1 h).1, fun j e he k u hu => by
    have hj : j < es.length := (List.getElem?_eq_some_iff.1 he).1
    have hk : k < 8 := by rw [← e.len]; exact (List.getElem?_eq_some_iff.1 hu).1
    rw [Nat.zero_add, cell_of_row W b (j * 8 + k) cs t _ h]
    have h1 := flatMap_get (f := Elt.cells) Elt.len hj hk
    have h2 : es[j]! = e := by rw [getElem!_pos es j hj]; exact (List.getElem?_eq_some_iff.1 he).2
    rw [h2, hu] at h1
    have h3 : cs.toList[j * 8 + k]? = some u := by rw [hx]; exact h1
    simpa using h3⟩⟩

set_option maxRecDepth 100000 in
set_option maxHeartbeats 1000000 in
theorem span_any (lo hi : Int) (w : World) : Calls Tryz.prog 15 #[.int .i64 lo, .int .i64 hi] w fun e w' => e = .returned (.agg #[.int .i64 lo, .int .i64 hi]) ∧ w' = w.alloc (.cells #[.int .i64 lo, .int .i64 hi] 38) := by
  go_enter Tryz.func15, Tryz.ntmps15
  go_wp2
  refine bodyPost_ret (v := .agg #[.int .i64 lo, .int .i64 hi]) ?_ rfl ⟨rfl, rfl⟩
  simp [results, Tryz.results15, go_sem]

set_option maxRecDepth 100000 in
set_option maxHeartbeats 1000000 in
theorem exRules_any (w : World) : Calls Tryz.prog 9 #[] w fun e w' => e = .returned exR.val ∧ Gr w w' := by
  unfold exR Rul.val
  go_enter Tryz.func9, Tryz.ntmps9
  go_wp2
  refine bodyPost_ret (v := .agg #[.int .i64 2, .int .i64 1, .int .i64 30, .int .i64 10]) ?_ rfl ⟨rfl, ?_⟩
  · simp [results, Tryz.results9, go_sem]
  · (repeat (first | with_reducible exact Gr.refl _ | with_reducible refine Gr.alloc ?_ _ | with_reducible refine Gr.setCell ?_ (by simp) _ | with_reducible refine Gr.setCell ?_ (by simp; omega) _ | with_reducible refine Gr.drew ?_ | with_reducible refine Gr.drewN ?_ _))

/-- The blocks that people lays. -/
def exW (w : World) : World := ((((((((((((((((w.alloc (.cells #[.string ⟨#[83, 77, 73, 84, 72]⟩, .string ⟨#[74, 79, 72, 78]⟩, .string ⟨#[80, 65, 85, 76]⟩] 9)).alloc (.cells #[.int .i64 5000, .int .i64 5000] 38)).alloc (.cells #[.int .i64 7, .int .i64 100, .int .i64 200] 55)).alloc (.cells #[.string ⟨#[83, 77, 89, 84, 72]⟩, .string ⟨#[74, 79, 72, 78]⟩] 9)).alloc (.cells #[.int .i64 5000, .int .i64 5000] 38)).alloc (.cells #[.int .i64 7, .int .i64 150, .int .i64 300] 55)).alloc (.cells #[.string ⟨#[83, 77, 73, 84, 72]⟩, .string ⟨#[74]⟩] 9)).alloc (.cells #[.int .i64 5000, .int .i64 5000] 38)).alloc (.cells #[.int .i64 7, .int .i64 180, .int .i64 190] 55)).alloc (.cells #[.string ⟨#[83, 77, 73, 84, 72]⟩, .string ⟨#[74, 79, 72, 78]⟩] 9)).alloc (.cells #[.int .i64 14000, .int .i64 14100] 38)).alloc (.cells #[.int .i64 7, .int .i64 100, .int .i64 400] 55)).alloc (.cells #[.string ⟨#[83, 77, 73, 84, 72]⟩, .string ⟨#[74, 79, 72, 78]⟩, .string ⟨#[80, 65, 85, 76]⟩] 9)).alloc (.cells #[.int .i64 5000, .int .i64 5000] 38)).alloc (.cells #[.int .i64 8, .int .i64 0, .int .i64 50] 55)).alloc (.cells #[.int .i64 1, .slice (some ⟨w.heap.size, 0, none⟩) 3 3, .int .u8 0, .int .i64 5000, .int .i64 5000, .string ⟨#[49, 50, 51, 52, 53, 54, 55, 56, 57]⟩, .bool false, .slice (some ⟨w.heap.size + 2, 0, none⟩) 1 1, .int .i64 2, .slice (some ⟨w.heap.size + 3, 0, none⟩) 2 2, .int .u8 0, .int .i64 5000, .int .i64 5000, .string ⟨#[49, 50, 51, 52, 53, 54, 55, 56, 48]⟩, .bool false, .slice (some ⟨w.heap.size + 5, 0, none⟩) 1 1, .int .i64 3, .slice (some ⟨w.heap.size + 6, 0, none⟩) 2 2, .int .u8 0, .int .i64 5000, .int .i64 5000, .string ⟨#[]⟩, .bool false, .slice (some ⟨w.heap.size + 8, 0, none⟩) 1 1, .int .i64 4, .slice (some ⟨w.heap.size + 9, 0, none⟩) 2 2, .int .u8 2, .int .i64 14000, .int .i64 14100, .string ⟨#[]⟩, .bool false, .slice (some ⟨w.heap.size + 11, 0, none⟩) 1 1, .int .i64 5, .slice (some ⟨w.heap.size + 12, 0, none⟩) 3 3, .int .u8 1, .int .i64 5000, .int .i64 5000, .string ⟨#[57, 56, 55, 54, 53, 52, 51, 50, 49]⟩, .bool false, .slice (some ⟨w.heap.size + 14, 0, none⟩) 1 1] 41))
def exE (w : World) : List Elt := [⟨ex1, some ⟨w.heap.size, 0, none⟩, 3, 3, some ⟨w.heap.size + 2, 0, none⟩, 1, 1⟩, ⟨ex2, some ⟨w.heap.size + 3, 0, none⟩, 2, 2, some ⟨w.heap.size + 5, 0, none⟩, 1, 1⟩, ⟨ex3, some ⟨w.heap.size + 6, 0, none⟩, 2, 2, some ⟨w.heap.size + 8, 0, none⟩, 1, 1⟩, ⟨ex4, some ⟨w.heap.size + 9, 0, none⟩, 2, 2, some ⟨w.heap.size + 11, 0, none⟩, 1, 1⟩, ⟨ex5, some ⟨w.heap.size + 12, 0, none⟩, 3, 3, some ⟨w.heap.size + 14, 0, none⟩, 1, 1⟩]
set_option maxRecDepth 100000 in
set_option maxHeartbeats 4000000 in
theorem people_walk (w : World) : Calls Tryz.prog 6 #[] w fun e w' => e = .returned (.slice (some ⟨w.heap.size + 15, 0, none⟩) 5 5) ∧ w' = exW w := by
  go_enter Tryz.func6, Tryz.ntmps6
  go_wp2_with (go_at_call 15; refine (span_any _ _ _).mono ?_; rintro e w' ⟨rfl, rfl⟩)
  go_ret
  exact ⟨rfl, rfl⟩
theorem exW_gr (w : World) : Gr w (exW w) := ((((((((((((((((Gr.refl w).alloc _).alloc _).alloc _).alloc _).alloc _).alloc _).alloc _).alloc _).alloc _).alloc _).alloc _).alloc _).alloc _).alloc _).alloc _).alloc _
theorem exW_row0 (w : World) : (exW w).heap[w.heap.size]? = some (.cells #[.string ⟨#[83, 77, 73, 84, 72]⟩, .string ⟨#[74, 79, 72, 78]⟩, .string ⟨#[80, 65, 85, 76]⟩] 9 (0, 0)) := al_keep (al_keep (al_keep (al_keep (al_keep (al_keep (al_keep (al_keep (al_keep (al_keep (al_keep (al_keep (al_keep (al_keep (al_keep (al_new (by simp)) _) _) _) _) _) _) _) _) _) _) _) _) _) _) _
theorem exW_row2 (w : World) : (exW w).heap[w.heap.size + 2]? = some (.cells #[.int .i64 7, .int .i64 100, .int .i64 200] 55 (0, 0)) := al_keep (al_keep (al_keep (al_keep (al_keep (al_keep (al_keep (al_keep (al_keep (al_keep (al_keep (al_keep (al_keep (al_new (by simp)) _) _) _) _) _) _) _) _) _) _) _) _) _
theorem exW_row3 (w : World) : (exW w).heap[w.heap.size + 3]? = some (.cells #[.string ⟨#[83, 77, 89, 84, 72]⟩, .string ⟨#[74, 79, 72, 78]⟩] 9 (0, 0)) := al_keep (al_keep (al_keep (al_keep (al_keep (al_keep (al_keep (al_keep (al_keep (al_keep (al_keep (al_keep (al_new (by simp)) _) _) _) _) _) _) _) _) _) _) _) _
theorem exW_row5 (w : World) : (exW w).heap[w.heap.size + 5]? = some (.cells #[.int .i64 7, .int .i64 150, .int .i64 300] 55 (0, 0)) := al_keep (al_keep (al_keep (al_keep (al_keep (al_keep (al_keep (al_keep (al_keep (al_keep (al_new (by simp)) _) _) _) _) _) _) _) _) _) _
theorem exW_row6 (w : World) : (exW w).heap[w.heap.size + 6]? = some (.cells #[.string ⟨#[83, 77, 73, 84, 72]⟩, .string ⟨#[74]⟩] 9 (0, 0)) := al_keep (al_keep (al_keep (al_keep (al_keep (al_keep (al_keep (al_keep (al_keep (al_new (by simp)) _) _) _) _) _) _) _) _) _
theorem exW_row8 (w : World) : (exW w).heap[w.heap.size + 8]? = some (.cells #[.int .i64 7, .int .i64 180, .int .i64 190] 55 (0, 0)) := al_keep (al_keep (al_keep (al_keep (al_keep (al_keep (al_keep (al_new (by simp)) _) _) _) _) _) _) _
theorem exW_row9 (w : World) : (exW w).heap[w.heap.size + 9]? = some (.cells #[.string ⟨#[83, 77, 73, 84, 72]⟩, .string ⟨#[74, 79, 72, 78]⟩] 9 (0, 0)) := al_keep (al_keep (al_keep (al_keep (al_keep (al_keep (al_new (by simp)) _) _) _) _) _) _
theorem exW_row11 (w : World) : (exW w).heap[w.heap.size + 11]? = some (.cells #[.int .i64 7, .int .i64 100, .int .i64 400] 55 (0, 0)) := al_keep (al_keep (al_keep (al_keep (al_new (by simp)) _) _) _) _
theorem exW_row12 (w : World) : (exW w).heap[w.heap.size + 12]? = some (.cells #[.string ⟨#[83, 77, 73, 84, 72]⟩, .string ⟨#[74, 79, 72, 78]⟩, .string ⟨#[80, 65, 85, 76]⟩] 9 (0, 0)) := al_keep (al_keep (al_keep (al_new (by simp)) _) _) _
theorem exW_row14 (w : World) : (exW w).heap[w.heap.size + 14]? = some (.cells #[.int .i64 8, .int .i64 0, .int .i64 50] 55 (0, 0)) := al_keep (al_new (by simp)) _
theorem exW_row15 (w : World) : (exW w).heap[w.heap.size + 15]? = some (.cells #[.int .i64 1, .slice (some ⟨w.heap.size, 0, none⟩) 3 3, .int .u8 0, .int .i64 5000, .int .i64 5000, .string ⟨#[49, 50, 51, 52, 53, 54, 55, 56, 57]⟩, .bool false, .slice (some ⟨w.heap.size + 2, 0, none⟩) 1 1, .int .i64 2, .slice (some ⟨w.heap.size + 3, 0, none⟩) 2 2, .int .u8 0, .int .i64 5000, .int .i64 5000, .string ⟨#[49, 50, 51, 52, 53, 54, 55, 56, 48]⟩, .bool false, .slice (some ⟨w.heap.size + 5, 0, none⟩) 1 1, .int .i64 3, .slice (some ⟨w.heap.size + 6, 0, none⟩) 2 2, .int .u8 0, .int .i64 5000, .int .i64 5000, .string ⟨#[]⟩, .bool false, .slice (some ⟨w.heap.size + 8, 0, none⟩) 1 1, .int .i64 4, .slice (some ⟨w.heap.size + 9, 0, none⟩) 2 2, .int .u8 2, .int .i64 14000, .int .i64 14100, .string ⟨#[]⟩, .bool false, .slice (some ⟨w.heap.size + 11, 0, none⟩) 1 1, .int .i64 5, .slice (some ⟨w.heap.size + 12, 0, none⟩) 3 3, .int .u8 1, .int .i64 5000, .int .i64 5000, .string ⟨#[57, 56, 55, 54, 53, 52, 51, 50, 49]⟩, .bool false, .slice (some ⟨w.heap.size + 14, 0, none⟩) 1 1] 41 (0, 0)) := al_new (by simp)
theorem exE_in (w : World) : ∀ e ∈ exE w, EltIn (exW w) e := by
  intro e he
  simp only [exE, List.mem_cons, List.not_mem_nil, or_false] at he
  rcases he with rfl | rfl | rfl | rfl | rfl
  · refine ⟨⟨Rd.of_row (exW_row0 w) rfl rfl, Rd.of_row (exW_row2 w) rfl rfl, by show 3 ≤ 9223372036854775807; omega, by show 1 ≤ 9223372036854775807; omega, ?_, by show 9 ≤ maxLen; unfold maxLen; omega⟩, ⟨by show 3 ≤ 3; omega, by show 3 ≤ 9223372036854775807; omega⟩, by show (0 : Int) ≤ 0; omega⟩
    intro s hs
    simp only [ex1, List.mem_cons, List.not_mem_nil, or_false] at hs
    rcases hs with rfl | rfl | rfl <;> decide
  · refine ⟨⟨Rd.of_row (exW_row3 w) rfl rfl, Rd.of_row (exW_row5 w) rfl rfl, by show 2 ≤ 9223372036854775807; omega, by show 1 ≤ 9223372036854775807; omega, ?_, by show 9 ≤ maxLen; unfold maxLen; omega⟩, ⟨by show 2 ≤ 2; omega, by show 2 ≤ 9223372036854775807; omega⟩, by show (0 : Int) ≤ 0; omega⟩
    intro s hs
    simp only [ex2, List.mem_cons, List.not_mem_nil, or_false] at hs
    rcases hs with rfl | rfl <;> decide
  · refine ⟨⟨Rd.of_row (exW_row6 w) rfl rfl, Rd.of_row (exW_row8 w) rfl rfl, by show 2 ≤ 9223372036854775807; omega, by show 1 ≤ 9223372036854775807; omega, ?_, by show 0 ≤ maxLen; unfold maxLen; omega⟩, ⟨by show 2 ≤ 2; omega, by show 2 ≤ 9223372036854775807; omega⟩, by show (0 : Int) ≤ 0; omega⟩
    intro s hs
    simp only [ex3, List.mem_cons, List.not_mem_nil, or_false] at hs
    rcases hs with rfl | rfl <;> decide
  · refine ⟨⟨Rd.of_row (exW_row9 w) rfl rfl, Rd.of_row (exW_row11 w) rfl rfl, by show 2 ≤ 9223372036854775807; omega, by show 1 ≤ 9223372036854775807; omega, ?_, by show 0 ≤ maxLen; unfold maxLen; omega⟩, ⟨by show 2 ≤ 2; omega, by show 2 ≤ 9223372036854775807; omega⟩, by show (0 : Int) ≤ 2; omega⟩
    intro s hs
    simp only [ex4, List.mem_cons, List.not_mem_nil, or_false] at hs
    rcases hs with rfl | rfl <;> decide
  · refine ⟨⟨Rd.of_row (exW_row12 w) rfl rfl, Rd.of_row (exW_row14 w) rfl rfl, by show 3 ≤ 9223372036854775807; omega, by show 1 ≤ 9223372036854775807; omega, ?_, by show 9 ≤ maxLen; unfold maxLen; omega⟩, ⟨by show 3 ≤ 3; omega, by show 3 ≤ 9223372036854775807; omega⟩, by show (0 : Int) ≤ 1; omega⟩
    intro s hs
    simp only [ex5, List.mem_cons, List.not_mem_nil, or_false] at hs
    rcases hs with rfl | rfl | rfl <;> decide
theorem people_any (w : World) : Calls Tryz.prog 6 #[] w fun e w' => ∃ b es, e = .returned (.slice (some ⟨b, 0, none⟩) 5 5) ∧ es.length = 5 ∧ RdE w' (some ⟨b, 0, none⟩) 5 es ∧ (∀ e ∈ es, EltIn w' e) ∧ es.map (·.r) = exL ∧ Gr w w' :=
  (people_walk w).mono fun e w' ⟨h1, h2⟩ => by
    subst h2
    exact ⟨_, exE w, h1, rfl, RdE.of_row (exW_row15 w) rfl, exE_in w, rfl, exW_gr w⟩
end Go.Proofs.YtlkjimfkapcenaaGreatDoor
namespace Go.Proofs.YtlkjimfkapcenaaGreatDoor
open Go.RowKit

/-- A stay at a place on a day. -/
def onB (day : Int) (s : Sty) : Bool := decide (s.from_ ≤ day) && decide (day ≤ s.to_)
def atB (day p : Int) (s : Sty) : Bool := onB day s && decide (s.place = p)
/-- Who of some records was at a place, in their order. -/
def homeL (day p : Int) (rs : List Rcd) : List Int := (rs.filter (fun r => r.stays.any (atB day p))).map (·.id)
theorem homeL_snoc (day p : Int) (rs : List Rcd) (x : Rcd) : homeL day p (rs ++ [x]) = homeL day p rs ++ if x.stays.any (atB day p) then [x.id] else [] := by
  unfold homeL
  rw [List.filter_append, List.map_append]
  by_cases h : x.stays.any (atB day p) = true
  · simp [h]
  · simp [h]
theorem homeL_mem {day p : Int} {rs : List Rcd} {i : Int} (h : i ∈ homeL day p rs) : ∃ r ∈ rs, r.id = i := by
  unfold homeL at h
  obtain ⟨r, hr, e⟩ := List.mem_map.1 h
  exact ⟨r, (List.mem_filter.1 hr).1, e⟩
/-- What a map holds at a place when some records have been seen, and some stays of the next one. -/
def homeF (day : Int) (rs : List Rcd) (i k : Nat) (p : Int) : List Int :=
  homeL day p (rs.take i) ++ if i < rs.length ∧ (rs[i]!.stays.take k).any (atB day p) = true then [rs[i]!.id] else []
theorem homeF_zero (day : Int) (rs : List Rcd) (i : Nat) (p : Int) : homeF day rs i 0 p = homeL day p (rs.take i) := by
  unfold homeF; simp
theorem homeF_done (day : Int) (rs : List Rcd) (i : Nat) (p : Int) (hi : i < rs.length) : homeF day rs i rs[i]!.stays.length p = homeF day rs (i + 1) 0 p := by
  rw [homeF_zero]
  unfold homeF
  rw [List.take_succ_eq_append_getElem hi, homeL_snoc, List.take_length]
  have e : rs[i]! = rs[i] := getElem!_pos rs i hi
  rw [e]
  simp [hi]
theorem any_take_succ {α : Type} [Inhabited α] (f : α → Bool) (l : List α) (k : Nat) (hk : k < l.length) : (l.take (k + 1)).any f = ((l.take k).any f || f l[k]!) := by
  rw [List.take_succ_eq_append_getElem hk, List.any_append, getElem!_pos l k hk]
  simp
/-- A stay that is none of the day, or of somebody who is told, changes nothing. -/
theorem homeF_skip (day : Int) (rs : List Rcd) (i k : Nat) (p : Int) (hk : k < rs[i]!.stays.length) (h : onB day rs[i]!.stays[k]! = false ∨ p ≠ rs[i]!.stays[k]!.place ∨ (rs[i]!.stays.take k).any (atB day p) = true) : homeF day rs i (k + 1) p = homeF day rs i k p := by
  have e : ((rs[i]!.stays.take (k + 1)).any (atB day p) = true) ↔ ((rs[i]!.stays.take k).any (atB day p) = true) := by
    rw [any_take_succ _ _ _ hk, Bool.or_eq_true]
    constructor
    · rintro (h1 | h1)
      · exact h1
      · unfold atB at h1
        simp only [Bool.and_eq_true, decide_eq_true_eq] at h1
        rcases h with h | h | h
        · rw [h] at h1; exact absurd h1.1 (by simp)
        · exact absurd h1.2.symm h
        · exact h
    · exact .inl
  unfold homeF
  by_cases h1 : i < rs.length ∧ (rs[i]!.stays.take k).any (atB day p) = true
  · rw [if_pos h1, if_pos ⟨h1.1, e.2 h1.2⟩]
  · rw [if_neg h1, if_neg (fun h2 => h1 ⟨h2.1, e.1 h2.2⟩)]
theorem homeF_more (day : Int) (rs : List Rcd) (i k : Nat) (hi : i < rs.length) (hk : k < rs[i]!.stays.length) (h : onB day rs[i]!.stays[k]! = true) (hn : (rs[i]!.stays.take k).any (atB day rs[i]!.stays[k]!.place) = false) :
    homeF day rs i (k + 1) rs[i]!.stays[k]!.place = homeF day rs i k rs[i]!.stays[k]!.place ++ [rs[i]!.id] := by
  have e : (rs[i]!.stays.take (k + 1)).any (atB day rs[i]!.stays[k]!.place) = true := by
    rw [any_take_succ _ _ _ hk, Bool.or_eq_true]
    exact .inr (by unfold atB; rw [h]; simp)
  unfold homeF
  rw [if_pos ⟨hi, e⟩, if_neg (fun h2 => by rw [hn] at h2; exact absurd h2.2 (by simp))]
  simp
/-- Somebody is told last just where a stay of his has been seen. -/
theorem homeF_last (day : Int) (rs : List Rcd) (i k : Nat) (p : Int) (hi : i < rs.length) (hs : rs.Pairwise (fun x y => x.id < y.id)) :
    (rs[i]!.stays.take k).any (atB day p) = true ↔ (homeF day rs i k p ≠ [] ∧ (homeF day rs i k p)[(homeF day rs i k p).length - 1]! = rs[i]!.id) := by
  constructor
  · intro h
    unfold homeF
    rw [if_pos ⟨hi, h⟩]
    refine ⟨by simp, ?_⟩
    simp
  · intro ⟨h1, h2⟩
    rcases Bool.eq_false_or_eq_true ((rs[i]!.stays.take k).any (atB day p)) with h | h
    · exact h
    · exfalso
      have e : homeF day rs i k p = homeL day p (rs.take i) := by
        unfold homeF
        rw [if_neg (fun h3 => by rw [h] at h3; exact absurd h3.2 (by simp))]
        simp
      rw [e] at h1 h2
      have hl : 0 < (homeL day p (rs.take i)).length := by
        rcases Nat.eq_zero_or_pos (homeL day p (rs.take i)).length with h3 | h3
        · exact absurd (List.length_eq_zero_iff.1 h3) h1
        · exact h3
      rw [getElem!_pos _ _ (by omega)] at h2
      obtain ⟨r, hr, er⟩ := homeL_mem (List.getElem_mem (l := homeL day p (rs.take i)) (n := (homeL day p (rs.take i)).length - 1) (by omega))
      rw [h2, getElem!_pos rs i hi] at er
      obtain ⟨j, hj, ej⟩ := List.getElem_of_mem hr
      rw [List.length_take] at hj
      rw [List.getElem_take] at ej
      have := (List.pairwise_iff_getElem.1 hs) j i (by omega) hi (by omega)
      rw [ej] at this
      omega
/-- Numbers in order, each once. -/
def insP (x : Int) : List Int → List Int
  | [] => [x]
  | y :: l => if x < y then x :: y :: l else if x = y then y :: l else y :: insP x l
def placesL (day : Int) (rs : List Rcd) : List Int := ((rs.flatMap (fun r => r.stays.filter (onB day))).map (·.place)).foldr insP []
theorem insP_mem (x y : Int) (l : List Int) : y ∈ insP x l ↔ y = x ∨ y ∈ l := by
  induction l with
  | nil => simp [insP]
  | cons z l ih =>
    unfold insP
    split
    · simp
    · split
      · rename_i h1 h2; subst h2; simp
      · simp only [List.mem_cons, ih]
        constructor
        · rintro (h | h | h)
          · exact .inr (.inl h)
          · exact .inl h
          · exact .inr (.inr h)
        · rintro (h | h | h)
          · exact .inr (.inl h)
          · exact .inl h
          · exact .inr (.inr h)
theorem insP_sorted (x : Int) {l : List Int} (h : l.Pairwise (· < ·)) : (insP x l).Pairwise (· < ·) := by
  induction l with
  | nil => simp [insP]
  | cons z l ih =>
    obtain ⟨h1, h2⟩ := List.pairwise_cons.1 h
    unfold insP
    split
    · rename_i hlt
      refine List.pairwise_cons.2 ⟨fun y hy => ?_, h⟩
      rcases List.mem_cons.1 hy with rfl | hy
      · exact hlt
      · have := h1 y hy; omega
    · split
      · exact h
      · refine List.pairwise_cons.2 ⟨fun y hy => ?_, ih h2⟩
        rcases (insP_mem x y l).1 hy with rfl | hy
        · omega
        · exact h1 y hy
theorem foldr_insP (l : List Int) : (l.foldr insP []).Pairwise (· < ·) ∧ ∀ y, y ∈ l.foldr insP [] ↔ y ∈ l := by
  induction l with
  | nil => simp
  | cons x l ih => exact ⟨insP_sorted x ih.1, fun y => by rw [List.foldr_cons, insP_mem, ih.2, List.mem_cons]⟩
/-- Two lists in order, of the same numbers: one list. -/
theorem asc_eq {l l' : List Int} (h : l.Pairwise (· < ·)) (h' : l'.Pairwise (· < ·)) (e : ∀ y, y ∈ l ↔ y ∈ l') : l = l' := by
  induction l generalizing l' with
  | nil =>
    cases l' with
    | nil => rfl
    | cons b l' => exact absurd ((e b).2 (by simp)) (by simp)
  | cons a l ih =>
    cases l' with
    | nil => exact absurd ((e a).1 (by simp)) (by simp)
    | cons b l' =>
      obtain ⟨h1, h2⟩ := List.pairwise_cons.1 h
      obtain ⟨h1', h2'⟩ := List.pairwise_cons.1 h'
      have hab : a = b := by
        rcases List.mem_cons.1 ((e a).1 (by simp)) with k | k
        · exact k
        · rcases List.mem_cons.1 ((e b).2 (by simp)) with k' | k'
          · exact k'.symm
          · have := h1 b k'; have := h1' a k; omega
      subst hab
      rw [ih h2 h2' (fun y => ?_)]
      constructor
      · intro hy
        rcases List.mem_cons.1 ((e y).1 (by simp [hy])) with rfl | k
        · have := h1 _ hy; omega
        · exact k
      · intro hy
        rcases List.mem_cons.1 ((e y).2 (by simp [hy])) with rfl | k
        · have := h1' _ hy; omega
        · exact k
theorem homeL_ne (day p : Int) (rs : List Rcd) : homeL day p rs ≠ [] ↔ p ∈ placesL day rs := by
  unfold placesL
  rw [(foldr_insP _).2]
  unfold homeL
  constructor
  · intro h
    obtain ⟨i, hi⟩ := List.exists_mem_of_ne_nil _ h
    obtain ⟨r, hr, _⟩ := List.mem_map.1 hi
    obtain ⟨hr1, hr2⟩ := List.mem_filter.1 hr
    obtain ⟨s, hs, ha⟩ := List.any_eq_true.1 hr2
    unfold atB at ha
    simp only [Bool.and_eq_true, decide_eq_true_eq] at ha
    exact List.mem_map.2 ⟨s, List.mem_flatMap.2 ⟨r, hr1, List.mem_filter.2 ⟨hs, ha.1⟩⟩, ha.2⟩
  · intro h
    obtain ⟨s, hs, e⟩ := List.mem_map.1 h
    obtain ⟨r, hr, hs⟩ := List.mem_flatMap.1 hs
    obtain ⟨hs1, hs2⟩ := List.mem_filter.1 hs
    have : r ∈ rs.filter (fun r => r.stays.any (atB day p)) := List.mem_filter.2 ⟨hr, List.any_eq_true.2 ⟨s, hs1, by unfold atB; rw [hs2]; simp [e]⟩⟩
    exact List.ne_nil_of_mem (List.mem_map_of_mem (f := (·.id)) this)
def homeErr (day : Int) (rs : List Rcd) : Int := if inB 0 100000 day then recsE rs else 2
/-- Who was at one place. -/
def homesK (day : Int) (rs : List Rcd) : List (List Int) := (placesL day rs).map (fun p => homeL day p rs)
def homesN (day : Int) (rs : List Rcd) : List (List Int) := if homeErr day rs = 0 then homesK day (srt rs) else []
end Go.Proofs.YtlkjimfkapcenaaGreatDoor
namespace Go.Proofs.YtlkjimfkapcenaaGreatDoor
open Go.RowKit

set_option maxRecDepth 100000 in
theorem ex_cmp12 : cmpV exR ex1 ex2 = ⟨2, 2, 3, 3, 1⟩ ∧ cmpE exR ex1 ex2 = 0 := by
  have h : cmpN exR ex1 ex2 = ⟨2, 2, 3, 3, 1⟩ := by
    unfold cmpN namesN namesO amongB amStep alikeB
    rw [lev_fuel]
    kernel_rfl
  have o : (exR.ok && ex1.ok && ex2.ok) = true := by kernel_rfl
  exact ⟨by unfold cmpV; rw [if_pos o, h], by kernel_rfl⟩
set_option maxRecDepth 100000 in
theorem ex_cmp13 : cmpV exR ex1 ex3 = ⟨3, 1, 3, 3, 2⟩ ∧ cmpE exR ex1 ex3 = 0 := by
  have h : cmpN exR ex1 ex3 = ⟨3, 1, 3, 3, 2⟩ := by
    unfold cmpN namesN namesO amongB amStep alikeB
    rw [lev_fuel]
    kernel_rfl
  have o : (exR.ok && ex1.ok && ex3.ok) = true := by kernel_rfl
  exact ⟨by unfold cmpV; rw [if_pos o, h], by kernel_rfl⟩
set_option maxRecDepth 100000 in
theorem ex_cmp14 : cmpV exR ex1 ex4 = ⟨3, 1, 0, 3, 0⟩ ∧ cmpE exR ex1 ex4 = 0 := by
  have h : cmpN exR ex1 ex4 = ⟨3, 1, 0, 3, 0⟩ := by
    unfold cmpN namesN namesO amongB amStep alikeB
    rw [lev_fuel]
    kernel_rfl
  have o : (exR.ok && ex1.ok && ex4.ok) = true := by kernel_rfl
  exact ⟨by unfold cmpV; rw [if_pos o, h], by kernel_rfl⟩
set_option maxRecDepth 100000 in
theorem ex_pairs : pairErr exR [ex1, ex2, ex3] = 0 ∧ pairsN exR [ex1, ex2, ex3] 2 = [(1, 3)] ∧ pairsN exR [ex1, ex2, ex3] 1 = [(1, 2), (2, 3)] := by
  have h0 : pairErr exR [ex1, ex2, ex3] = 0 := by kernel_rfl
  refine ⟨h0, ?_, ?_⟩
  · unfold pairsN
    rw [if_pos h0]
    unfold pairsK pairAt cmpN namesN namesO amongB amStep alikeB
    rw [lev_fuel]
    kernel_rfl
  · unfold pairsN
    rw [if_pos h0]
    unfold pairsK pairAt cmpN namesN namesO amongB amStep alikeB
    rw [lev_fuel]
    kernel_rfl
set_option maxRecDepth 100000 in
theorem ex_homes : homeErr 185 exL = 0 ∧ homesN 185 exL = [[1, 2, 3, 4]] := by
  have h0 : homeErr 185 exL = 0 := by kernel_rfl
  refine ⟨h0, ?_⟩
  unfold homesN
  rw [if_pos h0]
  kernel_rfl
theorem ex_edits : levW ⟨#[83, 77, 73, 84, 72]⟩ ⟨#[83, 77, 89, 84, 72, 69]⟩ = 2 := by
  unfold levW
  rw [lev_fuel]
  kernel_rfl
end Go.Proofs.YtlkjimfkapcenaaGreatDoor
namespace Go.Proofs.YtlkjimfkapcenaaGreatDoor
open Go.RowKit

theorem info_pair : (Tryz.prog.info? 49).map (fun i => (i.zero, i.size, i.bytes)) = some (some (.agg #[.int .i64 0, .int .i64 0]), 2, 16) := by kernel_rfl

/-- Two slices of pairs of the call's own, of which no append touches the other. -/
structure Two2 (W : World) (base : Nat) (v1 v2 : Value) (l1 l2 : List (Int × Int)) : Prop where
  one : W.ownsRow base 49 2 v1 l1.length (pcells l1)
  two : W.ownsRow base 49 2 v2 l2.length (pcells l2)
  apart : v1.ownBlock = none ∨ v1.ownBlock ≠ v2.ownBlock

theorem gr_grown {W W' : World} (g : Gr W W') : W.grownBy W' none := ⟨g.os, g.tape, g.output, Gr.size g, fun _ hi _ => Gr.heap g hi⟩
theorem own_gr {W W' : World} {base : Nat} {e : TypeId} {size n : Nat} {v : Value} {xs : List Value} (h : W.ownsRow base e size v n xs) (g : Gr W W') : W'.ownsRow base e size v n xs :=
  h.kept (gr_grown g) (by
    cases v.ownBlock with
    | none => exact .inl rfl
    | some _ => exact .inr (by simp))
theorem Two2.gr {W W' : World} {base : Nat} {v1 v2 : Value} {l1 l2 : List (Int × Int)} (h : Two2 W base v1 v2 l1 l2) (g : Gr W W') : Two2 W' base v1 v2 l1 l2 := ⟨own_gr h.one g, own_gr h.two g, h.apart⟩
theorem Two2.push1 {W w1 : World} {base : Nat} {v1 v2 v' : Value} {l1 l2 : List (Int × Int)} {x y : Int} (h : Two2 W base v1 v2 l1 l2) (own : w1.ownsRow base 49 2 v' (l1.length + 1) (pcells l1 ++ [.int .i64 x, .int .i64 y])) (g : W.grownBy w1 v1.ownBlock)
    (hat : v'.ownBlock = v1.ownBlock ∨ v'.ownBlock = some W.heap.size) : Two2 w1 base v' v2 (l1 ++ [(x, y)]) l2 := by
  refine ⟨?_, h.two.kept g ?_, ?_⟩
  · rw [pcells_append, List.length_append]; exact own
  · rcases h.apart with e | e
    · rw [e]
      cases v2.ownBlock with
      | none => exact .inl rfl
      | some _ => exact .inr (by simp)
    · exact .inr (fun e' => e e'.symm)
  · rcases hat with e | e
    · rw [e]; exact h.apart
    · refine .inr (fun e' => ?_)
      rw [e] at e'
      have := (h.two.lt _ e'.symm).2
      omega
theorem Two2.push2 {W w1 : World} {base : Nat} {v1 v2 v' : Value} {l1 l2 : List (Int × Int)} {x y : Int} (h : Two2 W base v1 v2 l1 l2) (own : w1.ownsRow base 49 2 v' (l2.length + 1) (pcells l2 ++ [.int .i64 x, .int .i64 y])) (g : W.grownBy w1 v2.ownBlock)
    (hat : v'.ownBlock = v2.ownBlock ∨ v'.ownBlock = some W.heap.size) : Two2 w1 base v1 v' l1 (l2 ++ [(x, y)]) := by
  refine ⟨h.one.kept g h.apart, ?_, ?_⟩
  · rw [pcells_append, List.length_append]; exact own
  · rcases hat with e | e
    · rw [e]; exact h.apart
    · refine .inr (fun e' => ?_)
      rw [e] at e'
      have := (h.one.lt _ e').2
      omega
theorem own_pairs {W : World} {base : Nat} {v : Value} {l : List (Int × Int)} (h : W.ownsRow base 49 2 v l.length (pcells l)) : PairsIn W v l := by
  obtain ⟨A, c, e⟩ := own_slice h
  subst e
  exact ⟨A, c, rfl, Rd.of_own h⟩
theorem keepc8o {W W' : World} {g o : Nat} {v0 v1 v2 v3 v4 v5 v6 v7 : Value} (h : W.cell? ⟨g, o, none⟩ = some v0 ∧ W.cell? ⟨g, o + 1, none⟩ = some v1 ∧ W.cell? ⟨g, o + 2, none⟩ = some v2 ∧ W.cell? ⟨g, o + 3, none⟩ = some v3 ∧ W.cell? ⟨g, o + 4, none⟩ = some v4 ∧ W.cell? ⟨g, o + 5, none⟩ = some v5 ∧ W.cell? ⟨g, o + 6, none⟩ = some v6 ∧ W.cell? ⟨g, o + 7, none⟩ = some v7) (k : Gr W W') : W'.cell? ⟨g, o, none⟩ = some v0 ∧ W'.cell? ⟨g, o + 1, none⟩ = some v1 ∧ W'.cell? ⟨g, o + 2, none⟩ = some v2 ∧ W'.cell? ⟨g, o + 3, none⟩ = some v3 ∧ W'.cell? ⟨g, o + 4, none⟩ = some v4 ∧ W'.cell? ⟨g, o + 5, none⟩ = some v5 ∧ W'.cell? ⟨g, o + 6, none⟩ = some v6 ∧ W'.cell? ⟨g, o + 7, none⟩ = some v7 :=
  ⟨row_cell (h.1) k, row_cell (h.2.1) k, row_cell (h.2.2.1) k, row_cell (h.2.2.2.1) k, row_cell (h.2.2.2.2.1) k, row_cell (h.2.2.2.2.2.1) k, row_cell (h.2.2.2.2.2.2.1) k, row_cell (h.2.2.2.2.2.2.2) k⟩
/-- The pairs behind one round more. -/
theorem pairsK_at (r : Rul) (v : Int) {es : List Elt} {rs : List Rcd} {k i j : Nat} (h : es.map (·.r) = rs) (hi : i < es.length) (hj : j < es.length) (hk : True ∧ i = k / es.length ∧ j = k % es.length) : pairsK r rs v (k + 1) = pairsK r rs v k ++ pairAt r v es[i]!.r es[j]!.r := by
  obtain ⟨_, hi', hj'⟩ := hk
  subst h
  rw [pairsK_succ]
  simp only [List.length_map]
  rw [← hi', ← hj', getElem!_pos (es.map (·.r)) i (by simpa using hi), getElem!_pos (es.map (·.r)) j (by simpa using hj), getElem!_pos es i hi, getElem!_pos es j hj]
  simp
set_option maxRecDepth 100000 in
set_option maxHeartbeats 8000000 in
theorem pairs_any (r : Rul) (es : List Elt) (A : Option Addr) (cap : Nat) (w : World) (hI : RdE w A es.length es) (hE : ∀ e ∈ es, EltIn w e) (hbig : es.length ≤ 9223372036854775807) :
    Calls Tryz.prog 10 #[r.val, .slice A es.length cap] w fun e w' => ∃ v1 v2, e = .returned (.tuple #[v1, v2, .int .i64 (pairErr r (es.map (·.r)))]) ∧ PairsIn w' v1 (pairsN r (es.map (·.r)) 2) ∧ PairsIn w' v2 (pairsN r (es.map (·.r)) 1) ∧ Gr w w' := by
  have HL := hid (fun W (g : Gr w W) => listed_any es A cap W (hI.gr g) (fun e he => (hE e he).at_.gr g) hbig)
  have HU := hid (fun W => ruled_any r W)
  have HNil : Hid (∀ W, PairsIn W (.slice none 0 0) []) := hid (fun W => ⟨none, 0, rfl, Rd.nil_⟩)
  obtain ⟨rs, hrs⟩ : ∃ rs, rs = es.map (·.r) := ⟨_, rfl⟩
  rw [← hrs] at HL ⊢
  cases hro : r.ok with
  | false =>
    have he : pairErr r rs = 10 := by unfold pairErr; rw [hro]; rfl
    have h1 : ∀ v, pairsN r rs v = [] := fun v => by unfold pairsN; rw [he]; rfl
    rw [he, h1, h1]
    rw [hro] at HU
    clear hI hE HL
    obtain ⟨l, dg, dy, t⟩ := r
    unfold Rul.val at *
    dsimp only at *
    go_enter Tryz.func10, Tryz.ntmps10
    go_wp2_with ((go_at_call 20; (with_reducible refine (HU.out _).mono ?_); rotate_right; rintro e w1 ⟨rfl, hbw1⟩; obtain ⟨hcw1, hfw1, hzw1⟩ := hbw1.rules; (try simp at hzw1)))
    refine bodyPost_ret (results_tmp3 rfl _ _ _) rfl ?_
    exact ⟨_, _, rfl, HNil.out _, HNil.out _, by (repeat (first | with_reducible exact Gr.refl _ | with_reducible refine Gr.trans ?_ hbw1 | with_reducible refine Gr.alloc ?_ _ | with_reducible refine Gr.setCell ?_ (by simp) _ | with_reducible refine Gr.setCell ?_ (by simp; omega) _ | with_reducible refine Gr.drew ?_ | with_reducible refine Gr.drewN ?_ _))⟩
  | true =>
    have he : pairErr r rs = recsE rs := by unfold pairErr; rw [hro]; rfl
    have h1 : ∀ v, pairsN r rs v = if recsE rs = 0 then pairsK r (srt rs) v (rs.length * rs.length) else [] := fun v => by unfold pairsN; rw [he]
    rw [he, h1, h1]
    rw [hro] at HU
    by_cases hz : recsE rs = 0
    · rw [if_pos hz, if_pos hz, hz]
      obtain ⟨h24, hall, hnd⟩ := recsE_zero hz
      have HL2 : Hid (∀ W, Gr w W → Calls Tryz.prog 21 #[.slice A es.length cap] W fun e w' => ∃ A2 c2 es', e = .returned (.tuple #[.slice A2 es.length c2, .int .i64 0]) ∧ es'.length = es.length ∧ es'.map (·.r) = srt rs ∧ (∀ e ∈ es', e.r.ok = true ∧ EltIn w e) ∧ RdE w' A2 es.length es' ∧ Gr W w') := fun W g => (HL.out W g).mono (fun e w' h => by
        rcases h with h | ⟨_, v, rfl, A2, c2, es', rfl, h1, h2, h3, h4⟩
        · exact absurd hz h.1
        · have hp : (es'.map (·.r)).Perm rs := by rw [hrs]; exact h1.map _
          refine ⟨A2, c2, es', rfl, h1.length_eq, srt_eq hp (by rw [List.pairwise_map]; exact h2), fun e he => ⟨hall _ (hp.mem_iff.1 (List.mem_map_of_mem he)), hE e (h1.mem_iff.1 he)⟩, h3, h4⟩)
      have hlr : rs.length = es.length := by rw [hrs]; simp
      rw [hlr] at h24 ⊢
      have hC := hid (fun (e1 e2 : Elt) (h1 : e1.r.ok = true ∧ EltIn w e1) (h2 : e2.r.ok = true ∧ EltIn w e2) W (g : Gr w W) => compare_any r e1.r e2.r e1.A e1.n e1.c e1.B e1.m e1.d e2.A e2.n e2.c e2.B e2.m e2.d W ((good_of h1.2.at_ h1.2.cap.1 h1.2.cap.2 h1.2.sfx h1.1).gr g) ((good_of h2.2.at_ h2.2.cap.1 h2.2.cap.2 h2.2.sfx h2.1).gr g) hro)
      obtain ⟨n, hn⟩ : ∃ n, n = es.length := ⟨_, rfl⟩
      rw [← hn] at h24 HL2 ⊢
      obtain ⟨M, hM⟩ : ∃ M, M = n * n := ⟨_, rfl⟩
      rw [← hM]
      have hM2 : (n : Int) * (n : Int) = (M : Int) := by subst hM; simp
      have hMb : M ≤ 576 := by subst hM; exact Nat.mul_le_mul h24 h24
      have HM := hid hM
      have HN := hid hn
      have n0 : (n : Int) ≤ 24 := by omega
      have m0 : (M : Int) ≤ 576 := by omega
      obtain ⟨i0, hi0, hz0, hs0, hy0⟩ := info_parts info_pair
      have HI0 := hid hi0
      have HZ0 := hid hz0
      have HS0 := hid hs0
      have HY0 := hid hy0
      clear hi0 hz0 hs0 hy0 hI hE HL hrs he h1 hall hnd hlr hn hM hro
      obtain ⟨l, dg, dy, t⟩ := r
      unfold Rul.val at *
      dsimp only at *
      go_enter Tryz.func10, Tryz.ntmps10
      go_wp2_with (first
        | (go_at_call 20; (with_reducible refine (HU.out _).mono ?_); rotate_right; rintro e w1 ⟨rfl, hbw1⟩; obtain ⟨hcw1, hfw1, hzw1⟩ := hbw1.rules; (try simp at hzw1); have hzw1_0 : w.heap.size < w1.heap.size := (by omega); have hyw1_0 : w.heap.size ≤ w1.heap.size := (by omega))
        | (go_at_call 21; (with_reducible refine (HL2.out _ ?_).mono ?_); rotate_right; rintro e w2 ⟨A2, c2, es', rfl, j1, j2, j3, j4, hbw2⟩; have J1 := hid j1; have J2 := hid j2; have J3 := hid j3; have J4 := hid j4; clear j1 j2 j3 j4; obtain ⟨hcw2, hfw2, hzw2⟩ := hbw2.rules; (try simp at hzw2); have hzw2_0 : w.heap.size < w2.heap.size := (by omega)))
      · have HB1 := hid hbw1
        have G2 : Gr w w2 := ((Gr.refl w).alloc _).trans (hbw1.trans hbw2)
        have HG2 := hid G2
        have hbox : w2.heap[w.heap.size]? = some (.cells #[.int .i64 l, .int .i64 dg, .int .i64 dy, .int .i64 t] 34 (0, 0)) := row_gr (heap_alloc_new w _) (hbw1.trans hbw2)
        have HBOX := hid hbox
        have HT0 : Hid (Two2 w2 w2.heap.size (.slice none 0 0) (.slice none 0 0) (pairsK ⟨l, dg, dy, t⟩ (srt rs) 2 0) (pairsK ⟨l, dg, dy, t⟩ (srt rs) 1 0)) := ⟨World.ownsRow_nil _ _ _ _, World.ownsRow_nil _ _ _ _, .inl rfl⟩
        clear hbw1 hbw2 hcw1 hfw1 hzw1 hcw2 hfw2 hzw2 G2 hbox hzw1_0 hyw1_0
        go_loopg [4, 5, 28] M (fun gg s4 s5 s28 wr => ∃ k : Nat, k ≤ M ∧ M - k ≤ gg ∧ s28 = .int .i64 k ∧ Gr w2 wr ∧ Hid (Two2 wr w2.heap.size s4 s5 (pairsK ⟨l, dg, dy, t⟩ (srt rs) 2 k) (pairsK ⟨l, dg, dy, t⟩ (srt rs) 1 k)))
        case atStart => exact ⟨0, Nat.zero_le _, by omega, rfl, Gr.refl _, HT0⟩
        case round =>
          clear HT0
          obtain ⟨k, hk, hgk, rfl, BW, HT⟩ := hrel
          by_cases hlt : k < M
          · have hltz : (k : Int) < (M : Int) := by omega
            have hnp : 0 < n := by
              rcases Nat.eq_zero_or_pos n with h | h
              · have := HM.out; subst h; omega
              · exact h
            have hin : k / n < n := Nat.div_lt_of_lt_mul (by have := HM.out; omega)
            have hjn : k % n < n := Nat.mod_lt _ hnp
            have hq1 : Int.tdiv (k : Int) (n : Int) = ((k / n : Nat) : Int) := by simp
            have hq2 : (k : Int) / (n : Int) = ((k / n : Nat) : Int) := by simp
            have hr1 : Int.tmod (k : Int) (n : Int) = ((k % n : Nat) : Int) := by rw [Int.tmod_eq_emod_of_nonneg (by omega)]; simp
            have hq3 : IntKind.i64.wrap (Int.tdiv (k : Int) (n : Int)) = ((k / n : Nat) : Int) := by rw [hq1]; have hb := Nat.div_le_self k n; generalize k / n = z at hb ⊢; exact IntWalk.i64_in _ (by omega)
            have hr3 : IntKind.i64.wrap (Int.tmod (k : Int) (n : Int)) = ((k % n : Nat) : Int) := by rw [hr1]; have hb := Nat.mod_le k n; generalize k % n = z at hb ⊢; exact IntWalk.i64_in _ (by omega)
            have hr2 : (k : Int) % (n : Int) = ((k % n : Nat) : Int) := by simp
            have hst := hid (fun v => pairsK_at ⟨l, dg, dy, t⟩ v J2.out (by rw [J1.out]; exact hin) (by rw [J1.out]; exact hjn) (by rw [J1.out]; exact ⟨trivial, rfl, rfl⟩))
            obtain ⟨b, off, rfl, hb, hh⟩ := (RdE.gr J4.out BW).2 hnp
            have he1 : es'[k / n]? = some es'[k / n]! := by rw [getElem!_pos es' (k / n) (by rw [J1.out]; exact hin)]; exact List.getElem?_eq_getElem _
            have he2 : es'[k % n]? = some es'[k % n]! := by rw [getElem!_pos es' (k % n) (by rw [J1.out]; exact hjn)]; exact List.getElem?_eq_getElem _
            have S1 := (hh _ _ he1).all
            have S2 := (hh _ _ he2).all
            have hc1 := hC.out es'[k / n]! es'[k % n]! (J3.out _ (mem_get (by rw [J1.out]; exact hin))) (J3.out _ (mem_get (by rw [J1.out]; exact hjn)))
            generalize es'[k / n]! = x at hst S1 hc1
            generalize es'[k % n]! = y at hst S2 hc1
            generalize k / n = ii at hin hq1 hq2 hq3 S1
            generalize k % n = jj at hjn hr1 hr2 hr3 S2
            clear hh he1 he2
            obtain ⟨⟨i1, N1, u1, l1, h1, p1, t1, Y1⟩, A3, n3, c3, B3, m3, d3⟩ := x
            obtain ⟨⟨i2, N2, u2, l2, h2, p2, t2, Y2⟩, A4, n4, c4, B4, m4, d4⟩ := y
            unfold Rcd.val at hc1
            dsimp only at hst S1 S2 hc1
            have HC1 := hid hc1
            have i1z : (0 : Int) ≤ (ii : Int) := by omega
            have i2z : (ii : Int) < (n : Int) := by omega
            have j1z : (0 : Int) ≤ (jj : Int) := by omega
            have j2z : (jj : Int) < (n : Int) := by omega
            have hw1 : IntKind.i64.wrap (ii : Int) = (ii : Int) := IntWalk.i64_in _ (by omega)
            have hw2 : IntKind.i64.wrap (jj : Int) = (jj : Int) := IntWalk.i64_in _ (by omega)
            have hn0 : ¬ (n : Int) = 0 := by omega
            have hn1 : ¬ n = 0 := by omega
            clear hc1
            go_upto_region 9 with fail
            go_cut [8, 9] (fun s8 s9 wx => ∃ g8 g9 : Nat, s8 = .pointer (some ⟨g8, 0, none⟩) ∧ s9 = .pointer (some ⟨g9, 0, none⟩) ∧ Gr wr wx ∧ wx.heap[g8]? = some (.cells #[.int .i64 i1, .slice A3 n3 c3, .int .u8 u1, .int .i64 l1, .int .i64 h1, .string p1, .bool t1, .slice B3 m3 d3] 41 (0, 0)) ∧ wx.heap[g9]? = some (.cells #[.int .i64 i2, .slice A4 n4 c4, .int .u8 u2, .int .i64 l2, .int .i64 h2, .string p2, .bool t2, .slice B4 m4 d4] 41 (0, 0)))
            case first =>
              go_region_held3 (fun W => (W.cell? ⟨b, off + ii * 8, none⟩ = some (.int .i64 i1) ∧ W.cell? ⟨b, off + ii * 8 + 1, none⟩ = some (.slice A3 n3 c3) ∧ W.cell? ⟨b, off + ii * 8 + 2, none⟩ = some (.int .u8 u1) ∧ W.cell? ⟨b, off + ii * 8 + 3, none⟩ = some (.int .i64 l1) ∧ W.cell? ⟨b, off + ii * 8 + 4, none⟩ = some (.int .i64 h1) ∧ W.cell? ⟨b, off + ii * 8 + 5, none⟩ = some (.string p1) ∧ W.cell? ⟨b, off + ii * 8 + 6, none⟩ = some (.bool t1) ∧ W.cell? ⟨b, off + ii * 8 + 7, none⟩ = some (.slice B3 m3 d3)) ∧ (W.cell? ⟨b, off + jj * 8, none⟩ = some (.int .i64 i2) ∧ W.cell? ⟨b, off + jj * 8 + 1, none⟩ = some (.slice A4 n4 c4) ∧ W.cell? ⟨b, off + jj * 8 + 2, none⟩ = some (.int .u8 u2) ∧ W.cell? ⟨b, off + jj * 8 + 3, none⟩ = some (.int .i64 l2) ∧ W.cell? ⟨b, off + jj * 8 + 4, none⟩ = some (.int .i64 h2) ∧ W.cell? ⟨b, off + jj * 8 + 5, none⟩ = some (.string p2) ∧ W.cell? ⟨b, off + jj * 8 + 6, none⟩ = some (.bool t2) ∧ W.cell? ⟨b, off + jj * 8 + 7, none⟩ = some (.slice B4 m4 d4)))
                (first | exact ⟨keepc8o S1 (by (repeat (first | with_reducible exact Gr.refl _ | with_reducible refine Gr.alloc ?_ _ | with_reducible refine Gr.setCell ?_ (by simp) _ | with_reducible refine Gr.setCell ?_ (by simp; omega) _ | with_reducible refine Gr.drew ?_ | with_reducible refine Gr.drewN ?_ _))), keepc8o S2 (by (repeat (first | with_reducible exact Gr.refl _ | with_reducible refine Gr.alloc ?_ _ | with_reducible refine Gr.setCell ?_ (by simp) _ | with_reducible refine Gr.setCell ?_ (by simp; omega) _ | with_reducible refine Gr.drew ?_ | with_reducible refine Gr.drewN ?_ _)))⟩) (fail)
              · go_wp2
                go_meet
                obtain ⟨F1, F2⟩ := rows2 wr (.cells #[.int .i64 i1, .slice A3 n3 c3, .int .u8 u1, .int .i64 l1, .int .i64 h1, .string p1, .bool t1, .slice B3 m3 d3] 41) (.cells #[.int .i64 i2, .slice A4 n4 c4, .int .u8 u2, .int .i64 l2, .int .i64 h2, .string p2, .bool t2, .slice B4 m4 d4] 41)
                exact ⟨_, _, rfl, rfl, (((Gr.refl wr).alloc _).alloc _).drew, F1, F2⟩
              · go_wp2
                go_meet
                obtain ⟨F1, F2⟩ := rows2 wr (.cells #[.int .i64 i2, .slice A4 n4 c4, .int .u8 u2, .int .i64 l2, .int .i64 h2, .string p2, .bool t2, .slice B4 m4 d4] 41) (.cells #[.int .i64 i1, .slice A3 n3 c3, .int .u8 u1, .int .i64 l1, .int .i64 h1, .string p1, .bool t1, .slice B3 m3 d3] 41)
                exact ⟨_, _, rfl, rfl, (((Gr.refl wr).alloc _).alloc _).drew, F2, F1⟩
            case rest =>
              obtain ⟨g8, g9, rfl, rfl, GW, F8, F9⟩ := hcut
              obtain ⟨W6, rfl⟩ : ∃ W6 : World, W6 = wc := ⟨_, rfl⟩
              have B6 := hid (BW.trans GW)
              have HT6 := hid (Two2.gr HT.out GW)
              have z8 : g8 < W6.heap.size := (Array.getElem?_eq_some_iff.1 F8).1
              have z9 : g9 < W6.heap.size := (Array.getElem?_eq_some_iff.1 F9).1
              have zb : w.heap.size < W6.heap.size := (Array.getElem?_eq_some_iff.1 (row_gr HBOX.out B6.out)).1
              have zw : w2.heap.size ≤ W6.heap.size := B6.out.size
              obtain ⟨r0, r1, r2, r3⟩ := cellsat4 (row_gr HBOX.out B6.out)
              obtain ⟨e0, e1, e2, e3, e4, e5, e6, e7⟩ := cellsat8 F8
              obtain ⟨f0, f1, f2, f3, f4, f5, f6, f7⟩ := cellsat8 F9
              have hcv := cmpN_range ⟨l, dg, dy, t⟩ ⟨i1, N1, u1, l1, h1, p1, t1, Y1⟩ ⟨i2, N2, u2, l2, h2, p2, t2, Y2⟩
              unfold pairAt at hst
              dsimp only at hst
              generalize cmpN ⟨l, dg, dy, t⟩ ⟨i1, N1, u1, l1, h1, p1, t1, Y1⟩ ⟨i2, N2, u2, l2, h2, p2, t2, Y2⟩ = cv at hst HC1 hcv
              obtain ⟨nm, nu, bi, pl, vd⟩ := cv
              unfold Cmp.val at HC1
              dsimp only at hst HC1 hcv
              obtain ⟨_, _, _, _, hvd⟩ := hcv
              clear GW F8 F9 HT S1 S2 hq1 hq2 hq3 hr1 hr2 hr3 hw1 hw2 hb
              by_cases hlt12 : i1 < i2
              · have hle12 : ¬ i2 ≤ i1 := by omega
                have hvd3 : vd = 0 ∨ vd = 1 ∨ vd = 2 := by omega
                clear hvd
                rcases hvd3 with rfl | rfl | rfl
                · have HST : Hid (pairsK ⟨l, dg, dy, t⟩ (srt rs) 2 (k + 1) = pairsK ⟨l, dg, dy, t⟩ (srt rs) 2 k ∧ pairsK ⟨l, dg, dy, t⟩ (srt rs) 1 (k + 1) = pairsK ⟨l, dg, dy, t⟩ (srt rs) 1 k) := ⟨by rw [hst.out]; simp, by rw [hst.out]; simp⟩
                  clear hst
                  go_wp2_with ((go_at_call 19; (with_reducible refine (HC1.out _ (HG2.out.trans (B6.out.trans ?_))).mono ?_); rotate_right; rintro e w7 ⟨rfl, hbw7⟩; obtain ⟨hcw7, hfw7, hzw7⟩ := hbw7.rules; (try simp at hzw7); have hzw7_0 : W6.heap.size < w7.heap.size := (by omega); have hyw7_0 : W6.heap.size ≤ w7.heap.size := (by omega)))
                  · go_roundg (M - (k + 1))
                    case measure => omega
                    case rel => exact ⟨k + 1, by omega, by omega, by go_num, B6.out.trans (by (repeat (first | with_reducible exact Gr.refl _ | with_reducible refine Gr.trans ?_ hbw7 | with_reducible refine Gr.alloc ?_ _ | with_reducible refine Gr.setCell ?_ (by simp) _ | with_reducible refine Gr.setCell ?_ (by simp; omega) _ | with_reducible refine Gr.drew ?_ | with_reducible refine Gr.drewN ?_ _))), hid (by rw [HST.out.1, HST.out.2]; exact HT6.out.gr (by (repeat (first | with_reducible exact Gr.refl _ | with_reducible refine Gr.trans ?_ hbw7 | with_reducible refine Gr.alloc ?_ _ | with_reducible refine Gr.setCell ?_ (by simp) _ | with_reducible refine Gr.setCell ?_ (by simp; omega) _ | with_reducible refine Gr.drew ?_ | with_reducible refine Gr.drewN ?_ _))))⟩
                  · (repeat (first | with_reducible exact Gr.refl _ | with_reducible refine Gr.alloc ?_ _ | with_reducible refine Gr.setCell ?_ (by simp) _ | with_reducible refine Gr.setCell ?_ (by simp; omega) _ | with_reducible refine Gr.drew ?_ | with_reducible refine Gr.drewN ?_ _))
                · have HST : Hid (pairsK ⟨l, dg, dy, t⟩ (srt rs) 2 (k + 1) = pairsK ⟨l, dg, dy, t⟩ (srt rs) 2 k ∧ pairsK ⟨l, dg, dy, t⟩ (srt rs) 1 (k + 1) = pairsK ⟨l, dg, dy, t⟩ (srt rs) 1 k ++ [(i1, i2)]) := ⟨by rw [hst.out]; simp [hlt12], by rw [hst.out]; simp [hlt12]⟩
                  clear hst
                  go_wp2_with (first
                    | (go_at_call 19; (with_reducible refine (HC1.out _ (HG2.out.trans (B6.out.trans ?_))).mono ?_); rotate_right; rintro e w7 ⟨rfl, hbw7⟩; obtain ⟨hcw7, hfw7, hzw7⟩ := hbw7.rules; (try simp at hzw7); have hzw7_0 : W6.heap.size < w7.heap.size := (by omega); have hyw7_0 : W6.heap.size ≤ w7.heap.size := (by omega))
                    | ((with_reducible show wpList _ _ _ (⟨some 89, _, _, _, _, _⟩ :: _) _ _); (refine wpList_append_own_at _ rfl (.tmp 86) (.tmp 88) 42 rfl w2.heap.size 49 i0 _ 2 16 Tryz.underlying42 HI0.out HZ0.out HS0.out HY0.out rfl (by decide) _ _ _ rfl (own_gr HT6.out.two ?_) ⟨_, 0, none⟩ 1 1 [.int .i64 i1, .int .i64 i2] rfl rfl ?_ ?_ ?_ ?_ ?_ ?_); rotate_right; intro v' w9 hown hgrow _ hat))
                  · have GG : Gr W6 ((w7.alloc (Obj.cells #[Value.int IntKind.u8 nm, Value.int IntKind.u8 nu, Value.int IntKind.u8 bi, Value.int IntKind.u8 pl, Value.int IntKind.u8 1] 30)).alloc (Obj.cells #[Value.int IntKind.i64 i1, Value.int IntKind.i64 i2] 49)) := by (repeat (first | with_reducible exact Gr.refl _ | with_reducible refine Gr.trans ?_ hbw7 | with_reducible refine Gr.alloc ?_ _ | with_reducible refine Gr.setCell ?_ (by simp) _ | with_reducible refine Gr.setCell ?_ (by simp; omega) _ | with_reducible refine Gr.drew ?_ | with_reducible refine Gr.drewN ?_ _))
                    go_roundg (M - (k + 1))
                    case measure => omega
                    case rel =>
                      refine ⟨k + 1, by omega, by omega, by go_num, (B6.out.trans GG).grown hgrow (fun kk hkk => ((own_gr HT6.out.two GG).lt kk hkk).1), hid ?_⟩
                      rw [HST.out.1, HST.out.2]
                      exact Two2.push2 (HT6.out.gr GG) hown hgrow hat
                  · (repeat (first | with_reducible exact Gr.refl _ | with_reducible refine Gr.trans ?_ hbw7 | with_reducible refine Gr.alloc ?_ _ | with_reducible refine Gr.setCell ?_ (by simp) _ | with_reducible refine Gr.setCell ?_ (by simp; omega) _ | with_reducible refine Gr.drew ?_ | with_reducible refine Gr.drewN ?_ _))
                  · exact World.news_of_block (cs := #[.int .i64 i1, .int .i64 i2]) (t := 49) (fr := (0, 0)) (by simpa using heap_alloc_new (w7.alloc (Obj.cells #[Value.int IntKind.u8 nm, Value.int IntKind.u8 nu, Value.int IntKind.u8 bi, Value.int IntKind.u8 pl, Value.int IntKind.u8 1] 30)) (Obj.cells #[Value.int IntKind.i64 i1, Value.int IntKind.i64 i2] 49))
                  · simp [Value.oneCell']
                  · have := pairsK_len ⟨l, dg, dy, t⟩ (srt rs) 1 k
                    unfold maxLen
                    omega
                  · have := pairsK_len ⟨l, dg, dy, t⟩ (srt rs) 1 k
                    omega
                  · simp; omega
                  · (repeat (first | with_reducible exact Gr.refl _ | with_reducible refine Gr.alloc ?_ _ | with_reducible refine Gr.setCell ?_ (by simp) _ | with_reducible refine Gr.setCell ?_ (by simp; omega) _ | with_reducible refine Gr.drew ?_ | with_reducible refine Gr.drewN ?_ _))
                · have HST : Hid (pairsK ⟨l, dg, dy, t⟩ (srt rs) 2 (k + 1) = pairsK ⟨l, dg, dy, t⟩ (srt rs) 2 k ++ [(i1, i2)] ∧ pairsK ⟨l, dg, dy, t⟩ (srt rs) 1 (k + 1) = pairsK ⟨l, dg, dy, t⟩ (srt rs) 1 k) := ⟨by rw [hst.out]; simp [hlt12], by rw [hst.out]; simp [hlt12]⟩
                  clear hst
                  go_wp2_with (first
                    | (go_at_call 19; (with_reducible refine (HC1.out _ (HG2.out.trans (B6.out.trans ?_))).mono ?_); rotate_right; rintro e w7 ⟨rfl, hbw7⟩; obtain ⟨hcw7, hfw7, hzw7⟩ := hbw7.rules; (try simp at hzw7); have hzw7_0 : W6.heap.size < w7.heap.size := (by omega); have hyw7_0 : W6.heap.size ≤ w7.heap.size := (by omega))
                    | ((with_reducible show wpList _ _ _ (⟨some 74, _, _, _, _, _⟩ :: _) _ _); (refine wpList_append_own_at _ rfl (.tmp 71) (.tmp 73) 42 rfl w2.heap.size 49 i0 _ 2 16 Tryz.underlying42 HI0.out HZ0.out HS0.out HY0.out rfl (by decide) _ _ _ rfl (own_gr HT6.out.one ?_) ⟨_, 0, none⟩ 1 1 [.int .i64 i1, .int .i64 i2] rfl rfl ?_ ?_ ?_ ?_ ?_ ?_); rotate_right; intro v' w9 hown hgrow _ hat))
                  · have GG : Gr W6 ((w7.alloc (Obj.cells #[Value.int IntKind.u8 nm, Value.int IntKind.u8 nu, Value.int IntKind.u8 bi, Value.int IntKind.u8 pl, Value.int IntKind.u8 2] 30)).alloc (Obj.cells #[Value.int IntKind.i64 i1, Value.int IntKind.i64 i2] 49)) := by (repeat (first | with_reducible exact Gr.refl _ | with_reducible refine Gr.trans ?_ hbw7 | with_reducible refine Gr.alloc ?_ _ | with_reducible refine Gr.setCell ?_ (by simp) _ | with_reducible refine Gr.setCell ?_ (by simp; omega) _ | with_reducible refine Gr.drew ?_ | with_reducible refine Gr.drewN ?_ _))
                    go_roundg (M - (k + 1))
                    case measure => omega
                    case rel =>
                      refine ⟨k + 1, by omega, by omega, by go_num, (B6.out.trans GG).grown hgrow (fun kk hkk => ((own_gr HT6.out.one GG).lt kk hkk).1), hid ?_⟩
                      rw [HST.out.1, HST.out.2]
                      exact Two2.push1 (HT6.out.gr GG) hown hgrow hat
                  · (repeat (first | with_reducible exact Gr.refl _ | with_reducible refine Gr.trans ?_ hbw7 | with_reducible refine Gr.alloc ?_ _ | with_reducible refine Gr.setCell ?_ (by simp) _ | with_reducible refine Gr.setCell ?_ (by simp; omega) _ | with_reducible refine Gr.drew ?_ | with_reducible refine Gr.drewN ?_ _))
                  · exact World.news_of_block (cs := #[.int .i64 i1, .int .i64 i2]) (t := 49) (fr := (0, 0)) (by simpa using heap_alloc_new (w7.alloc (Obj.cells #[Value.int IntKind.u8 nm, Value.int IntKind.u8 nu, Value.int IntKind.u8 bi, Value.int IntKind.u8 pl, Value.int IntKind.u8 2] 30)) (Obj.cells #[Value.int IntKind.i64 i1, Value.int IntKind.i64 i2] 49))
                  · simp [Value.oneCell']
                  · have := pairsK_len ⟨l, dg, dy, t⟩ (srt rs) 2 k
                    unfold maxLen
                    omega
                  · have := pairsK_len ⟨l, dg, dy, t⟩ (srt rs) 2 k
                    omega
                  · simp; omega
                  · (repeat (first | with_reducible exact Gr.refl _ | with_reducible refine Gr.alloc ?_ _ | with_reducible refine Gr.setCell ?_ (by simp) _ | with_reducible refine Gr.setCell ?_ (by simp; omega) _ | with_reducible refine Gr.drew ?_ | with_reducible refine Gr.drewN ?_ _))
              · have hle12 : i2 ≤ i1 := by omega
                have HST : Hid (pairsK ⟨l, dg, dy, t⟩ (srt rs) 2 (k + 1) = pairsK ⟨l, dg, dy, t⟩ (srt rs) 2 k ∧ pairsK ⟨l, dg, dy, t⟩ (srt rs) 1 (k + 1) = pairsK ⟨l, dg, dy, t⟩ (srt rs) 1 k) := ⟨by rw [hst.out]; simp [hlt12], by rw [hst.out]; simp [hlt12]⟩
                clear hst
                go_wp2
                go_roundg (M - (k + 1))
                case measure => omega
                case rel =>
                  refine ⟨k + 1, by omega, by omega, by go_num, B6.out, ?_⟩
                  rw [HST.out.1, HST.out.2]
                  exact HT6
          · obtain rfl : k = M := by omega
            go_wp2
            go_ret3
            exact ⟨_, _, rfl, own_pairs HT.out.one, own_pairs HT.out.two, HG2.out.trans BW⟩
      · (repeat (first | with_reducible exact Gr.refl _ | with_reducible refine Gr.trans ?_ hbw1 | with_reducible refine Gr.alloc ?_ _ | with_reducible refine Gr.setCell ?_ (by simp) _ | with_reducible refine Gr.setCell ?_ (by simp; omega) _ | with_reducible refine Gr.drew ?_ | with_reducible refine Gr.drewN ?_ _))
    · rw [if_neg hz, if_neg hz]
      obtain ⟨E, hEE⟩ : ∃ E, E = recsE rs := ⟨_, rfl⟩
      rw [← hEE] at HL hz ⊢
      have HL2 : Hid (∀ W, Gr w W → Calls Tryz.prog 21 #[.slice A es.length cap] W fun e w' => e = .returned (.tuple #[.slice none 0 0, .int .i64 E]) ∧ Gr W w') := fun W g => (HL.out W g).mono (fun e w' h => by
        rcases h with h | h
        · exact ⟨h.2.1, h.2.2⟩
        · exact absurd h.1 hz)
      clear hI hE HL hEE he h1
      obtain ⟨l, dg, dy, t⟩ := r
      unfold Rul.val at *
      dsimp only at *
      go_enter Tryz.func10, Tryz.ntmps10
      go_wp2_with (first
        | (go_at_call 20; (with_reducible refine (HU.out _).mono ?_); rotate_right; rintro e w1 ⟨rfl, hbw1⟩; obtain ⟨hcw1, hfw1, hzw1⟩ := hbw1.rules; (try simp at hzw1))
        | (go_at_call 21; (with_reducible refine (HL2.out _ ?_).mono ?_); rotate_right; rintro e w2 ⟨rfl, hbw2⟩; obtain ⟨hcw2, hfw2, hzw2⟩ := hbw2.rules; (try simp at hzw2)))
      · refine bodyPost_ret (results_tmp3 rfl _ _ _) rfl ?_
        exact ⟨_, _, rfl, HNil.out _, HNil.out _, by (repeat (first | with_reducible exact Gr.refl _ | with_reducible refine Gr.trans ?_ hbw2 | with_reducible refine Gr.trans ?_ hbw1 | with_reducible refine Gr.alloc ?_ _ | with_reducible refine Gr.setCell ?_ (by simp) _ | with_reducible refine Gr.setCell ?_ (by simp; omega) _ | with_reducible refine Gr.drew ?_ | with_reducible refine Gr.drewN ?_ _))⟩
      · (repeat (first | with_reducible exact Gr.refl _ | with_reducible refine Gr.trans ?_ hbw1 | with_reducible refine Gr.alloc ?_ _ | with_reducible refine Gr.setCell ?_ (by simp) _ | with_reducible refine Gr.setCell ?_ (by simp; omega) _ | with_reducible refine Gr.drew ?_ | with_reducible refine Gr.drewN ?_ _))
end Go.Proofs.YtlkjimfkapcenaaGreatDoor
namespace Go.Proofs.YtlkjimfkapcenaaGreatDoor
open Go.RowKit

structure RecsIn (w : World) (A : Option Addr) (n : Nat) (es : List Elt) : Prop where
  rd : Rd w 8 A n (es.flatMap Elt.cells)
  big : n ≤ 9223372036854775807
  each : ∀ e ∈ es, EltIn w e
section
variable {w w' : World} {A : Option Addr} {n : Nat} {es : List Elt}
theorem RecsIn.gr (h : RecsIn w A n es) (g : Gr w w') : RecsIn w' A n es := ⟨h.rd.gr g, h.big, fun e he => (h.each e he).gr g⟩
theorem RecsIn.len (h : RecsIn w A n es) : es.length = n := by
  have := h.rd.len
  rw [flatMap_len Elt.len] at this
  omega
theorem flatE_cell {es : List Elt} {j q : Nat} {e : Elt} {u : Value} (he : es[j]? = some e) (hu : e.cells[q]? = some u) (hq : q < 8) : (es.flatMap Elt.cells)[j * 8 + q]? = some u := by
  induction es generalizing j with
  | nil => cases he
  | cons x r ih =>
    rw [List.flatMap_cons]
    cases j with
    | zero =>
      simp only [List.getElem?_cons_zero, Option.some.injEq] at he
      subst he
      rw [List.getElem?_append_left (by rw [Elt.len]; omega), Nat.zero_mul, Nat.zero_add]
      exact hu
    | succ j =>
      rw [List.getElem?_append_right (by rw [Elt.len]; omega), Elt.len, show (j + 1) * 8 + q - 8 = j * 8 + q by omega]
      exact ih (by simpa using he)
theorem RecsIn.rdE (h : RecsIn w A n es) : RdE w A n es := by
  refine ⟨h.len, fun hn => ?_⟩
  obtain ⟨b, off, hA, hb, hc⟩ := h.rd.2 hn
  refine ⟨b, off, hA, hb, fun j e he q u hu => ?_⟩
  rw [Nat.add_assoc]
  refine hc _ _ (flatE_cell he hu ?_)
  have := (List.getElem?_eq_some_iff.1 hu).1
  rw [Elt.len] at this
  exact this
theorem rd_of_rdE (h : RdE w A n es) : Rd w 8 A n (es.flatMap Elt.cells) := by
  refine ⟨by rw [flatMap_len Elt.len, h.1], fun hn => ?_⟩
  obtain ⟨b, off, hA, hb, hc⟩ := h.2 hn
  refine ⟨b, off, hA, hb, fun j u hu => ?_⟩
  have hj : j < es.length * 8 := by
    have := (List.getElem?_eq_some_iff.1 hu).1
    rwa [flatMap_len Elt.len] at this
  have hd : j / 8 < es.length := by omega
  have hq : j % 8 < 8 := Nat.mod_lt _ (by omega)
  have hcl : es[j / 8].cells[j % 8]? = some (es[j / 8].cells[j % 8]'(by rw [Elt.len]; exact hq)) := List.getElem?_eq_getElem _
  have h1 := flatE_cell (List.getElem?_eq_getElem hd) hcl hq
  rw [show j / 8 * 8 + j % 8 = j by omega, hu] at h1
  have h2 := hc (j / 8) _ (List.getElem?_eq_getElem hd) (j % 8) _ hcl
  rw [Nat.add_assoc, show j / 8 * 8 + j % 8 = j by omega, ← Option.some.inj h1] at h2
  exact h2
/-- One of them. -/
theorem RecsIn.at_ (h : RecsIn w A n es) {k : Nat} (hk : k < n) : k < es.length ∧ EltIn w es[k]! ∧ ∃ b off, A = some ⟨b, off, none⟩ ∧ b < w.heap.size ∧
    (w.cell? ⟨b, off + k * 8, none⟩ = some (.int .i64 es[k]!.r.id) ∧ w.cell? ⟨b, off + k * 8 + 1, none⟩ = some (.slice es[k]!.A es[k]!.n es[k]!.c) ∧ w.cell? ⟨b, off + k * 8 + 2, none⟩ = some (.int .u8 es[k]!.r.suffix) ∧ w.cell? ⟨b, off + k * 8 + 3, none⟩ = some (.int .i64 es[k]!.r.lo) ∧
     w.cell? ⟨b, off + k * 8 + 4, none⟩ = some (.int .i64 es[k]!.r.hi) ∧ w.cell? ⟨b, off + k * 8 + 5, none⟩ = some (.string es[k]!.r.number) ∧ w.cell? ⟨b, off + k * 8 + 6, none⟩ = some (.bool es[k]!.r.twin) ∧ w.cell? ⟨b, off + k * 8 + 7, none⟩ = some (.slice es[k]!.B es[k]!.m es[k]!.d)) := by
  have hl := h.len
  have hk' : k < es.length := by omega
  have he : es[k]? = some es[k]! := by rw [getElem!_pos es k hk']; exact List.getElem?_eq_getElem hk'
  obtain ⟨b, off, hA, hb, hc⟩ := h.rdE.2 (by omega)
  exact ⟨hk', h.each _ (by rw [getElem!_pos es k hk']; exact List.getElem_mem hk'), b, off, hA, hb, (hc k _ he).all⟩
end
end Go.Proofs.YtlkjimfkapcenaaGreatDoor
namespace Go.Proofs.YtlkjimfkapcenaaGreatDoor
open Go.RowKit

/-- No rules, nobody. -/
def exZ : Rul := ⟨0, 0, 0, 0⟩
def exN : Rcd := ⟨0, [], 0, 0, 0, ByteArray.empty, false, []⟩
def elN : Elt := ⟨exN, none, 0, 0, none, 0, 0⟩
set_option maxRecDepth 100000 in
theorem ex_cmp45 : cmpV exR ex4 ex5 = ⟨3, 1, 0, 1, 0⟩ ∧ cmpE exR ex4 ex5 = 0 := by
  have h : cmpN exR ex4 ex5 = ⟨3, 1, 0, 1, 0⟩ := by
    unfold cmpN namesN namesO amongB amStep alikeB
    rw [lev_fuel]
    kernel_rfl
  have o : (exR.ok && ex4.ok && ex5.ok) = true := by kernel_rfl
  exact ⟨by unfold cmpV; rw [if_pos o, h], by kernel_rfl⟩
set_option maxRecDepth 100000 in
theorem ex_cmp15 : cmpV exR ex1 ex5 = ⟨3, 0, 3, 1, 0⟩ ∧ cmpE exR ex1 ex5 = 0 := by
  have h : cmpN exR ex1 ex5 = ⟨3, 0, 3, 1, 0⟩ := by
    unfold cmpN namesN namesO amongB amStep alikeB
    rw [lev_fuel]
    kernel_rfl
  have o : (exR.ok && ex1.ok && ex5.ok) = true := by kernel_rfl
  exact ⟨by unfold cmpV; rw [if_pos o, h], by kernel_rfl⟩
set_option maxRecDepth 100000 in
theorem ex_cmpZ : cmpV exZ ex1 ex2 = ⟨0, 0, 0, 0, 0⟩ ∧ cmpE exZ ex1 ex2 = 10 := by
  have o : (exZ.ok && ex1.ok && ex2.ok) = false := by kernel_rfl
  exact ⟨by unfold cmpV; rw [o]; rfl, by kernel_rfl⟩
set_option maxRecDepth 100000 in
theorem ex_cmpN : cmpV exR ex1 exN = ⟨0, 0, 0, 0, 0⟩ ∧ cmpE exR ex1 exN = 11 := by
  have o : (exR.ok && ex1.ok && exN.ok) = false := by kernel_rfl
  exact ⟨by unfold cmpV; rw [o]; rfl, by kernel_rfl⟩
theorem ex_edits2 : edN ⟨#[]⟩ ⟨#[65, 66]⟩ = 2 ∧ edE ⟨#[]⟩ ⟨#[65, 66]⟩ = 0 := by
  have ho : edOk ⟨#[]⟩ ⟨#[65, 66]⟩ = true := by kernel_rfl
  refine ⟨?_, by kernel_rfl⟩
  unfold edN
  rw [if_pos ho]
  have : lev ⟨#[]⟩ ⟨#[65, 66]⟩ (ByteArray.size ⟨#[]⟩) (ByteArray.size ⟨#[65, 66]⟩) = 2 := by
    rw [lev_fuel]
    kernel_rfl
  rw [this]
  rfl
theorem ex_edits3 : edN ⟨#[]⟩ ⟨#[65, 66, 67, 68, 69, 70, 71, 72, 73, 74, 75, 76, 77, 78, 79, 80, 81, 82, 83, 84, 85]⟩ = 0 ∧ edE ⟨#[]⟩ ⟨#[65, 66, 67, 68, 69, 70, 71, 72, 73, 74, 75, 76, 77, 78, 79, 80, 81, 82, 83, 84, 85]⟩ = 2 := by
  have ho : edOk ⟨#[]⟩ ⟨#[65, 66, 67, 68, 69, 70, 71, 72, 73, 74, 75, 76, 77, 78, 79, 80, 81, 82, 83, 84, 85]⟩ = false := by kernel_rfl
  refine ⟨?_, by kernel_rfl⟩
  unfold edN
  rw [ho]
  rfl
theorem ex_home0 : homeErr (-1) exL = 2 ∧ homesN (-1) exL = [] := by
  have h0 : homeErr (-1) exL = 2 := by kernel_rfl
  refine ⟨h0, ?_⟩
  unfold homesN
  rw [h0]
  rfl
set_option maxRecDepth 100000 in
theorem ex_pairs6 : pairErr exR (exL ++ [ex1]) = 12 := by kernel_rfl
set_option maxRecDepth 100000 in
theorem ex_pairs25 : pairErr exR (List.replicate 25 exN) = 4 := by kernel_rfl
theorem elN_in (W : World) : EltIn W elN := (⟨⟨Rd.nil_, Rd.nil_, by show 0 ≤ 9223372036854775807; omega, by show 0 ≤ 9223372036854775807; omega, (fun s hs => by cases hs), by show 0 ≤ maxLen; omega⟩, ⟨Nat.le_refl _, by show 0 ≤ 9223372036854775807; omega⟩, by show (0 : Int) ≤ 0; omega⟩ : EltIn W elN)
/-- An element's rows lie in other blocks. -/
def OffE (g : Nat) (e : Elt) : Prop := (0 < e.n → ∀ a, e.A = some a → a.block ≠ g) ∧ (0 < e.m → ∀ a, e.B = some a → a.block ≠ g)
theorem rd_grown {W W' : World} {size n g : Nat} {A : Option Addr} {xs : List Value} (h : Rd W size A n xs) (hg : W.grownBy W' (some g)) (hf : 0 < n → ∀ a, A = some a → a.block ≠ g) : Rd W' size A n xs :=
  ⟨h.1, fun hn => by
    obtain ⟨b, off, e, hb, hc⟩ := h.2 hn
    have hne : b ≠ g := hf hn _ e
    exact ⟨b, off, e, Nat.lt_of_lt_of_le hb hg.size, fun j u hu => (hg.cell_far ⟨b, off + j, none⟩ hb (fun k => hne (by injection k))).trans (hc j u hu)⟩⟩
theorem EltIn.grown {W W' : World} {g : Nat} {e : Elt} (h : EltIn W e) (hg : W.grownBy W' (some g)) (hf : OffE g e) : EltIn W' e :=
  ⟨⟨rd_grown h.at_.names hg hf.1, rd_grown h.at_.stays hg hf.2, h.at_.nbig, h.at_.mbig, h.at_.words, h.at_.number⟩, h.cap, h.sfx⟩
theorem people_own (w : World) : Calls Tryz.prog 6 #[] w fun e w' => ∃ (b : Nat) (es : List Elt), e = .returned (.slice (some ⟨b, 0, none⟩) 5 5) ∧ es.length = 5 ∧ w'.ownsRow w.heap.size 41 8 (.slice (some ⟨b, 0, none⟩) 5 5) 5 (es.flatMap Elt.cells) ∧ (∀ e ∈ es, EltIn w' e ∧ OffE b e) ∧ es.map (·.r) = exL ∧ Gr w w' :=
  (people_walk w).mono fun e w' ⟨h1, h2⟩ => by
    subst h2
    refine ⟨_, exE w, h1, rfl, ⟨rfl, .inr ⟨_, 5, _, rfl, by omega, exW_row15 w, Nat.le_refl _, by unfold maxLen; omega, rfl, rfl⟩⟩, fun e he => ⟨exE_in w e he, ?_⟩, rfl, exW_gr w⟩
    simp only [exE, List.mem_cons, List.not_mem_nil, or_false] at he
    rcases he with rfl | rfl | rfl | rfl | rfl <;> exact ⟨fun _ a ha => by injection ha with ha; subst ha; simp, fun _ a ha => by injection ha with ha; subst ha; simp⟩
end Go.Proofs.YtlkjimfkapcenaaGreatDoor
