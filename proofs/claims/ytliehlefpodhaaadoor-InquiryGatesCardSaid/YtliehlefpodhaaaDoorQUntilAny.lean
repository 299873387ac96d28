/- until of the package inquiry: a loop over it is handed the signals of a file until a day that are of some kinds. For every slice of signals. -/
import Derived.RangeFuncKeeps
import Derived.Test.YtliehlefpodhaaaDoorQUntil
namespace Go.Proofs.YtliehlefpodhaaaDoor
open Go.RowKit Go.Shelf

set_option maxHeartbeats 1000000 in
theorem until_any (A : Option Addr) (len cap : Nat) (file last : Int) (K : Option Addr) (m kc : Nat) (w : World) :
    Calls Tryd.prog 76 #[.slice A len cap, .int .i64 file, .int .i64 last, .slice K m kc] w fun e w' =>
      e = .returned (.func (.func 95) #[] #[.pointer (some ⟨w.heap.size, 0, none⟩), .pointer (some ⟨w.heap.size + 1, 0, none⟩), .pointer (some ⟨w.heap.size + 1 + 1, 0, none⟩), .pointer (some ⟨w.heap.size + 1 + 1 + 1, 0, none⟩)]) ∧
      (Gr w w' ∧ w'.heap.size = w.heap.size + 4 ∧ UnBox w' w.heap.size A len cap file last K m kc) := by
  go_enter Tryd.func76, Tryd.ntmps76
  go_wp2
  go_ret
  refine ⟨rfl, ((((Gr.refl w).alloc _).alloc _).alloc _).alloc _, by simp, ?_⟩
  refine ⟨?_, ?_, ?_, ?_⟩
  · exact (Gr.cell (((((Gr.refl _).alloc _).alloc _).alloc _)) (by simp)).trans (cell_top w #[.slice A len cap] _ _ 0 rfl)
  · exact (Gr.cell ((((Gr.refl _).alloc _).alloc _)) (by simp)).trans (cell_top (w.alloc _) #[.int .i64 file] _ _ 0 (by simp))
  · exact (Gr.cell ((Gr.refl _).alloc _) (by simp)).trans (cell_top ((w.alloc _).alloc _) #[.int .i64 last] _ _ 0 (by simp))
  · exact cell_top (((w.alloc _).alloc _).alloc _) #[.slice K m kc] _ _ 0 (by simp)

theorem until_stops (S : Nat → Prop) (file last : Int) (ks : List Int) (zs : List Sig) (n : Nat) (hn : 1 ≤ n) (g : Nat) (A : Option Addr) (len cap : Nat) (K : Option Addr) (m kc : Nat) (w : World) (hS : ∀ k, S k → k < w.heap.size)
    (hB : UnBox w g A len cap file last K m kc) (hg : S g ∧ S (g + 1) ∧ S (g + 2) ∧ S (g + 3)) (hZ : SigsIn w A len zs) (hZS : ∀ b o, A = some ⟨b, o, none⟩ → S b) (hlen : len < 1000)
    (hK : Rd w 1 K m (ks.map (Value.int .u8))) (hKS : ∀ b o, K = some ⟨b, o, none⟩ → S b) (hm : m ≤ 1000) :
    SeqStopsK Fence.wide n Tryd.prog 95 #[.pointer (some ⟨g, 0, none⟩), .pointer (some ⟨g + 1, 0, none⟩), .pointer (some ⟨g + 2, 0, none⟩), .pointer (some ⟨g + 3, 0, none⟩)] (fun x : Sig => #[x.val]) (Kpt S)
      (fun ys => ys = zs.filter (selB file last ks)) (fun pre => pre <+: zs.filter (selB file last ks)) 1000 w := fun l J Jx W hW hJ _ hY h0 => by
  have k : Kpt S w W := Kpt.of_gr hW hS
  obtain ⟨g0, g1, g2, g3⟩ := hg
  exact until1_in S file last ks zs n hn l g A len cap K m kc J Jx (fun pre W1 o h => hJ pre W1 _ none h (World.grownBy_alloc W1 o none) (fun r e => by cases e)) hY W
    (fun i hi => Nat.lt_of_lt_of_le (hS i hi) hW.size) ⟨(k.cell g0).trans hB.b0, (k.cell g1).trans hB.b1, (k.cell g2).trans hB.b2, (k.cell g3).trans hB.b3⟩ ⟨g0, g1, g2, g3⟩ (hZ.gr hW) hZS hlen (hK.gr hW) hKS hm h0
end Go.Proofs.YtliehlefpodhaaaDoor
