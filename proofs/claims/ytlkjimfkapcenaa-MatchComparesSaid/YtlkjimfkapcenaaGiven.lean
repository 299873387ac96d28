/- given of the package match: the iterator over a person's given names. For every record with at least one name. -/
import Derived.Test.YtlkjimfkapcenaaSeqStr
import Derived.Test.YtlkjimfkapcenaaRecorded
namespace Go.Proofs.Ytlkjimfkapcenaa
open Go.RowKit Go.Shelf
attribute [local go_sem] Oper.semAt_some

set_option maxRecDepth 100000 in
set_option maxHeartbeats 1000000 in
theorem given_in (F : Fence) (k : Nat) (hF : F.fn 92) (hV : F.fn 111) (hro : F.round = none) (hk : 2 ≤ k) (r : Rcd) (b0 off n c : Nat) (B : Option Addr) (m d : Nat) (w : World) (hn : 1 ≤ n) (hc : n ≤ c) (hbig : c ≤ 9223372036854775807) :
    CallsIn F k Try.prog 92 #[r.val (some ⟨b0, off, none⟩) n c B m d] w fun e w' => e = .returned (.func (.func 119) #[] #[.pointer (some ⟨w.heap.size + 1, 0, none⟩)]) ∧
      ∃ (o' : Nat) (T1 T2 : TypeId) (C : Array Value), (1 < n → o' = off + 1) ∧ w' = (w.alloc (.cells C T1)).alloc (.cells #[.slice (some ⟨b0, o', none⟩) (n - 1) (c - 1)] T2) := by
  obtain ⟨id, names, suf, l1, h1, p, tw, stays⟩ := r
  unfold Rcd.val
  dsimp only
  have hn' : (1 : Int) ≤ n := by omega
  have hc' : (n : Int) ≤ c := by omega
  have hb' : (c : Int) ≤ 9223372036854775807 := by omega
  by_cases h1c : c = 1
  · obtain rfl : n = 1 := by omega
    subst h1c
    refine callsIn_of_wp Try.func92 rfl hF ?_ hro
    simp only [Try.ntmps92, List.size_toArray, List.length_cons, List.length_nil, Nat.reduceAdd, Nat.reduceSub, Array.replicate_succ, Array.replicate_zero, List.push_toArray, List.append_toArray, List.nil_append, List.cons_append]
    gi_wp2_with (refine ⟨fun _ => (by omega), ?_⟩; gi_at_call 111; refine (sq_values_in F (k - 1) hV hro _ _ _ _).mono ?_; rintro e w' ⟨rfl, rfl⟩)
    go_ret
    refine ⟨by rfl, off, _, _, _, fun h => absurd h (by omega), by rfl⟩
  · have h2c : 1 < c := by omega
    have h3c : (1 : Int) < c := by omega
    refine callsIn_of_wp Try.func92 rfl hF ?_ hro
    simp only [Try.ntmps92, List.size_toArray, List.length_cons, List.length_nil, Nat.reduceAdd, Nat.reduceSub, Array.replicate_succ, Array.replicate_zero, List.push_toArray, List.append_toArray, List.nil_append, List.cons_append]
    gi_wp2_with (refine ⟨fun _ => (by omega), ?_⟩; gi_at_call 111; refine (sq_values_in F (k - 1) hV hro _ _ _ _).mono ?_; rintro e w' ⟨rfl, rfl⟩)
    go_ret
    refine ⟨by rfl, off + 1, _, _, _, fun _ => rfl, by rfl⟩
end Go.Proofs.Ytlkjimfkapcenaa
