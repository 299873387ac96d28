/- slices.SortFunc at signals, by bureau and Id: what has no two of one place is put in order. For every list. -/
import Derived.Test.YtliehlefpodhaaaDoorQLaySort
import Derived.Test.YtliehlefpodhaaaDoorQRowK
import Derived.Test.YtliehlefpodhaaaDoorQMergeCmp
import Derived.Test.YtliehlefpodhaaaDoorQMergePure
import Derived.Test.YtliehlefpodhaaaDoorQGate
import Derived.Shelf.SlSortCmp.WholeK
namespace Go.Proofs.YtliehlefpodhaaaDoor
open Go.RowKit Go.Shelf Go.Sort Go.Lib

theorem Sig.one9 (x : Sig) : ∀ v ∈ x.cells, v.oneCell' = true := by
  intro v hv
  simp [Sig.cells] at hv
  rcases hv with rfl | rfl | rfl | rfl | rfl | rfl <;> rfl
theorem cmpLays_sig (b size : Nat) (w : World) : CmpLays Tryd.prog 56 #[] Sig.cells 6 (fun x y => byN [Sig.bureau, Sig.id] x y) b 0 size w :=
  fun _ _ _ _ x y => mergeCmp_any x y _
theorem swo_pl : SWO (ltOf (fun x y : Sig => byN [Sig.bureau, Sig.id] x y)) := {
  irrefl := fun x => by
    simp only [ltOf, by2_neg]
    cases h : befB x x with
    | false => rfl
    | true => exact (BefS.anti (show BefS x x from h) h).elim
  trans := fun x y z h1 h2 => by
    simp only [ltOf, by2_neg] at *
    exact BefS.trans (show BefS x y from h1) h2
  ntrans := fun x y z h1 h2 => by
    simp only [ltOf, by2_neg] at *
    cases h : befB x z with
    | false => rfl
    | true =>
      exfalso
      have h3 : BefS x z := h
      rw [BefS_iff] at h3
      have n1 : ¬ BefS x y := fun e => by rw [show befB x y = true from e] at h1; cases h1
      have n2 : ¬ BefS y z := fun e => by rw [show befB y z = true from e] at h2; cases h2
      rw [BefS_iff] at n1 n2
      omega }

set_option maxRecDepth 100000 in
set_option maxHeartbeats 2000000 in
theorem sortSig_any (a b' l : List Sig) (A : Option Addr) (n cap : Nat) (w0 w : World) (hw : Gr w0 w) (hO : OwnK Sig.cells 6 w0 w A n cap l) (hA : ∃ g, A = some ⟨g, 0, none⟩) (hl : l = a ++ newsS a b') (ha : a.Pairwise BefS) (hb : b'.Pairwise BefS) (hn : n ≤ 1000) :
    Calls Tryd.prog 55 #[.slice A n cap, .func (.func 56) #[] #[]] w fun e w' => e = .returned (.tuple #[]) ∧ (Gr w0 w' ∧ OwnK Sig.cells 6 w0 w' A n cap (mergeAll a b')) := by
  obtain ⟨rfl, hle, hbig, hrow⟩ := hO
  rcases hrow with ⟨rfl, h0, rfl⟩ | ⟨b, rfl, h1, h2, h3⟩
  · obtain ⟨g, h⟩ := hA
    cases h
  · have eg : ∀ args w, (callFunc 56 args).run Tryd.prog w = .ok (.enter 56 args) w := enters_of Tryd.func56 (by kernel_rfl) rfl
    have hsz : l.length < 4611686018427387904 := by omega
    have H := AnyQ.slices_SortFunc sortSig 6 Tryd.isAgg67 Tryd.sizeOf67 Sig.cells Sig.len Sig.one9 (fun x y => byN [Sig.bureau, Sig.id] x y) swo_pl 56 #[] b 0 cap l.toArray w eg (cmpLays_sig b _ w) h3 h2 (by simpa using hsz)
    simp only [List.size_toArray] at H
    refine H.mono ?_
    rintro e w' ⟨rfl, d', m, os, T1, T2, rfl⟩
    have S : SWK Sig.cells 6 w b 0 d' (sortWorldK Sig.cells 6 w b 0 m d' os) := ⟨m, os, rfl⟩
    have hs : d'.size = l.length := by simpa using T1.1
    have hp : d'.toList.Perm l := by
      have p := T1.2.2
      have e1 : d'.extract 0 l.toArray.size = d' := by simp [← hs]
      have e2 : l.toArray.extract 0 l.toArray.size = l.toArray := by simp
      simp only [List.size_toArray] at e1 e2
      rw [e1, e2] at p
      simpa using p
    have hap : l.Pairwise (fun x y => samePl x y = false) := by
      rw [hl]
      refine List.pairwise_append.2 ⟨ha.imp (fun k => k.apart), news_pairwise hb, fun x hx y hy => ?_⟩
      rw [samePl_comm]
      exact news_apart y hy x hx
    have hap2 : d'.toList.Pairwise (fun x y => samePl x y = false) := (hp.pairwise_iff (fun {x y} h => by rw [samePl_comm]; exact h)).2 hap
    have ho : d'.toList.Pairwise BefS := by
      refine List.pairwise_iff_getElem.2 (fun i j hi hj hij => ?_)
      have q := T2 i j (Nat.zero_le _) hij (by simp at hj; omega)
      have q2 := List.pairwise_iff_getElem.1 hap2 i j hi hj hij
      simp only [ltOf, by2_neg] at q
      have hi2 : i < d'.size := by simpa using hi
      have hj2 : j < d'.size := by simpa using hj
      rw [getElem!_pos d' i hi2, getElem!_pos d' j hj2] at q
      rcases befS_total q2 with h | h
      · exact h
      · exfalso
        have h' : befB d'[j] d'[i] = true := by simpa [BefS] using h
        rw [h'] at q
        cases q
    have he := mergeAll_eq ha hb (hl ▸ hp) ho
    have hml : (mergeAll a b').length = l.length := by rw [← he]; simpa using hs
    refine ⟨rfl, gr_sortK hw S h1, hml.symm, hle, hbig, .inr ⟨b, rfl, h1, S.lt h2, ?_⟩⟩
    rw [← he]
    simpa using S.holds h2 h3 (by simpa using hs)
end Go.Proofs.YtliehlefpodhaaaDoor
