/- SumHides of the statements on sums: the walk: whatever the input, it answers true. -/
import Derived.Test.YtimhkkijoelmhaaQOrd10
import Derived.Test.YtimhkkijoelmhaaQOrdered10
import Derived.Test.YtimhkkijoelmhaaQSameTable10
import Derived.Test.YtimhkkijoelmhaaQSameInts10
import Derived.Test.YtimhkkijoelmhaaQRefHide10
namespace Go.Proofs.Ytimhkkijoelmhaa
open Go.RowKit

set_option maxRecDepth 100000 in
set_option maxHeartbeats 8000000 in
theorem sumHides_any (columns : Int) (A : Option Addr) (n c : Nat) (zs : List Sbj) (QA : Option Addr) (qn qc : Nat) (qs : List Qst) (idn : Int) (w : World) (hi : SbjsIn w A n zs) (hq : QstsIn w QA qn qs) (hid' : -9223372036854775808 ≤ idn ∧ idn ≤ 9223372036854775807) :
    Calls Try.prog 5 #[.int .i64 columns, .slice A n c, .slice QA qn qc, .int .i64 idn] w fun e w' => e = .returned (.bool true) ∧ Gr w w' := by
  have HI := hid hi
  have HQ := hid hq
  have HG := hid (fun W (g : Gr w W) => great10_any A n c zs QA qn qc qs W (hi.gr g) (hq.gr g))
  obtain ⟨G, hG⟩ : ∃ G, greatT n qn zs qs = G := ⟨_, rfl⟩
  rw [hG] at HG
  have HGd := hid (fun h : G = false => greatT_false (hG.trans h))
  clear hi hq hG
  go_enter Try.func5, Try.ntmps5
  go_wp2_with (go_at_call 13; (with_reducible refine (HG.out _ (Gr.refl w)).mono ?_); rintro e w1 ⟨rfl, hb1⟩; have H1 := hid hb1; clear hb1)
  · go_ret
    exact ⟨rfl, H1.out⟩
  · obtain ⟨hn24, hq12, hs10, hq10⟩ : n ≤ 24 ∧ qn ≤ 12 ∧ (∀ s ∈ zs, s.n ≤ 10) ∧ ∀ s ∈ qs, s.n ≤ 10 := HGd.out (by first | assumption | rfl | trivial)
    have HT := hid (fun W (g : Gr w W) => twin10_any A n c zs W (HI.out.gr g) (by omega) (fun s hs => by have := hs10 s hs; omega))
    have HTq := hid (fun W (g : Gr w W) => twinQ10_any QA qn qc qs W (HQ.out.gr g) (by omega) (fun s hs => by have := hq10 s hs; omega))
    clear HG HGd
    go_upto_region 4 with (first
      | (go_at_call 14; (with_reducible refine (HT.out _ H1.out).mono ?_); rintro e w2 ⟨B, cap, es, rfl, h1, h2, h3⟩; have G2 := hid (H1.out.trans h1); have S2 := hid h2; have S3 := hid h3; clear h1 h2 h3)
      | (go_at_call 15; (with_reducible refine (HTq.out _ G2.out).mono ?_); rintro e w3 ⟨D, d, qs', rfl, h1, h2, h3⟩; have G3 := hid (G2.out.trans h1); have S4 := hid (S2.out.gr h1); have T2 := hid h2; have T3 := hid h3; clear h1 h2 h3))
    have kh := like_hide S3.out T3.out columns idn
    have HH := hid (fun W (g : Gr w3 W) => by have h := hide_any columns B n cap es D qn d qs' idn W (S4.out.gr g) (T2.out.gr g) hid'; rw [kh] at h; exact h)
    have HRH := hid (fun W (g : Gr w W) => refHide_any columns A n c zs QA qn qc qs idn W (HI.out.gr g) (HQ.out.gr g))
    have HST := hid (fun W (g : Gr w3 W) => sameTable_any B cap es A n c zs W (S4.out.gr g) (HI.out.gr (G3.out.trans g)) S3.out)
    have HSQ := hid (fun W (g : Gr w3 W) => sameQuestions_any D d qs' QA qn qc qs W (T2.out.gr g) (HQ.out.gr (G3.out.trans g)) T3.out)
    obtain ⟨R, hR⟩ : ∃ R, hideT columns zs qs idn = R := ⟨_, rfl⟩
    rw [hR] at HH HRH
    clear kh hR S2 S3 T2 T3 G2 HT HTq H1
    obtain ⟨r1, r2⟩ := R
    unfold MeetsRet at HH HRH
    dsimp only at HH HRH
    go_wp2_with (first
      | (go_at_call 29; (with_reducible refine (HH.out _ (Gr.refl w3)).mono ?_); rintro e w4 ⟨A4, n4, c4, rfl, g4, q4, b4⟩; have G4 := hid g4; have R4 := hid q4; clear g4 q4)
      | (go_at_call 30; (with_reducible refine (HRH.out _ (G3.out.trans G4.out)).mono ?_); rintro e w5 ⟨A5, n5, c5, rfl, g5, q5, b5⟩; have G5 := hid (G4.out.trans g5); have R5 := hid q5; have R4' := hid (R4.out.gr g5); clear g5 q5; obtain rfl : n4 = n5 := (by have h1 := R4'.out.len; have h2 := R5.out.len; omega))
      | (go_at_call 22; (with_reducible refine (sameInts_any r1 n4 A4 c4 A5 c5 _ R4'.out R5.out b4).mono ?_); rintro e w8 ⟨rfl, g8⟩; have G8 := hid (G5.out.trans g8); clear g8)
      | (go_at_call 23; (with_reducible refine (HST.out _ G8.out).mono ?_); rintro e w10 ⟨rfl, g10⟩; have G10 := hid (G8.out.trans g10); clear g10)
      | (go_at_call 24; (with_reducible refine (HSQ.out _ G10.out).mono ?_); rintro e w11 ⟨rfl, g11⟩; have G11 := hid (G10.out.trans g11); clear g11))
    go_ret
    exact ⟨by first | rfl | simp, G3.out.trans G11.out⟩
end Go.Proofs.Ytimhkkijoelmhaa
