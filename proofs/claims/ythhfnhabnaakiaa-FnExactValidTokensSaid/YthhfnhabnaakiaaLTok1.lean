/-
  LTok1. By a program (wip/tools/mk.py) out of snippets.
-/
import Derived.Test.YthhfnhabnaakiaaBase
import Derived.Test.YthhfnhabnaakiaaTok1
namespace Go.Proofs.Ythhfnhabnaakiaa
open Go.RowKit

set_option maxHeartbeats 800000 in
theorem lawExactValidTokens (k : Int) (A : Option Addr) (n c : Nat) (zs : List Int) (w : World) (hk : (Lit.int .i64 k).wf = true) (ha : SI w A n zs) (hwf : ∀ z ∈ zs, (Lit.int .i64 z).wf = true) :
    Calls Try.prog 4 #[.int .i64 k, .slice A n c] w fun e w' => e = .returned (.bool true) ∧ Below w.heap.size w w' := by
  by_cases hbig : 1048576 < n
  · clear ha
    go_enter Try.func4, Try.ntmps4
    go_wp2_with fail
    go_ret
    exact ⟨rfl, Below.refl _ _⟩
  · have hn : n ≤ 2000000 := by omega
    go_enter Try.func4, Try.ntmps4
    go_wp2_with fail
    refine (toIntS_any A n c zs _ hn ha).mono ?_
    rintro e w1 ⟨A1, c1, rfl, h1, b1⟩
    go_wp2_with fail
    refine (specValidTokens_any k A1 n c1 zs _ hn h1.si).mono ?_
    rintro e w1' ⟨rfl, rfl⟩
    go_wp2_with fail
    refine (toIntS_any A n c zs _ hn (ha.below b1 (Nat.le_refl _))).mono ?_
    rintro e w2 ⟨A2, c2, rfl, h2, b2⟩
    go_wp2_with fail
    refine (implValidTokens_any k A2 n c2 zs _ hn h2.si).mono ?_
    rintro e w3 ⟨rfl, b3⟩
    have hB := (b1.trans (b2.mono b1.size)).trans (b3.mono (Nat.le_trans b1.size b2.size))
    generalize vtok k zs = v
    go_wp2_with fail
    refine (toIntS_any A n c zs _ hn (ha.below hB (Nat.le_refl _))).mono ?_
    rintro e w4 ⟨A4, c4, rfl, h4, b4⟩
    go_wp2_with fail
    refine (eqIntS_true A2 A4 n c2 c4 zs _ (by omega) ((h2.below b3 (Nat.le_refl _)).below b4 (Nat.le_refl _)).si h4.si).mono ?_
    rintro e w5 ⟨rfl, m, rfl⟩
    go_wp2_with fail
    go_ret
    exact ⟨rfl, bDrewN (hB.trans (b4.mono hB.size)) m⟩

end Go.Proofs.Ythhfnhabnaakiaa
