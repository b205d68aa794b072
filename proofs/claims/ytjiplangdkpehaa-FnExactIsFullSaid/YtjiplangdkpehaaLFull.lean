/-
  LFull. By a program (wip/tools/mk.py) out of snippets.
-/
import Derived.Test.YtjiplangdkpehaaKnI
namespace Go.Proofs.Ytjiplangdkpehaa
open Go.RowKit

set_option maxHeartbeats 1600000 in
theorem lawExactIsFull (k : Int) (A : Option Addr) (n c : Nat) (zs : List Int) (w : World) (_hk : (Lit.int .i64 k).wf = true) (hn : n ≤ 9223372036854775807) (ha : SI w A (n * 2) zs) :
    Calls Try.prog 9 #[.int .i64 k, .slice A n c] w fun e w' => e = .returned (.bool true) ∧ Below w.heap.size w w' := by
  have CZ := Lib.hid (szPairS_any A n c 1048576 w (by omega) (by omega) hn)
  by_cases hbig : (1048576 : Int) < n
  · rw [if_pos hbig] at CZ
    clear ha hbig
    go_enter Try.func9, Try.ntmps9
    go_wp2_with fail
    refine CZ.out.mono ?_
    rintro e w' ⟨rfl, rfl⟩
    go_wp2_with fail
    go_ret
    exact ⟨rfl, Below.refl _ _⟩
  · rw [if_neg hbig] at CZ
    have hn2 : n ≤ 2000000 := by omega
    have hpos : ¬ (1048576 : Int) - n < 0 := by omega
    have CT := Lib.hid (fun w' (hb : Below w.heap.size w w') => toPairS_any A n c zs w' hn2 (ha.below hb (Nat.le_refl _)))
    have CS := Lib.hid (fun A' c' w' h => specIsFull_any k A' n c' zs w' hn2 h)
    have CI := Lib.hid (fun A' c' w' h => implIsFull_any k A' n c' zs w' hn2 h)
    generalize ifA k zs n = ans at *
    clear ha hbig
    go_enter Try.func9, Try.ntmps9
    go_wp2_with fail
    refine CZ.out.mono ?_
    rintro e w' ⟨rfl, rfl⟩
    go_wp2_with fail
    refine (CT.out _ (Below.refl _ _)).mono ?_
    rintro e w1 ⟨A1, c1, rfl, _, s1, b1⟩
    have B1 := Lib.hid b1
    have S1 := Lib.hid s1.si
    clear b1 s1
    go_wp2_with fail
    refine (CS.out _ _ _ S1.out).mono ?_
    rintro e w2 ⟨rfl, b2⟩
    have B2 := Lib.hid (bstep B1.out b2)
    clear b2
    clear S1
    go_wp2_with fail
    refine (CT.out _ B2.out).mono ?_
    rintro e w3 ⟨A3, c3, rfl, _, s3, b3⟩
    have B3 := Lib.hid (bstep B2.out b3)
    have S3 := Lib.hid s3.si
    clear b3 s3
    go_wp2_with fail
    refine (CI.out _ _ _ S3.out).mono ?_
    rintro e w4 ⟨rfl, b4⟩
    have B4 := Lib.hid (bstep B3.out b4)
    have S4 := Lib.hid (S3.out.below b4 (Nat.le_refl _))
    clear b4 S3
    go_wp2_with fail
    refine (CT.out _ B4.out).mono ?_
    rintro e w5 ⟨A5, c5, rfl, _, s5, b5⟩
    have B5 := Lib.hid (bstep B4.out b5)
    have S5 := Lib.hid s5.si
    have S45 := Lib.hid (S4.out.below b5 (Nat.le_refl _))
    clear b5 s5 S4
    go_wp2_with fail
    refine (eqPairS_true A3 A5 n c3 c5 zs w5 (by omega) S45.out S5.out).mono ?_
    rintro e w6 ⟨rfl, b6⟩
    have B6 := Lib.hid (bstep B5.out b6)
    clear b6
    go_wp2_with fail
    go_ret
    exact ⟨rfl, B6.out⟩

end Go.Proofs.Ytjiplangdkpehaa
