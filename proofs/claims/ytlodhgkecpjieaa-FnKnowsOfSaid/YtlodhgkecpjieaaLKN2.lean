/-
  LKN2. By a program (wip/tools/mk.py) out of snippets.
-/
import Derived.Test.YtlodhgkecpjieaaDV3
import Derived.Test.YtlodhgkecpjieaaKMath
import Derived.Test.YtlodhgkecpjieaaViewS3
import Derived.Test.YtlodhgkecpjieaaViewI3
namespace Go.Proofs.Ytlodhgkecpjieaa
open Go.RowKit

set_option maxRecDepth 20000 in
set_option maxHeartbeats 3200000 in
theorem lawKnowsOf (A : Option Addr) (n c : Nat) (byt : List Int) (w : World) (hb : byt.length = n ∧ (0 < n → ∃ b off, A = some ⟨b, off, none⟩ ∧ ∀ i, i < n → w.cell? ⟨b, off + i, none⟩ = some (.int .u8 (iat byt i)))) (hwf : ∀ z ∈ byt, (Lit.int .u8 z).wf = true) (hcap : n ≤ c) :
    Calls Try.prog 11 #[.slice A n c] w fun e w' => e = .returned (.bool true) ∧ Below w.heap.size w w' := by
  by_cases hbig : 1048576 < n
  · clear hb
    go_enter Try.func11, Try.ntmps11
    go_wp2_with fail
    go_ret
    exact ⟨rfl, Below.refl _ _⟩
  · have H := Lib.hid (drawKnowsOf_any A n c byt w hcap (by omega) (SB.of hb hwf))
    clear hb hwf
    go_enter Try.func11, Try.ntmps11
    go_wp2_with fail
    refine H.out.mono ?_
    rintro e w1 ⟨P, a, s, A1, k, c1, rows, rfl, hS, hk, hl, b1⟩
    obtain ⟨W, s1, hW, hs1, x1, f1, B1, y1⟩ := boxed w1 P A1 k c1 27 rows hS w.heap.size w b1 (Nat.le_refl _)
    have X1 := Lib.hid x1
    have S1 := Lib.hid f1
    have B1 := Lib.hid B1
    have HL := Lib.hid hl
    have hk2 : k ≤ 2000000 := by omega
    have hrl := Lib.hid hS.1
    clear x1 f1 y1 b1 hS hl H
    have CI := Lib.hid (fun (x : Int) w' h => implKnowsOf_any P a x A1 k c1 rows w' hk2 HL.out h)
    have CS := Lib.hid (fun w' h => specKnowsOf_any P a s A1 k c1 rows w' hk2 HL.out h)
    simp only [Array.append_eq_append, List.append_toArray, List.cons_append, List.nil_append] at *
    go_wp2_with fail
    rw [← hW, ← hs1]
    clear hW hs1
    have q0 := X1.out.c0
    have q1 := X1.out.c1
    refine (CI.out s W S1.out).mono ?_
    rintro e w2 ⟨rfl, b2⟩
    have X2 := Lib.hid (X1.out.later b2)
    have S2 := Lib.hid (S1.out.below b2 (Nat.le_refl _))
    have B2 := Lib.hid (bstep B1.out b2)
    clear b2 X1 S1 B1 q0 q1
    have q0 := X2.out.c0
    have q1 := X2.out.c1
    by_cases hneg : knA P rows a s < 0
    · generalize knA P rows a s = out at *
      go_wp2_with fail
      refine (CS.out w2 S2.out).mono ?_
      rintro e w3 ⟨rfl, b3⟩
      have X3 := Lib.hid (X2.out.later b3)
      have S3 := Lib.hid (S2.out.below b3 (Nat.le_refl _))
      have B3 := Lib.hid (bstep B2.out b3)
      clear b3 X2 S2 B2 q0 q1
      have q0 := X3.out.c0
      have q1 := X3.out.c1
      go_wp2_with fail
      refine (CS.out w3 S3.out).mono ?_
      rintro e w4 ⟨rfl, b4⟩
      have B4 := Lib.hid (bstep B3.out b4)
      clear b4
      go_wp2_with fail
      go_ret
      exact ⟨rfl, B4.out⟩
    · obtain ⟨N, K, S, rfl, hN, hK, rfl, hKle, hS16, hsub, hid1, hrest⟩ := knFacts (P := P) (a := a) (s := s) (rows := rows) (by omega)
      have h16 := pow16 hN
      have hp1 := Nat.two_pow_pos N
      have CK := Lib.hid (fun w' h => (by have C := CI.out (K : Int) w' h; rw [hid1] at C; exact C : Calls Try.prog 27 #[.agg #[.int .i64 N, .slice A1 k c1], .int .i64 a, .int .i64 K] w' fun e w2 => e = .returned (.int .i64 K) ∧ Below w'.heap.size w' w2))
      have CR := Lib.hid (fun w' h => (by have C := CI.out ((2 ^ N - 1 - K : Nat) : Int) w' h; rw [hrest] at C; exact C : Calls Try.prog 27 #[.agg #[.int .i64 N, .slice A1 k c1], .int .i64 a, .int .i64 ((2 ^ N - 1 - K : Nat) : Int)] w' fun e w2 => e = .returned (.int .i64 ((2 ^ N - 1 - K : Nat) : Int)) ∧ Below w'.heap.size w' w2))
      have HP := Lib.hid (fun w' => power_any N w' (by omega))
      have hba := bits_and64 K S (by omega) (by omega)
      rw [hsub] at hba
      rw [hK] at CS ⊢
      have hr1 : ((2 ^ N - 1 - K : Nat) : Int) = ((2 ^ N : Nat) : Int) - 1 - (K : Int) := by omega
      rw [hr1] at CR
      clear hneg CI hK hid1 hrest hsub hr1
      generalize 2 ^ N = p at *
      go_wp2_with fail
      refine (CS.out w2 S2.out).mono ?_
      rintro e w3 ⟨rfl, b3⟩
      have X3 := Lib.hid (X2.out.later b3)
      have S3 := Lib.hid (S2.out.below b3 (Nat.le_refl _))
      have B3 := Lib.hid (bstep B2.out b3)
      clear b3 X2 S2 B2 q0 q1
      have q0 := X3.out.c0
      have q1 := X3.out.c1
      go_wp2_with fail
      refine (HP.out _).mono ?_
      rintro e w' ⟨rfl, rfl⟩
      go_wp2_with fail
      refine (CK.out w3 S3.out).mono ?_
      rintro e w4 ⟨rfl, b4⟩
      have X4 := Lib.hid (X3.out.later b4)
      have S4 := Lib.hid (S3.out.below b4 (Nat.le_refl _))
      have B4 := Lib.hid (bstep B3.out b4)
      clear b4 X3 S3 B3 q0 q1
      have q0 := X4.out.c0
      have q1 := X4.out.c1
      go_wp2_with fail
      refine (CR.out w4 S4.out).mono ?_
      rintro e w5 ⟨rfl, b5⟩
      have B5 := Lib.hid (bstep B4.out b5)
      clear b5
      go_wp2_with fail
      go_ret
      exact ⟨rfl, B5.out⟩

end Go.Proofs.Ytlodhgkecpjieaa
