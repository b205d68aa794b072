/-
  LSH2. By a program (wip/tools/mk.py) out of snippets.
-/
import Derived.Test.YtlodhgkecpjieaaDV4
import Derived.Test.YtlodhgkecpjieaaKMath
import Derived.Test.YtlodhgkecpjieaaViewS4
import Derived.Test.YtlodhgkecpjieaaViewI5
namespace Go.Proofs.Ytlodhgkecpjieaa
open Go.RowKit

set_option maxRecDepth 20000 in
set_option maxHeartbeats 3200000 in
theorem lawSharedOf (A : Option Addr) (n c : Nat) (byt : List Int) (w : World) (hb : byt.length = n ∧ (0 < n → ∃ b off, A = some ⟨b, off, none⟩ ∧ ∀ i, i < n → w.cell? ⟨b, off + i, none⟩ = some (.int .u8 (iat byt i)))) (hwf : ∀ z ∈ byt, (Lit.int .u8 z).wf = true) (hcap : n ≤ c) :
    Calls Try.prog 14 #[.slice A n c] w fun e w' => e = .returned (.bool true) ∧ Below w.heap.size w w' := by
  by_cases hbig : 1048576 < n
  · clear hb
    go_enter Try.func14, Try.ntmps14
    go_wp2_with fail
    go_ret
    exact ⟨rfl, Below.refl _ _⟩
  · have H := Lib.hid (drawSharedOf_any A n c byt w hcap (by omega) (SB.of hb hwf))
    clear hb hwf
    go_enter Try.func14, Try.ntmps14
    go_wp2_with fail
    refine H.out.mono ?_
    rintro e w1 ⟨P, a, s, A1, k, c1, rows, rfl, hS, hk, hl, b1⟩
    obtain ⟨W, s1, hW, hs1, x1, f1, B1, y1⟩ := boxed w1 P A1 k c1 27 rows hS w.heap.size w b1 (Nat.le_refl _)
    have X1 := Lib.hid x1
    have S1 := Lib.hid f1
    have B1 := Lib.hid B1
    have HL := Lib.hid hl
    have hk2 : k ≤ 2000000 := by omega
    have hrl := Lib.hid hS.1
    clear x1 f1 y1 b1 hS hl H
    have CI := Lib.hid (fun w' h => implSharedOf_any P s A1 k c1 rows w' hk2 HL.out h)
    have CS := Lib.hid (fun w' h => specSharedOf_any P s A1 k c1 rows w' hk2 HL.out h)
    have CK := Lib.hid (fun (i : Nat) w' h => implKnowsOf_any P i s A1 k c1 rows w' hk2 HL.out h)
    simp only [Array.append_eq_append, List.append_toArray, List.cons_append, List.nil_append] at *
    go_wp2_with fail
    rw [← hW, ← hs1]
    clear hW hs1
    have q0 := X1.out.c0
    have q1 := X1.out.c1
    refine (CI.out W S1.out).mono ?_
    rintro e w2 ⟨rfl, b2⟩
    have X2 := Lib.hid (X1.out.later b2)
    have S2 := Lib.hid (S1.out.below b2 (Nat.le_refl _))
    have B2 := Lib.hid (bstep B1.out b2)
    clear b2 X1 S1 B1 q0 q1 CI
    have q0 := X2.out.c0
    have q1 := X2.out.c1
    by_cases hneg : shA P rows s < 0
    · generalize shA P rows s = out at *
      go_wp2_with fail
      refine (CS.out w2 S2.out).mono ?_
      rintro e w3 ⟨rfl, b3⟩
      have X3 := Lib.hid (X2.out.later b3)
      have S3 := Lib.hid (S2.out.below b3 (Nat.le_refl _))
      have B3 := Lib.hid (bstep B2.out b3)
      clear b3 X2 S2 B2 q0 q1
      have q0 := X3.out.c0
      have q1 := X3.out.c1
      go_wp2_with fail
      refine (CS.out w3 S3.out).mono ?_
      rintro e w4 ⟨rfl, b4⟩
      have B4 := Lib.hid (bstep B3.out b4)
      clear b4
      go_wp2_with fail
      go_ret
      exact ⟨rfl, B4.out⟩
    · obtain ⟨C, S, hC, rfl, hC16, hS16, hsub, hall⟩ := shFacts (P := P) (s := s) (rows := rows) (by omega)
      have hba := bits_and64 C S (by omega) (by omega)
      rw [hsub] at hba
      rw [hC] at CS ⊢
      have HAll := Lib.hid hall
      clear hneg hC hsub hall
      go_wp2_with fail
      refine (CS.out w2 S2.out).mono ?_
      rintro e w3 ⟨rfl, b3⟩
      have X3 := Lib.hid (X2.out.later b3)
      have S3 := Lib.hid (S2.out.below b3 (Nat.le_refl _))
      have B3 := Lib.hid (bstep B2.out b3)
      clear b3 X2 S2 B2 q0 q1 CS
      have HBA := Lib.hid hba
      clear hba
      go_wp2_with fail
      go_loopg [6] k (fun gg v wr => ∃ i : Nat, i ≤ k ∧ k - i ≤ gg ∧ v = .int .i64 i ∧ Bx wr s1 P A1 k c1 ∧ SS wr A1 k rows ∧ Below w.heap.size w wr)
      case atStart => exact ⟨0, by omega, by omega, rfl, X3.out, S3.out, B3.out⟩
      case round =>
        clear X3 S3 B3
        obtain ⟨i, hi, hg, rfl, hX, hS, hB⟩ := hrel
        have HX := Lib.hid hX
        have HS := Lib.hid hS
        have HB := Lib.hid hB
        have q0 := hX.c0
        have q1 := hX.c1
        clear hX hS hB
        by_cases hlt : i < k
        · obtain ⟨K, hK, hK16, hCK⟩ := HAll.out i (by rw [hrl.out]; exact hlt)
          have C1 := Lib.hid (CK.out i wr HS.out)
          rw [hK] at C1
          have hb2 := bits_and64 C K (by omega) (by omega)
          rw [hCK] at hb2
          clear hK hCK
          go_wp2_with fail
          refine C1.out.mono ?_
          rintro e w5 ⟨rfl, b5⟩
          have HX5 := Lib.hid (HX.out.later b5)
          have HS5 := Lib.hid (HS.out.below b5 (Nat.le_refl _))
          have HB5 := Lib.hid (bstep HB.out b5)
          clear b5 q0 q1
          go_wp2_with fail
          go_roundg (k - (i + 1))
          case measure => omega
          case rel => exact ⟨i + 1, by omega, by omega, by go_num, HX5.out, HS5.out, HB5.out⟩
        · obtain rfl : i = k := by omega
          have hba := HBA.out
          go_wp2_with fail
          go_ret
          exact ⟨rfl, HB.out⟩

end Go.Proofs.Ytlodhgkecpjieaa
