/-
  LLV2. By a program (wip/tools/mk.py) out of snippets.
-/
import Derived.Test.YtlodhgkecpjieaaLet4
import Derived.Test.YtlodhgkecpjieaaEqV
import Derived.Test.YtlodhgkecpjieaaLMath
import Derived.Test.YtlodhgkecpjieaaViewI4
namespace Go.Proofs.Ytlodhgkecpjieaa
open Go.RowKit

set_option maxRecDepth 20000 in
set_option maxHeartbeats 3200000 in
theorem lawLettersView (A : Option Addr) (n c : Nat) (bs : List Int) (w : World) (hb : bs.length = n ∧ (0 < n → ∃ b off, A = some ⟨b, off, none⟩ ∧ ∀ i, i < n → w.cell? ⟨b, off + i, none⟩ = some (.int .u8 (iat bs i)))) (hwf : ∀ z ∈ bs, (Lit.int .u8 z).wf = true) (hcap : n ≤ c) :
    Calls Try.prog 13 #[.slice A n c] w fun e w' => e = .returned (.bool true) ∧ Below w.heap.size w w' := by
  by_cases hbig : 1048576 < n
  · clear hb
    go_enter Try.func13, Try.ntmps13
    go_wp2_with fail
    go_ret
    exact ⟨rfl, Below.refl _ _⟩
  · have H := Lib.hid (drawLettersView_any A n c bs w hcap (by omega) (SB.of hb hwf))
    clear hb hwf
    go_enter Try.func13, Try.ntmps13
    go_wp2_with fail
    refine H.out.mono ?_
    rintro e w1 ⟨z, rfl, hz, b1⟩
    have KEY : inR z 1 15 = false ∨ ∃ m : Nat, z = m ∧ m ∈ [3, 5, 8, 1, 15] := by
      simp only [List.mem_cons, List.not_mem_nil, or_false] at hz
      rcases hz with rfl | rfl | rfl | rfl | rfl | rfl | rfl
      · exact .inr ⟨3, rfl, by simp⟩
      · exact .inr ⟨5, rfl, by simp⟩
      · exact .inr ⟨8, rfl, by simp⟩
      · exact .inr ⟨1, rfl, by simp⟩
      · exact .inr ⟨15, rfl, by simp⟩
      · exact .inl rfl
      · exact .inl rfl
    have B1 := Lib.hid b1
    have CS := Lib.hid (fun w => specLettersView_any z w)
    have CI := Lib.hid (fun w => implLettersView_any z w)
    obtain ⟨hk, hr, _⟩ := lvR_fits z
    clear b1 hz H
    have HF := Lib.hid (fun m (hm : m ∈ [3, 5, 8, 1, 15]) => letFacts hm)
    have hzv : ∀ V rows, V = lvW z → rows = lvR z → inR z 1 15 = true → ∃ m : Nat, z = m ∧ m ≤ 15 ∧ vv V rows = true ∧ cmA V rows ((2 ^ (m + 1) - 2 : Nat) : Int) = 0 ∧ ∀ x : Nat, x ≤ m → dpA V rows x ((2 ^ (m + 1) - 2 : Nat) : Int) = ((x - 1 : Nat) : Int) := by
      rintro V rows rfl rfl hin
      rcases KEY with h | ⟨m, rfl, hm⟩
      · rw [h] at hin; cases hin
      · obtain ⟨g1, g2, g3⟩ := HF.out m hm
        exact ⟨m, rfl, by simp at hm; omega, g1, g2, g3⟩
    have HZ := Lib.hid (hzv _ _ rfl rfl)
    clear HF KEY hzv
    generalize lvW z = V at *
    generalize lvR z = rows at *
    obtain ⟨k, hkl⟩ : ∃ k, k = rows.length := ⟨_, rfl⟩
    rw [← hkl] at CS CI hk hr
    have HR := Lib.hid hr
    clear hr hkl
    go_wp2_with fail
    refine (CI.out _).mono ?_
    rintro e w2 ⟨A2, c2, rfl, F2, b2⟩
    obtain ⟨W2, s2, hW2, hs2, x2, f2, B2, y2⟩ := boxed w2 V A2 k c2 27 rows F2.ss w.heap.size w (bstep B1.out b2) (Nat.le_refl _)
    have X2 := Lib.hid x2
    have S2 := Lib.hid f2
    have B2 := Lib.hid B2
    clear x2 f2 b2 F2 B1 y2
    go_wp2_with fail
    rw [← hW2, ← hs2]
    clear hW2 hs2
    refine (CS.out _).mono ?_
    rintro e w3 ⟨A3, c3, rfl, F3, b3⟩
    obtain ⟨W3, s3, hW3, hs3, x3, f3, B3, y3⟩ := boxed w3 V A3 k c3 27 rows F3.ss w.heap.size w (bstep B2.out b3) (Nat.le_refl _)
    have X3 := Lib.hid x3
    have S3 := Lib.hid f3
    have B3 := Lib.hid B3
    have X23 := Lib.hid ((X2.out.later b3).later y3)
    have S23 := Lib.hid ((S2.out.below b3 (Nat.le_refl _)).below y3 (Nat.le_refl _))
    have q0 := (X2.out.later b3).c0
    have q1 := (X2.out.later b3).c1
    have hlt3 : s2 < w3.heap.size := (X2.out.later b3).lt
    have hne3 : ¬ (s2 = w3.heap.size) := by omega
    clear x3 f3 b3 F3 y3 X2 S2 B2
    go_wp2_with fail
    rw [← hW3, ← hs3]
    rw [← hs3] at hlt3 hne3
    clear hW3 hs3 hne3 q0 q1
    have HEq := Lib.hid (fun A' c' w' h1 h2 => equalView_true V A2 A' k c2 c' rows w' hk HR.out h1 h2)
    have p0 := X3.out.c0
    have p1 := X3.out.c1
    have q0 := X23.out.c0
    have q1 := X23.out.c1
    refine (HEq.out A3 c3 W3 S23.out S3.out).mono ?_
    rintro e w4 ⟨rfl, b4⟩
    have X4 := Lib.hid (X23.out.later b4)
    have Y4 := Lib.hid (X3.out.later b4)
    have S4 := Lib.hid (S23.out.below b4 (Nat.le_refl _))
    have T4 := Lib.hid (S3.out.below b4 (Nat.le_refl _))
    have B4 := Lib.hid (bstep B3.out b4)
    clear b4 S3 X3 X23 S23 B3 p0 p1 q0 q1 CI CS
    have p0 := Y4.out.c0
    have p1 := Y4.out.c1
    have q0 := X4.out.c0
    have q1 := X4.out.c1
    have hok : inR z 1 15 = false ∨ inR z 1 15 = true := by cases inR z 1 15 <;> simp
    rcases hok with hok | hok
    · rw [hok] at *
      clear hok HZ
      go_wp2_with fail
      refine (HEq.out A3 c3 w4 S4.out T4.out).mono ?_
      rintro e w5 ⟨rfl, b5⟩
      have B5 := Lib.hid (bstep B4.out b5)
      clear b5
      go_wp2_with fail
      go_ret
      exact ⟨rfl, B5.out⟩
    · have HZ1 := HZ.out hok
      rw [hok] at *
      clear hok HZ
      obtain ⟨m, rfl, hm, hv, hcm, hdp⟩ := HZ1
      have CV := Lib.hid (fun w' h => implValidView_any V A2 k c2 rows w' hk HR.out h)
      have CC := Lib.hid (fun w' h => implCommonOf_any V ((2 ^ (m + 1) - 2 : Nat) : Int) A2 k c2 rows w' hk HR.out h)
      have CD := Lib.hid (fun (x : Nat) w' h => implDepthOf_any V x ((2 ^ (m + 1) - 2 : Nat) : Int) A2 k c2 rows w' hk HR.out h)
      rw [hv] at CV
      rw [hcm] at CC
      have HD := Lib.hid hdp
      have HP := Lib.hid (fun w' => power_any (m + 1) w' (by omega))
      have hp16 : 2 ^ (m + 1) ≤ 65536 := pow16 (by omega)
      have hp2 : 2 ≤ 2 ^ (m + 1) := Nat.pow_le_pow_right (n := 2) (by omega) (by omega : 1 ≤ m + 1)
      have hsub : ((2 ^ (m + 1) - 2 : Nat) : Int) = ((2 ^ (m + 1) : Nat) : Int) - 2 := by omega
      have HSub := Lib.hid hsub
      have hcast : ((m + 1 : Nat) : Int) = (m : Int) + 1 := by omega
      rw [hcast] at HP
      clear hv hcm hdp hsub HEq T4 p0 p1 Y4 hcast
      generalize 2 ^ (m + 1) = P at *
      go_wp2_with fail
      refine (HP.out _).mono ?_
      rintro e w' ⟨rfl, rfl⟩
      go_wp2_with fail
      rw [HSub.out] at CC CD HD
      go_loopg [9] (m + 1) (fun gg v wr => ∃ x : Nat, x ≤ m + 1 ∧ m + 1 - x ≤ gg ∧ v = .int .i64 x ∧ Bx wr s2 V A2 k c2 ∧ SS wr A2 k rows ∧ Below w.heap.size w wr)
      case atStart => exact ⟨0, by omega, by omega, rfl, X4.out, S4.out, B4.out⟩
      case round =>
        clear q0 q1 X4 S4 B4
        obtain ⟨x, hx, hg, rfl, hX, hS, hB⟩ := hrel
        have HX := Lib.hid hX
        have HS := Lib.hid hS
        have HB := Lib.hid hB
        have q0 := hX.c0
        have q1 := hX.c1
        clear hX hS hB
        by_cases hlt : x ≤ m
        · have C := Lib.hid (CD.out x wr HS.out)
          rw [HD.out x hlt] at C
          by_cases h0 : x = 0
          · subst h0
            go_wp2_with fail
            refine C.out.mono ?_
            rintro e w5 ⟨rfl, b5⟩
            have HX5 := Lib.hid (HX.out.later b5)
            have HS5 := Lib.hid (HS.out.below b5 (Nat.le_refl _))
            have HB5 := Lib.hid (bstep HB.out b5)
            clear b5
            go_wp2_with fail
            go_roundg (m + 1 - 1)
            case measure => omega
            case rel => exact ⟨1, by omega, by omega, rfl, HX5.out, HS5.out, HB5.out⟩
          · have e1 : ((x - 1 : Nat) : Int) = (x : Int) - 1 := by omega
            rw [e1] at C
            have e2 : ¬ ((x : Int) - 1 < 0) := by omega
            have e3 : (0 : Int) ≤ (x : Int) - 1 := by omega
            have e4 : max ((x : Int) - 1) 0 = (x : Int) - 1 := by omega
            clear e1
            go_wp2_with fail
            refine C.out.mono ?_
            rintro e w5 ⟨rfl, b5⟩
            have HX5 := Lib.hid (HX.out.later b5)
            have HS5 := Lib.hid (HS.out.below b5 (Nat.le_refl _))
            have HB5 := Lib.hid (bstep HB.out b5)
            clear b5
            go_wp2_with fail
            go_roundg (m + 1 - (x + 1))
            case measure => omega
            case rel => exact ⟨x + 1, by omega, by omega, by go_num, HX5.out, HS5.out, HB5.out⟩
        · obtain rfl : x = m + 1 := by omega
          go_wp2_with fail
          refine (CV.out wr HS.out).mono ?_
          rintro e w5 ⟨rfl, b5⟩
          have HX5 := HX.out.later b5
          have HS5 := Lib.hid (HS.out.below b5 (Nat.le_refl _))
          have HB5 := Lib.hid (bstep HB.out b5)
          have r0 := HX5.c0
          have r1 := HX5.c1
          clear b5 HX5 q0 q1
          go_wp2_with fail
          refine (CC.out w5 HS5.out).mono ?_
          rintro e w6 ⟨rfl, b6⟩
          have HB6 := Lib.hid (bstep HB5.out b6)
          clear b6
          go_wp2_with fail
          go_ret
          exact ⟨rfl, HB6.out⟩

end Go.Proofs.Ytlodhgkecpjieaa
