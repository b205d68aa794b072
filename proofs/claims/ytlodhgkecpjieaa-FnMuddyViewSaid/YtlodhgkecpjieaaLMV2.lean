/-
  LMV2. By a program (wip/tools/mk.py) out of snippets.
-/
import Derived.Test.YtlodhgkecpjieaaMud3
import Derived.Test.YtlodhgkecpjieaaEqV
import Derived.Test.YtlodhgkecpjieaaLMath
import Derived.Test.YtlodhgkecpjieaaViewI5
namespace Go.Proofs.Ytlodhgkecpjieaa
open Go.RowKit

theorem bs_step (a p : Nat) : ((bs (fun x => x.testBit a) (p + 1) : Nat) : Int) = ((bs (fun x => x.testBit a) p : Nat) : Int) + bitI p a * ((2 ^ p : Nat) : Int) := by
  rw [bs]
  unfold bitI
  by_cases h : p.testBit a = true
  · simp [h]
  · simp [h]
theorem bitI_le (p a : Nat) : 0 ≤ bitI p a ∧ bitI p a ≤ 1 := by unfold bitI; split <;> omega

set_option maxRecDepth 20000 in
set_option maxHeartbeats 3200000 in
theorem lawMuddyView (A : Option Addr) (n c : Nat) (byt : List Int) (w : World) (hb : byt.length = n ∧ (0 < n → ∃ b off, A = some ⟨b, off, none⟩ ∧ ∀ i, i < n → w.cell? ⟨b, off + i, none⟩ = some (.int .u8 (iat byt i)))) (hwf : ∀ z ∈ byt, (Lit.int .u8 z).wf = true) (hcap : n ≤ c) :
    Calls Try.prog 12 #[.slice A n c] w fun e w' => e = .returned (.bool true) ∧ Below w.heap.size w w' := by
  by_cases hbig : 1048576 < n
  · clear hb
    go_enter Try.func12, Try.ntmps12
    go_wp2_with fail
    go_ret
    exact ⟨rfl, Below.refl _ _⟩
  · have H := Lib.hid (drawMuddyView_any A n c byt w hcap (by omega) (SB.of hb hwf))
    clear hb hwf
    go_enter Try.func12, Try.ntmps12
    go_wp2_with fail
    refine H.out.mono ?_
    rintro e w1 ⟨z, rfl, hz, b1⟩
    have KEY : inR z 1 4 = false ∨ ∃ m : Nat, z = m ∧ m ∈ [2, 3, 4, 1] := by
      simp only [List.mem_cons, List.not_mem_nil, or_false] at hz
      rcases hz with rfl | rfl | rfl | rfl | rfl | rfl
      · exact .inr ⟨2, rfl, by simp⟩
      · exact .inr ⟨3, rfl, by simp⟩
      · exact .inr ⟨4, rfl, by simp⟩
      · exact .inr ⟨1, rfl, by simp⟩
      · exact .inl rfl
      · exact .inl rfl
    have B1 := Lib.hid b1
    have CS := Lib.hid (fun w => specMuddyView_any z w)
    have CI := Lib.hid (fun w => implMuddyView_any z w)
    obtain ⟨hk, hr, _⟩ := muR_fits z
    clear b1 hz H
    have HF := Lib.hid (fun m (hm : m ∈ [2, 3, 4, 1]) => mudFacts hm)
    have hzv : ∀ V rows, V = muW z → rows = muR z → inR z 1 4 = true → ∃ m : Nat, z = m ∧ 1 ≤ m ∧ m ≤ 4 ∧ V = ((2 ^ m : Nat) : Int) ∧ vv V rows = true ∧ ∀ a : Nat, a < m → knA V rows a (mudD m a) = 0 ∧ (1 < m → shA V rows (mudD m a) = (mudD m a : Int)) ∧ mudD m a < 65536 := by
      rintro V rows rfl rfl hin
      rcases KEY with h | ⟨m, rfl, hm⟩
      · rw [h] at hin; cases hin
      · obtain ⟨g1, g2⟩ := HF.out m hm
        have hm4 : 1 ≤ m ∧ m ≤ 4 := by simp at hm; omega
        exact ⟨m, rfl, hm4.1, hm4.2, by rw [muW, hin]; simp, g1, g2⟩
    have HZ := Lib.hid (hzv _ _ rfl rfl)
    clear HF KEY hzv
    generalize muW z = V at *
    generalize muR z = rows at *
    obtain ⟨k, hkl⟩ : ∃ k, k = rows.length := ⟨_, rfl⟩
    rw [← hkl] at CS CI hk hr
    have HR := Lib.hid hr
    clear hr hkl
    go_wp2_with fail
    refine (CI.out _).mono ?_
    rintro e w2 ⟨A2, c2, rfl, F2, b2⟩
    obtain ⟨W2, s2, hW2, hs2, x2, f2, B2, y2⟩ := boxed w2 V A2 k c2 27 rows F2.ss w.heap.size w (bstep B1.out b2) (Nat.le_refl _)
    have X2 := Lib.hid x2
    have S2 := Lib.hid f2
    have B2 := Lib.hid B2
    clear x2 f2 b2 F2 B1 y2
    go_wp2_with fail
    rw [← hW2, ← hs2]
    clear hW2 hs2
    refine (CS.out _).mono ?_
    rintro e w3 ⟨A3, c3, rfl, F3, b3⟩
    obtain ⟨W3, s3, hW3, hs3, x3, f3, B3, y3⟩ := boxed w3 V A3 k c3 27 rows F3.ss w.heap.size w (bstep B2.out b3) (Nat.le_refl _)
    have X3 := Lib.hid x3
    have S3 := Lib.hid f3
    have B3 := Lib.hid B3
    have X23 := Lib.hid ((X2.out.later b3).later y3)
    have S23 := Lib.hid ((S2.out.below b3 (Nat.le_refl _)).below y3 (Nat.le_refl _))
    have q0 := (X2.out.later b3).c0
    have q1 := (X2.out.later b3).c1
    have hlt3 : s2 < w3.heap.size := (X2.out.later b3).lt
    have hne3 : ¬ (s2 = w3.heap.size) := by omega
    clear x3 f3 b3 F3 y3 X2 S2 B2
    go_wp2_with fail
    rw [← hW3, ← hs3]
    rw [← hs3] at hlt3 hne3
    clear hW3 hs3 hne3 q0 q1
    have HEq := Lib.hid (fun A' c' w' h1 h2 => equalView_true V A2 A' k c2 c' rows w' hk HR.out h1 h2)
    have p0 := X3.out.c0
    have p1 := X3.out.c1
    have q0 := X23.out.c0
    have q1 := X23.out.c1
    refine (HEq.out A3 c3 W3 S23.out S3.out).mono ?_
    rintro e w4 ⟨rfl, b4⟩
    have X4 := Lib.hid (X23.out.later b4)
    have Y4 := Lib.hid (X3.out.later b4)
    have S4 := Lib.hid (S23.out.below b4 (Nat.le_refl _))
    have T4 := Lib.hid (S3.out.below b4 (Nat.le_refl _))
    have B4 := Lib.hid (bstep B3.out b4)
    clear b4 S3 X3 X23 S23 B3 p0 p1 q0 q1 CI CS
    have p0 := Y4.out.c0
    have p1 := Y4.out.c1
    have q0 := X4.out.c0
    have q1 := X4.out.c1
    have hok : inR z 1 4 = false ∨ inR z 1 4 = true := by cases inR z 1 4 <;> simp
    rcases hok with hok | hok
    · rw [hok] at *
      clear hok HZ
      go_wp2_with fail
      refine (HEq.out A3 c3 w4 S4.out T4.out).mono ?_
      rintro e w5 ⟨rfl, b5⟩
      have B5 := Lib.hid (bstep B4.out b5)
      clear b5
      go_wp2_with fail
      go_ret
      exact ⟨rfl, B5.out⟩
    · have HZ1 := HZ.out hok
      rw [hok] at *
      clear hok HZ
      obtain ⟨m, rfl, hm1, hm, hV, hv, hfa⟩ := HZ1
      have CV := Lib.hid (fun w' h => implValidView_any V A2 k c2 rows w' hk HR.out h)
      have CK := Lib.hid (fun (a : Nat) (s : Nat) w' h => implKnowsOf_any V a s A2 k c2 rows w' hk HR.out h)
      have CH := Lib.hid (fun (s : Nat) w' h => implSharedOf_any V s A2 k c2 rows w' hk HR.out h)
      rw [hv] at CV
      have HFa := Lib.hid hfa
      have hp16 : 2 ^ m ≤ 65536 := pow16 (by omega)
      have hpm : 2 ^ m ≤ 16 := Nat.pow_le_pow_right (n := 2) (by omega) hm
      have HP := Lib.hid (fun w' => power_any m w' (by omega))
      have HDef := Lib.hid (fun a => (show mudD m a = bs (fun x => x.testBit a) (2 ^ m) from rfl))
      generalize 2 ^ m = P at *
      subst hV
      clear hv hfa HEq T4 p0 p1 Y4
      have q0 := X4.out.c0
      have q1 := X4.out.c1
      go_wp2_with fail
      go_loopg [8] m (fun gg v wr => ∃ a : Nat, a ≤ m ∧ m - a ≤ gg ∧ v = .int .i64 a ∧ Bx wr s2 (P : Int) A2 k c2 ∧ SS wr A2 k rows ∧ Below w.heap.size w wr)
      case atStart => exact ⟨0, by omega, by omega, rfl, X4.out, S4.out, B4.out⟩
      case round =>
        clear q0 q1 X4 S4 B4
        obtain ⟨a, ha, hg, rfl, hX, hS, hB⟩ := hrel
        have HX := Lib.hid hX
        have HS := Lib.hid hS
        have HB := Lib.hid hB
        have q0 := hX.c0
        have q1 := hX.c1
        clear hX hS hB
        by_cases hlt : a < m
        · obtain ⟨f1, f2, f3⟩ := HFa.out a hlt
          have C1 := Lib.hid (fun (h : SS wr A2 k rows) => CK.out a (mudD m a) wr h)
          rw [f1] at C1
          have C2 := Lib.hid (fun w' (h : SS w' A2 k rows) (h1 : 1 < m) => (by have C := CH.out (mudD m a) w' h; rw [f2 h1] at C; exact C : Calls Try.prog 35 #[.agg #[.int .i64 (P : Int), .slice A2 k c2], .int .i64 (mudD m a)] w' fun e w2 => e = .returned (.int .i64 (mudD m a)) ∧ Below w'.heap.size w' w2))
          have HD := Lib.hid (HDef.out a)
          have hDb := f3
          generalize mudD m a = D at *
          clear f1 f2 f3
          go_wp2_with fail
          go_loopg [9, 10] P (fun g2 s9 s10 w3 => ∃ p : Nat, p ≤ P ∧ P - p ≤ g2 ∧ s10 = .int .i64 p ∧ s9 = .int .i64 ((bs (fun x => x.testBit a) p : Nat) : Int) ∧ w3 = wr)
          case atStart => exact ⟨0, by omega, by omega, rfl, rfl, rfl⟩
          case round =>
            obtain ⟨p, hp, hg2, rfl, rfl, rfl⟩ := hrel
            by_cases hpl : p < P
            · have hpp : 2 ^ p ≤ 32768 := Nat.pow_le_pow_right (n := 2) (by omega) (by omega : p ≤ 15)
              have hbl := Nat.lt_of_lt_of_le (bs_lt (fun x => x.testBit a) p) hpp
              have hbs := Lib.hid (bs_step a p)
              have HB1 := Lib.hid (fun w' => lawbit_any p a w' (by omega) (by omega))
              have HP1 := Lib.hid (fun w' => power_any p w' (by omega))
              have hbi := bitI_le p a
              generalize bs (fun x => x.testBit a) p = D1 at *
              generalize bitI p a = bi at *
              generalize 2 ^ p = Q2 at *
              obtain ⟨hb0, hb1⟩ := hbi
              have hmul : 0 ≤ bi * (Q2 : Int) ∧ bi * (Q2 : Int) ≤ 32768 := by
                rcases (by omega : bi = 0 ∨ bi = 1) with rfl | rfl <;> omega
              obtain ⟨hm0, hm2⟩ := hmul
              go_wp2_with fail
              refine (HB1.out _).mono ?_
              rintro e w5 ⟨rfl, rfl⟩
              go_wp2_with fail
              refine (HP1.out _).mono ?_
              rintro e w5 ⟨rfl, rfl⟩
              go_wp2_with fail
              go_roundg (P - (p + 1))
              case measure => omega
              case rel => exact ⟨p + 1, by omega, by omega, by go_num, by rw [hbs.out], rfl⟩
            · obtain rfl : p = P := by omega
              rw [← HD.out]
              by_cases h1 : 1 < m
              · have h1' : (1 : Int) < (m : Int) := by omega
                go_wp2_with fail
                refine (C1.out HS.out).mono ?_
                rintro e w5 ⟨rfl, b5⟩
                have HX5 := Lib.hid (HX.out.later b5)
                have HS5 := Lib.hid (HS.out.below b5 (Nat.le_refl _))
                have HB5 := Lib.hid (bstep HB.out b5)
                have r0 := HX5.out.c0
                have r1 := HX5.out.c1
                clear b5 q0 q1
                go_wp2_with fail
                refine (C2.out w5 HS5.out h1).mono ?_
                rintro e w6 ⟨rfl, b6⟩
                have HX6 := Lib.hid (HX5.out.later b6)
                have HS6 := Lib.hid (HS5.out.below b6 (Nat.le_refl _))
                have HB6 := Lib.hid (bstep HB5.out b6)
                clear b6 r0 r1
                go_wp2_with fail
                go_roundg (m - (a + 1))
                case measure => omega
                case rel => exact ⟨a + 1, by omega, by omega, by go_num, HX6.out, HS6.out, HB6.out⟩
              · have h1' : ¬ ((1 : Int) < (m : Int)) := by omega
                go_wp2_with fail
                refine (C1.out HS.out).mono ?_
                rintro e w5 ⟨rfl, b5⟩
                have HX5 := Lib.hid (HX.out.later b5)
                have HS5 := Lib.hid (HS.out.below b5 (Nat.le_refl _))
                have HB5 := Lib.hid (bstep HB.out b5)
                clear b5 q0 q1
                go_wp2_with fail
                go_roundg (m - (a + 1))
                case measure => omega
                case rel => exact ⟨a + 1, by omega, by omega, by go_num, HX5.out, HS5.out, HB5.out⟩
        · obtain rfl : a = m := by omega
          have HBD := Lib.hid (bDrewN HB.out 1)
          have HSD := Lib.hid (HS.out.below (bDrewN (Below.refl wr.heap.size wr) 1) (Nat.le_refl _))
          have hsl := HX.out.lt
          go_wp2_with fail
          go_region_held3 (fun w' => w'.cell? ⟨s2, 0, none⟩ = some (.int .i64 (P : Int)) ∧ w'.cell? ⟨s2, 1, none⟩ = some (.slice A2 k c2)) (go_keep) (first
            | (go_simp; go_at_call 18; refine (CV.out wr.drew HSD.out).mono ?_; rintro e w5 ⟨rfl, b5⟩; have hq := (b5.cell (p := ⟨s2, 0, none⟩) hsl).trans q0; have hq1 := (b5.cell (p := ⟨s2, 1, none⟩) hsl).trans q1; have HB5 := Lib.hid (bstep HBD.out b5); clear b5; dsimp only)
            | (go_simp; go_at_call 37; refine (HP.out _).mono ?_; rintro e w6 ⟨rfl, rfl⟩; dsimp only))
          go_wp2_with fail
          go_ret
          exact ⟨rfl, HB5.out⟩

end Go.Proofs.Ytlodhgkecpjieaa
