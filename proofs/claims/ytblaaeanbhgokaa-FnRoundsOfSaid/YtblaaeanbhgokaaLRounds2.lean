/-
  LRounds2. By a program (wip/tools/mk.py) out of snippets.
-/
import Derived.Test.YtblaaeanbhgokaaRounds
import Derived.Test.YtblaaeanbhgokaaRounds2
import Derived.Test.YtblaaeanbhgokaaDNet
import Derived.Test.YtblaaeanbhgokaaFnBase
import Derived.Test.YtblaaeanbhgokaaRndMath
namespace Go.Proofs.Ytblaaeanbhgokaa
open Go.RowKit

set_option maxHeartbeats 3200000 in
theorem lawRoundsOf (A : Option Addr) (n c : Nat) (bs : List Int) (w : World) (hb : bs.length = n ∧ (0 < n → ∃ b off, A = some ⟨b, off, none⟩ ∧ ∀ i, i < n → w.cell? ⟨b, off + i, none⟩ = some (.int .u8 (iat bs i)))) (hwf : ∀ z ∈ bs, (Lit.int .u8 z).wf = true) (hcap : n ≤ c) :
    Calls Try.prog 6 #[.slice A n c] w fun e w' => e = .returned (.bool true) ∧ Below w.heap.size w w' := by
  by_cases hbig : 1048576 < n
  · clear hb
    go_enter Try.func6, Try.ntmps6
    go_wp2_with fail
    go_ret
    exact ⟨rfl, Below.refl _ _⟩
  · have H := Lib.hid (drawRoundsOf_any A n c bs w hcap (by omega) (SB.of hb hwf))
    clear hb hwf
    go_enter Try.func6, Try.ntmps6
    go_wp2_with fail
    refine H.out.mono ?_
    rintro e w1 ⟨A1, n1, c1, zs, rfl, hsi, h1, h2, B1⟩
    have hn1 : n1 ≤ 2000000 := by omega
    have hml : (roundsR zs).length ≤ n1 := by unfold roundsR; split; exact Nat.le_trans (roundsL_le _ _) (by rw [hsi.len]; exact Nat.le_refl _); simp
    have C1 := Lib.hid (fun w h => specRoundsOf_any A1 n1 c1 zs w hn1 h)
    have C2 := Lib.hid (fun w h => implRoundsOf_any A1 n1 c1 zs w hn1 h2 h)
    have hlen := Lib.hid hsi.len
    have HF := Lib.hid (fun h => roundsR_fine (zs := zs) h)
    cases hv : vmarks zs with
    | false =>
      have E1 := show roundsK zs = -1 by simp [roundsK, hv]
      have E2 := show roundsR zs = [] by simp [roundsR, hv]
      rw [E1, E2] at C1 C2
      clear hv HF E1 E2
      go_wp2_with fail
      refine (C2.out _ hsi).mono ?_
      rintro e w2 ⟨AG, cG, rfl, hG, b2⟩
      have hsi2 := hsi.below b2 (Nat.le_refl _)
      have B2 := bstep B1 b2
      clear hsi B1 b2
      go_wp2_with fail
      refine (C1.out _ hsi2).mono ?_
      rintro e w3 ⟨AW, cW, rfl, hW, b3⟩
      have hG3 := hG.below b3 (Nat.le_refl _)
      have B3 := bstep B2 b3
      clear hsi2 B2 b3 hG
      have HEq := Lib.hid (fun m => equalInts_true AG AW _ cG cW [] (w3.drewN m) (by simp) hG3.si hW.si)
      go_wp2_with fail
      refine (HEq.out 0).mono ?_
      rintro e w4 ⟨rfl, q4, rfl⟩
      go_wp2_with fail
      refine (HEq.out _).mono ?_
      rintro e w5 ⟨rfl, q5, rfl⟩
      go_wp2_with fail
      go_ret
      exact ⟨rfl, bDrewN B3 _⟩
    | true =>
      have hf := HF.out hv
      have E1 := show roundsK zs = ((roundsR zs).length : Int) by simp [roundsK, hv]
      rw [E1] at C1 C2
      rw [hlen.out] at hf
      clear hv HF E1
      generalize roundsR zs = F at *
      obtain ⟨L, hL⟩ : ∃ L, L = F.length := ⟨_, rfl⟩
      rw [← hL] at C1 C2 hml hf
      have HL := Lib.hid hL; clear hL
      have hd0 : decide ((L : Int) < 0) = false := by simp
      go_wp2_with fail
      refine (C2.out _ hsi).mono ?_
      rintro e w2 ⟨AG, cG, rfl, hG, b2⟩
      have hsi2 := hsi.below b2 (Nat.le_refl _)
      have B2 := bstep B1 b2
      clear hsi B1 b2
      go_wp2_with fail
      refine (C1.out _ hsi2).mono ?_
      rintro e w3 ⟨AW, cW, rfl, hW, b3⟩
      have hG3 := hG.below b3 (Nat.le_refl _)
      have B3 := bstep B2 b3
      clear hsi2 B2 b3 hG
      have HEq := Lib.hid (equalInts_true AG AW _ cG cW F w3 (by omega) hG3.si hW.si)
      have hfa := Lib.hid hf.1
      have hfb := Lib.hid hf.2.1
      have hfc := hf.2.2
      have HP := Lib.hid (fun w => power_any L w (by omega))
      generalize 2 ^ L = P at *
      have hpl : ((P : Int) ≤ (n1 : Int)) := by omega
      clear hf
      go_wp2_with fail
      refine HEq.out.mono ?_
      rintro e w4 ⟨rfl, q4, rfl⟩
      have hG4 : SI (w3.drewN q4) AG L F := hG3.si
      clear hG3 hW
      go_wp2_with fail
      go_loopg [8, 9] L (fun gg nw iv wr => ∃ i : Nat, i ≤ L ∧ L - i ≤ gg ∧ iv = .int .i64 i ∧ nw = .int .i64 (iat ((n1 : Int) :: F) i) ∧ 1 ≤ iat ((n1 : Int) :: F) i + i * 0 + (if i = 0 then 1 else 0) ∧ iat ((n1 : Int) :: F) i ≤ 6 ∧ 0 ≤ iat ((n1 : Int) :: F) i ∧ wr = w3.drewN q4)
      case atStart => exact ⟨0, by omega, by omega, rfl, by rw [iat_zero], by rw [iat_zero]; simp; omega, by rw [iat_zero]; omega, by rw [iat_zero]; omega, rfl⟩
      case round =>
        obtain ⟨i, hi, hg, rfl, rfl, _, h6, h0, rfl⟩ := hrel
        by_cases hlt : i < L
        · obtain ⟨b, off, rfl, hc⟩ := hG4.at_ hlt
          have hx := hfa.out i hlt
          have es : iat ((n1 : Int) :: F) (i + 1) = iat F i := iat_succ _ _ _
          generalize iat ((n1 : Int) :: F) i = y at *
          generalize iat F i = x at *
          have d1 : decide (x < 1) = false := by simp; omega
          have d2 : decide (y < 2 * x) = false := by simp; omega
          clear hG4
          go_wp2_with fail
          go_roundg (L - (i + 1))
          case measure => omega
          case rel => exact ⟨i + 1, by omega, by omega, by go_num, by rw [es], by rw [es]; split <;> omega, by rw [es]; omega, by rw [es]; omega, rfl⟩
        · obtain rfl : i = L := by omega
          have hy := hfb.out
          generalize iat ((n1 : Int) :: F) i = y at *
          subst hy
          clear hG4
          go_wp2_with fail
          refine (HP.out _).mono ?_
          rintro e w5 ⟨rfl, rfl⟩
          go_wp2_with fail
          go_ret
          exact ⟨by simp, bDrewN B3 _⟩

end Go.Proofs.Ytblaaeanbhgokaa
