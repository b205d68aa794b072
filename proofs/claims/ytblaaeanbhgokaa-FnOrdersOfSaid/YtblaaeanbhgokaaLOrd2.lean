/-
  LOrd2. By a program (wip/tools/mk.py) out of snippets.
-/
import Derived.Test.YtblaaeanbhgokaaOrdL
import Derived.Test.YtblaaeanbhgokaaOrdS
import Derived.Test.YtblaaeanbhgokaaOrdI
namespace Go.Proofs.Ytblaaeanbhgokaa
open Go.RowKit

set_option maxHeartbeats 3200000 in
theorem lawOrdersOf (A : Option Addr) (n c : Nat) (bs : List Int) (w : World) (hb : bs.length = n ∧ (0 < n → ∃ b off, A = some ⟨b, off, none⟩ ∧ ∀ i, i < n → w.cell? ⟨b, off + i, none⟩ = some (.int .u8 (iat bs i)))) (hwf : ∀ z ∈ bs, (Lit.int .u8 z).wf = true) (hcap : n ≤ c) :
    Calls Try.prog 11 #[.slice A n c] w fun e w' => e = .returned (.bool true) ∧ Below w.heap.size w w' := by
  by_cases hbig : 1048576 < n
  · clear hb
    go_enter Try.func11, Try.ntmps11
    go_wp2_with fail
    go_ret
    exact ⟨rfl, Below.refl _ _⟩
  · have H := Lib.hid (drawOrdersOf_any A n c bs w hcap (by omega) (SB.of hb hwf))
    clear hb hwf
    go_enter Try.func11, Try.ntmps11
    go_wp2_with fail
    refine H.out.mono ?_
    rintro e w1 ⟨k, o, l, A1, n1, c1, zs, rfl, hsi, ⟨hk1, hk2⟩, ⟨hl1, hl2⟩, hn1, hnc, hB1⟩
    have HS1 := Lib.hid hsi
    have B1 := Lib.hid hB1
    have CI := Lib.hid (fun w h => implOrdersOf_any k o l A1 n1 c1 zs w (by omega) h)
    have CS := Lib.hid (fun w h => specOrdersOf_any k o l A1 n1 c1 zs w (by omega) h)
    clear hsi hB1 H
    cases hok : okO k o l zs with
    | false =>
      have hv := show ordA k o l zs = [] by simp [ordA, hok]
      rw [hv] at CI CS
      clear hok hv
      go_wp2_with fail
      refine (CI.out _ HS1.out).mono ?_
      rintro e w2 ⟨AG, cG, rfl, hG, b2⟩
      have B2 := Lib.hid (bstep B1.out b2)
      have HS2 := Lib.hid (HS1.out.below b2 (Nat.le_refl _))
      have HG := Lib.hid hG.si
      clear hG b2
      go_wp2_with fail
      refine (CS.out _ HS2.out).mono ?_
      rintro e w3 ⟨AW, cW, rfl, hW, b3⟩
      have B3 := Lib.hid (bstep B2.out b3)
      have HG3 := Lib.hid (HG.out.below b3 (Nat.le_refl _))
      have HS3 := Lib.hid (HS2.out.below b3 (Nat.le_refl _))
      have HW := Lib.hid hW.si
      clear hW b3
      go_wp2_with fail
      refine (equalInts_true AG AW _ cG cW [] w3 (by simp) HG3.out HW.out).mono ?_
      rintro e w4 ⟨rfl, q4, rfl⟩
      have B4 := Lib.hid (bDrewN B3.out q4)
      have HS4 := Lib.hid (show SI (w3.drewN q4) A1 n1 zs from HS3.out)
      have HG4 := Lib.hid (show SI (w3.drewN q4) AG 0 [] from HG3.out)
      generalize w3.drewN q4 = w4 at *
      go_wp2_with fail
      refine (CS.out _ HS4.out).mono ?_
      rintro e w5 ⟨AV, cV, rfl, hV, b5⟩
      have B5 := Lib.hid (bstep B4.out b5)
      have HG5 := Lib.hid (HG4.out.below b5 (Nat.le_refl _))
      have HV := Lib.hid hV.si
      clear hV b5
      go_wp2_with fail
      refine (equalInts_true AG AV _ cG cV [] w5 (by simp) HG5.out HV.out).mono ?_
      rintro e w6 ⟨rfl, q6, rfl⟩
      have B6 := Lib.hid (bDrewN B5.out q6)
      go_wp2_with fail
      go_ret
      exact ⟨rfl, B6.out⟩
    | true =>
      obtain ⟨⟨hk3, hk4⟩, _⟩ := okO_iff.1 hok
      obtain ⟨K, rfl⟩ : ∃ K : Nat, k = K := ⟨k.toNat, by omega⟩
      have hv := show ordA K o l zs = ordTo K o l zs (K - 1) by simp [ordA, hok]
      rw [hv] at CI CS
      rw [ordTo_length] at CI CS
      have HFi := Lib.hid (fun hg => fine_at (ord_fine hok hg))
      have HNg := Lib.hid (fun i (hi : i < K - 1) h => out_neg (n := K) (order := o) (liar := l) (zs := zs) (k := K - 1) hi h)
      have HLen := Lib.hid (ordTo_length K o l zs (K - 1))
      generalize ordTo K o l zs (K - 1) = F at *
      obtain ⟨M, hM⟩ : ∃ M, M = K - 1 := ⟨_, rfl⟩
      rw [← hM] at CI CS HNg HLen
      have hKM : (K : Int) - 1 = (M : Int) := by omega
      have hM2 : 2 ≤ M := by omega
      have hM4 : M ≤ 4 := by omega
      have hM0 : ((M : Int) == 0) = false := by simp; omega
      clear hok hv hM
      go_wp2_with fail
      refine (CI.out _ HS1.out).mono ?_
      rintro e w2 ⟨AG, cG, rfl, hG, b2⟩
      have B2 := Lib.hid (bstep B1.out b2)
      have HS2 := Lib.hid (HS1.out.below b2 (Nat.le_refl _))
      have HG := Lib.hid hG.si
      clear hG b2
      go_wp2_with fail
      refine (CS.out _ HS2.out).mono ?_
      rintro e w3 ⟨AW, cW, rfl, hW, b3⟩
      have B3 := Lib.hid (bstep B2.out b3)
      have HG3 := Lib.hid (HG.out.below b3 (Nat.le_refl _))
      have HS3 := Lib.hid (HS2.out.below b3 (Nat.le_refl _))
      have HW := Lib.hid hW.si
      clear hW b3
      by_cases hgd : (K : Int) < 4 ∧ 0 ≤ l
      · obtain ⟨hg1, hg2⟩ := hgd
        go_wp2_with fail
        refine (equalInts_true AG AW M cG cW F w3 (by omega) HG3.out HW.out).mono ?_
        rintro e w4 ⟨rfl, q4, rfl⟩
        have B4 := Lib.hid (bDrewN B3.out q4)
        have HS4 := Lib.hid (show SI (w3.drewN q4) A1 n1 zs from HS3.out)
        have HG4 := Lib.hid (show SI (w3.drewN q4) AG M F from HG3.out)
        generalize w3.drewN q4 = w4 at *
        go_wp2_with fail
        refine (CS.out _ HS4.out).mono ?_
        rintro e w5 ⟨AV, cV, rfl, hV, b5⟩
        have B5 := Lib.hid (bstep B4.out b5)
        have HG5 := Lib.hid (HG4.out.below b5 (Nat.le_refl _))
        have HV := Lib.hid hV.si
        clear hV b5
        go_wp2_with fail
        refine (equalInts_true AG AV M cG cV F w5 (by omega) HG5.out HV.out).mono ?_
        rintro e w6 ⟨rfl, q6, rfl⟩
        have B6 := Lib.hid (bDrewN B5.out q6)
        go_wp2_with fail
        go_ret
        exact ⟨rfl, B6.out⟩
      · have hf := HFi.out hgd
        rw [HLen.out] at hf
        have HF1 := Lib.hid hf.1
        have HV := Lib.hid (fun w h => sameVoice_true AG M cG F w (by omega) hf.2 h)
        clear hf HFi
        have HTl := Lib.hid (show ∀ (Q : Prop), ((K : Int) < 4 → 0 ≤ l → Q) ∨ True from fun _ => .inr trivial)
        by_cases hg1 : (K : Int) < 4
        all_goals
          (try have hg2 : ¬ 0 ≤ l := fun h => hgd ⟨hg1, h⟩)
          clear hgd HTl
          go_wp2_with fail
          refine (equalInts_true AG AW M cG cW F w3 (by omega) HG3.out HW.out).mono ?_
          rintro e w4 ⟨rfl, q4, rfl⟩
          have B4 := Lib.hid (bDrewN B3.out q4)
          have HG4 := Lib.hid (show SI (w3.drewN q4) AG M F from HG3.out)
          generalize w3.drewN q4 = w4 at *
          go_wp2_with fail
          go_loopg [8] M (fun gg s8 wr => ∃ i : Nat, i ≤ M ∧ M - i ≤ gg ∧ s8 = .int .i64 i ∧ w4 = wr)
          case atStart => exact ⟨0, by omega, by omega, rfl, rfl⟩
          case round =>
            obtain ⟨i, hi, hg, rfl, rfl⟩ := hrel
            by_cases hlt : i < M
            · obtain ⟨b, off, rfl, hx⟩ := HG4.out.at_ hlt
              have h1 := HNg.out i hlt
              have h2 := HF1.out i hlt
              generalize iat F i = x at *
              by_cases hx0 : x < 0
              · have e1 := h1 hx0
                have e2 : ((i : Int) + 1 == l) = true := by rw [beq_iff_eq]; exact e1
                have e2' : ((i : Int) + 1 != l) = false := by simp [bne, e2]
                have e3 : (l == 0) = false := by simp; omega
                have e3' : (l != 0) = true := by simp [bne, e3]
                clear h1 h2 e1
                go_wp2_with fail
                go_roundg (M - (i + 1))
                case measure => omega
                case rel => exact ⟨i + 1, by omega, by omega, by go_num, rfl⟩
              · by_cases hl0 : l = 0
                · have e3 : (l == 0) = true := by simpa using hl0
                  have e3' : (l != 0) = false := by simp [bne, e3]
                  clear h1 h2 hl0
                  go_wp2_with fail
                  go_roundg (M - (i + 1))
                  case measure => omega
                  case rel => exact ⟨i + 1, by omega, by omega, by go_num, rfl⟩
                · have e3 : (l == 0) = false := by simpa using hl0
                  have e3' : (l != 0) = true := by simp [bne, e3]
                  have e4 : (x == o) = true := by rw [beq_iff_eq]; exact h2 hl0 (by omega)
                  have e4' : (x != o) = false := by simp [bne, e4]
                  have hx1 : 0 ≤ x := by omega
                  clear h1 h2 hl0
                  go_wp2_with fail
                  go_roundg (M - (i + 1))
                  case measure => omega
                  case rel => exact ⟨i + 1, by omega, by omega, by go_num, rfl⟩
            · obtain rfl : i = M := by omega
              have e5 : ((i : Int) == (K : Int) - 1) = true := by rw [beq_iff_eq]; omega
              go_wp2_with fail
              refine (HV.out _ HG4.out).mono ?_
              rintro e w6 ⟨rfl, q6, rfl⟩
              have B6 := Lib.hid (bDrewN B4.out q6)
              go_wp2_with fail
              go_ret
              exact ⟨by first | rfl | (rw [hKM]; simp; done) | simp, B6.out⟩

end Go.Proofs.Ytblaaeanbhgokaa
