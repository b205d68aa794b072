/-
  LKn2. By a program (wip/tools/mk.py) out of snippets.
-/
import Derived.Test.YtjiplangdkpehaaDGos
import Derived.Test.YtjiplangdkpehaaKnI
import Derived.Test.YtjiplangdkpehaaFnBase
import Derived.Test.YtjiplangdkpehaaLCalls2
namespace Go.Proofs.Ytjiplangdkpehaa
open Go.RowKit

/-- A bit, 0 or 1. -/
def bitI (x j : Nat) : Int := if x.testBit j then 1 else 0
theorem bitI_of (x j : Nat) : (x : Int) / ((2 ^ j : Nat) : Int) % 2 = bitI x j := by
  rw [← Int.natCast_ediv]
  unfold bitI
  have h := Nat.testBit_eq_decide_div_mod_eq (x := x) (i := j)
  rw [h]
  generalize x / 2 ^ j = q
  by_cases e : q % 2 = 1
  · simp [e]; omega
  · have : q % 2 = 0 := by omega
    simp [this]; omega

theorem lawbit_any (x j : Nat) (w : World) (hj : j ≤ 60) (hx : x ≤ 4611686018427387904) :
    Calls Try.prog 34 #[.int .i64 x, .int .i64 j] w fun e w' => e = .returned (.int .i64 (bitI x j)) ∧ w = w' := by
  have H := Lib.hid (power_any j w hj)
  have hb := Lib.hid (bitI_of x j)
  have hp : 0 < 2 ^ j := Nat.two_pow_pos j
  have hp2 : 2 ^ j ≤ 1152921504606846976 := Nat.le_trans (Nat.pow_le_pow_right (n := 2) (by omega) hj) (by decide)
  generalize 2 ^ j = p at H hb hp hp2
  have e1 : ((p : Int) == 0) = false := by simp; omega
  have e2 : 0 ≤ (x : Int) / (p : Int) := Int.ediv_nonneg (by omega) (by omega)
  have e3 : (x : Int) / (p : Int) ≤ x := Int.ediv_le_self _ (by omega)
  go_enter Try.func34, Try.ntmps34
  go_wp2_with (go_at_call 37; refine H.out.mono ?_; rintro e w' ⟨rfl, rfl⟩)
  go_ret
  exact ⟨by rw [← hb.out]; rfl, rfl⟩

theorem knTo_take (n : Nat) (ys zs : List Int) (j : Nat) (he : ∀ i, i < j * 2 → iat ys i = iat zs i) : knTo n ys j = knTo n zs j := by
  induction j with
  | zero => rfl
  | succ j ih => rw [knTo, knTo, ih (fun i hi => he i (by omega)), he _ (by omega), he _ (by omega)]
theorem kn_self {n k : Nat} {zs : List Int} (hc : cOk ((n : Int) - 1) zs k = true) (j : Nat) (hj : j ≤ k) : ∀ p, p < n → ((knTo n zs j).getD p 0).testBit p = true := by
  induction j with
  | zero =>
    intro p hp
    simp [knTo, kn0, hp, List.getD_eq_getElem?_getD]
  | succ j ih =>
    intro p hp
    obtain ⟨h1, h2, _⟩ := cOk_at hc (i := j) (by omega)
    rw [knTo, stepK_at _ _ _ _ (by rw [knTo_length]; omega) (by rw [knTo_length]; omega)]
    have h := ih (by omega) p hp
    split
    · rename_i e
      rw [Nat.testBit_or]
      rcases e with e | e
      · rw [← e, h]; rfl
      · rw [← e, h]; simp
    · exact h
theorem kn_mono {n k : Nat} {zs : List Int} (hc : cOk ((n : Int) - 1) zs k = true) (p : Nat) : (knTo n zs k).getD p 0 &&& (knTo n zs (k - 1)).getD p 0 = (knTo n zs (k - 1)).getD p 0 := by
  cases k with
  | zero => simp
  | succ j =>
    obtain ⟨h1, h2, _⟩ := cOk_at hc (i := j) (by omega)
    rw [knTo, stepK_at _ _ _ _ (by rw [knTo_length]; omega) (by rw [knTo_length]; omega), Nat.add_sub_cancel]
    split
    · rename_i e
      apply Nat.eq_of_testBit_eq
      intro i
      rw [Nat.testBit_and, Nat.testBit_or]
      rcases e with e | e <;> rw [e] <;> cases ((knTo n zs j).getD (iat zs (j * 2)).toNat 0).testBit i <;> cases ((knTo n zs j).getD (iat zs (j * 2 + 1)).toNat 0).testBit i <;> rfl
    · simp
theorem kn_last {n k : Nat} {zs : List Int} (hc : cOk ((n : Int) - 1) zs k = true) (hk : 0 < k) : (knTo n zs k).getD (iat zs ((k - 1) * 2)).toNat 0 = (knTo n zs k).getD (iat zs ((k - 1) * 2 + 1)).toNat 0 := by
  obtain ⟨j, rfl⟩ : ∃ j, k = j + 1 := ⟨k - 1, by omega⟩
  obtain ⟨h1, h2, _⟩ := cOk_at hc (i := j) (by omega)
  rw [Nat.add_sub_cancel, knTo, stepK_at _ _ _ _ (by rw [knTo_length]; omega) (by rw [knTo_length]; omega), stepK_at _ _ _ _ (by rw [knTo_length]; omega) (by rw [knTo_length]; omega)]
  simp

set_option maxHeartbeats 3200000 in
theorem lawKnownAfter (A : Option Addr) (n c : Nat) (bs : List Int) (w : World) (hb : bs.length = n ∧ (0 < n → ∃ b off, A = some ⟨b, off, none⟩ ∧ ∀ i, i < n → w.cell? ⟨b, off + i, none⟩ = some (.int .u8 (iat bs i)))) (hwf : ∀ z ∈ bs, (Lit.int .u8 z).wf = true) (hcap : n ≤ c) :
    Calls Try.prog 8 #[.slice A n c] w fun e w' => e = .returned (.bool true) ∧ Below w.heap.size w w' := by
  by_cases hbig : 1048576 < n
  · clear hb
    go_enter Try.func8, Try.ntmps8
    go_wp2_with fail
    go_ret
    exact ⟨rfl, Below.refl _ _⟩
  · have H := Lib.hid (drawKnownAfter_any A n c bs w hcap (by omega) (SB.of hb hwf))
    clear hb hwf
    go_enter Try.func8, Try.ntmps8
    go_wp2_with fail
    refine H.out.mono ?_
    rintro e w1 ⟨k, A1, m, c1, zs, rfl, hsi, hm, hcc, h3, B1⟩
    have hm2 : m ≤ 2000000 := by omega
    have CS := Lib.hid (fun w' h => specKnownAfter_any k A1 m c1 zs w' hm2 h)
    have CI := Lib.hid (fun w' h => implKnownAfter_any k A1 m c1 zs w' hm2 h)
    clear H
    have hl0 := knA_length k zs m
    cases hv : vcl k zs m with
    | false =>
      have e0 : knA k zs m = [] := by simp [knA, hv]
      rw [e0] at CS CI
      clear hl0 hv e0 h3
      go_wp2_with fail
      refine (CI.out _ hsi).mono ?_
      rintro e w2 ⟨A2, c2, rfl, N2, b2⟩
      have S2 := Lib.hid (hsi.below b2 (Nat.le_refl _))
      have B2 := Lib.hid (bstep B1 b2)
      have E2 := Lib.hid N2.si
      clear hsi b2 B1 N2
      go_wp2_with fail
      refine (CS.out _ S2.out).mono ?_
      rintro e w3 ⟨A3, c3, rfl, N3, b3⟩
      have S3 := Lib.hid (S2.out.below b3 (Nat.le_refl _))
      have B3 := Lib.hid (bstep B2.out b3)
      have E3 := Lib.hid N3.si
      have E23 := Lib.hid (E2.out.below b3 (Nat.le_refl _))
      have HEq := Lib.hid (equalInts_true A2 A3 0 c2 c3 [] w3 (by omega) E23.out E3.out)
      clear b3 N3 S2 B2 E2
      go_wp2_with fail
      refine HEq.out.mono ?_
      rintro e w4 ⟨rfl, q4, rfl⟩
      have hd4 : Below w3.heap.size w3 (w3.drewN q4) := bDrewN (Below.refl _ _) q4
      have S4 := Lib.hid (S3.out.below hd4 (Nat.le_refl _))
      have B4 := Lib.hid (bstep B3.out hd4)
      have E4 := Lib.hid (E23.out.below hd4 (Nat.le_refl _))
      generalize w3.drewN q4 = w4 at *
      clear hd4 HEq
      go_wp2_with fail
      refine (CS.out _ S4.out).mono ?_
      rintro e w5 ⟨A5, c5, rfl, N5, b5⟩
      have B5 := Lib.hid (bstep B4.out b5)
      have E5 := Lib.hid N5.si
      have E45 := Lib.hid (E4.out.below b5 (Nat.le_refl _))
      clear b5 N5
      go_wp2_with fail
      refine (equalInts_true A2 A5 0 c2 c5 [] w5 (by omega) E45.out E5.out).mono ?_
      rintro e w6 ⟨rfl, q6, rfl⟩
      have B6 := Lib.hid (bDrewN B5.out q6)
      go_wp2_with fail
      go_ret
      exact ⟨rfl, B6.out⟩
    | true =>
      obtain ⟨⟨hk1, hk2⟩, _, hcok⟩ := vcl_iff hv
      obtain ⟨N, rfl⟩ : ∃ N : Nat, k = N := ⟨k.toNat, by omega⟩
      have hv' := vcl_less hv (m - 1) (by omega) hsi.1
      have ht := knTo_take N (zs.take ((m - 1) * 2)) zs (m - 1) (fun i hi => by simp [iat, List.getD_eq_getElem?_getD, List.getElem?_take, hi])
      have CT := Lib.hid (fun w' (h : SI w' A1 (m * 2) zs) => implKnownAfter_any N A1 (m - 1) c1 (zs.take ((m - 1) * 2)) w' (by omega) (h.take (m := (m - 1) * 2) (by omega)))
      rw [show knA N (zs.take ((m - 1) * 2)) (m - 1) = toI (knTo N zs (m - 1)) by simp [knA, hv', ht], toI_length, knTo_length] at CT
      rw [show knA N zs m = toI (knTo N zs m) by simp [knA, hv], toI_length, knTo_length] at CS CI
      have HSelf := Lib.hid (fun p (hp : p < N) => (show bitI ((knTo N zs m).getD p 0) p = 1 by unfold bitI; rw [kn_self hcok m (Nat.le_refl _) p hp]; rfl))
      have hp6 : 2 ^ N ≤ 64 := Nat.pow_le_pow_right (n := 2) (by omega) (by omega : N ≤ 6)
      have HSm := Lib.hid (fun p => Nat.lt_of_lt_of_le (knTo_small hcok m (Nat.le_refl _) p) hp6)
      have HSm1 := Lib.hid (fun p => Nat.lt_of_lt_of_le (knTo_small hcok (m - 1) (by omega) p) hp6)
      have HMo := Lib.hid (fun p => kn_mono hcok p)
      have HLa := Lib.hid (fun h => kn_last hcok h)
      have HCk := Lib.hid (fun (h : 0 < m) => cOk_at hcok (i := m - 1) (by omega))
      clear hcok hv hv' ht hl0 h3 hp6
      generalize knTo N zs m = ks at *
      generalize knTo N zs (m - 1) = ls at *
      have CT0 := Lib.hid (fun (h0 : m - 1 = 0) w' (h : SI w' A1 (m * 2) zs) => (by have h' := CT.out w' h; rw [h0] at h'; exact h' : Calls Try.prog 28 #[.int .i64 N, .slice A1 0 c1] w' fun e w1 => ∃ A' c', e = .returned (.slice A' N c') ∧ NewI w1 w'.heap.size A' N (toI ls) ∧ Below w'.heap.size w' w1))
      go_wp2_with fail
      refine (CI.out _ hsi).mono ?_
      rintro e w2 ⟨A2, c2, rfl, N2, b2⟩
      have S2 := Lib.hid (hsi.below b2 (Nat.le_refl _))
      have B2 := Lib.hid (bstep B1 b2)
      have E2 := Lib.hid N2.si
      clear hsi b2 B1 N2
      go_wp2_with fail
      refine (CS.out _ S2.out).mono ?_
      rintro e w3 ⟨A3, c3, rfl, N3, b3⟩
      have S3 := Lib.hid (S2.out.below b3 (Nat.le_refl _))
      have B3 := Lib.hid (bstep B2.out b3)
      have E3 := Lib.hid N3.si
      have E23 := Lib.hid (E2.out.below b3 (Nat.le_refl _))
      have HEq := Lib.hid (equalInts_true A2 A3 N c2 c3 (toI ks) w3 (by omega) E23.out E3.out)
      have e0 : ((N : Int) == 0) = false := by simp; omega
      clear b3 N3 S2 B2 E2
      go_wp2_with fail
      refine HEq.out.mono ?_
      rintro e w4 ⟨rfl, q4, rfl⟩
      have hd4 : Below w3.heap.size w3 (w3.drewN q4) := bDrewN (Below.refl _ _) q4
      have S4 := Lib.hid (S3.out.below hd4 (Nat.le_refl _))
      have B4 := Lib.hid (bstep B3.out hd4)
      have E4 := Lib.hid (E23.out.below hd4 (Nat.le_refl _))
      generalize w3.drewN q4 = w4 at *
      clear hd4 HEq CS CI E3 S3 B3 E23
      by_cases hm1 : (m : Int) - 1 < 0
      all_goals
        go_wp2_with fail
        first
          | (have h0 : m - 1 = 0 := by omega
             refine (CT0.out h0 w4 S4.out).mono ?_)
          | refine (CT.out w4 S4.out).mono ?_
        rintro e w5 ⟨A5, c5, rfl, N5, b5⟩
        have B5 := Lib.hid (bstep B4.out b5)
        have S5 := Lib.hid (S4.out.below b5 (Nat.le_refl _))
        obtain ⟨d2, o2, rfl, hc2⟩ := (E4.out.below b5 (Nat.le_refl _)).2 (by omega)
        obtain ⟨d5, o5, rfl, hc5⟩ := N5.si.2 (by omega)
        have HC2 := Lib.hid hc2
        have HC5 := Lib.hid hc5
        clear CT CT0 S4 B4 E4 N5 b5 hc2 hc5
        go_wp2_with fail
        go_loopg [7] N (fun gg v wr => ∃ p q : Nat, p ≤ N ∧ N - p ≤ gg ∧ v = .int .i64 p ∧ wr = w5.drewN q)
        case atStart => exact ⟨0, 0, by omega, by omega, rfl, rfl⟩
        case round =>
          obtain ⟨p, q, hp, hg, rfl, rfl⟩ := hrel
          by_cases hlt : p < N
          · have hx := HC2.out p hlt
            have hy := HC5.out p hlt
            rw [toI_at] at hx hy
            have hs1 := HSm.out p
            have hs2 := HSm1.out p
            have hb := bits_and64 (ks.getD p 0) (ls.getD p 0) (by omega) (by omega)
            rw [HMo.out p] at hb
            have H := Lib.hid (fun w' => lawbit_any (ks.getD p 0) p w' (by omega) (by omega))
            rw [HSelf.out p hlt] at H
            generalize ks.getD p 0 = x at *
            generalize ls.getD p 0 = y at *
            go_wp2_with fail
            go_quiet (first | (go_at_call 34; exact quietP (H.out _)))
            go_wp2_with fail
            go_roundg (N - (p + 1))
            case measure => omega
            case rel => exact ⟨p + 1, _, by omega, by omega, by go_num, rfl⟩
          · obtain rfl : p = N := by omega
            by_cases hm0 : m = 0
            · subst hm0
              go_wp2_with fail
              go_quiet (fail)
              go_wp2_with fail
              go_ret
              exact ⟨rfl, bDrewN (bDrewN B5.out _) _⟩
            · first
                | (exfalso; omega)
                | (skip
                   have e2 : ((m : Int) == 0) = false := by simp; omega
                   obtain ⟨dz, oz, rfl, hcz⟩ := S5.out.2 (by omega)
                   obtain ⟨j, rfl⟩ : ∃ j, m = j + 1 := ⟨m - 1, by omega⟩
                   have z1 := hcz (j * 2) (by omega)
                   have z2 := hcz (j * 2 + 1) (by omega)
                   rw [← Nat.add_assoc] at z2
                   have hck := HCk.out (by omega)
                   have hla := HLa.out (by omega)
                   rw [Nat.add_sub_cancel] at hck hla
                   obtain ⟨g1, g2, _⟩ := hck
                   generalize iat zs (j * 2) = a at *
                   generalize iat zs (j * 2 + 1) = b at *
                   obtain ⟨a, rfl⟩ := Int.eq_ofNat_of_zero_le g1.1
                   obtain ⟨b, rfl⟩ := Int.eq_ofNat_of_zero_le g2.1
                   have x1 := HC2.out a (by omega)
                   have x2 := HC2.out b (by omega)
                   rw [toI_at] at x1 x2
                   simp only [Int.toNat_natCast] at hla
                   rw [← hla] at x2
                   generalize ks.getD a 0 = x at *
                   have ej : ((j + 1 : Nat) : Int) - 1 = (j : Int) := by omega
                   have e3 : ((j : Int) + 1 == 0) = false := by simp; omega
                   have ej2 : (j : Int) + 1 - 1 = (j : Int) := by omega
                   clear hcz HC2 HC5
                   go_wp2_with fail
                   go_quiet (fail)
                   go_wp2_with fail
                   go_ret
                   exact ⟨rfl, bDrewN (bDrewN B5.out _) _⟩)

end Go.Proofs.Ytjiplangdkpehaa
