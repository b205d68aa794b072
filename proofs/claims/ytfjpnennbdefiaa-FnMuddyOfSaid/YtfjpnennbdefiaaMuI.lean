/-
  MuI. By a program (wip/tools/mk.py) out of snippets.
-/
import Derived.Test.YtfjpnennbdefiaaMuO
import Derived.Test.YtfjpnennbdefiaaTell
import Derived.Deep.DeepCutAuto
import Derived.Deep.CutBlock
import Derived.Deep.CutRange
namespace Go.Proofs.Ytfjpnennbdefiaa
open Go.RowKit

theorem lookField0 (n : Int) (A : Option Addr) (k c : Nat) (w : World) : (Instr.field 48 (.agg #[.int .i64 n, .slice A k c]) 0).run Try.prog w = .ok (.int .i64 n) w := by
  first
    | rfl
    | kernel_rfl
    | (simp [Instr.field, go_sem]; done)
    | (unfold Instr.field; simp [Sem.run_bind, Try.underlying48]; go_simp; done)

set_option maxRecDepth 20000 in
set_option maxHeartbeats 6400000 in
theorem implMuddyOf_in (n w0 : Nat) (w : World) (hn1 : 1 ≤ n) (hn : n ≤ 4) (hw1 : 1 ≤ w0) (hw2 : w0 < 2 ^ n) :
    Calls Try.prog 13 #[.int .i64 n, .int .i64 w0] w fun e w' => e = .returned (.tuple #[.int .i64 (wtN n w0 : Nat), .int .i64 w0]) ∧ Below w.heap.size w w' := by
  have H := Lib.hid (implMuddyView_in n w hn1 hn)
  have HW := Lib.hid (fun w' => within_any w0 1 (((2 ^ n : Nat) : Int) - 1) w')
  rw [inR_true (by omega)] at HW
  obtain ⟨_, e2, _⟩ := muW_in (n := n) (by omega) (by omega)
  have HS0 := Lib.hid (show muSt n 0 = tlV ((List.range n).map (muRow n)) (2 ^ n) (2 ^ (2 ^ n) - 2) by
    show tlV (muR n) (2 ^ n) (2 ^ (2 ^ n) - 2) = _
    rw [e2])
  have HG0 := Lib.hid (muR_gv hn1 hn)
  have HG := Lib.hid (fun t => muSt_gv hn1 hn t)
  have HL := Lib.hid (fun t => muSt_length hn1 hn t)
  have HTo := Lib.hid (fun t k => muTo_gv (muSt_gv hn1 hn t) (muSt_length hn1 hn t) k)
  have HSt := Lib.hid (show ∀ t, muSt n (t + 1) = muTo (muSt n t) (2 ^ n) n from fun t => rfl)
  obtain ⟨_, hfa⟩ := muFacts hn1 hn
  obtain ⟨⟨hk1, hk2⟩, hwh, hno⟩ := hfa w0 hw1 hw2
  have HWh := Lib.hid hwh
  have HNo := Lib.hid hno
  have hp : 2 ^ n ≤ 16 := Nat.pow_le_pow_right (n := 2) (by omega) hn
  have HBs := Lib.hid (bs_ne0 (2 ^ n) (Nat.two_pow_pos n))
  have HSu := Lib.hid (fun (row : List Int) (a : Nat) => suV_lt row (2 ^ n) a)
  have h16 := pow16 (n := 2 ^ n) (by omega)
  have HF := Lib.hid (fun (V : World) => filter_any 36 #[] (fun u => decide (u ≠ 0)) (2 ^ n) (fun V' => V' = V) V (by omega) rfl
    (enters_of Try.func36 (by kernel_rfl) rfl) (fun u hu V' hV => by subst hV; exact mf1_any u _))
  rw [HBs.out, if_neg (by have := Nat.two_pow_pos n; omega), Nat.add_zero] at HF
  clear hwh hno hfa e2 HBs
  generalize wtN n w0 = K at *
  generalize 2 ^ n = P at *
  go_enter Try.func13, Try.ntmps13
  go_wp2_with fail
  refine H.out.mono ?_
  rintro e w1 ⟨A, c, rfl, hF, b1⟩
  have V0 := Lib.hid (VB.new (N := P) (n := n) (c := c) (t := 25) w1 hF)
  obtain ⟨s6, hs6⟩ : ∃ s, s = w1.heap.size := ⟨_, rfl⟩
  obtain ⟨W, hW⟩ : ∃ W, W = w1.alloc (.cells #[.int .i64 P, .slice A n c] 25) := ⟨_, rfl⟩
  have BW := Lib.hid (show Below w.heap.size w W by rw [hW]; exact b1.alloc b1.size _)
  have hsw : w.heap.size ≤ s6 := by rw [hs6]; exact b1.size
  rw [← hs6, ← hW] at V0
  have c0 := V0.out.c0
  clear hF b1 H
  go_wp2_with fail
  rw [← hW, ← hs6]
  clear hW hs6
  refine (HW.out _).mono ?_
  rintro e w2 ⟨rfl, rfl⟩
  have c1 := V0.out.c1
  go_upto_region 4 with fail
  go_cut [] from 28 to 33 (fun wx => ∃ A c lo hi, VB s6 P n wx A c lo hi (muSt n 0) ∧ Below w.heap.size w wx)
  case first =>
    have hfd := fun w' => lookField0 P A n c w'
    have HLk := Lib.hid (fun w' => lookOf_any P A n c w')
    have HT := Lib.hid (fun w' h => impltell_any P n (2 ^ P - 2) c A ((List.range n).map (muRow n)) w' HG0.out (by omega) h)
    have VD := Lib.hid V0.out.drew
    have BD := Lib.hid (bDrewN BW.out 1)
    go_region_with (first
      | (go_at_call 26; refine (HLk.out _).mono ?_; rintro e w3 ⟨rfl, b3⟩; have V3 := Lib.hid (VD.out.later b3); have B3 := Lib.hid (BD.out.trans (b3.mono BD.out.size)); have d0 := V3.out.c0; have d1 := V3.out.c1; clear b3 HLk)
      | (go_at_call 35; refine (HF.out _).mono ?_; rintro e w4 ⟨rfl, rfl⟩; clear HF)
      | (go_at_call 25; refine (HT.out _ V3.out.fr.ss).mono ?_; rintro e w5 ⟨A5, c5, rfl, hF5, b5⟩; have V5 := Lib.hid (V3.out.later b5); have F5 := Lib.hid hF5; have B5 := Lib.hid (bstep B3.out b5); have g0 := V5.out.c0; have g1 := V5.out.c1; have f0 := V5.out.f0; have f1 := V5.out.f1; clear b5 hF5 HT))
    all_goals
      go_wp2_with fail
      go_meet
      exact ⟨A5, c5, _, _, by rw [HS0.out]; exact V5.out.put F5.out (.inr V3.out.lt), (B5.out.setCell (p := ⟨s6, 0, none⟩) hsw _).setCell (p := ⟨s6, 1, none⟩) hsw _⟩
  case rest =>
    obtain ⟨A, c, lo, hi, V1, B1⟩ := hcut
    have HV1 := Lib.hid V1
    have HB1 := Lib.hid B1
    clear V1 B1 V0 BW c0 c1 HF HW HG0 HS0
    go_wp2_with fail
    go_loopg [8] K (fun gg s8 wr => ∃ (t : Nat) (A : Option Addr) (c lo hi : Nat), t < K ∧ K - t ≤ gg ∧ s8 = .int .i64 ((t : Int) + 1) ∧ VB s6 P n wr A c lo hi (muSt n t) ∧ Below w.heap.size w wr)
    case atStart => exact ⟨0, A, c, lo, hi, by omega, by omega, rfl, HV1.out, HB1.out⟩
    case round =>
      clear HV1 HB1
      obtain ⟨t, A, c, lo, hi, ht, hg, rfl, hV, hB⟩ := hrel
      obtain ⟨w1, rfl⟩ : ∃ x, x = wr := ⟨_, rfl⟩
      have c0 := hV.c0
      have c1 := hV.c1
      obtain ⟨s10, hs10⟩ : ∃ s, s = w1.heap.size := ⟨_, rfl⟩
      obtain ⟨W2, hW2⟩ : ∃ W, W = w1.alloc (.cells #[.int .i64 P, .slice A n c] 25) := ⟨_, rfl⟩
      have hb2 : Below w1.heap.size w1 W2 := by rw [hW2]; exact (Below.refl _ _).alloc (Nat.le_refl _) _
      have N0 := Lib.hid (show VB s10 P n W2 A c lo hi (muSt n t) by rw [hW2, hs10]; exact VB.new w1 hV.fr)
      have V2 := Lib.hid (hV.later hb2)
      have B2 := Lib.hid (bstep hB hb2)
      have hs6l : s6 < s10 := by rw [hs10]; exact hV.lt
      have hhi : hi ≤ s10 := by rw [hs10]; exact hV.fr.2.2.1
      have hsw2 : w.heap.size ≤ s10 := by omega
      have H0 := Lib.hid (show whTo (muSt n t) P w0 0 = 0 from rfl)
      have HSucc := Lib.hid (show ∀ a, whTo (muSt n t) P w0 (a + 1) = (if (suV (rat (muSt n t) a) P a).testBit w0 then whTo (muSt n t) P w0 a ||| 2 ^ a else whTo (muSt n t) P w0 a) from fun a => by
        unfold whTo
        rw [bs_or]
        split <;> simp)
      have HBd := Lib.hid (show ∀ a, a ≤ n → whTo (muSt n t) P w0 a < 16 from fun a ha => by
        have h1 := bs_lt (fun b => (suV (rat (muSt n t) b) P b).testBit w0) a
        have h2 : 2 ^ a ≤ 2 ^ 4 := Nat.pow_le_pow_right (n := 2) (by omega) (by omega)
        unfold whTo
        omega)
      have CS := Lib.hid (fun a (ha : a < n) w' h => sure_any P n c a A (muSt n t) w' (HG.out t) ha h)
      have CT := Lib.hid (fun A' c' a w' h => impltell_any P n (suV (rat (muSt n t) a) P a) c' A' (muTo (muSt n t) P a) w' (HTo.out t a) (by have := HSu.out (rat (muSt n t) a) a; omega) h)
      have HMS := Lib.hid (show ∀ a, muTo (muSt n t) P (a + 1) = tlV (muTo (muSt n t) P a) P (suV (rat (muSt n t) a) P a) from fun a => rfl)
      have HM0 := Lib.hid (show muTo (muSt n t) P 0 = muSt n t from rfl)
      have CH := Lib.hid (fun a w' => sethas_any (suV (rat (muSt n t) a) P a) w0 w' (by have := HSu.out (rat (muSt n t) a) a; omega) (by omega))
      have CWi := Lib.hid (fun a (ha : a < n) w' => setwith_any (whTo (muSt n t) P w0 a) a w' (by have := HBd.out a (by omega); omega) (by omega))
      clear hV hB hb2
      go_wp2_with fail
      rw [← hW2, ← hs10]
      clear hW2 hs10
      go_loopg [9, 38] n (fun g2 s9 s38 w3 => ∃ (a : Nat) (A2 : Option Addr) (c2 lo2 hi2 : Nat), a ≤ n ∧ n - a ≤ g2 ∧ s38 = .int .i64 a ∧ s9 = .int .i64 (whTo (muSt n t) P w0 a : Nat) ∧ VB s6 P n w3 A c lo hi (muSt n t) ∧ VB s10 P n w3 A2 c2 lo2 hi2 (muTo (muSt n t) P a) ∧ (hi2 ≤ s6 ∨ s6 < lo2) ∧ Below w.heap.size w w3)
      case atStart => exact ⟨0, A, c, lo, hi, by omega, by omega, rfl, by rw [H0.out]; rfl, V2.out, by rw [HM0.out]; exact N0.out, V2.out.dj, B2.out⟩
      case round =>
        clear V2 N0 B2 c0 c1
        obtain ⟨a, A2, c2, lo2, hi2, ha, hg2, rfl, rfl, hV, hN, hdj, hB⟩ := hrel
        obtain ⟨w3, rfl⟩ : ∃ x, x = wr := ⟨_, rfl⟩
        have c0 := hV.c0
        have c1 := hV.c1
        have n0 := hN.c0
        have n1 := hN.c1
        have HV := Lib.hid hV
        have HN := Lib.hid hN
        have HB := Lib.hid hB
        by_cases hlt : a < n
        · have C1 := Lib.hid (CS.out a hlt w3 hV.fr.ss)
          clear hV hN hB
          go_wp2_with fail
          refine C1.out.mono ?_
          rintro e w4 ⟨rfl, b4⟩
          have HV4 := Lib.hid (HV.out.later b4)
          have HN4 := Lib.hid (HN.out.later b4)
          have HB4 := Lib.hid (bstep HB.out b4)
          have n0 := HN4.out.c0
          have n1 := HN4.out.c1
          have CT4 := Lib.hid (CT.out A2 c2 a w4 HN4.out.fr.ss)
          have CH4 := Lib.hid (CH.out a)
          have CW4 := Lib.hid (CWi.out a hlt)
          have HSu4 := Lib.hid (HSucc.out a)
          have HMS4 := Lib.hid (HMS.out a)
          clear b4 C1 HV HN HB c0 c1
          generalize suV (rat (muSt n t) a) P a = su at *
          cases hb : su.testBit w0 with
          | true =>
            rw [hb] at CH4 HSu4
            clear hb
            go_wp2_with fail
            refine (CH4.out _).mono ?_
            rintro e w5 ⟨rfl, rfl⟩
            go_wp2_with fail
            refine (CW4.out _).mono ?_
            rintro e w5 ⟨rfl, rfl⟩
            go_wp2_with fail
            refine CT4.out.mono ?_
            rintro e w6 ⟨A6, c6, rfl, hF6, b6⟩
            have HV6 := Lib.hid (((HV4.out.later b6).other (t := s10) (i := 0) (v := .int .i64 (P : Nat)) (by omega) (by omega)).other (t := s10) (i := 1) (v := .slice A6 n c6) (by omega) (by omega))
            have HN6 := Lib.hid ((HN4.out.later b6).put hF6 (c' := c6) (.inr HN4.out.lt))
            have HB6 := Lib.hid (((bstep HB4.out b6).setCell (p := ⟨s10, 0, none⟩) hsw2 (.int .i64 (P : Nat))).setCell (p := ⟨s10, 1, none⟩) hsw2 (.slice A6 n c6))
            have m0 := (HN4.out.later b6).c0
            have m1 := (HN4.out.later b6).c1
            have f0 := (HN4.out.later b6).f0
            have f1 := (HN4.out.later b6).f1
            have hd6 := HN4.out.lt
            clear hF6 b6 HV4 HN4 HB4 n0 n1
            go_wp2_with fail
            go_roundg (n - (a + 1))
            case measure => omega
            case rel => exact ⟨a + 1, A6, c6, _, _, by omega, by omega, by go_num, by rw [HSu4.out]; rfl, HV6.out, by rw [HMS4.out]; exact HN6.out, .inr (by omega), HB6.out⟩
          | false =>
            rw [hb] at CH4 HSu4
            clear hb
            go_wp2_with fail
            refine (CH4.out _).mono ?_
            rintro e w5 ⟨rfl, rfl⟩
            go_wp2_with fail
            refine CT4.out.mono ?_
            rintro e w6 ⟨A6, c6, rfl, hF6, b6⟩
            have HV6 := Lib.hid (((HV4.out.later b6).other (t := s10) (i := 0) (v := .int .i64 (P : Nat)) (by omega) (by omega)).other (t := s10) (i := 1) (v := .slice A6 n c6) (by omega) (by omega))
            have HN6 := Lib.hid ((HN4.out.later b6).put hF6 (c' := c6) (.inr HN4.out.lt))
            have HB6 := Lib.hid (((bstep HB4.out b6).setCell (p := ⟨s10, 0, none⟩) hsw2 (.int .i64 (P : Nat))).setCell (p := ⟨s10, 1, none⟩) hsw2 (.slice A6 n c6))
            have m0 := (HN4.out.later b6).c0
            have m1 := (HN4.out.later b6).c1
            have f0 := (HN4.out.later b6).f0
            have f1 := (HN4.out.later b6).f1
            have hd6 := HN4.out.lt
            clear hF6 b6 HV4 HN4 HB4 n0 n1
            go_wp2_with fail
            go_roundg (n - (a + 1))
            case measure => omega
            case rel => exact ⟨a + 1, A6, c6, _, _, by omega, by omega, by go_num, by rw [HSu4.out]; rfl, HV6.out, by rw [HMS4.out]; exact HN6.out, .inr (by omega), HB6.out⟩
        · obtain rfl : a = n := by omega
          by_cases htk : t = K - 1
          · have hE : whTo (muSt a t) P w0 a = w0 := by rw [htk]; exact HWh.out
            rw [hE] at *
            have hne : ((w0 : Int) != 0) = true := by simp; omega
            have hKt : (t : Int) + 1 = (K : Int) := by omega
            clear hV hN hB hE
            rw [hKt]
            go_wp2_with fail
            go_ret2
            exact ⟨rfl, HB.out⟩
          · have hE : whTo (muSt a t) P w0 a = 0 := HNo.out t (by omega)
            have hne : (((0 : Nat) : Int) != 0) = false := by simp
            have hne2 : ((0 : Int) != 0) = false := by simp
            have f0 := hV.f0
            have f1 := hV.f1
            have HV6 := Lib.hid (hV.put (c' := c2) hN.fr hdj)
            rw [← HSt.out] at HV6
            have HB6 := Lib.hid ((hB.setCell (p := ⟨s6, 0, none⟩) hsw (.int .i64 (P : Nat))).setCell (p := ⟨s6, 1, none⟩) hsw (.slice A2 a c2))
            clear hV hN hB
            rw [hE]
            clear hE
            go_wp2_with fail
            go_roundg (K - (t + 1))
            case measure => omega
            case rel => exact ⟨t + 1, A2, c2, lo2, hi2, by omega, by omega, by go_num, HV6.out, HB6.out⟩

theorem implMuddyOf_any (n w0 : Int) (w : World) :
    Calls Try.prog 13 #[.int .i64 n, .int .i64 w0] w fun e w' => e = .returned (.tuple #[.int .i64 (muK n w0), .int .i64 (muE n w0)]) ∧ Below w.heap.size w w' := by
  cases h : inR n 1 4 with
  | false =>
    obtain ⟨e1, e2⟩ := muK_out (n := n) (w := w0) (by rw [h]; rfl)
    rw [e1, e2]
    exact implMuddyOf_out1 n w0 w h
  | true =>
    have h1 := inR_iff.1 h
    obtain ⟨N, rfl⟩ : ∃ N : Nat, n = N := ⟨n.toNat, by omega⟩
    have ec : ((2 : Int) ^ N) = ((2 ^ N : Nat) : Int) := by simp
    cases h2 : inR w0 1 (2 ^ (N : Int).toNat - 1) with
    | false =>
      obtain ⟨e1, e2⟩ := muK_out (n := N) (w := w0) (by rw [h, h2]; rfl)
      rw [e1, e2]
      refine implMuddyOf_out2 N w0 w (by omega) (by omega) ?_
      rw [Int.toNat_natCast, ec] at h2
      exact h2
    | true =>
      rw [muK, muE, h, h2]
      rw [Int.toNat_natCast, ec] at h2
      have h3 := inR_iff.1 h2
      obtain ⟨M, rfl⟩ : ∃ M : Nat, w0 = M := ⟨w0.toNat, by omega⟩
      exact implMuddyOf_in N M w (by omega) (by omega) (by omega) (by omega)

end Go.Proofs.Ytfjpnennbdefiaa
