/-
  MuS. By a program (wip/tools/mk.py) out of snippets.
-/
import Derived.Test.YtfjpnennbdefiaaMuO
import Derived.Test.YtfjpnennbdefiaaAnn
import Derived.Test.YtfjpnennbdefiaaViewS
import Derived.Test.YtfjpnennbdefiaaMud
import Derived.Deep.RegionHeld3
import Derived.Test.YtfjpnennbdefiaaStep
namespace Go.Proofs.Ytfjpnennbdefiaa
open Go.RowKit

def tlL (rows : List (List Int)) (N a : Nat) : List Int := (List.range a).map fun b => ((suV (rat rows b) N b : Nat) : Int)
theorem tlL_succ (rows : List (List Int)) (N a : Nat) : tlL rows N (a + 1) = tlL rows N a ++ [((suV (rat rows a) N a : Nat) : Int)] := by simp [tlL, List.range_succ]
theorem tlL_at {rows : List (List Int)} {N a i : Nat} (h : i < a) : iat (tlL rows N a) i = ((suV (rat rows i) N i : Nat) : Int) := by simp [tlL, iat, h]
theorem bs_compl' (p : Nat → Bool) (n : Nat) : bs p n + bs (fun u => !p u) n = 2 ^ n - 1 := by
  induction n with
  | zero => rfl
  | succ n ih =>
    have hp := Nat.two_pow_pos n
    rw [bs, bs, Nat.pow_succ]
    cases p n <;> simp <;> omega
theorem bitI_mul (b : Bool) (x j : Nat) (h : x.testBit j = b) (q : Nat) : bitI x j * (q : Int) = ((if b then q else 0 : Nat) : Int) := by
  unfold bitI
  rw [h]
  cases b <;> simp

set_option maxRecDepth 20000 in
set_option maxHeartbeats 3200000 in
theorem specMuddyOf_out1 (n w0 : Int) (w : World) (h : inR n 1 4 = false) :
    Calls Try.prog 12 #[.int .i64 n, .int .i64 w0] w fun e w' => e = .returned (.tuple #[.int .i64 0, .int .i64 0]) ∧ Below w.heap.size w w' := by
  have H := Lib.hid (inRange_any n 1 4 w)
  rw [h] at H
  clear h
  go_enter Try.func12, Try.ntmps12
  go_wp2_with fail
  refine H.out.mono ?_
  rintro e w1 ⟨rfl, rfl⟩
  go_wp2_with fail
  go_ret2
  exact ⟨rfl, Below.refl _ _⟩
set_option maxRecDepth 20000 in
set_option maxHeartbeats 3200000 in
theorem specMuddyOf_out2 (n : Nat) (w0 : Int) (w : World) (hn1 : 1 ≤ n) (hn : n ≤ 4) (h : inR w0 1 (((2 ^ n : Nat) : Int) - 1) = false) :
    Calls Try.prog 12 #[.int .i64 n, .int .i64 w0] w fun e w' => e = .returned (.tuple #[.int .i64 0, .int .i64 0]) ∧ Below w.heap.size w w' := by
  have H := Lib.hid (inRange_any n 1 4 w)
  rw [inR_true (by omega)] at H
  have HP := Lib.hid (specpower_any n w (by omega))
  have HW := Lib.hid (inRange_any w0 1 (((2 ^ n : Nat) : Int) - 1) w)
  rw [h] at HW
  have hp : 2 ^ n ≤ 16 := Nat.pow_le_pow_right (n := 2) (by omega) hn
  clear h
  generalize 2 ^ n = P at *
  go_enter Try.func12, Try.ntmps12
  go_wp2_with fail
  refine H.out.mono ?_
  rintro e w1 ⟨rfl, rfl⟩
  go_wp2_with fail
  refine HP.out.mono ?_
  rintro e w1 ⟨rfl, rfl⟩
  go_wp2_with fail
  refine HW.out.mono ?_
  rintro e w1 ⟨rfl, rfl⟩
  go_wp2_with fail
  go_ret2
  exact ⟨rfl, Below.refl _ _⟩

set_option maxRecDepth 20000 in
set_option maxHeartbeats 6400000 in
theorem specMuddyOf_in (n w0 : Nat) (w : World) (hn1 : 1 ≤ n) (hn : n ≤ 4) (hw1 : 1 ≤ w0) (hw2 : w0 < 2 ^ n) :
    Calls Try.prog 12 #[.int .i64 n, .int .i64 w0] w fun e w' => e = .returned (.tuple #[.int .i64 (wtN n w0 : Nat), .int .i64 w0]) ∧ Below w.heap.size w w' := by
  have HI := Lib.hid (inRange_any n 1 4 w)
  rw [inR_true (by omega)] at HI
  have HW := Lib.hid (inRange_any w0 1 (((2 ^ n : Nat) : Int) - 1) w)
  rw [inR_true (by omega)] at HW
  have H := Lib.hid (specmuddy_any n w hn1 hn)
  obtain ⟨_, e2, _⟩ := muW_in (n := n) (by omega) (by omega)
  have HS0 := Lib.hid (show muSt n 0 = tlV ((List.range n).map (muRow n)) (2 ^ n) (2 ^ (2 ^ n) - 2) by
    show tlV (muR n) (2 ^ n) (2 ^ (2 ^ n) - 2) = _
    rw [e2])
  have HG0 := Lib.hid (muR_gv hn1 hn)
  have HG := Lib.hid (fun t => muSt_gv hn1 hn t)
  have HTo := Lib.hid (fun t k => muTo_gv (muSt_gv hn1 hn t) (muSt_length hn1 hn t) k)
  have HSt := Lib.hid (show ∀ t, muSt n (t + 1) = muTo (muSt n t) (2 ^ n) n from fun t => rfl)
  obtain ⟨_, hfa⟩ := muFacts hn1 hn
  obtain ⟨⟨hk1, hk2⟩, hwh, hno⟩ := hfa w0 hw1 hw2
  have HWh := Lib.hid hwh
  have HNo := Lib.hid hno
  have hp : 2 ^ n ≤ 16 := Nat.pow_le_pow_right (n := 2) (by omega) hn
  have hpw := Nat.two_pow_pos n
  have HSu := Lib.hid (fun (row : List Int) (a : Nat) => suV_lt row (2 ^ n) a)
  have h16 := pow16 (n := 2 ^ n) (by omega)
  have hp4 := pow1 (n := 2 ^ n) hpw
  have HCl := Lib.hid (fun a => (show mdB (2 ^ n) a + clB (2 ^ n) a = 2 ^ (2 ^ n) - 1 from bs_compl' (fun x => x.testBit a) (2 ^ n)))
  have HMd := Lib.hid (fun a => (show mdB (2 ^ n) a < 2 ^ (2 ^ n) from bs_lt (fun x => x.testBit a) (2 ^ n)))
  have HKn := Lib.hid (fun (row : List Int) (s : Nat) => knV_lt row (2 ^ n) s)
  have HPn := Lib.hid (fun w' => specpower_any n w' (by omega))
  have HPP := Lib.hid (fun w' => specpower_any (2 ^ n) w' (by omega))
  have HPu := Lib.hid (fun (u : Nat) (hu : u ≤ 60) w' => specpower_any u w' hu)
  clear hwh hno hfa e2
  generalize wtN n w0 = K at *
  generalize 2 ^ n = P at *
  go_enter Try.func12, Try.ntmps12
  go_wp2_with fail
  refine HI.out.mono ?_
  rintro e w1 ⟨rfl, rfl⟩
  go_wp2_with fail
  refine (HPn.out _).mono ?_
  rintro e w1 ⟨rfl, rfl⟩
  go_wp2_with fail
  refine HW.out.mono ?_
  rintro e w1 ⟨rfl, rfl⟩
  go_wp2_with fail
  refine H.out.mono ?_
  rintro e w1 ⟨A, c, rfl, hF, b1⟩
  have HA := Lib.hid (announce_any P n (2 ^ P - 2) c A ((List.range n).map (muRow n)) w1 HG0.out (by omega) hF.ss)
  rw [show ((2 ^ P - 2 : Nat) : Int) = ((2 ^ P : Nat) : Int) - 2 by omega, ← HS0.out] at HA
  have B1 := Lib.hid b1
  clear hF b1 H HI HW HG0 HS0
  go_wp2_with fail
  refine (HPn.out _).mono ?_
  rintro e w2 ⟨rfl, rfl⟩
  go_wp2_with fail
  refine (HPP.out _).mono ?_
  rintro e w2 ⟨rfl, rfl⟩
  generalize 2 ^ P = PP at *
  go_wp2_with fail
  refine HA.out.mono ?_
  rintro e w2 ⟨A2, c2, rfl, hF2, b2⟩
  have B2 := bstep B1.out b2
  obtain ⟨s6, hs6⟩ : ∃ s, s = w2.heap.size := ⟨_, rfl⟩
  obtain ⟨W, hW⟩ : ∃ W, W = w2.alloc (.cells #[.int .i64 P, .slice A2 n c2] 25) := ⟨_, rfl⟩
  have V0 := Lib.hid (show VB s6 P n W A2 c2 w1.heap.size w2.heap.size (muSt n 0) by rw [hW, hs6]; exact VB.new w2 hF2)
  have BW := Lib.hid (show Below w.heap.size w W by rw [hW]; exact B2.alloc B2.size _)
  have hsw : w.heap.size ≤ s6 := by rw [hs6]; exact B2.size
  clear hF2 b2 B2 HA
  go_wp2_with fail
  rw [← hW, ← hs6]
  clear hW hs6
  go_loopg [7] K (fun gg s7 wr => ∃ (t : Nat) (A : Option Addr) (c lo hi : Nat), t < K ∧ K - t ≤ gg ∧ s7 = .int .i64 ((t : Int) + 1) ∧ VB s6 P n wr A c lo hi (muSt n t) ∧ Below w.heap.size w wr)
  case atStart => exact ⟨0, A2, c2, _, _, by omega, by omega, rfl, V0.out, BW.out⟩
  case round =>
    clear V0 BW B1
    obtain ⟨t, A, c, lo, hi, ht, hg, rfl, hV, hB⟩ := hrel
    obtain ⟨w1, rfl⟩ : ∃ x, x = wr := ⟨_, rfl⟩
    have o0 := own_empty w1 w1.heap.size (Nat.le_refl _)
    have b0 : Below w1.heap.size w1 (w1.alloc (.cells #[] 3)) := (Below.refl _ _).alloc (Nat.le_refl _) _
    have hs61 := hV.lt
    have HV := Lib.hid hV
    have HB := Lib.hid hB
    have H0 := Lib.hid (show whTo (muSt n t) P w0 0 = 0 from rfl)
    have HSucc := Lib.hid (show ∀ a, whTo (muSt n t) P w0 (a + 1) = whTo (muSt n t) P w0 a + (if (suV (rat (muSt n t) a) P a).testBit w0 then 2 ^ a else 0) from fun a => rfl)
    have HBd := Lib.hid (show ∀ a, a ≤ n → whTo (muSt n t) P w0 a < 16 from fun a ha => by
      have h1 := bs_lt (fun b => (suV (rat (muSt n t) b) P b).testBit w0) a
      have h2 : 2 ^ a ≤ 2 ^ 4 := Nat.pow_le_pow_right (n := 2) (by omega) (by omega)
      unfold whTo
      omega)
    have HTL := Lib.hid (fun a => tlL_succ (muSt n t) P a)
    have HTLn := Lib.hid (fun i (hi : i < n) => tlL_at (rows := muSt n t) (N := P) hi)
    have HMS := Lib.hid (show ∀ a, muTo (muSt n t) P (a + 1) = tlV (muTo (muSt n t) P a) P (suV (rat (muSt n t) a) P a) from fun a => rfl)
    have HM0 := Lib.hid (show muTo (muSt n t) P 0 = muSt n t from rfl)
    clear hV hB
    go_wp2_with fail
    go_loopg [8, 9, 10] n (fun g2 s8 s9 s10 w3 => ∃ (a g cc : Nat), a ≤ n ∧ n - a ≤ g2 ∧ s10 = .int .i64 a ∧ s8 = .int .i64 (whTo (muSt n t) P w0 a : Nat) ∧ s9 = .slice (some ⟨g, 0, none⟩) a cc ∧ w3.ownsRow w1.heap.size 3 1 (.slice (some ⟨g, 0, none⟩) a cc) a ((tlL (muSt n t) P a).map (Value.int .i64)) ∧ Below w1.heap.size w1 w3)
    case atStart => exact ⟨0, w1.heap.size, 0, by omega, by omega, rfl, by rw [H0.out]; rfl, rfl, o0, b0⟩
    case round =>
      clear o0 b0
      obtain ⟨a, g, cc, ha, hg2, rfl, rfl, rfl, hown, hbw⟩ := hrel
      obtain ⟨w3, rfl⟩ : ∃ x, x = wr := ⟨_, rfl⟩
      by_cases hlt : a < n
      · have V3 := Lib.hid (HV.out.later hbw)
        have HOw := Lib.hid hown
        have HBw := Lib.hid hbw
        have hs3 := hbw.size
        have c0 := V3.out.c0
        have c1 := V3.out.c1
        have M0 := Lib.hid (show bs (fun x => x.testBit a) 0 = 0 from rfl)
        have MS := Lib.hid (show ∀ u, bs (fun x => x.testBit a) (u + 1) = bs (fun x => x.testBit a) u + (if u.testBit a then 2 ^ u else 0) from fun u => rfl)
        have MB := Lib.hid (fun u => bs_lt (fun x => x.testBit a) u)
        clear hown hbw
        go_wp2_with fail
        go_loopg [11, 12] P (fun g3 s11 s12 w4 => ∃ u : Nat, u ≤ P ∧ P - u ≤ g3 ∧ s12 = .int .i64 u ∧ s11 = .int .i64 (bs (fun x => x.testBit a) u : Nat) ∧ w3 = w4)
        case atStart => exact ⟨0, by omega, by omega, rfl, by rw [M0.out]; rfl, rfl⟩
        case round =>
          obtain ⟨u, hu, hg3, rfl, rfl, rfl⟩ := hrel
          by_cases hlu : u < P
          · have hb := MB.out u
            have hpu : 2 ^ u ≤ 65536 := Nat.le_trans (Nat.pow_le_pow_right (n := 2) (by omega) (by omega : u ≤ 16)) (by decide)
            have hSu := Lib.hid (MS.out u)
            have hbm := bitI_mul _ u a rfl (2 ^ u)
            have HBi := Lib.hid (fun w' => specbit_any u a w' (by omega) (by omega))
            have HPu' := Lib.hid (fun w' => HPu.out u (by omega) w')
            have hdle : (if u.testBit a then 2 ^ u else 0) ≤ 65536 := by split <;> omega
            generalize (if u.testBit a then 2 ^ u else 0) = d at *
            generalize bitI u a = bi at *
            generalize 2 ^ u = q at *
            have hbl : bs (fun x => x.testBit a) u ≤ 65536 := by omega
            generalize bs (fun x => x.testBit a) u = acc at *
            clear hb
            go_wp2_with fail
            refine (HBi.out _).mono ?_
            rintro e w' ⟨rfl, rfl⟩
            go_wp2_with fail
            refine (HPu'.out _).mono ?_
            rintro e w' ⟨rfl, rfl⟩
            go_wp2_with fail
            go_roundg (P - (u + 1))
            case measure => omega
            case rel => exact ⟨u + 1, by omega, by omega, by go_num, by rw [hSu.out]; go_num, rfl⟩
          · obtain rfl : P = u := by omega
            have hmd := HMd.out a
            have hcl := HCl.out a
            have hclb : clB P a < PP := by omega
            have hk1 := HKn.out (rat (muSt n t) a) (mdB P a)
            have hk2' := HKn.out (rat (muSt n t) a) (clB P a)
            have K1 := Lib.hid (fun w' h => specknows_any P n c a (mdB P a) A (muSt n t) w' (HG.out t) hlt (by omega) h)
            have K2 := Lib.hid (fun w' h => specknows_any P n c a (clB P a) A (muSt n t) w' (HG.out t) hlt (by omega) h)
            rw [show ((clB P a : Nat) : Int) = (PP : Int) - 1 - (mdB P a : Nat) by omega] at K2
            have hor := bits_or64 (knV (rat (muSt n t) a) P (mdB P a)) (knV (rat (muSt n t) a) P (clB P a)) (by omega) (by omega)
            have HTL2 := Lib.hid (HTL.out a)
            have HSc2 := Lib.hid (HSucc.out a)
            have hsub := HSu.out (rat (muSt n t) a) a
            rw [show suV (rat (muSt n t) a) P a = knV (rat (muSt n t) a) P (mdB P a) ||| knV (rat (muSt n t) a) P (clB P a) from rfl] at HTL2 HSc2 hsub
            have hwb := HBd.out a (by omega)
            have hwq1 : IntKind.i64.wrap ((PP : Int) - 1) = (PP : Int) - 1 := IntWalk.i64_in _ (by omega)
            have hwq2 : IntKind.i64.wrap ((PP : Int) - 1 - (mdB P a : Nat)) = (PP : Int) - 1 - (mdB P a : Nat) := IntWalk.i64_in _ (by omega)
            rw [show bs (fun x => x.testBit a) P = mdB P a from rfl]
            generalize knV (rat (muSt n t) a) P (mdB P a) = k1 at *
            generalize knV (rat (muSt n t) a) P (clB P a) = k2 at *
            generalize mdB P a = md at *
            clear hmd hcl hclb MS MB M0
            have SD := Lib.hid (V3.out.drew.fr.ss)
            go_wp2_with fail
            go_region_held3 (fun w' => w'.cell? ⟨s6, 0, none⟩ = some (.int .i64 (P : Nat)) ∧ w'.cell? ⟨s6, 1, none⟩ = some (.slice A n c)) (go_keep) (first
              | (go_simp; go_at_call 33; refine (K1.out w3.drew SD.out).mono ?_; rintro e w5 ⟨rfl, b50⟩; have b5 : Below w3.heap.size w3 w5 := (bDrewN (Below.refl w3.heap.size w3) 1).trans b50; have V5 := Lib.hid (V3.out.later b5); have B5 := Lib.hid b5; have x0 := V5.out.c0; have x1 := V5.out.c1; clear b5 b50 K1; dsimp only)
              | (go_simp; go_at_call 29; refine (HPP.out w5).mono ?_; rintro e w' ⟨rfl, rfl⟩; dsimp only)
              | (go_simp; go_at_call 33; refine (K2.out w5 V5.out.fr.ss).mono ?_; rintro e w6 ⟨rfl, b60⟩; have V6 := Lib.hid (V5.out.later b60); have B6 := Lib.hid (bstep B5.out b60); have y0 := V6.out.c0; have y1 := V6.out.c1; clear b60 K2; dsimp only))
            have HO6 := Lib.hid (own_lateR HOw.out B6.out)
            have HBw6 := Lib.hid (bstep HBw.out B6.out)
            have hs6w := HBw6.out.size
            generalize k1 ||| k2 = su at *
            have hpa : 2 ^ a ≤ 16 := Nat.pow_le_pow_right (n := 2) (by omega) (by omega : a ≤ 4)
            have hbm := bitI_mul _ su w0 rfl (2 ^ a)
            have HBi := Lib.hid (fun w' => specbit_any su w0 w' (by omega) (by omega))
            have HPa := Lib.hid (fun w' => HPu.out a (by omega) w')
            have hdle : (if su.testBit w0 then 2 ^ a else 0) ≤ 16 := by split <;> omega
            generalize (if su.testBit w0 then 2 ^ a else 0) = d at *
            generalize bitI su w0 = bi at *
            generalize 2 ^ a = q at *
            generalize whTo (muSt n t) P w0 a = wh at *
            go_wp2_with (at_builtin; refine appL w6 w1.heap.size _ _ _ (tlL (muSt n t) P a) (su : Int) rfl _ _ rfl rfl HO6.out rfl (by omega) hs6w ?_; intro g7 c7 w7 ho7 hb7 hg7 hl7; have HO7 := Lib.hid ho7; have HB7 := Lib.hid (HBw6.out.trans hb7); clear ho7 hb7 hg7 hl7)
            refine (HBi.out _).mono ?_
            rintro e w' ⟨rfl, rfl⟩
            go_wp2_with fail
            refine (HPa.out _).mono ?_
            rintro e w' ⟨rfl, rfl⟩
            go_wp2_with fail
            go_roundg (n - (a + 1))
            case measure => omega
            case rel => exact ⟨a + 1, g7, c7, by omega, by omega, by go_num, by rw [HSc2.out]; go_num, rfl, by rw [HTL2.out]; exact HO7.out, HB7.out⟩
      · obtain rfl : n = a := by omega
        have hgb := World.ownsRow.lt hown g rfl
        obtain ⟨b9, o9, e9, hcell⟩ := (NewI.of_own hown).si.2 (by omega)
        cases e9
        have HCell := Lib.hid (show ∀ i, i < n → w3.cell? ⟨g, i, none⟩ = some (.int .i64 (suV (rat (muSt n t) i) P i : Nat)) from fun i hi => by
          have := hcell i hi
          rw [Nat.zero_add, HTLn.out i hi] at this
          exact this)
        have V3 := Lib.hid (HV.out.later hbw)
        have B3 := Lib.hid (bstep HB.out hbw)
        have hcap := own_cap hown
        have hg6 : s6 ≠ g := by omega
        clear hcell hown hbw
        by_cases htk : t = K - 1
        · have hE : whTo (muSt n t) P w0 n = w0 := by rw [htk]; exact HWh.out
          rw [hE]
          have hne : decide ((0 : Int) < (w0 : Int)) = true := by rw [decide_eq_true_eq]; omega
          have hKt : (t : Int) + 1 = (K : Int) := by omega
          clear hE htk
          rw [hKt]
          go_wp2_with fail
          go_ret2
          exact ⟨rfl, B3.out⟩
        · have hE : whTo (muSt n t) P w0 n = 0 := HNo.out t (by omega)
          rw [hE]
          have hne : decide ((0 : Int) < ((0 : Nat) : Int)) = false := by simp
          have hz0 : ((0 : Nat) : Int) = 0 := rfl
          clear hE
          go_wp2_with fail
          go_loopg [14] n (fun g4 s14 w4 => ∃ (a : Nat) (A4 : Option Addr) (c4 lo4 hi4 : Nat), a ≤ n ∧ n - a ≤ g4 ∧ s14 = .int .i64 a ∧ VB s6 P n w4 A4 c4 lo4 hi4 (muTo (muSt n t) P a) ∧ g < w4.heap.size ∧ Aside (∀ i, i < n → w4.cell? ⟨g, i, none⟩ = some (.int .i64 (suV (rat (muSt n t) i) P i : Nat))) ∧ Below w.heap.size w w4)
          case atStart => exact ⟨0, A, c, lo, hi, by omega, by omega, rfl, by rw [HM0.out]; exact V3.out, hgb.2, HCell.out, B3.out⟩
          case round =>
            clear V3 HCell B3 hgb
            obtain ⟨a, A4, c4, lo4, hi4, ha, hg4, rfl, hV4, hgl, hcl, hB4⟩ := hrel
            obtain ⟨w4, rfl⟩ : ∃ x, x = wr := ⟨_, rfl⟩
            by_cases hlt : a < n
            · have x := hcl.out a hlt
              have c0 := hV4.c0
              have c1 := hV4.c1
              have V4 := Lib.hid hV4
              have VD := Lib.hid hV4.drew
              have BD := Lib.hid (bDrewN hB4 1)
              have HMS4 := Lib.hid (HMS.out a)
              have hsu := HSu.out (rat (muSt n t) a) a
              have HCD := Lib.hid hcl.out
              generalize suV (rat (muSt n t) a) P a = su at *
              have CT := Lib.hid (fun w' h => announce_any P n su c4 A4 (muTo (muSt n t) P a) w' (HTo.out t a) (by omega) h)
              clear hV4 hB4 hcl
              go_wp2_with fail
              go_region_with (first
                | (go_at_call 30; refine (CT.out _ VD.out.fr.ss).mono ?_; rintro e w5 ⟨A5, c5, rfl, hF5, b5⟩; have V5 := Lib.hid (VD.out.later b5); have F5 := Lib.hid hF5; have B5 := Lib.hid (BD.out.trans (b5.mono BD.out.size)); have g0 := V5.out.c0; have g1 := V5.out.c1; have f0 := V5.out.f0; have f1 := V5.out.f1; have hgl5 : g < w5.heap.size := Nat.lt_of_lt_of_le hgl b5.size; have HC5 := Lib.hid (fun i (hi : i < n) => (b5.cell (p := ⟨g, i, none⟩) hgl).trans (HCD.out i hi)); clear b5 hF5 CT))
              all_goals
                go_wp2_with fail
                go_roundg (n - (a + 1))
                case measure => omega
                case rel =>
                  refine ⟨a + 1, A5, c5, _, _, by omega, by omega, by go_num, by rw [HMS4.out]; exact V5.out.put F5.out (.inr VD.out.lt), by simpa using hgl5, (show Aside _ from fun i hi => ?_), (B5.out.setCell (p := ⟨s6, 0, none⟩) hsw _).setCell (p := ⟨s6, 1, none⟩) hsw _⟩
                  rw [World.cell?_setCell_other _ _ _ _ (fun e => hg6 (by injection e)), World.cell?_setCell_other _ _ _ _ (fun e => hg6 (by injection e))]
                  exact HC5.out i hi
            · obtain rfl : n = a := by omega
              have V4 := Lib.hid hV4
              have B4 := Lib.hid hB4
              rw [← HSt.out] at V4
              clear hV4 hB4
              go_wp2_with fail
              go_roundg (K - (t + 1))
              case measure => omega
              case rel => exact ⟨t + 1, A4, c4, lo4, hi4, by omega, by omega, by go_num, V4.out, B4.out⟩

theorem specMuddyOf_any (n w0 : Int) (w : World) :
    Calls Try.prog 12 #[.int .i64 n, .int .i64 w0] w fun e w' => e = .returned (.tuple #[.int .i64 (muK n w0), .int .i64 (muE n w0)]) ∧ Below w.heap.size w w' := by
  cases h : inR n 1 4 with
  | false =>
    obtain ⟨e1, e2⟩ := muK_out (n := n) (w := w0) (by rw [h]; rfl)
    rw [e1, e2]
    exact specMuddyOf_out1 n w0 w h
  | true =>
    have h1 := inR_iff.1 h
    obtain ⟨N, rfl⟩ : ∃ N : Nat, n = N := ⟨n.toNat, by omega⟩
    have ec : ((2 : Int) ^ N) = ((2 ^ N : Nat) : Int) := by simp
    cases h2 : inR w0 1 (2 ^ (N : Int).toNat - 1) with
    | false =>
      obtain ⟨e1, e2⟩ := muK_out (n := N) (w := w0) (by rw [h, h2]; rfl)
      rw [e1, e2]
      refine specMuddyOf_out2 N w0 w (by omega) (by omega) ?_
      rw [Int.toNat_natCast, ec] at h2
      exact h2
    | true =>
      rw [muK, muE, h, h2]
      rw [Int.toNat_natCast, ec] at h2
      have h3 := inR_iff.1 h2
      obtain ⟨M, rfl⟩ : ∃ M : Nat, w0 = M := ⟨w0.toNat, by omega⟩
      exact specMuddyOf_in N M w (by omega) (by omega) (by omega) (by omega)

end Go.Proofs.Ytfjpnennbdefiaa
