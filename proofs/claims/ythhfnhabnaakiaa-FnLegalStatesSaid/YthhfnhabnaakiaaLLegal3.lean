/-
  LLegal3. By a program (wip/tools/mk.py) out of snippets.
-/
import Derived.Test.YthhfnhabnaakiaaLLegal2
import Derived.Test.YthhfnhabnaakiaaTok3
namespace Go.Proofs.Ythhfnhabnaakiaa
open Go.RowKit

theorem quietQ {P : Program} {f : FuncId} {args : Array Value} {w : World} {x : Nat} {v : Value} (h : Calls P f args (w.drewN x) fun e w' => Qt (w.drewN x) v e w') :
    Calls P f args (w.drewN x) fun e w'' => e = .returned v ∧ ∃ n, w'' = w.drewN n :=
  h.mono fun e w' ⟨he, q, hq⟩ => ⟨he, x + q, by rw [hq, World.drewN_drewN]⟩

theorem legal_row {K N i : Nat} (hK : 2 ≤ K) (hK5 : K ≤ 5) (hN : 2 ≤ N) (hN5 : N ≤ 5) (hi : i < (legTo K N (K ^ N)).length) :
    ∃ j : Nat, j < N ∧ toksOf K (rat (legTo K N (K ^ N)) i) = [(j : Int)] ∧ mvOk K (rat (legTo K N (K ^ N)) i) j = true ∧ (mvOf K (rat (legTo K N (K ^ N)) i) j).length = N ∧ (toksOf K (mvOf K (rat (legTo K N (K ^ N)) i) j)).length = 1 := by
  have hmem := rat_mem hi
  generalize rat (legTo K N (K ^ N)) i = zs at *
  have hzs := hmem
  simp only [legTo, List.mem_filter, List.mem_map] at hzs
  obtain ⟨⟨y, _, rfl⟩, hleg⟩ := hzs
  have hv : vtok K (stL K N y) = true := by
    rw [vtok_iff, stL_length]
    refine ⟨by omega, by omega, fun z hz => ?_⟩
    simp only [stL, List.mem_map] at hz
    obtain ⟨a, _, rfl⟩ := hz
    have := Nat.mod_lt (y / K ^ (N - 1 - a)) (show 0 < K by omega)
    omega
  have hlen := stL_length K N y
  generalize stL K N y = zs at *
  have h1 : (toks zs).length = 1 := by unfold isLeg at hleg; simpa using hleg
  obtain ⟨t, ht⟩ := List.length_eq_one_iff.1 h1
  have htm : t ∈ toks zs := by rw [ht]; simp
  simp only [toks, toksTo, List.mem_map, List.mem_filter, List.mem_range] at htm
  obtain ⟨j, ⟨hj, htk⟩, rfl⟩ := htm
  have hm := move_fine hv hj htk
  have hok : mvOk K zs j = true := by
    unfold mvOk
    rw [hv, Int.toNat_natCast, htk]
    simp only [Bool.true_and, Bool.and_true]
    rw [inR_iff]
    omega
  have hmv : mvOf K zs j = mv K zs j := by simp [mvOf, hok]
  refine ⟨j, by omega, by simp [toksOf, hv, ht], hok, by rw [hmv, mv_length, hlen], ?_⟩
  rw [hmv]
  have h5 := hm.2.2.2 h1
  simp [toksOf, hm.2.2.1, h5]
theorem legal_ne {K N i : Nat} (hK : 2 ≤ K) (hK5 : K ≤ 5) (hN : 2 ≤ N) (hN5 : N ≤ 5) (h : K ^ N ≤ 1024) (hi : i < (legTo K N (K ^ N)).length) (h0 : 0 < i) : rat (legTo K N (K ^ N)) (i - 1) ≠ rat (legTo K N (K ^ N)) i := by
  have h1 := legChk_true hK hK5 hN hN5 h
  unfold legChk at h1
  simp only [Bool.and_eq_true] at h1
  have h2 := List.all_eq_true.1 h1.2 i (List.mem_range.2 hi)
  simp only [Bool.or_eq_true, beq_iff_eq, Bool.not_eq_true', beq_eq_false_iff_ne] at h2
  rcases h2 with h3 | h3
  · omega
  · exact h3

set_option maxRecDepth 20000 in
set_option maxHeartbeats 6400000 in
theorem lawLegalStates (A : Option Addr) (n c : Nat) (bs : List Int) (w : World) (hb : bs.length = n ∧ (0 < n → ∃ b off, A = some ⟨b, off, none⟩ ∧ ∀ i, i < n → w.cell? ⟨b, off + i, none⟩ = some (.int .u8 (iat bs i)))) (hwf : ∀ z ∈ bs, (Lit.int .u8 z).wf = true) (hcap : n ≤ c) :
    Calls Try.prog 13 #[.slice A n c] w fun e w' => e = .returned (.bool true) ∧ Below w.heap.size w w' := by
  by_cases hbig : 1048576 < n
  · clear hb
    go_enter Try.func13, Try.ntmps13
    go_wp2_with fail
    go_ret
    exact ⟨rfl, Below.refl _ _⟩
  · have H := Lib.hid (drawLegalStates_any A n c bs w hcap (by omega) (SB.of hb hwf))
    clear hb hwf
    go_enter Try.func13, Try.ntmps13
    go_wp2_with fail
    refine H.out.mono ?_
    rintro e w1 ⟨k, m, rfl, hk1, hk6, hm1, hm6, B1'⟩
    have B1 := Lib.hid B1'
    have CS := Lib.hid (fun w => specLegal_any k m w)
    have CI := Lib.hid (fun w => implLegal_any k m w)
    clear H B1'
    cases hok : lgOk k m with
    | false =>
      have hR : legR k m = [] := by unfold legR; rw [hok]; rfl
      rw [hR] at CS CI
      have HE := Lib.hid (fun A B c d w h1 h2 => equalLists_true A B 0 c d [] w (by omega) (fun i hi => absurd hi (by omega)) h1 h2)
      clear hR hok
      simp only [List.length_nil] at CS CI
      go_wp2_with fail
      refine (CI.out _).mono ?_
      rintro e w2 ⟨A2, c2, rfl, F2, b2⟩
      have G2 := Lib.hid F2.ss
      have B2 := Lib.hid (bstep B1.out b2)
      clear F2 b2
      go_wp2_with fail
      refine (CS.out _).mono ?_
      rintro e w3 ⟨A3, c3, rfl, F3, b3⟩
      have G3 := Lib.hid (G2.out.below b3 (Nat.le_refl _))
      have H3 := Lib.hid F3.ss
      have B3 := Lib.hid (bstep B2.out b3)
      clear F3 b3 G2
      go_wp2_with fail
      refine (HE.out _ _ _ _ _ G3.out H3.out).mono ?_
      rintro e w4 ⟨rfl, q4, h4⟩
      have b4 : Below w3.heap.size w3 w4 := by rw [h4]; exact bDrewN (Below.refl _ _) q4
      have G4 := Lib.hid (G3.out.below b4 (Nat.le_refl _))
      have B4 := Lib.hid (bstep B3.out b4)
      clear b4 h4 G3 H3
      go_wp2_with fail
      refine (CS.out _).mono ?_
      rintro e w5 ⟨A5, c5, rfl, F5, b5⟩
      have G5 := Lib.hid (G4.out.below b5 (Nat.le_refl _))
      have H5 := Lib.hid F5.ss
      have B5 := Lib.hid (bstep B4.out b5)
      clear F5 b5 G4
      go_wp2_with fail
      refine (HE.out _ _ _ _ _ G5.out H5.out).mono ?_
      rintro e w6 ⟨rfl, q6, h6⟩
      have B6 := Lib.hid (show Below w.heap.size w w6 by rw [h6]; exact bDrewN B5.out q6)
      clear h6
      go_wp2_with fail
      go_ret
      exact ⟨rfl, B6.out⟩
    | true =>
      obtain ⟨K, N, rfl, rfl, ⟨hK, hK5⟩, ⟨hN, hN5⟩, h1024⟩ := lgOk_iff.1 hok
      have hR : legR K N = legTo K N (K ^ N) := by unfold legR; rw [hok]; rfl
      rw [hR] at CS CI
      have hct := legCount hK hK5 hN hN5 h1024
      have hle := legTo_le K N (K ^ N)
      have HRow := Lib.hid (fun i (hi : i < (legTo K N (K ^ N)).length) => legal_row hK hK5 hN hN5 hi)
      have HNe := Lib.hid (fun i (hi : i < (legTo K N (K ^ N)).length) h0 => legal_ne hK hK5 hN hN5 h1024 hi h0)
      have HLen := Lib.hid (fun i (hi : i < (legTo K N (K ^ N)).length) => legTo_rat hi)
      generalize legTo K N (K ^ N) = rows at *
      obtain ⟨L, hL⟩ : ∃ L, L = rows.length := ⟨_, rfl⟩
      rw [← hL] at CS CI hct HRow HNe HLen hle
      have hpos : 0 < L := by omega
      have hL1024 : L ≤ 1024 := by omega
      obtain ⟨P, hP⟩ : ∃ P, P = K * (K - 1) := ⟨_, rfl⟩
      obtain ⟨Z, hZ⟩ : ∃ Z, Z = P * (N - 1) := ⟨_, rfl⟩
      have hP20 : P ≤ 20 := by
        rw [hP]
        exact Nat.le_trans (Nat.mul_le_mul hK5 (show K - 1 ≤ 4 by omega)) (by omega)
      have hZ80 : Z ≤ 80 := by
        rw [hZ]
        exact Nat.le_trans (Nat.mul_le_mul hP20 (show N - 1 ≤ 4 by omega)) (by omega)
      rw [← hP, ← hZ] at hct
      have e1 : (K : Int) * ((K : Int) - 1) = (P : Int) := by
        rw [show ((K : Int) - 1) = ((K - 1 : Nat) : Int) by omega, hP]
        simp
      have e2 : (P : Int) * ((N : Int) - 1) = (Z : Int) := by
        rw [show ((N : Int) - 1) = ((N - 1 : Nat) : Int) by omega, hZ]
        simp
      have e3 : ((L : Int) == (K : Int) + (Z : Int)) = true := by simp; omega
      have hL0 : ((L : Int) == 0) = false := by simp; omega
      have HE := Lib.hid (fun A B c d w h1 h2 => equalLists_true A B L c d rows w (by omega) (fun i hi => by have := HLen.out i hi; omega) h1 h2)
      have CT := Lib.hid (fun A c zs w h => implTokensOf_any K A N c zs w (by omega) h)
      have CM := Lib.hid (fun A c (j : Int) zs w h => implMoveOf_any K A N c j zs w (by omega) h)
      clear hR hok hct hle hL hP hZ
      go_wp2_with fail
      refine (CI.out _).mono ?_
      rintro e w2 ⟨A2, c2, rfl, F2, b2⟩
      have G2 := Lib.hid F2.ss
      have B2 := Lib.hid (bstep B1.out b2)
      clear F2 b2
      go_wp2_with fail
      refine (CS.out _).mono ?_
      rintro e w3 ⟨A3, c3, rfl, F3, b3⟩
      have G3 := Lib.hid (G2.out.below b3 (Nat.le_refl _))
      have H3 := Lib.hid F3.ss
      have B3 := Lib.hid (bstep B2.out b3)
      clear F3 b3 G2
      go_wp2_with fail
      refine (HE.out _ _ _ _ _ G3.out H3.out).mono ?_
      rintro e w4 ⟨rfl, q4, h4⟩
      have b4 : Below w3.heap.size w3 w4 := by rw [h4]; exact bDrewN (Below.refl _ _) q4
      have G4 := Lib.hid (G3.out.below b4 (Nat.le_refl _))
      have B4 := Lib.hid (bstep B3.out b4)
      clear b4 h4 G3 H3
      go_wp2_with fail
      go_loopg [6] L (fun gg s6 wr => ∃ i : Nat, i ≤ L ∧ L - i ≤ gg ∧ s6 = .int .i64 i ∧ SS wr A2 L rows ∧ Below w.heap.size w wr)
      case atStart => exact ⟨0, by omega, by omega, rfl, G4.out, B4.out⟩
      case round =>
        clear G4 B4 CS CI
        obtain ⟨i, hi, hg, rfl, hss, hbw⟩ := hrel
        have HSS := Lib.hid hss
        have HBw := Lib.hid hbw
        clear hss hbw
        by_cases hlt : i < L
        · obtain ⟨j, hj, hr1, hr2, hr3, hr4⟩ := HRow.out i hlt
          have hzl := HLen.out i hlt
          obtain ⟨b, off, A', n', c', rfl, h1, s1⟩ := HSS.out.at_ hlt
          obtain rfl : n' = N := by rw [← s1.1]; exact hzl
          have HS1 := Lib.hid s1
          have hbl : b < wr.heap.size := World.block_lt_of_cell? wr _ h1
          have CT1 := Lib.hid (CT.out A' c' _ wr s1)
          rw [hr1] at CT1
          have HM := Lib.hid (fun w h => CM.out A' c' j (rat rows i) w h)
          rw [hr2, hr3] at HM
          have HT2 := Lib.hid (fun A c w h => CT.out A c (mvOf K (rat rows i) j) w h)
          rw [hr4] at HT2
          simp only [List.length_singleton] at CT1
          clear s1 hzl hr1 hr2 hr3 hr4
          go_wp2_with fail
          refine CT1.out.mono ?_
          rintro e w5 ⟨A5, c5, rfl, h5, b5⟩
          obtain ⟨b6, o6, rfl, hc6⟩ := h5.si.at_ (show 0 < 1 by omega)
          rw [show iat [(j : Int)] 0 = (j : Int) from rfl, Nat.add_zero] at hc6
          have k1 := (b5.cell (p := ⟨b, off + i, none⟩) hbl).trans h1
          have B5 := Lib.hid b5
          have HS5 := Lib.hid (HS1.out.below b5 (Nat.le_refl _))
          have hbl6 : b6 < w5.heap.size := World.block_lt_of_cell? w5 _ hc6
          have hbl5 : b < w5.heap.size := Nat.lt_of_lt_of_le hbl b5.size
          clear h5 b5 h1
          have htok : ((1 : Int) != 1) = false := by simp
          by_cases h0 : 0 < i
          · obtain ⟨b', off', A0, n0, c0, e0, h2, s2⟩ := HSS.out.at_ (show i - 1 < L by omega)
            cases e0
            obtain rfl : n0 = n' := by rw [← s2.1]; exact HLen.out (i - 1) (by omega)
            have k2 := (B5.out.cell (p := ⟨b, off + (i - 1), none⟩) hbl).trans h2
            have HQ := Lib.hid (fun q => equalInts_ne A0 A' n0 c0 c' _ _ (w5.drewN q) (by omega) (SI.drewN (s2.below B5.out (Nat.le_refl _)) q) (SI.drewN HS5.out q) (HNe.out i hlt h0))
            have d1 : decide ((0 : Int) < (i : Int)) = true := by simp; omega
            have w1' : IntKind.i64.wrap ((i : Int) - 1) = (i : Int) - 1 := IntWalk.i64_in _ (by omega)
            have d2 : ((i : Int) - 1).toNat = i - 1 := by omega
            have d3 : (0 : Int) ≤ (i : Int) - 1 := by omega
            have d4 : (i : Int) - 1 < (L : Int) := by omega
            have d5 : (i : Int) < (L : Int) := by omega
            have d6 : (1 : Int) ≤ (i : Int) := by omega
            clear s2 h2
            go_wp2_with fail
            go_quiet (first | (go_at_call 26; exact quietQ (HQ.out _)))
            go_wp2_with fail
            obtain ⟨W6, hW6⟩ : ∃ W, W = w5.drewN nq := ⟨_, rfl⟩
            rw [← hW6]
            have b56 : Below w5.heap.size w5 W6 := by rw [hW6]; exact bDrewN (Below.refl _ _) nq
            have k3 := (b56.cell (p := ⟨b, off + i, none⟩) hbl5).trans k1
            have k4 := (b56.cell (p := ⟨b6, o6, none⟩) hbl6).trans hc6
            have HS6 := Lib.hid ((HS5.out.below b56 (Nat.le_refl _)).below (bDrewN (Below.refl W6.heap.size W6) 1) (Nat.le_refl _))
            have B6 := Lib.hid (bstep B5.out b56)
            clear b56 k1 hc6 hW6 HS5 hbl5 hbl6
            have d5 : (0 : Int) < (L : Int) := by omega
            go_region_with (go_at_call 24; refine (HM.out _ HS6.out).mono ?_; rintro e w8 ⟨A8, c8, rfl, h8, b8⟩; have H8 := Lib.hid h8.si; have B8 := Lib.hid (show Below wr.heap.size wr w8 from B6.out.trans (((bDrewN (Below.refl W6.heap.size W6) 1).trans b8).mono B6.out.size)); clear h8 b8)
            all_goals
              go_wp2_with fail
              refine (HT2.out A8 c8 _ H8.out).mono ?_
              rintro e w9 ⟨A9, c9, rfl, _, b9⟩
              have B9 := Lib.hid (bstep B8.out b9)
              clear b9
              go_wp2_with fail
              go_roundg (L - (i + 1))
              case measure => omega
              case rel => exact ⟨i + 1, by omega, by omega, by go_num, HSS.out.below B9.out (Nat.le_refl _), bstep HBw.out B9.out⟩
          · obtain rfl : i = 0 := by omega
            rw [Nat.add_zero] at k1
            go_wp2_with fail
            go_quiet (fail)
            go_wp2_with fail
            obtain ⟨W6, hW6⟩ : ∃ W, W = w5.drewN nq := ⟨_, rfl⟩
            rw [← hW6]
            have b56 : Below w5.heap.size w5 W6 := by rw [hW6]; exact bDrewN (Below.refl _ _) nq
            have k3 := (b56.cell (p := ⟨b, off, none⟩) hbl5).trans k1
            have k4 := (b56.cell (p := ⟨b6, o6, none⟩) hbl6).trans hc6
            have HS6 := Lib.hid ((HS5.out.below b56 (Nat.le_refl _)).below (bDrewN (Below.refl W6.heap.size W6) 1) (Nat.le_refl _))
            have B6 := Lib.hid (bstep B5.out b56)
            clear b56 k1 hc6 hW6 HS5 hbl5 hbl6
            have d5 : (0 : Int) < (L : Int) := by omega
            go_region_with (go_at_call 24; refine (HM.out _ HS6.out).mono ?_; rintro e w8 ⟨A8, c8, rfl, h8, b8⟩; have H8 := Lib.hid h8.si; have B8 := Lib.hid (show Below wr.heap.size wr w8 from B6.out.trans (((bDrewN (Below.refl W6.heap.size W6) 1).trans b8).mono B6.out.size)); clear h8 b8)
            all_goals
              go_wp2_with fail
              refine (HT2.out A8 c8 _ H8.out).mono ?_
              rintro e w9 ⟨A9, c9, rfl, _, b9⟩
              have B9 := Lib.hid (bstep B8.out b9)
              clear b9
              go_wp2_with fail
              go_roundg (L - (0 + 1))
              case measure => omega
              case rel => exact ⟨0 + 1, by omega, by omega, by go_num, HSS.out.below B9.out (Nat.le_refl _), bstep HBw.out B9.out⟩
        · obtain rfl : i = L := by omega
          go_wp2_with fail
          go_ret
          exact ⟨rfl, HBw.out⟩

end Go.Proofs.Ythhfnhabnaakiaa
