/-
  LTok4. By a program (wip/tools/mk.py) out of snippets.
-/
import Derived.Test.YthhfnhabnaakiaaDTok
import Derived.Test.YthhfnhabnaakiaaFnBase
import Derived.Test.YthhfnhabnaakiaaTokMath
import Derived.Test.YthhfnhabnaakiaaTok3
namespace Go.Proofs.Ythhfnhabnaakiaa
open Go.RowKit

theorem toksOf_le (k : Int) (zs : List Int) : (toksOf k zs).length ≤ zs.length := by
  unfold toksOf
  split
  · exact toksTo_length zs _
  · simp

set_option maxHeartbeats 3200000 in
theorem lawMoveOf (A : Option Addr) (n c : Nat) (bs : List Int) (w : World) (hb : bs.length = n ∧ (0 < n → ∃ b off, A = some ⟨b, off, none⟩ ∧ ∀ i, i < n → w.cell? ⟨b, off + i, none⟩ = some (.int .u8 (iat bs i)))) (hwf : ∀ z ∈ bs, (Lit.int .u8 z).wf = true) (hcap : n ≤ c) :
    Calls Try.prog 8 #[.slice A n c] w fun e w' => e = .returned (.bool true) ∧ Below w.heap.size w w' := by
  by_cases hbig : 1048576 < n
  · clear hb
    go_enter Try.func8, Try.ntmps8
    go_wp2_with fail
    go_ret
    exact ⟨rfl, Below.refl _ _⟩
  · have H := Lib.hid (drawMoveOf_any A n c bs w hcap (by omega) (SB.of hb hwf))
    clear hb hwf
    go_enter Try.func8, Try.ntmps8
    go_wp2_with fail
    refine H.out.mono ?_
    rintro e w1 ⟨k, i, A1, n1, c1, zs, rfl, hsi, h1, h2, h3, h4, h5, h6, B1⟩
    have hn1 : n1 ≤ 2000000 := by omega
    have hml := mvOf_le k zs i
    rw [hsi.len] at hml
    have C1 := Lib.hid (fun w h => specMoveOf_any k A1 n1 c1 i zs w hn1 h)
    have C2 := Lib.hid (fun w h => implMoveOf_any k A1 n1 c1 i zs w hn1 h)
    have hlen := Lib.hid hsi.len
    have HF := Lib.hid (show mvOk k zs i = true → vtok k zs = true ∧ ∃ j : Nat, i = j ∧ j < zs.length ∧ tokAt zs j = true ∧ mvOf k zs i = mv k zs j by
      intro h
      have h' := h
      simp only [mvOk, Bool.and_eq_true] at h'
      obtain ⟨g1, g2, g3⟩ := h'
      rw [inR_iff] at g2
      refine ⟨g1, i.toNat, by omega, by omega, g3, by simp [mvOf, h]⟩)
    obtain ⟨L, hL⟩ : ∃ L, L = (mvOf k zs i).length := ⟨_, rfl⟩
    rw [← hL] at C1 C2 hml
    have HL := Lib.hid hL; clear hL
    go_wp2_with fail
    refine (C2.out _ hsi).mono ?_
    rintro e w2 ⟨AG, cG, rfl, hG, b2⟩
    have hsi2 := hsi.below b2 (Nat.le_refl _)
    have B2 := bstep B1 b2
    clear hsi B1 b2
    go_wp2_with fail
    refine (C1.out _ hsi2).mono ?_
    rintro e w3 ⟨AW, cW, rfl, hW, b3⟩
    have hsi3 := hsi2.below b3 (Nat.le_refl _)
    have hG3 := hG.below b3 (Nat.le_refl _)
    have B3 := bstep B2 b3
    clear hsi2 B2 b3 hG
    have HEq := Lib.hid (fun m => equalInts_true AG AW _ cG cW (mvOf k zs i) (w3.drewN m) (by omega) hG3.si hW.si)
    go_wp2_with fail
    refine (HEq.out 0).mono ?_
    rintro e w4 ⟨rfl, q4, rfl⟩
    cases hok : mvOk k zs i with
    | false =>
      go_wp2_with fail
      refine (HEq.out _).mono ?_
      rintro e w5 ⟨rfl, q5, rfl⟩
      go_wp2_with fail
      go_ret
      exact ⟨rfl, bDrewN B3 _⟩
    | true =>
      obtain ⟨hv, j, rfl, hj, ht, hmv⟩ := HF.out hok
      have hf := move_fine hv hj ht
      have hX := toksTo_length (mv k zs j) (mv k zs j).length
      have hX2 := toksTo_length zs zs.length
      rw [mv_length, hlen.out] at hX
      rw [hlen.out] at hX2
      have hml2 : (mv k zs j).length = n1 := by rw [mv_length, hlen.out]
      obtain rfl : L = n1 := by rw [HL.out, hmv]; exact hml2
      rw [hmv] at hG3
      have e1 : toksOf k (mv k zs j) = toks (mv k zs j) := by simp [toksOf, hf.2.2.1]
      have e2 : toksOf k zs = toks zs := by simp [toksOf, hv]
      have T1 := Lib.hid (fun w5 (h : SI w5 AG L (mv k zs j)) => implTokensOf_any k AG L cG (mv k zs j) w5 hn1 h)
      have T2 := Lib.hid (fun w5 (h : SI w5 A1 L zs) => implTokensOf_any k A1 L c1 zs w5 hn1 h)
      have T3 := Lib.hid (fun w5 (h : SI w5 AG L (mv k zs j)) => implValidTokens_any k AG L cG (mv k zs j) w5 hn1 h)
      rw [e1] at T1
      rw [e2] at T2
      rw [hf.2.2.1] at T3
      have hle := hf.1
      have HN := Lib.hid (show ((toks (mv k zs j)).any fun z => z == (j : Int)) = false by
        rw [List.any_eq_false]
        intro z hz h
        have : z = (j : Int) := by simpa using h
        rw [this] at hz
        exact hf.2.1 hz)
      have hX' : (toks (mv k zs j)).length ≤ L := by unfold toks; rw [mv_length, hlen.out]; exact hX
      have I1 := Lib.hid (fun A' c' w5 (h : SI w5 A' (toks (mv k zs j)).length (toks (mv k zs j))) => isIn_any A' _ c' (toks (mv k zs j)) (j : Int) w5 (by omega) h)
      rw [HN.out] at I1
      generalize toks (mv k zs j) = X at *
      generalize toks zs = Y at *
      generalize mv k zs j = V at *
      have hgen : ((X.length : Int) ≤ (Y.length : Int)) := by omega
      clear hf hok hv ht hmv e1 e2 hX hX2 hle hml2 HF HL
      go_wp2_with fail
      refine (T1.out (w3.drewN q4) hG3.si).mono ?_
      rintro e w5 ⟨A5, c5, rfl, h5', b5⟩
      have hsi5 := hsi3.below (B := (w3.drewN q4).heap.size) ((bDrewN (Below.refl _ w3) q4).trans b5) (Nat.le_refl _)
      have B5 := bstep (bDrewN B3 q4) b5
      go_wp2_with fail
      refine (T2.out _ hsi5).mono ?_
      rintro e w6 ⟨A6, c6, rfl, h6', b6⟩
      have B6 := bstep B5 b6
      go_wp2_with fail
      refine (I1.out _ _ _ ((h5'.below b6 (Nat.le_refl _)).si)).mono ?_
      rintro e w7 ⟨rfl, rfl⟩
      go_wp2_with fail
      refine (T3.out _ ((hG3.below (B := (w3.drewN q4).heap.size) (((bDrewN (Below.refl _ w3) q4).trans b5).trans (b6.mono b5.size)) (Nat.le_refl _)).si)).mono ?_
      rintro e w8 ⟨rfl, b8⟩
      go_wp2_with fail
      go_ret
      exact ⟨rfl, bstep B6 b8⟩

theorem toks_asc (zs : List Int) (i : Nat) (h0 : 0 < i) (hi : i < (toks zs).length) : iat (toks zs) (i - 1) < iat (toks zs) i := by
  have hp : (toks zs).Pairwise (· < ·) := by
    unfold toks toksTo
    rw [List.pairwise_map]
    refine List.Pairwise.filter _ ?_
    exact (List.pairwise_lt_range).imp (fun h => by omega)
  rw [iat_eq (by omega), iat_eq hi]
  exact List.pairwise_iff_getElem.1 hp _ _ (by omega) hi (by omega)
theorem toks_any2 {zs : List Int} {i : Nat} : ((toks zs).any fun z => z == (i : Int)) = (inR i 0 ((zs.length : Int) - 1) && tokAt zs i) := by
  have h := toks_any (zs := zs) (i := (i : Int))
  rw [Int.toNat_natCast] at h
  rw [← h]
  congr 1
  funext z
  rw [Bool.eq_iff_iff]; simp; exact eq_comm
set_option maxHeartbeats 3200000 in
theorem lawTokensOf (A : Option Addr) (n c : Nat) (bs : List Int) (w : World) (hb : bs.length = n ∧ (0 < n → ∃ b off, A = some ⟨b, off, none⟩ ∧ ∀ i, i < n → w.cell? ⟨b, off + i, none⟩ = some (.int .u8 (iat bs i)))) (hwf : ∀ z ∈ bs, (Lit.int .u8 z).wf = true) (hcap : n ≤ c) :
    Calls Try.prog 9 #[.slice A n c] w fun e w' => e = .returned (.bool true) ∧ Below w.heap.size w w' := by
  by_cases hbig : 1048576 < n
  · clear hb
    go_enter Try.func9, Try.ntmps9
    go_wp2_with fail
    go_ret
    exact ⟨rfl, Below.refl _ _⟩
  · have H := Lib.hid (drawTokensOf_any A n c bs w hcap (by omega) (SB.of hb hwf))
    clear hb hwf
    go_enter Try.func9, Try.ntmps9
    go_wp2_with fail
    refine H.out.mono ?_
    rintro e w1 ⟨k, A1, n1, c1, zs, rfl, hsi, h1, h2, h3, h4, B1⟩
    have hn1 : n1 ≤ 2000000 := by omega
    have hml := toksOf_le k zs
    rw [hsi.len] at hml
    have C1 := Lib.hid (fun w h => specTokensOf_any k A1 n1 c1 zs w hn1 h)
    have C2 := Lib.hid (fun w h => implTokensOf_any k A1 n1 c1 zs w hn1 h)
    have hlen := Lib.hid hsi.len
    obtain ⟨L, hL⟩ : ∃ L, L = (toksOf k zs).length := ⟨_, rfl⟩
    rw [← hL] at C1 C2 hml
    have HL := Lib.hid hL; clear hL
    go_wp2_with fail
    refine (C2.out _ hsi).mono ?_
    rintro e w2 ⟨AG, cG, rfl, hG, b2⟩
    have hsi2 := hsi.below b2 (Nat.le_refl _)
    have B2 := bstep B1 b2
    clear hsi B1 b2
    go_wp2_with fail
    refine (C1.out _ hsi2).mono ?_
    rintro e w3 ⟨AW, cW, rfl, hW, b3⟩
    have hsi3 := hsi2.below b3 (Nat.le_refl _)
    have hG3 := hG.below b3 (Nat.le_refl _)
    have B3 := bstep B2 b3
    clear hsi2 B2 b3 hG
    go_wp2_with fail
    refine (equalInts_true AG AW _ cG cW (toksOf k zs) _ (by omega) hG3.si hW.si).mono ?_
    rintro e w4 ⟨rfl, q4, rfl⟩
    clear hW
    have V := Lib.hid (implValidTokens_any k A1 n1 c1 zs (w3.drewN q4) hn1 hsi3)
    have B4 := bDrewN B3 q4
    have hsi4 : SI (w3.drewN q4) A1 n1 zs := hsi3
    have hG4 := hG3.below (B := w3.heap.size) (bDrewN (Below.refl _ w3) q4) (Nat.le_refl _)
    clear B3 hsi3 hG3
    generalize w3.drewN q4 = w4 at *
    cases hv : vtok k zs with
    | false =>
      rw [hv] at V
      go_wp2_with fail
      refine V.out.mono ?_
      rintro e w5 ⟨rfl, b5⟩
      have B5 := bstep B4 b5
      have hsi5 := hsi4.below b5 (Nat.le_refl _)
      have hG5 := hG4.below b5 (Nat.le_refl _)
      clear hv
      go_wp2_with fail
      refine (C1.out _ hsi5).mono ?_
      rintro e w6 ⟨A6, c6, rfl, hW, b6⟩
      go_wp2_with fail
      refine (equalInts_true AG A6 _ cG c6 (toksOf k zs) _ (by omega) (hG5.below b6 (Nat.le_refl _)).si hW.si).mono ?_
      rintro e w7 ⟨rfl, q7, rfl⟩
      go_wp2_with fail
      go_ret
      exact ⟨rfl, bDrewN (bstep B5 b6) _⟩
    | true =>
      rw [hv] at V
      have e1 : toksOf k zs = toks zs := by simp [toksOf, hv]
      have hne := toks_ne hv
      have HA := Lib.hid (toks_asc zs)
      rw [e1] at hG4 HL
      have hL0 : 0 < L := by rw [HL.out]; exact hne
      have HM := Lib.hid (fun i w h => implMoveOf_any k A1 n1 c1 i zs w hn1 h)
      have HI := Lib.hid (show ∀ j : Nat, j < n1 → mvOk k zs j = ((toks zs).any fun z => z == (j : Int)) by
        intro j hj
        rw [toks_any2, mvOk, hv, Int.toNat_natCast, Bool.true_and])
      clear hv hne e1
      generalize toks zs = X at *
      go_wp2_with fail
      refine V.out.mono ?_
      rintro e w5 ⟨rfl, b5⟩
      have B5 := bstep B4 b5
      have hsi5 := hsi4.below b5 (Nat.le_refl _)
      have hG5 := hG4.below b5 (Nat.le_refl _)
      clear B4 b5 hsi4 hG4
      go_wp2_with fail
      go_loopw [6] (fun i wr => ∃ j : Nat, j ≤ n1 ∧ i = .int .i64 j ∧ Below w5.heap.size w5 wr) (fun i _ => n1 - (intOf i).toNat)
      case atStart => exact ⟨0, by omega, rfl, Below.refl _ _⟩
      case round =>
        obtain ⟨j, hj, rfl, hbw⟩ := hrel
        by_cases hlt : j < n1
        · have hsi6 := hsi5.below hbw (Nat.le_refl _)
          have hG6 := hG5.below hbw (Nat.le_refl _)
          have HMj := Lib.hid (HM.out (j : Int) wr hsi6)
          have HIj := Lib.hid (HI.out j hlt)
          go_wp2_with fail
          refine HMj.out.mono ?_
          rintro e w7 ⟨A7, c7, rfl, h7, b7⟩
          have B7 := bstep hbw b7
          have HIn := Lib.hid (isIn_any AG L cG X (j : Int) w7 (by omega) (hG6.below b7 (Nat.le_refl _)).si)
          rw [HIj.out]
          generalize (X.any fun z => z == (j : Int)) = d at HIn HIj ⊢
          clear hsi6 hG6 h7 b7 HMj
          cases d
          all_goals
            go_wp2_with fail
            refine HIn.out.mono ?_
            rintro e w8 ⟨rfl, rfl⟩
            go_wp2_with fail
            go_roundw
            case rel => exact ⟨j + 1, by omega, by go_num, B7⟩
            case measure => simp [intOf]; omega
        · have hG6 := hG5.below hbw (Nat.le_refl _)
          have HAs := Lib.hid (ascends_true AG L cG X wr (by omega) (fun i h0 hi => HA.out i h0 (by rw [← HL.out]; exact hi)) hG6.si)
          clear hG6 hG5
          go_wp2_with fail
          refine HAs.out.mono ?_
          rintro e w8 ⟨rfl, q8, rfl⟩
          go_wp2_with fail
          go_ret
          exact ⟨by first | rfl | (simp; omega), bDrewN (bstep B5 hbw) _⟩

end Go.Proofs.Ythhfnhabnaakiaa
