/-
  LKn. By a program (wip/tools/mk.py) out of snippets.
-/
import Derived.Test.YtjiplangdkpehaaKnI
import Derived.Test.YtjiplangdkpehaaPairs2
namespace Go.Proofs.Ytjiplangdkpehaa
open Go.RowKit

set_option maxHeartbeats 1600000 in
theorem lawExactKnownAfter (k : Int) (A : Option Addr) (n c : Nat) (zs : List Int) (w : World) (_hk : (Lit.int .i64 k).wf = true) (hnm : n ≤ 9223372036854775807) (ha : SI w A (n * 2) zs) :
    Calls Try.prog 7 #[.int .i64 k, .slice A n c] w fun e w' => e = .returned (.bool true) ∧ Below w.heap.size w w' := by
  have CZ := Lib.hid (szPairS_any A n c 1048576 w (by omega) (by omega) hnm)
  by_cases hbig : (1048576 : Int) < n
  · rw [if_pos hbig] at CZ
    clear ha hbig
    go_enter Try.func7, Try.ntmps7
    go_wp2_with fail
    refine CZ.out.mono ?_
    rintro e w' ⟨rfl, rfl⟩
    go_wp2_with fail
    go_ret
    exact ⟨rfl, Below.refl _ _⟩
  · rw [if_neg hbig] at CZ
    have hn : n ≤ 2000000 := by omega
    have hpos : ¬ (1048576 : Int) - n < 0 := by omega
    have hm0 : (knA k zs n).length ≤ 2000000 := (by have := knA_length k zs n; omega)
    have C1 := Lib.hid (fun A c w h => specKnownAfter_any k A n c zs w hn h)
    have C2 := Lib.hid (fun A c w h => implKnownAfter_any k A n c zs w hn h)
    generalize knA k zs n = F at *
    obtain ⟨m, hmF⟩ : ∃ m, m = F.length := ⟨_, rfl⟩
    rw [← hmF] at C1 C2 hm0
    have hm : m ≤ 2000000 := hm0
    clear hm0
    have HM := Lib.hid hmF; clear hmF hbig
    go_enter Try.func7, Try.ntmps7
    go_wp2_with fail
    refine CZ.out.mono ?_
    rintro e w' ⟨rfl, rfl⟩
    go_wp2_with fail
    refine (toPairS_any A n c zs _ hn ha).mono ?_
    rintro e w1 ⟨A0, c0, rfl, hc0, h0', b0⟩
    have h0 := h0'.z
    clear h0'
    have s0 := b0.size
    have bb := b0
    go_wp2_with fail
    refine (C1.out A0 c0 _ h0.si).mono ?_
    rintro e w2 ⟨AW, cW, rfl, hW', bW⟩
    have hW := hW'.z
    replace h0 := h0.later bW
    clear hW'
    have sW := bW.size
    replace bb := bstep bb bW
    clear h0
    go_wp2_with fail
    refine (toPairS_any A n c zs _ hn (ha.below bb (Nat.le_refl _))).mono ?_
    rintro e w3 ⟨AX, cX, rfl, hcX, hX', bX⟩
    have hX := hX'.z
    replace hW := hW.later bX
    clear hX'
    have sX := bX.size
    replace bb := bstep bb bX
    go_wp2_with fail
    refine (C2.out AX cX _ hX.si).mono ?_
    rintro e w4 ⟨AG, cG, rfl, hG', bG⟩
    have hG := hG'.z
    replace hW := hW.later bG
    replace hX := hX.later bG
    clear hG'
    have sG := bG.size
    replace bb := bstep bb bG
    go_wp2_with fail
    refine (eqIntS_true AG AW m cG cW F _ (by omega) hG.si hW.si).mono ?_
    rintro e w5 ⟨rfl, q5, rfl⟩
    replace hW := hW.drewN q5
    replace hX := hX.drewN q5
    replace hG := hG.drewN q5
    replace bb := bDrewN bb q5
    go_wp2_with fail
    refine (toPairS_any A n c zs _ hn (ha.below bb (Nat.le_refl _))).mono ?_
    rintro e w6 ⟨A6, c6, rfl, hc6, h6', b6⟩
    have h6 := h6'.z
    replace hW := hW.later b6
    replace hX := hX.later b6
    replace hG := hG.later b6
    clear h6'
    have s6 := b6.size
    replace bb := bstep bb b6
    go_wp2_with fail
    refine (eqPairS_true AX A6 n cX c6 zs _ (by omega) hX.si h6.si).mono ?_
    rintro e w7 ⟨rfl, b7⟩
    replace hW := hW.later b7
    replace hX := hX.later b7
    replace hG := hG.later b7
    replace h6 := h6.later b7
    replace bb := bstep bb b7
    clear h6
    go_wp2_with fail
    refine (markPZ AX n cX _ _ zs 1 _ (by omega) (by omega) (by omega) hX).mono ?_
    rintro e w8 ⟨rfl, hX', g8⟩
    replace hW := hW.grown g8 hX (.inl (Nat.le_refl _))
    replace hG := hG.grown g8 hX (.inr (Nat.le_refl _))
    replace bb := bb.trans (hX.wrote g8 (by omega) bb.size)
    clear hX hX' g8
    obtain ⟨n2, hn2⟩ : ∃ n2, n2 = n * 2 := ⟨_, rfl⟩
    rw [← hn2]
    have hn3 : n2 ≤ 4000000 := by omega
    clear hn2
    go_wp2_with fail
    refine (eqIntS_true AG AW m cG cW F _ (by omega) hG.si hW.si).mono ?_
    rintro e w9 ⟨rfl, q9, rfl⟩
    replace hW := hW.drewN q9
    replace hG := hG.drewN q9
    replace bb := bDrewN bb q9
    go_wp2_with fail
    refine (markZ AG m cG _ _ F 1 _ (by omega) (by omega) (by omega) hG).mono ?_
    rintro e w10 ⟨rfl, hG', g10⟩
    replace hW := hW.grown g10 hG (.inl (by omega))
    replace bb := bb.trans (hG.wrote g10 (by omega) bb.size)
    clear hG
    have hG := hG'; clear hG'
    go_wp2_with fail
    refine (heldIntS_any AG m cG 1 _ (by omega) (by omega) (by omega) hG.si).mono ?_
    rintro e w11 ⟨rfl, q11, rfl⟩
    replace hW := hW.drewN q11
    replace hG := hG.drewN q11
    replace bb := bDrewN bb q11
    go_wp2_with fail
    refine (toPairS_any A n c zs _ hn (ha.below bb (Nat.le_refl _))).mono ?_
    rintro e w12 ⟨A7, c7, rfl, hc7, h7', b7⟩
    have h7 := h7'.z
    replace hW := hW.later b7
    replace hG := hG.later b7
    clear h7'
    have s7 := b7.size
    replace bb := bstep bb b7
    go_wp2_with fail
    refine (C2.out A7 c7 _ h7.si).mono ?_
    rintro e w13 ⟨AH, cH, rfl, hH', bH⟩
    have hH := hH'.z
    replace hW := hW.later bH
    replace hG := hG.later bH
    replace h7 := h7.later bH
    clear hH'
    have sH := bH.size
    replace bb := bstep bb bH
    go_wp2_with fail
    refine (eqIntS_true AH AW m cH cW F _ (by omega) hH.si hW.si).mono ?_
    rintro e w14 ⟨rfl, q14, rfl⟩
    replace hW := hW.drewN q14
    replace hG := hG.drewN q14
    replace h7 := h7.drewN q14
    replace hH := hH.drewN q14
    replace bb := bDrewN bb q14
    go_wp2_with fail
    refine (heldIntS_any AG m cG 1 _ (by omega) (by omega) (by omega) hG.si).mono ?_
    rintro e w15 ⟨rfl, q15, rfl⟩
    replace hW := hW.drewN q15
    replace hG := hG.drewN q15
    replace h7 := h7.drewN q15
    replace hH := hH.drewN q15
    replace bb := bDrewN bb q15
    go_wp2_with fail
    go_ret
    exact ⟨rfl, by simpa using bb⟩

end Go.Proofs.Ytjiplangdkpehaa
