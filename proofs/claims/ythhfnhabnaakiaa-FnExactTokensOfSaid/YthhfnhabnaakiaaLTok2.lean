/-
  LTok2. By a program (wip/tools/mk.py) out of snippets.
-/
import Derived.Test.YthhfnhabnaakiaaTok2
namespace Go.Proofs.Ythhfnhabnaakiaa
open Go.RowKit

theorem toksOf_le (k : Int) (zs : List Int) : (toksOf k zs).length ≤ zs.length := by
  unfold toksOf
  split
  · exact toksTo_length zs _
  · simp
set_option maxHeartbeats 1600000 in
theorem lawExactTokensOf (k : Int) (A : Option Addr) (n c : Nat) (zs : List Int) (w : World) (hk : (Lit.int .i64 k).wf = true) (ha : SI w A n zs) (hwf : ∀ z ∈ zs, (Lit.int .i64 z).wf = true) :
    Calls Try.prog 6 #[.int .i64 k, .slice A n c] w fun e w' => e = .returned (.bool true) ∧ Below w.heap.size w w' := by
  by_cases hbig : 1048576 < n
  · clear ha
    go_enter Try.func6, Try.ntmps6
    go_wp2_with fail
    go_ret
    exact ⟨rfl, Below.refl _ _⟩
  · have hn : n ≤ 2000000 := by omega
    have hF := toksOf_le k zs
    have C1 := Lib.hid (fun A c w h => specTokensOf_any k A n c zs w hn h)
    have C2 := Lib.hid (fun A c w h => implTokensOf_any k A n c zs w hn h)
    have hlen : zs.length ≤ n := by rw [ha.len]; exact Nat.le_refl _
    generalize toksOf k zs = F at *
    have hm : F.length ≤ 2000000 := by omega
    clear hlen hF
    obtain ⟨m, hmF⟩ : ∃ m, m = F.length := ⟨_, rfl⟩
    rw [← hmF] at C1 C2 hm
    have HM := Lib.hid hmF; clear hmF
    go_enter Try.func6, Try.ntmps6
    go_wp2_with fail
    refine (toIntS_any A n c zs _ hn ha).mono ?_
    rintro e w1 ⟨A1, c1, rfl, h1, B1⟩
    go_wp2_with fail
    refine (C1.out A1 c1 _ h1.si).mono ?_
    rintro e w2 ⟨AW, cW, rfl, hW', b2⟩
    have hW := hW'.z
    replace b2 := bstep B1 b2
    clear h1 hW'
    go_wp2_with fail
    refine (toIntS_any A n c zs _ hn (ha.below b2 (Nat.le_refl _))).mono ?_
    rintro e w3 ⟨AX, cX, rfl, hX', b3⟩
    have s3 := b3.size
    have hX := hX'.z
    replace hW := hW.later b3
    replace b3 := bstep b2 b3
    clear hX'
    go_wp2_with fail
    refine (C2.out AX cX _ hX.si).mono ?_
    rintro e w4 ⟨AG, cG, rfl, hG', b4⟩
    have hG := hG'.z
    replace hW := hW.later b4
    replace hX := hX.later b4
    replace b4 := bstep b3 b4
    clear hG'
    go_wp2_with fail
    refine (eqIntS_true AG AW m cG cW F _ (by omega) hG.si hW.si).mono ?_
    rintro e w5 ⟨rfl, q5, rfl⟩
    replace hW := hW.drewN q5
    replace hX := hX.drewN q5
    replace hG := hG.drewN q5
    replace b4 := bDrewN b4 q5
    go_wp2_with fail
    refine (toIntS_any A n c zs _ hn (ha.below b4 (Nat.le_refl _))).mono ?_
    rintro e w6 ⟨A6, c6, rfl, h6', b6⟩
    have h6 := h6'.z
    replace hW := hW.later b6
    replace hX := hX.later b6
    replace hG := hG.later b6
    replace b6 := bstep b4 b6
    clear h6'
    go_wp2_with fail
    refine (eqIntS_true AX A6 n cX c6 zs _ (by omega) hX.si h6.si).mono ?_
    rintro e w7 ⟨rfl, q7, rfl⟩
    replace hW := hW.drewN q7
    replace hX := hX.drewN q7
    replace hG := hG.drewN q7
    replace b6 := bDrewN b6 q7
    clear h6
    go_wp2_with fail
    refine (markZ AX n cX _ _ zs 1 _ (by omega) (by omega) (by omega) hX).mono ?_
    rintro e w8 ⟨rfl, hX8, g8⟩
    replace hW := hW.grown g8 hX (.inl (Nat.le_refl _))
    replace hG := hG.grown g8 hX (.inr (Nat.le_refl _))
    replace b6 := b6.trans (hX.wrote g8 b2.size b6.size)
    clear hX hX8 g8
    go_wp2_with fail
    refine (eqIntS_true AG AW m cG cW F _ (by omega) hG.si hW.si).mono ?_
    rintro e w9 ⟨rfl, q9, rfl⟩
    replace hW := hW.drewN q9
    replace hG := hG.drewN q9
    replace b6 := bDrewN b6 q9
    go_wp2_with fail
    refine (markZ AG m cG _ _ F 1 _ (by omega) (by omega) (by omega) hG).mono ?_
    rintro e w10 ⟨rfl, hG10, g10⟩
    replace hW := hW.grown g10 hG (.inl s3)
    replace b6 := b6.trans (hG.wrote g10 b3.size b6.size)
    clear hG
    go_wp2_with fail
    refine (heldIntS_any AG m cG 1 _ (by omega) (by omega) (by omega) hG10.si).mono ?_
    rintro e w11 ⟨rfl, q11, rfl⟩
    replace hW := hW.drewN q11
    replace hG10 := hG10.drewN q11
    replace b6 := bDrewN b6 q11
    go_wp2_with fail
    refine (toIntS_any A n c zs _ hn (ha.below b6 (Nat.le_refl _))).mono ?_
    rintro e w12 ⟨A12, c12, rfl, h12, b12⟩
    replace hW := hW.later b12
    replace hG10 := hG10.later b12
    replace b12 := bstep b6 b12
    go_wp2_with fail
    refine (C2.out A12 c12 _ h12.si).mono ?_
    rintro e w13 ⟨AH, cH, rfl, hH', b13⟩
    have hH := hH'.z
    replace hW := hW.later b13
    replace hG10 := hG10.later b13
    replace b13 := bstep b12 b13
    clear hH' h12
    go_wp2_with fail
    refine (eqIntS_true AH AW m cH cW F _ (by omega) hH.si hW.si).mono ?_
    rintro e w14 ⟨rfl, q14, rfl⟩
    replace hG10 := hG10.drewN q14
    replace b13 := bDrewN b13 q14
    clear hH hW
    go_wp2_with fail
    refine (heldIntS_any AG m cG 1 _ (by omega) (by omega) (by omega) hG10.si).mono ?_
    rintro e w15 ⟨rfl, q15, rfl⟩
    replace b13 := bDrewN b13 q15
    go_wp2_with fail
    go_ret
    exact ⟨rfl, by simpa using b13⟩

end Go.Proofs.Ythhfnhabnaakiaa
