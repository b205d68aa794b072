/-
  LTour. By a program (wip/tools/mk.py) out of snippets.
-/
import Derived.Test.YthhfnhabnaakiaaTour
import Derived.Test.YthhfnhabnaakiaaTour2
import Derived.Test.YthhfnhabnaakiaaBase
namespace Go.Proofs.Ythhfnhabnaakiaa
open Go.RowKit

theorem Z.grown2 {w w' : World} {lo hi A n zs A' n'} (h : Z w lo hi A n zs) (hg : w.grownBy w' (wBlock A' n')) (hd : ∀ b o, A = some ⟨b, o, none⟩ → wBlock A' n' ≠ some b) : Z w' lo hi A n zs :=
  ⟨h.1, by have := h.2.1; have := hg.size; omega, fun hn => by
    obtain ⟨b, off, e, h1, h2, hc, hf⟩ := h.2.2 hn
    have hb := hg.block b (by have := h.2.1; omega) (fun e' => hd b off e e'.symm)
    exact ⟨b, off, e, h1, h2, fun i hi => (World.cell?_of_block (w := w) hb).trans (hc i hi),
      fun i hi => (World.frozen?_of_block (w := w) hb).trans (hf i hi)⟩⟩
theorem Apart.row {A A' : Option Addr} (h : Apart A A') {w : World} {lo hi n' : Nat} {zs} (h' : Z w lo hi A' n' zs) : ∀ b o, A = some ⟨b, o, none⟩ → wBlock A' n' ≠ some b := fun b o e e' => by
  by_cases h0 : n' = 0
  · subst h0; cases e'
  · obtain ⟨b', o', rfl, _⟩ := h'.2.2 (by omega)
    rw [wBlock_some b' o' (by omega)] at e'
    cases e'
    exact h _ _ _ _ e rfl rfl
theorem Apart.symm {A A' : Option Addr} (h : Apart A A') : Apart A' A := fun _ _ _ _ e1 e2 e3 => h _ _ _ _ e2 e1 e3.symm

set_option maxHeartbeats 3200000 in
theorem lawExactTourOf (k : Int) (A : Option Addr) (n c : Nat) (zs : List Int) (i : Int) (w : World) (_hk : (Lit.int .i64 k).wf = true) (ha : SI w A n zs) (_hwf : ∀ z ∈ zs, (Lit.int .i64 z).wf = true) (_hi : (Lit.int .i64 i).wf = true) :
    Calls Try.prog 10 #[.int .i64 k, .slice A n c, .int .i64 i] w fun e w' => e = .returned (.bool true) ∧ Below w.heap.size w w' := by
  by_cases hbig : 1048576 < n
  · clear ha
    go_enter Try.func10, Try.ntmps10
    go_wp2_with fail
    go_ret
    exact ⟨rfl, Below.refl _ _⟩
  · have hn : n ≤ 2000000 := by omega
    have hm0 := tourL_le k zs i
    have hm1 := tourE_le k zs i
    have C1 := Lib.hid (fun A c w h => specTourOf_any k A n c i zs w hn h)
    have C2 := Lib.hid (fun A c w h => implTourOf_any k A n c i zs w hn h)
    generalize tourL k zs i = F0 at *
    generalize tourE k zs i = F1 at *
    obtain ⟨m0, hF0⟩ : ∃ m, m = F0.length := ⟨_, rfl⟩
    obtain ⟨m1, hF1⟩ : ∃ m, m = F1.length := ⟨_, rfl⟩
    rw [← hF0, ← hF1] at C1 C2
    rw [← hF0] at hm0
    rw [← hF1] at hm1
    have HM0 := Lib.hid hF0; clear hF0
    have HM1 := Lib.hid hF1; clear hF1
    go_enter Try.func10, Try.ntmps10
    go_wp2_with fail
    refine (toIntS_any A n c zs _ hn ha).mono ?_
    rintro e w1 ⟨A0, c0, rfl, h', b'⟩
    have h0 := h'.z
    have s0 := b'.size
    have bb := b'
    clear h' b'
    go_wp2_with fail
    refine (C1.out A0 c0 _ h0.si).mono ?_
    rintro e w2 ⟨AW0, cW0, AW1, cW1, rfl, h', h'', apW, b'⟩
    have hW0 := h'.z
    have hW1 := h''.z
    replace h0 := h0.later b'
    have sW := b'.size
    replace bb := bstep bb b'
    clear h' h'' b'
    clear h0
    go_wp2_with fail
    refine (toIntS_any A n c zs _ hn (ha.below bb (Nat.le_refl _))).mono ?_
    rintro e w3 ⟨AX, cX, rfl, h', b'⟩
    have hX := h'.z
    replace hW0 := hW0.later b'
    replace hW1 := hW1.later b'
    have sX := b'.size
    replace bb := bstep bb b'
    clear h' b'
    go_wp2_with fail
    refine (C2.out AX cX _ hX.si).mono ?_
    rintro e w4 ⟨AG0, cG0, AG1, cG1, rfl, h', h'', apG, b'⟩
    have hG0 := h'.z
    have hG1 := h''.z
    replace hW0 := hW0.later b'
    replace hW1 := hW1.later b'
    replace hX := hX.later b'
    have sG := b'.size
    replace bb := bstep bb b'
    clear h' h'' b'
    go_wp2_with fail
    refine (eqIntS_true AG0 AW0 m0 cG0 cW0 F0 _ (by omega) hG0.si hW0.si).mono ?_
    rintro e w5 ⟨rfl, q5, rfl⟩
    replace hW0 := hW0.drewN q5
    replace hW1 := hW1.drewN q5
    replace hX := hX.drewN q5
    replace hG0 := hG0.drewN q5
    replace hG1 := hG1.drewN q5
    replace bb := bDrewN bb q5
    generalize w4.drewN q5 = w5 at *
    go_wp2_with fail
    refine (eqIntS_true AG1 AW1 m1 cG1 cW1 F1 _ (by omega) hG1.si hW1.si).mono ?_
    rintro e w6 ⟨rfl, q6, rfl⟩
    replace hW0 := hW0.drewN q6
    replace hW1 := hW1.drewN q6
    replace hX := hX.drewN q6
    replace hG0 := hG0.drewN q6
    replace hG1 := hG1.drewN q6
    replace bb := bDrewN bb q6
    generalize w5.drewN q6 = w6 at *
    go_wp2_with fail
    refine (toIntS_any A n c zs _ hn (ha.below bb (Nat.le_refl _))).mono ?_
    rintro e w7 ⟨A6, c6, rfl, h', b'⟩
    have h6 := h'.z
    replace hW0 := hW0.later b'
    replace hW1 := hW1.later b'
    replace hX := hX.later b'
    replace hG0 := hG0.later b'
    replace hG1 := hG1.later b'
    have s6 := b'.size
    replace bb := bstep bb b'
    clear h' b'
    go_wp2_with fail
    refine (eqIntS_true AX A6 n cX c6 zs _ (by omega) hX.si h6.si).mono ?_
    rintro e w8 ⟨rfl, q8, rfl⟩
    replace hW0 := hW0.drewN q8
    replace hW1 := hW1.drewN q8
    replace hX := hX.drewN q8
    replace hG0 := hG0.drewN q8
    replace hG1 := hG1.drewN q8
    replace h6 := h6.drewN q8
    replace bb := bDrewN bb q8
    generalize w7.drewN q8 = w8 at *
    clear h6
    go_wp2_with fail
    refine (markZ AX n cX _ _ zs 1 _ (by omega) (by omega) (by omega) hX).mono ?_
    rintro e w9 ⟨rfl, _, g'⟩
    replace hW0 := hW0.grown g' hX (.inl (by omega))
    replace hW1 := hW1.grown g' hX (.inl (by omega))
    replace hG0 := hG0.grown g' hX (.inr (by omega))
    replace hG1 := hG1.grown g' hX (.inr (by omega))
    replace bb := bb.trans (hX.wrote g' (by omega) bb.size)
    clear hX g'
    go_wp2_with fail
    refine (eqIntS_true AG0 AW0 m0 cG0 cW0 F0 _ (by omega) hG0.si hW0.si).mono ?_
    rintro e w10 ⟨rfl, q10, rfl⟩
    replace hW0 := hW0.drewN q10
    replace hW1 := hW1.drewN q10
    replace hG0 := hG0.drewN q10
    replace hG1 := hG1.drewN q10
    replace bb := bDrewN bb q10
    generalize w9.drewN q10 = w10 at *
    go_wp2_with fail
    refine (eqIntS_true AG1 AW1 m1 cG1 cW1 F1 _ (by omega) hG1.si hW1.si).mono ?_
    rintro e w11 ⟨rfl, q11, rfl⟩
    replace hW0 := hW0.drewN q11
    replace hW1 := hW1.drewN q11
    replace hG0 := hG0.drewN q11
    replace hG1 := hG1.drewN q11
    replace bb := bDrewN bb q11
    generalize w10.drewN q11 = w11 at *
    go_wp2_with fail
    refine (markZ AG0 m0 cG0 _ _ F0 1 _ (by omega) (by omega) (by omega) hG0).mono ?_
    rintro e w12 ⟨rfl, hG', g'⟩
    replace hW0 := hW0.grown g' hG0 (.inl (by omega))
    replace hW1 := hW1.grown g' hG0 (.inl (by omega))
    replace hG1 := hG1.grown2 g' (apG.symm.row hG0)
    replace bb := bb.trans (hG0.wrote g' (by omega) bb.size)
    clear hG0
    have hG0 := hG'; clear hG' g'
    go_wp2_with fail
    refine (markZ AG1 m1 cG1 _ _ F1 (1 + m0) _ (by omega) (by omega) (by omega) hG1).mono ?_
    rintro e w13 ⟨rfl, hG', g'⟩
    replace hW0 := hW0.grown g' hG1 (.inl (by omega))
    replace hW1 := hW1.grown g' hG1 (.inl (by omega))
    replace hG0 := hG0.grown2 g' (apG.row hG1)
    replace bb := bb.trans (hG1.wrote g' (by omega) bb.size)
    clear hG1
    have hG1 := hG'; clear hG' g'
    go_wp2_with fail
    refine (heldIntS_any AG0 m0 cG0 1 _ (by omega) (by omega) (by omega) hG0.si).mono ?_
    rintro e w14 ⟨rfl, q14, rfl⟩
    replace hW0 := hW0.drewN q14
    replace hW1 := hW1.drewN q14
    replace hG0 := hG0.drewN q14
    replace hG1 := hG1.drewN q14
    replace bb := bDrewN bb q14
    generalize w13.drewN q14 = w14 at *
    go_wp2_with fail
    refine (heldIntS_any AG1 m1 cG1 (1 + m0) _ (by omega) (by omega) (by omega) hG1.si).mono ?_
    rintro e w15 ⟨rfl, q15, rfl⟩
    replace hW0 := hW0.drewN q15
    replace hW1 := hW1.drewN q15
    replace hG0 := hG0.drewN q15
    replace hG1 := hG1.drewN q15
    replace bb := bDrewN bb q15
    generalize w14.drewN q15 = w15 at *
    go_wp2_with fail
    refine (toIntS_any A n c zs _ hn (ha.below bb (Nat.le_refl _))).mono ?_
    rintro e w16 ⟨A7, c7, rfl, h', b'⟩
    have h7 := h'.z
    replace hW0 := hW0.later b'
    replace hW1 := hW1.later b'
    replace hG0 := hG0.later b'
    replace hG1 := hG1.later b'
    have s7 := b'.size
    replace bb := bstep bb b'
    clear h' b'
    go_wp2_with fail
    refine (C2.out A7 c7 _ h7.si).mono ?_
    rintro e w17 ⟨AH0, cH0, AH1, cH1, rfl, h', h'', apH, b'⟩
    have hH0 := h'.z
    have hH1 := h''.z
    replace hW0 := hW0.later b'
    replace hW1 := hW1.later b'
    replace hG0 := hG0.later b'
    replace hG1 := hG1.later b'
    replace h7 := h7.later b'
    have sH := b'.size
    replace bb := bstep bb b'
    clear h' h'' b'
    go_wp2_with fail
    refine (eqIntS_true AH0 AW0 m0 cH0 cW0 F0 _ (by omega) hH0.si hW0.si).mono ?_
    rintro e w18 ⟨rfl, q18, rfl⟩
    replace hW0 := hW0.drewN q18
    replace hW1 := hW1.drewN q18
    replace hG0 := hG0.drewN q18
    replace hG1 := hG1.drewN q18
    replace h7 := h7.drewN q18
    replace hH0 := hH0.drewN q18
    replace hH1 := hH1.drewN q18
    replace bb := bDrewN bb q18
    generalize w17.drewN q18 = w18 at *
    go_wp2_with fail
    refine (eqIntS_true AH1 AW1 m1 cH1 cW1 F1 _ (by omega) hH1.si hW1.si).mono ?_
    rintro e w19 ⟨rfl, q19, rfl⟩
    replace hW0 := hW0.drewN q19
    replace hW1 := hW1.drewN q19
    replace hG0 := hG0.drewN q19
    replace hG1 := hG1.drewN q19
    replace h7 := h7.drewN q19
    replace hH0 := hH0.drewN q19
    replace hH1 := hH1.drewN q19
    replace bb := bDrewN bb q19
    generalize w18.drewN q19 = w19 at *
    go_wp2_with fail
    refine (heldIntS_any AG0 m0 cG0 1 _ (by omega) (by omega) (by omega) hG0.si).mono ?_
    rintro e w20 ⟨rfl, q20, rfl⟩
    replace hW0 := hW0.drewN q20
    replace hW1 := hW1.drewN q20
    replace hG0 := hG0.drewN q20
    replace hG1 := hG1.drewN q20
    replace h7 := h7.drewN q20
    replace hH0 := hH0.drewN q20
    replace hH1 := hH1.drewN q20
    replace bb := bDrewN bb q20
    generalize w19.drewN q20 = w20 at *
    go_wp2_with fail
    refine (heldIntS_any AG1 m1 cG1 (1 + m0) _ (by omega) (by omega) (by omega) hG1.si).mono ?_
    rintro e w21 ⟨rfl, q21, rfl⟩
    replace hW0 := hW0.drewN q21
    replace hW1 := hW1.drewN q21
    replace hG0 := hG0.drewN q21
    replace hG1 := hG1.drewN q21
    replace h7 := h7.drewN q21
    replace hH0 := hH0.drewN q21
    replace hH1 := hH1.drewN q21
    replace bb := bDrewN bb q21
    generalize w20.drewN q21 = w21 at *
    go_wp2_with fail
    go_ret
    exact ⟨rfl, bb⟩

end Go.Proofs.Ythhfnhabnaakiaa
