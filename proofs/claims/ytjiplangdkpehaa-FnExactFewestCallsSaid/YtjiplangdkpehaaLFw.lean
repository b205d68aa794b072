/-
  LFw. By a program (wip/tools/mk.py) out of snippets.
-/
import Derived.Test.YtjiplangdkpehaaFcDef
import Derived.Test.YtjiplangdkpehaaPairs2
namespace Go.Proofs.Ytjiplangdkpehaa
open Go.RowKit

set_option maxRecDepth 20000 in
set_option maxHeartbeats 3200000 in
theorem lawExactFewestCalls (n : Int) (w : World) (_hn : (Lit.int .i64 n).wf = true) :
    Calls Try.prog 11 #[.int .i64 n] w fun e w' => e = .returned (.bool true) ∧ Below w.heap.size w w' := by
  have CS := Lib.hid (fun w => specFewestCalls_any n w)
  have CI := Lib.hid (fun w => implFewestCalls_any n w)
  have hm := fcN_le n
  generalize fcN n = m at *
  generalize fcL n = zs at *
  go_enter Try.func11, Try.ntmps11
  go_wp2_with fail
  refine (CS.out _).mono ?_
  rintro e w1 ⟨AW, cW, rfl, hW, bW⟩
  have bb := bW
  have sW := bW.size
  clear bW
  go_wp2_with fail
  refine (CI.out _).mono ?_
  rintro e w2 ⟨AG, cG, rfl, _, hG', bG⟩
  have hG := hG'.z
  have cc := bG
  replace bb := bstep bb bG
  clear hG' bG
  go_wp2_with fail
  refine (eqPairS_true AG AW m cG cW zs _ (by omega) hG.si (hW.below cc (Nat.le_refl _))).mono ?_
  rintro e w3 ⟨rfl, b3⟩
  replace cc := bstep cc b3
  replace hG := hG.later b3
  replace bb := bstep bb b3
  clear b3
  go_wp2_with fail
  refine (markPZ AG m cG _ _ zs 1 _ (by omega) (by omega) (by omega) hG).mono ?_
  rintro e w4 ⟨rfl, hG', g4⟩
  replace cc := cc.trans (hG.wrote g4 (Nat.le_refl _) cc.size)
  replace bb := bb.trans (hG.wrote g4 (by omega) bb.size)
  clear hG g4
  have hG := hG'
  clear hG'
  have HHd := Lib.hid (fun w h => heldPairS_any AG m cG 1 w (by omega) (by omega) (by omega) h)
  obtain ⟨n2, hn2⟩ : ∃ n2, n2 = m * 2 := ⟨_, rfl⟩
  have HN2 := Lib.hid hn2
  rw [← hn2] at HHd hG
  rw [← hn2]
  have hn3 : n2 ≤ 100 := by omega
  clear hn2
  go_wp2_with fail
  refine (HHd.out _ hG.si).mono ?_
  rintro e w5 ⟨rfl, q5, rfl⟩
  replace cc := bDrewN cc q5
  replace hG := hG.drewN q5
  replace bb := bDrewN bb q5
  go_wp2_with fail
  refine (CI.out _).mono ?_
  rintro e w6 ⟨AH, cH, rfl, _, hH', bH⟩
  have hH := hH'.si
  replace cc := bstep cc bH
  replace hG := hG.later bH
  replace bb := bstep bb bH
  clear hH' bH
  go_wp2_with fail
  refine (eqPairS_true AH AW m cH cW zs _ (by omega) hH (by have := hW.below cc (Nat.le_refl _); exact this)).mono ?_
  rintro e w7 ⟨rfl, b7⟩
  replace hG := hG.later b7
  replace bb := bstep bb b7
  clear b7 hW hH
  go_wp2_with fail
  refine (HHd.out _ hG.si).mono ?_
  rintro e w8 ⟨rfl, q8, rfl⟩
  replace bb := bDrewN bb q8
  go_wp2_with fail
  go_ret
  exact ⟨rfl, by simpa using bb⟩

end Go.Proofs.Ytjiplangdkpehaa
