/-
  LLegal. By a program (wip/tools/mk.py) out of snippets.
-/
import Derived.Test.YthhfnhabnaakiaaLegI2
import Derived.Test.YthhfnhabnaakiaaBase
import Derived.Test.YthhfnhabnaakiaaRF
namespace Go.Proofs.Ythhfnhabnaakiaa
open Go.RowKit

theorem legFit (k n : Int) : (legR k n).length ≤ 1024 ∧ (∀ i, i < (legR k n).length → (rat (legR k n) i).length ≤ 5) ∧ offR (legR k n) (legR k n).length ≤ 5120 := by
  have h1 : (legR k n).length ≤ 1024 ∧ ∀ i, i < (legR k n).length → (rat (legR k n) i).length ≤ 5 := by
    cases hok : lgOk k n with
    | false =>
      have hR : legR k n = [] := by unfold legR; rw [hok]; rfl
      rw [hR]
      exact ⟨by simp, fun i hi => absurd hi (by simp)⟩
    | true =>
      obtain ⟨K, N, rfl, rfl, ⟨hK, hK5⟩, ⟨hN, hN5⟩, h1024⟩ := lgOk_iff.1 hok
      have hR : legR K N = legTo K N (K ^ N) := by unfold legR; rw [hok]; rfl
      rw [hR]
      refine ⟨Nat.le_trans (legTo_le K N _) h1024, fun i hi => ?_⟩
      rw [legTo_rat hi]
      exact hN5
  refine ⟨h1.1, h1.2, ?_⟩
  have : ∀ j, j ≤ (legR k n).length → offR (legR k n) j ≤ 5 * j := by
    intro j
    induction j with
    | zero => intro _; simp [offR]
    | succ j ih =>
      intro hj
      have h2 := ih (by omega)
      have h3 : offR (legR k n) (j + 1) = offR (legR k n) j + (rat (legR k n) j).length := rfl
      have h4 := h1.2 j (by omega)
      omega
  have := this _ (Nat.le_refl _)
  omega

set_option maxRecDepth 20000 in
set_option maxHeartbeats 3200000 in
theorem lawExactLegalStates (k n : Int) (w : World) (_hk : (Lit.int .i64 k).wf = true) (_hn : (Lit.int .i64 n).wf = true) :
    Calls Try.prog 12 #[.int .i64 k, .int .i64 n] w fun e w' => e = .returned (.bool true) ∧ Below w.heap.size w w' := by
  have CS := Lib.hid (fun w => specLegal_any k n w)
  have CI := Lib.hid (fun w => implLegal_any k n w)
  obtain ⟨hm, hr, ho⟩ := legFit k n
  generalize legR k n = rows at *
  obtain ⟨m, hmm⟩ : ∃ m, m = rows.length := ⟨_, rfl⟩
  rw [← hmm] at CS CI hm hr ho
  have HL := Lib.hid hmm.symm
  have HR := Lib.hid (fun i (h : i < m) => show (rat rows i).length ≤ 2000000 by have := hr i h; omega)
  obtain ⟨o, hoo⟩ : ∃ o, o = offR rows m := ⟨_, rfl⟩
  have HMk := Lib.hid (fun A c lo hi w h => markIntSS_any A m c lo hi rows 1 w (by omega) HR.out (by omega) (by omega) (by omega) h)
  have HHd := Lib.hid (fun A c w h => heldIntSS_any A m c rows 1 w (by omega) HL.out HR.out (by omega) (by omega) (by omega) h)
  have HE := Lib.hid (fun A B c d w h1 h2 => eqIntSS_true A B m c d rows w (by omega) HR.out h1 h2)
  rw [← hoo] at HMk HHd ho
  clear hr hoo hmm
  go_enter Try.func12, Try.ntmps12
  go_wp2_with fail
  refine (CS.out _).mono ?_
  rintro e w1 ⟨A1, c1, rfl, F1, b1⟩
  have S1 := Lib.hid F1
  have B1 := Lib.hid b1
  have z1 := b1.size
  clear F1 b1
  go_wp2_with fail
  refine (CI.out _).mono ?_
  rintro e w2 ⟨A2, c2, rfl, F2, b2⟩
  have S2 := Lib.hid (S1.out.later b2)
  have G2 := Lib.hid F2
  have B2 := Lib.hid (bstep B1.out b2)
  have z2 := b2.size
  clear F2 b2 S1 B1
  go_wp2_with fail
  refine (HE.out A2 A1 c2 c1 _ G2.out.ss S2.out.ss).mono ?_
  rintro e w3 ⟨rfl, q3, h3⟩
  have b3 : Below w2.heap.size w2 w3 := by rw [h3]; exact bDrewN (Below.refl _ _) q3
  have S3 := Lib.hid (S2.out.later b3)
  have G3 := Lib.hid (G2.out.later b3)
  have B3 := Lib.hid (bstep B2.out b3)
  have z3 := b3.size
  clear b3 h3 S2 G2 B2
  go_wp2_with fail
  refine (HMk.out A2 c2 _ _ _ G3.out).mono ?_
  rintro e w4 ⟨rfl, F4, n4⟩
  have S4 := Lib.hid (S3.out.wn n4 (.inl (Nat.le_refl _)))
  have G4 := Lib.hid F4
  have B4 := Lib.hid (B3.out.trans ((n4.below (by omega)).mono (by omega)))
  clear F4 n4 S3 G3 B3
  go_wp2_with fail
  refine (HHd.out A2 c2 _ G4.out.ss).mono ?_
  rintro e w5 ⟨rfl, q5, h5⟩
  have b5 : Below w4.heap.size w4 w5 := by rw [h5]; exact bDrewN (Below.refl _ _) q5
  have S5 := Lib.hid (S4.out.later b5)
  have G5 := Lib.hid (G4.out.later b5)
  have B5 := Lib.hid (bstep B4.out b5)
  clear b5 h5 S4 G4 B4
  go_wp2_with fail
  refine (CI.out _).mono ?_
  rintro e w6 ⟨A3, c3, rfl, F6, b6⟩
  have S6 := Lib.hid (S5.out.later b6)
  have G6 := Lib.hid (G5.out.later b6)
  have H6 := Lib.hid F6
  have B6 := Lib.hid (bstep B5.out b6)
  clear F6 b6 S5 G5 B5
  go_wp2_with fail
  refine (HE.out A3 A1 c3 c1 _ H6.out.ss S6.out.ss).mono ?_
  rintro e w7 ⟨rfl, q7, h7⟩
  have b7 : Below w6.heap.size w6 w7 := by rw [h7]; exact bDrewN (Below.refl _ _) q7
  have G7 := Lib.hid (G6.out.later b7)
  have B7 := Lib.hid (bstep B6.out b7)
  clear b7 h7 S6 G6 H6 B6
  go_wp2_with fail
  refine (HHd.out A2 c2 _ G7.out.ss).mono ?_
  rintro e w8 ⟨rfl, q8, h8⟩
  have B8 := Lib.hid (show Below w.heap.size w w8 by rw [h8]; exact bDrewN B7.out q8)
  clear h8
  go_wp2_with fail
  go_ret
  exact ⟨rfl, B8.out⟩

end Go.Proofs.Ythhfnhabnaakiaa
