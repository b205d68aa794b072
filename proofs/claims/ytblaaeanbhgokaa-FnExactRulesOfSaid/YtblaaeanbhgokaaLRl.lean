/-
  LRl. By a program (wip/tools/mk.py) out of snippets.
-/
import Derived.Test.YtblaaeanbhgokaaRlM
namespace Go.Proofs.Ytblaaeanbhgokaa
open Go.RowKit

theorem rlT_le (s : ByteArray) : rlT s ≤ 4 := by
  rcases rlT_cases s with ⟨_, h⟩ | ⟨_, _, h⟩ | ⟨_, _, _, h⟩ | ⟨_, _, _, _, h⟩ | ⟨_, _, _, _, h⟩ <;> omega
theorem ruFit (t : Nat) (ht : t ≤ 4) : ruN t ≤ 4 ∧ (ruS t).length = ruN t ∧ (ruF t).length = ruN t ∧ (ruG t).length = ruN t ∧ (∀ i, i < ruN t → (rat (ruF t) i).length ≤ 4 ∧ (rat (ruG t) i).length ≤ 4) ∧ offR (ruF t) (ruN t) ≤ 16 ∧ offR (ruG t) (ruN t) ≤ 16 := by
  by_cases h4 : t < 4
  · obtain ⟨⟨_, h1⟩, h2, h3, h5, h6⟩ := ruFacts t h4
    refine ⟨h1, h2, h3, h5, fun i hi => ?_, ?_, ?_⟩
    · have := h6 i hi
      omega
    all_goals
      rcases four h4 with rfl | rfl | rfl | rfl <;> decide
  · obtain rfl : t = 4 := by omega
    exact ⟨by simp [ruN], rfl, rfl, rfl, fun i hi => absurd hi (by simp [ruN]), by decide, by decide⟩

set_option maxRecDepth 20000 in
set_option maxHeartbeats 6400000 in
theorem lawExactRulesOf (s : ByteArray) (w : World) (_hs : s.size ≤ maxLen) :
    Calls Try.prog 13 #[.string s] w fun e w' => e = .returned (.bool true) ∧ Below w.heap.size w w' := by
  by_cases hbig : 1048576 < s.size
  · go_enter Try.func13, Try.ntmps13
    go_wp2_with fail
    go_ret
    exact ⟨rfl, Below.refl _ _⟩
  · have CS := Lib.hid (fun w => specRulesOf_any s w)
    have CI := Lib.hid (fun w => implRulesOf_any s w)
    unfold RlPost at CS
    unfold RuIPost at CI
    obtain ⟨hn, hls, hlf, hlg, hrow, ho1, ho2⟩ := ruFit (rlT s) (rlT_le s)
    generalize decide (rlT s < 4) = ok at *
    generalize ruN (rlT s) = n at *
    generalize ruS (rlT s) = zs at *
    generalize ruF (rlT s) = F at *
    generalize ruG (rlT s) = G at *
    obtain ⟨o1, hoo1⟩ : ∃ o, o = offR F n := ⟨_, rfl⟩
    obtain ⟨o2, hoo2⟩ : ∃ o, o = offR G n := ⟨_, rfl⟩
    rw [← hoo1] at ho1
    rw [← hoo2] at ho2
    have HE := Lib.hid (fun A1 c1 A2 c2 A3 c3 B1 e1 B2 e2 B3 e3 w h1 h2 h3 h4 h5 h6 => eqRules_true A1 n c1 A2 n c2 A3 n c3 B1 e1 B2 e2 B3 e3 zs F G w (by omega) (by omega) (by omega) (fun i hi => by have := (hrow i hi).1; omega) (fun i hi => by have := (hrow i hi).2; omega) h1 h2 h3 h4 h5 h6)
    have HMk := Lib.hid (fun A1 c1 A2 c2 A3 c3 lo hi w h => markRules_any A1 n c1 lo hi A2 c2 A3 c3 zs F G w hn (fun i hi => (hrow i hi).1) (fun i hi => (hrow i hi).2) o1 o2 hoo1 hoo2 ho1 ho2 h)
    have HHd := Lib.hid (fun A1 c1 A2 c2 A3 c3 w h1 h2 h3 => heldRules_any A1 n c1 A2 c2 A3 c3 F G w hn hlf hlg (fun i hi => (hrow i hi).1) (fun i hi => (hrow i hi).2) o1 o2 hoo1 hoo2 ho1 ho2 h1 h2 h3)
    have hne : (ok != ok) = false := by cases ok <;> rfl
    clear hrow hoo1 hoo2 hls hlf hlg
    go_enter Try.func13, Try.ntmps13
    go_wp2_with fail
    refine (CS.out _).mono ?_
    rintro e w2 ⟨AP, cP, AQ, cQ, AR, cR, rfl, sP, _, sQ, sR, b2⟩
    have B2 := Lib.hid b2
    have SP := Lib.hid sP
    have SQ := Lib.hid sQ.ss
    have SR := Lib.hid sR.ss
    clear sP sQ sR b2
    go_wp2_with fail
    obtain ⟨V, hV⟩ : ∃ W, W = w2.alloc (.cells #[.slice AP n cP, .slice AQ n cQ, .slice AR n cR] 62) := ⟨_, rfl⟩
    have bV : Below w2.heap.size w2 V := by rw [hV]; exact (Below.refl _ _).alloc (Nat.le_refl _) _
    have VP := Lib.hid (SP.out.below bV (Nat.le_refl _))
    have VQ := Lib.hid (SQ.out.below bV (Nat.le_refl _))
    have VR := Lib.hid (SR.out.below bV (Nat.le_refl _))
    have zV : V.heap.size = w2.heap.size + 1 := by rw [hV]; simp
    have BV := Lib.hid (bstep B2.out bV)
    have p0 : V.cell? ⟨w2.heap.size, 0, none⟩ = some (.slice AP n cP) := by rw [hV]; simp
    have p1 : V.cell? ⟨w2.heap.size, 1, none⟩ = some (.slice AQ n cQ) := by rw [hV]; simp
    have p2 : V.cell? ⟨w2.heap.size, 2, none⟩ = some (.slice AR n cR) := by rw [hV]; simp
    rw [← hV]
    obtain ⟨s1, hs1⟩ : ∃ s, s = w2.heap.size := ⟨_, rfl⟩
    rw [← hs1] at zV p0 p1 p2
    rw [← hs1]
    have P0 := Lib.hid p0
    have P1 := Lib.hid p1
    have P2 := Lib.hid p2
    have ZV := Lib.hid (show s1 < V.heap.size by omega)
    have zl : w.heap.size ≤ V.heap.size := BV.out.size
    clear hs1 hV B2 SP SQ SR p0 p1 p2 zV bV
    have p0 := P0.out
    have p1 := P1.out
    have p2 := P2.out
    refine (CI.out _).mono ?_
    rintro e w4 ⟨AG, cG, AM, cM, AN, cN, rfl, hG', b4⟩
    have B4 := Lib.hid b4
    have hG := Lib.hid hG'
    have z4 := b4.size
    have hlt14 : s1 < w4.heap.size := by have := ZV.out; omega
    have hne14 : ¬ (s1 = w4.heap.size) := by omega
    have p0 := (B4.out.cell (p := ⟨s1, 0, none⟩) ZV.out).trans P0.out
    have p1 := (B4.out.cell (p := ⟨s1, 1, none⟩) ZV.out).trans P1.out
    have p2 := (B4.out.cell (p := ⟨s1, 2, none⟩) ZV.out).trans P2.out
    clear b4 hG'
    go_wp2_with fail
    obtain ⟨W4, hW4⟩ : ∃ W, W = w4.alloc (.cells #[.slice AG n cG, .slice AM n cM, .slice AN n cN] 62) := ⟨_, rfl⟩
    have bb4 : Below w4.heap.size w4 W4 := by rw [hW4]; exact (Below.refl _ _).alloc (Nat.le_refl _) _
    have B5 := Lib.hid (bstep B4.out bb4)
    have hG5 := Lib.hid (hG.out.later bb4)
    have p0 := (B5.out.cell (p := ⟨s1, 0, none⟩) ZV.out).trans P0.out
    have p1 := (B5.out.cell (p := ⟨s1, 1, none⟩) ZV.out).trans P1.out
    have p2 := (B5.out.cell (p := ⟨s1, 2, none⟩) ZV.out).trans P2.out
    have q0 : W4.cell? ⟨w4.heap.size, 0, none⟩ = some (.slice AG n cG) := by rw [hW4]; simp
    have q1 : W4.cell? ⟨w4.heap.size, 1, none⟩ = some (.slice AM n cM) := by rw [hW4]; simp
    have q2 : W4.cell? ⟨w4.heap.size, 2, none⟩ = some (.slice AN n cN) := by rw [hW4]; simp
    have z5 : W4.heap.size = w4.heap.size + 1 := by rw [hW4]; simp
    rw [← hW4]
    obtain ⟨s2, hs2⟩ : ∃ s, s = w4.heap.size := ⟨_, rfl⟩
    rw [← hs2] at z5 q0 q1 q2 hG5 z4
    rw [← hs2]
    clear hs2 hW4 bb4 hG B4 hlt14 hne14
    have hs12 : s1 < s2 := by have := ZV.out; omega
    refine (HE.out AG cG AM cM AN cN AP cP AQ cQ AR cR W4 hG5.out.si hG5.out.s1 hG5.out.s2 (VP.out.below B5.out (Nat.le_refl _)) (VQ.out.below B5.out (Nat.le_refl _)) (VR.out.below B5.out (Nat.le_refl _))).mono ?_
    rintro e w6 ⟨rfl, b6⟩
    have B6 := Lib.hid (bstep B5.out b6)
    have hG6 := Lib.hid (hG5.out.later b6)
    have p0 := (B6.out.cell (p := ⟨s1, 0, none⟩) ZV.out).trans P0.out
    have p1 := (B6.out.cell (p := ⟨s1, 1, none⟩) ZV.out).trans P1.out
    have p2 := (B6.out.cell (p := ⟨s1, 2, none⟩) ZV.out).trans P2.out
    replace q0 := (b6.cell (p := ⟨s2, 0, none⟩) (by show s2 < _; omega)).trans q0
    replace q1 := (b6.cell (p := ⟨s2, 1, none⟩) (by show s2 < _; omega)).trans q1
    replace q2 := (b6.cell (p := ⟨s2, 2, none⟩) (by show s2 < _; omega)).trans q2
    have z6 := b6.size
    clear b6 hG5 B5
    go_wp2_with fail
    refine (HMk.out AG cG AM cM AN cN _ _ w6 hG6.out).mono ?_
    rintro e w11 ⟨rfl, hG11', n11⟩
    have hG11 := Lib.hid hG11'
    have B11 := Lib.hid (B6.out.trans ((n11.below (by omega)).mono (by omega)))
    have p0 := (B11.out.cell (p := ⟨s1, 0, none⟩) ZV.out).trans P0.out
    have p1 := (B11.out.cell (p := ⟨s1, 1, none⟩) ZV.out).trans P1.out
    have p2 := (B11.out.cell (p := ⟨s1, 2, none⟩) ZV.out).trans P2.out
    replace q0 := (n11.cell (p := ⟨s2, 0, none⟩) (by show s2 < _; omega) (by show s2 < _ ∨ s2 ≤ s2; omega)).trans q0
    replace q1 := (n11.cell (p := ⟨s2, 1, none⟩) (by show s2 < _; omega) (by show s2 < _ ∨ s2 ≤ s2; omega)).trans q1
    replace q2 := (n11.cell (p := ⟨s2, 2, none⟩) (by show s2 < _; omega) (by show s2 < _ ∨ s2 ≤ s2; omega)).trans q2
    have z11 := n11.size
    clear n11 hG11' hG6 B6
    have hk2 : ¬ (1 + (n : Int) + (o1 : Int) + (o2 : Int) < 0) := by omega
    go_wp2_with fail
    refine (HHd.out AG cG AM cM AN cN w11 hG11.out.si hG11.out.s1 hG11.out.s2).mono ?_
    rintro e w12 ⟨rfl, b12⟩
    have B12 := Lib.hid (bstep B11.out b12)
    have hG12 := Lib.hid (hG11.out.later b12)
    have p0 := (B12.out.cell (p := ⟨s1, 0, none⟩) ZV.out).trans P0.out
    have p1 := (B12.out.cell (p := ⟨s1, 1, none⟩) ZV.out).trans P1.out
    have p2 := (B12.out.cell (p := ⟨s1, 2, none⟩) ZV.out).trans P2.out
    replace q0 := (b12.cell (p := ⟨s2, 0, none⟩) (by show s2 < _; omega)).trans q0
    replace q1 := (b12.cell (p := ⟨s2, 1, none⟩) (by show s2 < _; omega)).trans q1
    replace q2 := (b12.cell (p := ⟨s2, 2, none⟩) (by show s2 < _; omega)).trans q2
    have z12 := b12.size
    clear b12 hG11 B11
    go_wp2_with fail
    refine (CI.out _).mono ?_
    rintro e w14 ⟨AH, cH, AI, cI, AJ, cJ, rfl, hH', b14⟩
    have B14 := Lib.hid (bstep B12.out b14)
    have hG14 := Lib.hid (hG12.out.later b14)
    have hH := Lib.hid hH'
    have p0 := (B14.out.cell (p := ⟨s1, 0, none⟩) ZV.out).trans P0.out
    have p1 := (B14.out.cell (p := ⟨s1, 1, none⟩) ZV.out).trans P1.out
    have p2 := (B14.out.cell (p := ⟨s1, 2, none⟩) ZV.out).trans P2.out
    replace q0 := (b14.cell (p := ⟨s2, 0, none⟩) (by show s2 < _; omega)).trans q0
    replace q1 := (b14.cell (p := ⟨s2, 1, none⟩) (by show s2 < _; omega)).trans q1
    replace q2 := (b14.cell (p := ⟨s2, 2, none⟩) (by show s2 < _; omega)).trans q2
    have z14 := b14.size
    have hlt114 : s1 < w14.heap.size := by omega
    have hne114 : ¬ (s1 = w14.heap.size) := by omega
    have hlt214 : s2 < w14.heap.size := by omega
    have hne214 : ¬ (s2 = w14.heap.size) := by omega
    clear b14 hH' hG12 B12
    go_wp2_with fail
    obtain ⟨W14, hW14⟩ : ∃ W, W = w14.alloc (.cells #[.slice AH n cH, .slice AI n cI, .slice AJ n cJ] 62) := ⟨_, rfl⟩
    have bb14 : Below w14.heap.size w14 W14 := by rw [hW14]; exact (Below.refl _ _).alloc (Nat.le_refl _) _
    have B15 := Lib.hid (bstep B14.out bb14)
    have hG15 := Lib.hid (hG14.out.later bb14)
    have hH15 := Lib.hid (hH.out.later bb14)
    have p0 := (B15.out.cell (p := ⟨s1, 0, none⟩) ZV.out).trans P0.out
    have p1 := (B15.out.cell (p := ⟨s1, 1, none⟩) ZV.out).trans P1.out
    have p2 := (B15.out.cell (p := ⟨s1, 2, none⟩) ZV.out).trans P2.out
    replace q0 := (bb14.cell (p := ⟨s2, 0, none⟩) (by show s2 < _; omega)).trans q0
    replace q1 := (bb14.cell (p := ⟨s2, 1, none⟩) (by show s2 < _; omega)).trans q1
    replace q2 := (bb14.cell (p := ⟨s2, 2, none⟩) (by show s2 < _; omega)).trans q2
    have z15 := bb14.size
    rw [← hW14]
    clear hW14 bb14 hG14 hH B14 hlt114 hne114 hlt214 hne214
    refine (HE.out AH cH AI cI AJ cJ AP cP AQ cQ AR cR W14 hH15.out.si hH15.out.s1 hH15.out.s2 (VP.out.below B15.out (Nat.le_refl _)) (VQ.out.below B15.out (Nat.le_refl _)) (VR.out.below B15.out (Nat.le_refl _))).mono ?_
    rintro e w16 ⟨rfl, b16⟩
    have B16 := Lib.hid (bstep B15.out b16)
    have hG16 := Lib.hid (hG15.out.later b16)
    replace q0 := (b16.cell (p := ⟨s2, 0, none⟩) (by show s2 < _; omega)).trans q0
    replace q1 := (b16.cell (p := ⟨s2, 1, none⟩) (by show s2 < _; omega)).trans q1
    replace q2 := (b16.cell (p := ⟨s2, 2, none⟩) (by show s2 < _; omega)).trans q2
    clear b16 hG15 hH15 B15 p0 p1 p2
    go_wp2_with fail
    refine (HHd.out AG cG AM cM AN cN w16 hG16.out.si hG16.out.s1 hG16.out.s2).mono ?_
    rintro e w17 ⟨rfl, b17⟩
    have B17 := Lib.hid (bstep BV.out (bstep B16.out b17))
    clear b17
    go_wp2_with fail
    go_ret
    exact ⟨rfl, B17.out⟩

end Go.Proofs.Ytblaaeanbhgokaa
