/-
  LSH. By a program (wip/tools/mk.py) out of snippets.
-/
import Derived.Test.YtlodhgkecpjieaaViewI5
import Derived.Test.YtlodhgkecpjieaaViewS4
namespace Go.Proofs.Ytlodhgkecpjieaa
open Go.RowKit

set_option maxRecDepth 20000 in
set_option maxHeartbeats 1600000 in
theorem lawExactSharedOf (n : Int) (A : Option Addr) (k c : Nat) (rows : List (List Int)) (s : Int) (w : World) (hk : k ≤ 9223372036854775807) (hr : ∀ i, i < k → (rat rows i).length ≤ 9223372036854775807) (ha : SS w A k rows) (_hn : (Lit.int .i64 n).wf = true) (_hs : (Lit.int .i64 s).wf = true) :
    Calls Try.prog 10 #[.agg #[.int .i64 n, .slice A k c], .int .i64 s] w fun e w' => e = .returned (.bool true) ∧ Below w.heap.size w w' := by
  obtain ⟨W, hW⟩ : ∃ W, W = w.alloc (.cells #[.int .i64 n, .slice A k c] 24) := ⟨_, rfl⟩
  have hB : Below w.heap.size w W := by rw [hW]; exact (Below.refl _ _).alloc (Nat.le_refl _) _
  have hz : W.heap.size = w.heap.size + 1 := by rw [hW]; simp
  have c0 : W.cell? ⟨w.heap.size, 0, none⟩ = some (.int .i64 n) := by rw [hW]; simp
  have c1 : W.cell? ⟨w.heap.size, 1, none⟩ = some (.slice A k c) := by rw [hW]; simp
  have hS : SS W A k rows := ha.below hB (Nat.le_refl _)
  have CZ := Lib.hid (szView_any n A k c rows W hk hr hS)
  have HB := Lib.hid hB
  have HZ := Lib.hid (show w.heap.size < W.heap.size by omega)
  have C0 := Lib.hid c0
  have C1 := Lib.hid c1
  have HS := Lib.hid hS
  clear ha hr hB hz c0 c1 hS hk
  go_enter Try.func10, Try.ntmps10
  go_wp2_with fail
  rw [← hW]
  clear hW
  refine CZ.out.mono ?_
  rintro e w1 ⟨z, rfl, b1, hz⟩
  have HBz := Lib.hid hz
  have B1 := Lib.hid b1
  clear hz b1 CZ
  by_cases hz0 : z < 0
  · have b1' := Lib.hid (bstep HB.out B1.out)
    go_wp2_with fail
    go_ret
    exact ⟨rfl, b1'.out⟩
  · have hb2 := HBz.out (by omega)
    obtain ⟨hk, hr⟩ := hb2
    have HR := Lib.hid hr
    clear hr
    have CT := Lib.hid (fun (w' : World) (hw : Below W.heap.size W w') => toView_any n A k c rows w' hk HR.out (HS.out.below hw (Nat.le_refl _)))
    have CS := Lib.hid (fun A' c' (w' : World) h => specSharedOf_any n s A' k c' rows w' hk HR.out h)
    have CI := Lib.hid (fun A' c' (w' : World) h => implSharedOf_any n s A' k c' rows w' hk HR.out h)
    generalize shA n rows s = ans at *
    have c0 := (B1.out.cell (p := ⟨w.heap.size, 0, none⟩) HZ.out).trans C0.out
    have c1 := (B1.out.cell (p := ⟨w.heap.size, 1, none⟩) HZ.out).trans C1.out
    go_wp2_with fail
    refine (CT.out _ B1.out).mono ?_
    rintro e w2 ⟨A2, c2, rfl, _, s2, b2⟩
    have B2 := Lib.hid (bstep B1.out b2)
    have S2 := Lib.hid s2
    clear s2 b2 c0 c1
    go_wp2_with fail
    refine (CS.out _ _ _ S2.out).mono ?_
    rintro e w3 ⟨rfl, b3⟩
    have B3 := Lib.hid (bstep B2.out b3)
    clear b3 S2
    have c0 := (B3.out.cell (p := ⟨w.heap.size, 0, none⟩) HZ.out).trans C0.out
    have c1 := (B3.out.cell (p := ⟨w.heap.size, 1, none⟩) HZ.out).trans C1.out
    go_wp2_with fail
    refine (CT.out _ B3.out).mono ?_
    rintro e w4 ⟨A4, c4, rfl, _, s4, b4⟩
    have B4 := Lib.hid (bstep B3.out b4)
    have S4 := Lib.hid s4
    clear s4 b4 c0 c1
    have B5 := Lib.hid (show Below W.heap.size W (w4.alloc (.cells #[.int .i64 n, .slice A4 k c4] 27)) from B4.out.alloc B4.out.size _)
    have S5 := Lib.hid (S4.out.alloc (.cells #[.int .i64 n, .slice A4 k c4] 27))
    have d0 : (w4.alloc (.cells #[.int .i64 n, .slice A4 k c4] 27)).cell? ⟨w4.heap.size, 0, none⟩ = some (.int .i64 n) := by simp
    have d1 : (w4.alloc (.cells #[.int .i64 n, .slice A4 k c4] 27)).cell? ⟨w4.heap.size, 1, none⟩ = some (.slice A4 k c4) := by simp
    have hz5 : w4.heap.size < (w4.alloc (.cells #[.int .i64 n, .slice A4 k c4] 27)).heap.size := by simp
    have D0 := Lib.hid d0
    have D1 := Lib.hid d1
    have HZ5 := Lib.hid hz5
    clear d0 d1 hz5 S4
    go_wp2_with fail
    generalize w4.alloc (.cells #[.int .i64 n, .slice A4 k c4] 27) = w5 at *
    refine (CI.out _ _ _ S5.out).mono ?_
    rintro e w6 ⟨rfl, b6⟩
    have c0 := ((bstep B5.out b6).cell (p := ⟨w.heap.size, 0, none⟩) HZ.out).trans C0.out
    have c1 := ((bstep B5.out b6).cell (p := ⟨w.heap.size, 1, none⟩) HZ.out).trans C1.out
    have d0 := (b6.cell (p := ⟨w4.heap.size, 0, none⟩) HZ5.out).trans D0.out
    have d1 := (b6.cell (p := ⟨w4.heap.size, 1, none⟩) HZ5.out).trans D1.out
    have B6 := Lib.hid (bstep B5.out b6)
    have S6 := Lib.hid (S5.out.below b6 (Nat.le_refl _))
    have HZ6 : Hid (w4.heap.size < w6.heap.size) := Lib.hid (by have := b6.size; have := HZ5.out; omega)
    have B6D : Hid (Below W.heap.size W w6.drew) := Lib.hid (bDrewN B6.out 1)
    clear b6
    go_wp2_with fail
    go_region_held3 (fun w' => w'.cell? ⟨w.heap.size, 0, none⟩ = some (.int .i64 n) ∧ w'.cell? ⟨w.heap.size, 1, none⟩ = some (.slice A k c) ∧ w'.cell? ⟨w4.heap.size, 0, none⟩ = some (.int .i64 n) ∧ w'.cell? ⟨w4.heap.size, 1, none⟩ = some (.slice A4 k c4)) (go_keep) (first
      | (go_simp; go_at_call 17; refine (CT.out w6.drew B6D.out).mono ?_; rintro e w7 ⟨A7, c7, rfl, hc7, s7, b70⟩; have b7 : Below w6.heap.size w6 w7 := (bDrewN (Below.refl w6.heap.size w6) 1).trans b70; have q0 := ((bstep B6.out b7).cell (p := ⟨w.heap.size, 0, none⟩) HZ.out).trans C0.out; have q1 := ((bstep B6.out b7).cell (p := ⟨w.heap.size, 1, none⟩) HZ.out).trans C1.out; have q2 := (b7.cell (p := ⟨w4.heap.size, 0, none⟩) HZ6.out).trans d0; have q3 := (b7.cell (p := ⟨w4.heap.size, 1, none⟩) HZ6.out).trans d1; have HZ7 := Lib.hid (Nat.lt_of_lt_of_le HZ6.out b7.size); have S7 := Lib.hid s7; have S67 := Lib.hid (S6.out.below b7 (Nat.le_refl w6.heap.size)); have B7 := Lib.hid (bstep B6.out b7); clear s7 b70 b7; dsimp only)
      | (go_simp; go_at_call 19; refine (eqView_true n A4 A7 k c4 c7 rows w7 hk HR.out S67.out S7.out).mono ?_; rintro e w8 ⟨rfl, b8⟩; have r0 := ((bstep B7.out b8).cell (p := ⟨w.heap.size, 0, none⟩) HZ.out).trans C0.out; have r1 := ((bstep B7.out b8).cell (p := ⟨w.heap.size, 1, none⟩) HZ.out).trans C1.out; have r2 := (b8.cell (p := ⟨w4.heap.size, 0, none⟩) HZ7.out).trans q2; have r3 := (b8.cell (p := ⟨w4.heap.size, 1, none⟩) HZ7.out).trans q3; have B8 := Lib.hid (bstep B7.out b8); clear b8; dsimp only))
    go_wp2_with fail
    go_ret
    exact ⟨rfl, by have h := HB.out.trans (B8.out.mono HB.out.size); exact h⟩

end Go.Proofs.Ytlodhgkecpjieaa
