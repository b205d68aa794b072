/-
  LRun. By a program (wip/tools/mk.py) out of snippets.
-/
import Derived.Test.YtblaaeanbhgokaaRunS
import Derived.Test.YtblaaeanbhgokaaToRun
import Derived.Deep.RegionHeld3
namespace Go.Proofs.Ytblaaeanbhgokaa
open Go.RowKit

set_option maxRecDepth 20000 in
set_option maxHeartbeats 3200000 in
theorem lawExactValidRun (A1 : Option Addr) (n1 c1 : Nat) (A2 : Option Addr) (n2 c2 : Nat) (ia sb : List Int) (w : World) (h1 : n1 ≤ 9223372036854775807) (h2 : n2 ≤ 9223372036854775807) (ha1 : SI w A1 n1 ia) (ha2 : SI w A2 (n2 * 3) sb) :
    Calls Try.prog 9 #[.agg #[.slice A1 n1 c1, .slice A2 n2 c2]] w fun e w' => e = .returned (.bool true) ∧ Below w.heap.size w w' := by
  obtain ⟨W, hW⟩ : ∃ W, W = w.alloc (.cells #[.slice A1 n1 c1, .slice A2 n2 c2] 49) := ⟨_, rfl⟩
  have hB : Below w.heap.size w W := by rw [hW]; exact (Below.refl _ _).alloc (Nat.le_refl _) _
  have hz : W.heap.size = w.heap.size + 1 := by rw [hW]; simp
  have c0 : W.cell? ⟨w.heap.size, 0, none⟩ = some (.slice A1 n1 c1) := by rw [hW]; simp
  have c1' : W.cell? ⟨w.heap.size, 1, none⟩ = some (.slice A2 n2 c2) := by rw [hW]; simp
  have HS1 := Lib.hid (ha1.below hB (Nat.le_refl _))
  have HS2 := Lib.hid (ha2.below hB (Nat.le_refl _))
  have CZ := Lib.hid (szRun_any A1 n1 c1 A2 n2 c2 W h1 h2)
  have HB := Lib.hid hB
  have HZ := Lib.hid (show w.heap.size < W.heap.size by omega)
  have C0 := Lib.hid c0
  have C1 := Lib.hid c1'
  clear ha1 ha2 hB hz c0 c1' h1 h2
  go_enter Try.func9, Try.ntmps9
  go_wp2_with fail
  rw [← hW]
  clear hW
  refine CZ.out.mono ?_
  rintro e w1 ⟨z, rfl, b1, hz⟩
  have HBz := Lib.hid hz
  have B1 := Lib.hid b1
  clear hz b1 CZ
  by_cases hz0 : z < 0
  · have b1' := Lib.hid (bstep HB.out B1.out)
    go_wp2_with fail
    go_ret
    exact ⟨rfl, b1'.out⟩
  · have hb2 := HBz.out (by omega)
    obtain ⟨h1, h2⟩ := hb2
    have CT := Lib.hid (fun (w' : World) (hw : Below W.heap.size W w') => toRun_any A1 n1 c1 A2 n2 c2 ia sb w' h1 h2 (HS1.out.below hw (Nat.le_refl _)) (HS2.out.below hw (Nat.le_refl _)))
    have CS := Lib.hid (fun A c B d (w' : World) k1 k2 => specValidRun_any A n1 c B n2 d ia sb w' h1 h2 k1 k2)
    have CI := Lib.hid (fun A c B d (w' : World) k1 k2 => implValidRun_any A n1 c B n2 d ia sb w' h1 h2 k1 k2)
    generalize vrM ia sb n2 = ans at *
    have c0 := (B1.out.cell (p := ⟨w.heap.size, 0, none⟩) HZ.out).trans C0.out
    have c1' := (B1.out.cell (p := ⟨w.heap.size, 1, none⟩) HZ.out).trans C1.out
    go_wp2_with fail
    refine (CT.out _ B1.out).mono ?_
    rintro e w2 ⟨P1, p1, P2, p2, rfl, s1, s2, b2⟩
    have B2 := Lib.hid (bstep B1.out b2)
    have S1 := Lib.hid s1
    have S2 := Lib.hid s2
    clear s1 s2 b2 c0 c1'
    go_wp2_with fail
    refine (CS.out _ _ _ _ _ S1.out S2.out).mono ?_
    rintro e w3 ⟨rfl, b3⟩
    have B3 := Lib.hid (bstep B2.out b3)
    clear b3 S1 S2
    have c0 := (B3.out.cell (p := ⟨w.heap.size, 0, none⟩) HZ.out).trans C0.out
    have c1' := (B3.out.cell (p := ⟨w.heap.size, 1, none⟩) HZ.out).trans C1.out
    go_wp2_with fail
    refine (CT.out _ B3.out).mono ?_
    rintro e w4 ⟨Q1, q1, Q2, q2, rfl, s1, s2, b4⟩
    have B4 := Lib.hid (bstep B3.out b4)
    have B5 := Lib.hid (show Below W.heap.size W (w4.alloc (.cells #[.slice Q1 n1 q1, .slice Q2 n2 q2] 44)) from B4.out.alloc B4.out.size _)
    have S1 := Lib.hid (s1.alloc (.cells #[.slice Q1 n1 q1, .slice Q2 n2 q2] 44))
    have S2 := Lib.hid (s2.alloc (.cells #[.slice Q1 n1 q1, .slice Q2 n2 q2] 44))
    have d0 : (w4.alloc (.cells #[.slice Q1 n1 q1, .slice Q2 n2 q2] 44)).cell? ⟨w4.heap.size, 0, none⟩ = some (.slice Q1 n1 q1) := by simp
    have d1 : (w4.alloc (.cells #[.slice Q1 n1 q1, .slice Q2 n2 q2] 44)).cell? ⟨w4.heap.size, 1, none⟩ = some (.slice Q2 n2 q2) := by simp
    have HZ5 := Lib.hid (show w4.heap.size < (w4.alloc (.cells #[.slice Q1 n1 q1, .slice Q2 n2 q2] 44)).heap.size by simp)
    have D0 := Lib.hid d0
    have D1 := Lib.hid d1
    clear d0 d1 s1 s2 b4 c0 c1'
    go_wp2_with fail
    generalize w4.alloc (.cells #[.slice Q1 n1 q1, .slice Q2 n2 q2] 44) = w5 at *
    refine (CI.out _ _ _ _ _ S1.out S2.out).mono ?_
    rintro e w6 ⟨rfl, b6⟩
    have c0 := ((bstep B5.out b6).cell (p := ⟨w.heap.size, 0, none⟩) HZ.out).trans C0.out
    have c1' := ((bstep B5.out b6).cell (p := ⟨w.heap.size, 1, none⟩) HZ.out).trans C1.out
    have d0 := (b6.cell (p := ⟨w4.heap.size, 0, none⟩) HZ5.out).trans D0.out
    have d1 := (b6.cell (p := ⟨w4.heap.size, 1, none⟩) HZ5.out).trans D1.out
    have B6 := Lib.hid (bstep B5.out b6)
    have S61 := Lib.hid (S1.out.below b6 (Nat.le_refl _))
    have S62 := Lib.hid (S2.out.below b6 (Nat.le_refl _))
    have HZ6 : Hid (w4.heap.size < w6.heap.size) := Lib.hid (by have := b6.size; have := HZ5.out; omega)
    have B6D : Hid (Below W.heap.size W w6.drew) := Lib.hid (bDrewN B6.out 1)
    clear b6
    go_wp2_with fail
    go_region_held3 (fun w' => w'.cell? ⟨w.heap.size, 0, none⟩ = some (.slice A1 n1 c1) ∧ w'.cell? ⟨w.heap.size, 1, none⟩ = some (.slice A2 n2 c2) ∧ w'.cell? ⟨w4.heap.size, 0, none⟩ = some (.slice Q1 n1 q1) ∧ w'.cell? ⟨w4.heap.size, 1, none⟩ = some (.slice Q2 n2 q2)) (go_keep) (first
      | (go_simp; go_at_call 35; refine (CT.out w6.drew B6D.out).mono ?_; rintro e w7 ⟨X1, x1, X2, x2, rfl, s71, s72, b70⟩; have b7 : Below w6.heap.size w6 w7 := (bDrewN (Below.refl w6.heap.size w6) 1).trans b70; have t0 := ((bstep B6.out b7).cell (p := ⟨w.heap.size, 0, none⟩) HZ.out).trans C0.out; have t1 := ((bstep B6.out b7).cell (p := ⟨w.heap.size, 1, none⟩) HZ.out).trans C1.out; have t3 := (b7.cell (p := ⟨w4.heap.size, 0, none⟩) HZ6.out).trans d0; have t4 := (b7.cell (p := ⟨w4.heap.size, 1, none⟩) HZ6.out).trans d1; have HZ7 := Lib.hid (Nat.lt_of_lt_of_le HZ6.out b7.size); have S71 := Lib.hid s71; have S72 := Lib.hid s72; have S671 := Lib.hid (S61.out.below b7 (Nat.le_refl w6.heap.size)); have S672 := Lib.hid (S62.out.below b7 (Nat.le_refl w6.heap.size)); have B7 := Lib.hid (bstep B6.out b7); clear s71 s72 b70 b7; dsimp only)
      | (go_simp; go_at_call 36; refine (eqRun_true Q1 n1 q1 Q2 n2 q2 X1 x1 X2 x2 ia sb w7 h1 h2 S671.out S672.out S71.out S72.out).mono ?_; rintro e w8 ⟨rfl, b8⟩; have r0 := ((bstep B7.out b8).cell (p := ⟨w.heap.size, 0, none⟩) HZ.out).trans C0.out; have r1 := ((bstep B7.out b8).cell (p := ⟨w.heap.size, 1, none⟩) HZ.out).trans C1.out; have r3 := (b8.cell (p := ⟨w4.heap.size, 0, none⟩) HZ7.out).trans t3; have r4 := (b8.cell (p := ⟨w4.heap.size, 1, none⟩) HZ7.out).trans t4; have B8 := Lib.hid (bstep B7.out b8); clear b8; dsimp only))
    go_wp2_with fail
    go_ret
    exact ⟨rfl, by have h := HB.out.trans (B8.out.mono HB.out.size); exact h⟩

end Go.Proofs.Ytblaaeanbhgokaa
