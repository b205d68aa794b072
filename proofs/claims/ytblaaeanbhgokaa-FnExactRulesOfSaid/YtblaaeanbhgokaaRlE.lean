/-
  RlE. By a program (wip/tools/mk.py) out of snippets.
-/
import Derived.Test.YtblaaeanbhgokaaSS
import Derived.Test.YtblaaeanbhgokaaRF
import Derived.Test.YtblaaeanbhgokaaRb
import Derived.Test.YtblaaeanbhgokaaBase
namespace Go.Proofs.Ytblaaeanbhgokaa
open Go.RowKit

set_option maxHeartbeats 800000 in
theorem eqRules_true (A1 : Option Addr) (n1 c1 : Nat) (A2 : Option Addr) (n2 c2 : Nat) (A3 : Option Addr) (n3 c3 : Nat) (B1 : Option Addr) (e1 : Nat) (B2 : Option Addr) (e2 : Nat) (B3 : Option Addr) (e3 : Nat) (says : List Int) (f s : List (List Int)) (w : World) (h1 : n1 ≤ 2000000) (h2 : n2 ≤ 2000000) (h3 : n3 ≤ 2000000)
    (hr2 : ∀ i, i < n2 → (rat f i).length ≤ 2000000) (hr3 : ∀ i, i < n3 → (rat s i).length ≤ 2000000) (ha1 : SI w A1 n1 says) (ha2 : SS w A2 n2 f) (ha3 : SS w A3 n3 s) (hb1 : SI w B1 n1 says) (hb2 : SS w B2 n2 f) (hb3 : SS w B3 n3 s) :
    Calls Try.prog 45 #[.agg #[.slice A1 n1 c1, .slice A2 n2 c2, .slice A3 n3 c3], .agg #[.slice B1 n1 e1, .slice B2 n2 e2, .slice B3 n3 e3]] w fun e w' => e = .returned (.bool true) ∧ Below w.heap.size w w' := by
  obtain ⟨W, hW⟩ : ∃ W, W = (w.alloc (.cells #[.slice A1 n1 c1, .slice A2 n2 c2, .slice A3 n3 c3] 62)).alloc (.cells #[.slice B1 n1 e1, .slice B2 n2 e2, .slice B3 n3 e3] 62) := ⟨_, rfl⟩
  have hB : Below w.heap.size w W := by rw [hW]; exact ((Below.refl _ _).alloc (Nat.le_refl _) _).alloc (by simp) _
  have HBe := Lib.hid hB
  have C1 := Lib.hid (fun m => eqIntS_true A1 B1 n1 c1 e1 says (W.drewN m) (by omega) (SI.drewN (ha1.below hB (Nat.le_refl _)) m) (SI.drewN (hb1.below hB (Nat.le_refl _)) m))
  have C2 := Lib.hid (fun m => eqIntSS_true A2 B2 n2 c2 e2 f (W.drewN m) (by omega) hr2 ((ha2.below hB (Nat.le_refl _)).drewN m) ((hb2.below hB (Nat.le_refl _)).drewN m))
  have C3 := Lib.hid (fun m => eqIntSS_true A3 B3 n3 c3 e3 s (W.drewN m) (by omega) hr3 ((ha3.below hB (Nat.le_refl _)).drewN m) ((hb3.below hB (Nat.le_refl _)).drewN m))
  have d1 : W.cell? ⟨w.heap.size, 1, none⟩ = some (.slice A2 n2 c2) := by rw [hW, World.cell?_alloc_past _ _ _ (by simp)]; simp
  have d2 : W.cell? ⟨w.heap.size, 2, none⟩ = some (.slice A3 n3 c3) := by rw [hW, World.cell?_alloc_past _ _ _ (by simp)]; simp
  have g1 : W.cell? ⟨w.heap.size + 1, 1, none⟩ = some (.slice B2 n2 e2) := by rw [hW, World.cell?_alloc_at _ _ _ _ (by simp)]; simp
  have g2 : W.cell? ⟨w.heap.size + 1, 2, none⟩ = some (.slice B3 n3 e3) := by rw [hW, World.cell?_alloc_at _ _ _ _ (by simp)]; simp
  clear ha1 ha2 ha3 hb1 hb2 hb3 hr2 hr3 hB
  go_enter Try.func45, Try.ntmps45
  go_wp2_with fail
  rw [← hW]
  clear hW
  refine (C1.out 0).mono ?_
  rintro e w' ⟨rfl, q1, rfl⟩
  have C2' := Lib.hid (C2.out (0 + q1))
  rw [← World.drewN_drewN] at C2'
  go_wp2_with fail
  refine C2'.out.mono ?_
  rintro e w' ⟨rfl, q2, rfl⟩
  have C3' := Lib.hid (C3.out (q1 + q2))
  go_wp2_with fail
  refine C3'.out.mono ?_
  rintro e w' ⟨rfl, q3, rfl⟩
  go_wp2_with fail
  go_ret
  exact ⟨rfl, by first | exact bDrewN HBe.out _ | exact bDrewN (bDrewN HBe.out _) _ | exact bDrewN (bDrewN (bDrewN HBe.out _) _) _ | exact bDrewN (bDrewN (bDrewN (bDrewN HBe.out _) _) _) _⟩

end Go.Proofs.Ytblaaeanbhgokaa
