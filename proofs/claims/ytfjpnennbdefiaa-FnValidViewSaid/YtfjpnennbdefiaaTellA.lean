/-
  TellA. By a program (wip/tools/mk.py) out of snippets.
-/
import Derived.Test.YtfjpnennbdefiaaTell
import Derived.Test.YtfjpnennbdefiaaViewI3
namespace Go.Proofs.Ytfjpnennbdefiaa
open Go.RowKit

set_option maxRecDepth 20000 in
set_option maxHeartbeats 1600000 in
theorem implTellAll_in (n k s c0 : Nat) (A0 : Option Addr) (rows : List (List Int)) (w : World) (hG : GV n k rows) (hg : gd n rows s = true) (hs : s < 65536) (hk : k ≤ 2000000) (hr : ∀ i, i < k → (rat rows i).length ≤ 2000000) (ha : SS w A0 k rows) :
    Calls Try.prog 10 #[.agg #[.int .i64 n, .slice A0 k c0], .int .i64 s] w fun e w' => ∃ A c, e = .returned (.agg #[.int .i64 n, .slice A k c]) ∧ SS w' A k (tlV rows n s) ∧ Below w.heap.size w w' := by
  obtain ⟨W, hW⟩ : ∃ W, W = (w.alloc (.cells #[.int .i64 n, .slice A0 k c0] 25)).alloc (.cells #[.int .i64 0, .slice none 0 0] 25) := ⟨_, rfl⟩
  have hB : Below w.heap.size w W := by rw [hW]; exact ((Below.refl _ _).alloc (Nat.le_refl _) _).alloc (by simp) _
  have hz : W.heap.size = w.heap.size + 2 := by rw [hW]; simp
  have c0' : W.cell? ⟨w.heap.size, 0, none⟩ = some (.int .i64 n) := by rw [hW]; simp [World.cell?_alloc_at, World.cell?_alloc_past]
  have c1' : W.cell? ⟨w.heap.size, 1, none⟩ = some (.slice A0 k c0) := by rw [hW]; simp [World.cell?_alloc_at, World.cell?_alloc_past]
  have l0 : W.cell? ⟨w.heap.size + 1, 0, none⟩ = some (.int .i64 0) := by rw [hW]; simp [World.cell?_alloc_at, World.cell?_alloc_past]
  have l1 : W.cell? ⟨w.heap.size + 1, 1, none⟩ = some (.slice none 0 0) := by rw [hW]; simp [World.cell?_alloc_at, World.cell?_alloc_past]
  have n0 : W.frozen? ⟨w.heap.size + 1, 0, none⟩ = false := by rw [hW]; go_simp
  have n1 : W.frozen? ⟨w.heap.size + 1, 1, none⟩ = false := by rw [hW]; go_simp
  have C0 := Lib.hid c0'
  have C1 := Lib.hid c1'
  have L0 := Lib.hid l0
  have L1 := Lib.hid l1
  have N0 := Lib.hid n0
  have N1 := Lib.hid n1
  have HB := Lib.hid hB
  have HZ := Lib.hid hz
  have hSW := ha.below hB (Nat.le_refl _)
  have HS := Lib.hid hSW
  have HO := Lib.hid (implsetOk_any n s A0 k c0 rows W hk hr hSW)
  rw [hg] at HO
  have HT := Lib.hid (fun w' h => impltell_any n k s c0 A0 rows w' hG hs h)
  have HLt := Lib.hid (show w.heap.size < W.heap.size ∧ w.heap.size + 1 < W.heap.size by omega)
  clear ha hr hB hz c0' c1' l0 l1 n0 n1 hg hG hSW
  go_enter Try.func10, Try.ntmps10
  go_wp2_with fail
  rw [← hW]
  clear hW
  refine HO.out.mono ?_
  rintro e w1 ⟨rfl, b1⟩
  have c0' := (b1.cell (p := ⟨w.heap.size, 0, none⟩) HLt.out.1).trans C0.out
  have c1' := (b1.cell (p := ⟨w.heap.size, 1, none⟩) HLt.out.1).trans C1.out
  have B1 := Lib.hid b1
  have HC := Lib.hid (HT.out w1 (HS.out.below b1 (Nat.le_refl _)))
  clear b1
  go_wp2_with fail
  refine HC.out.mono ?_
  rintro e w2 ⟨A2, c2, rfl, hF, b2⟩
  have B2 := Lib.hid (bstep B1.out b2)
  have l0 := (B2.out.cell (p := ⟨w.heap.size + 1, 0, none⟩) HLt.out.2).trans L0.out
  have l1 := (B2.out.cell (p := ⟨w.heap.size + 1, 1, none⟩) HLt.out.2).trans L1.out
  have n0 := (B2.out.frozen (p := ⟨w.heap.size + 1, 0, none⟩) HLt.out.2).trans N0.out
  have n1 := (B2.out.frozen (p := ⟨w.heap.size + 1, 1, none⟩) HLt.out.2).trans N1.out
  have HF := Lib.hid (((hF.setLow (p := ⟨w.heap.size + 1, 0, none⟩) (by have := HLt.out.2; have := B1.out.size; show w.heap.size + 1 < _; omega) (.int .i64 n)).setLow (p := ⟨w.heap.size + 1, 1, none⟩) (by have := HLt.out.2; have := B1.out.size; show w.heap.size + 1 < _; omega) (.slice A2 k c2)).ss)
  have HBe := Lib.hid (((HB.out.trans (B2.out.mono HB.out.size)).setCell (p := ⟨w.heap.size + 1, 0, none⟩) (by show w.heap.size ≤ w.heap.size + 1; omega) (.int .i64 n)).setCell (p := ⟨w.heap.size + 1, 1, none⟩) (by show w.heap.size ≤ w.heap.size + 1; omega) (.slice A2 k c2))
  clear hF b2 HC c0' c1'
  go_wp2_with fail
  refine bodyPost_ret (v := .agg #[.int .i64 n, .slice A2 k c2]) ?_ rfl ⟨A2, c2, rfl, HF.out, HBe.out⟩
  have hres : Try.f10.results = #[.cell 4 25] := by kernel_rfl
  simp only [results, hres]
  go_simp

end Go.Proofs.Ytfjpnennbdefiaa
