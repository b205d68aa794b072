/-
  DV4. By a program (wip/tools/mk.py) out of snippets.
-/
import Derived.Test.YtlodhgkecpjieaaDV3
namespace Go.Proofs.Ytlodhgkecpjieaa
open Go.RowKit

set_option maxHeartbeats 1600000 in
theorem drawSharedOf_any (A : Option Addr) (n c : Nat) (bs : List Int) (w : World) (hc : n ≤ c) (hn : n ≤ 2000000) (hs : SB w A n bs) :
    Calls Try.prog 42 #[.slice A n c] w (DkPost w fun _ s => #[.int .i64 s]) := by
  obtain ⟨W, hW⟩ : ∃ W, W = w.alloc (.cells #[.int .i64 0, .slice none 0 0] 27) := ⟨_, rfl⟩
  have hb : Below w.heap.size w W := by rw [hW]; exact (Below.refl _ _).alloc (Nat.le_refl _) _
  have hz : W.heap.size = w.heap.size + 1 := by rw [hW]; simp
  have hsW : SB W A n bs := by
    refine ⟨hs.1, hs.2.1, fun hp => ?_⟩
    obtain ⟨b, off, e, hcl⟩ := hs.2.2 hp
    refine ⟨b, off, e, fun i hi => ?_⟩
    have h1 := hcl i hi
    have := World.block_lt_of_cell? w _ h1
    rw [hW, World.cell?_alloc_lt _ _ _ this, h1]
  have l0 : W.cell? ⟨w.heap.size, 0, none⟩ = some (.int .i64 0) := by rw [hW]; simp
  have l1 : W.cell? ⟨w.heap.size, 1, none⟩ = some (.slice none 0 0) := by rw [hW]; simp
  have n0 : W.frozen? ⟨w.heap.size, 0, none⟩ = false := by rw [hW]; go_simp
  have n1 : W.frozen? ⟨w.heap.size, 1, none⟩ = false := by rw [hW]; go_simp
  have L0 := Lib.hid l0
  have L1 := Lib.hid l1
  have N0 := Lib.hid n0
  have N1 := Lib.hid n1
  have HZ := Lib.hid hz
  have HB := Lib.hid hb
  have H := Lib.hid (newReader_any A n c bs W hc hn hsW)
  clear hs hsW hb hz l0 l1 n0 n1
  go_enter Try.func42, Try.ntmps42
  go_wp2_with fail
  rw [← hW]
  clear hW
  refine H.out.mono ?_
  rintro e w1 ⟨rfl, hR, hb1⟩
  obtain ⟨R, hRe⟩ : ∃ R, R = W.heap.size := ⟨_, rfl⟩
  rw [← hRe] at hR hb1
  rw [← hRe]
  have HRe := Lib.hid hRe
  have HB1 := Lib.hid hb1
  have HRd := Lib.hid hR
  have hRw : R = w.heap.size + 1 := by rw [hRe, HZ.out]
  have hRs : w.heap.size < R := by omega
  clear hb1 hR hRe H
  have hRw' := Lib.hid hRw
  clear hRw
  go_wp2_with fail
  refine (someView_any R 0 w1 (by omega) HRd.out).mono ?_
  rintro e w2 ⟨P, A2, k, c2, rows, rfl, hS, hk, hl, hp0, hp1, hR2, hb2⟩
  have HS := Lib.hid hS
  have HL := Lib.hid hl
  have HR2 := Lib.hid hR2
  have HB2 := Lib.hid (HB1.out.trans hb2)
  have hR2lt := hR2.1
  clear hS hl hR2 hb2 HB1 HRd
  go_wp2_with fail
  obtain ⟨W2, hW2⟩ : ∃ W, W = w2.alloc (.cells #[.int .i64 P, .slice A2 k c2] 27) := ⟨_, rfl⟩
  rw [← hW2]
  have b2 : Below w2.heap.size w2 W2 := by rw [hW2]; exact (Below.refl _ _).alloc (Nat.le_refl _) _
  have X2 := Lib.hid (show Bx W2 w2.heap.size P A2 k c2 by rw [hW2]; exact Bx.new _ _ _ _ _ _)
  obtain ⟨s2, hs2⟩ : ∃ s, s = w2.heap.size := ⟨_, rfl⟩
  rw [← hs2] at X2
  rw [← hs2]
  have hRs2 : R < s2 := by omega
  have S2 := Lib.hid (HS.out.gby (w' := W2) (R := R) (gby_below b2 (Nat.le_refl _)) (by omega))
  have HB2' := Lib.hid (HB2.out.trans (b2.mono (by omega)))
  have HRD := Lib.hid ((HR2.out.below b2 (by omega)).below (bDrewN (Below.refl W2.heap.size W2) 1) (by have := X2.out.lt; omega))
  have q0 := X2.out.c0
  have q1 := X2.out.c1
  have hs2l := X2.out.lt
  have hsR : s2 ≠ R := by omega
  have HSR := Lib.hid hsR
  have hwR : w.heap.size < W2.heap.size := by omega
  have l0 := (HB2'.out.cell (p := ⟨w.heap.size, 0, none⟩) hRs).trans L0.out
  have l1 := (HB2'.out.cell (p := ⟨w.heap.size, 1, none⟩) hRs).trans L1.out
  have n0 := (HB2'.out.frozen (p := ⟨w.heap.size, 0, none⟩) hRs).trans N0.out
  have n1 := (HB2'.out.frozen (p := ⟨w.heap.size, 1, none⟩) hRs).trans N1.out
  have K0 := Lib.hid l0
  have K1 := Lib.hid l1
  have M0 := Lib.hid n0
  have M1 := Lib.hid n1
  have HWB := Lib.hid (show Below w.heap.size w W2 from HB.out.trans (HB2'.out.mono (by omega)))
  clear hW2 hs2 b2 l0 l1 n0 n1 HS HB2 HR2 hsR
  go_region_held3 (fun w' => w'.cell? ⟨s2, 0, none⟩ = some (.int .i64 P) ∧ w'.cell? ⟨s2, 1, none⟩ = some (.slice A2 k c2)) (go_keep) (first
    | (go_simp; go_at_call 76; refine (setOf_any R 1000 W2.drew P A2 k c2 (by omega) hp0 hp1 HRD.out).mono ?_; rintro e w4 ⟨s, rfl, hg4⟩; have G4 := Lib.hid (gby_trans (gby_drewN W2 (some R) 1) hg4); have t0 := (World.cell?_of_block (a := ⟨s2, 0, none⟩) (G4.out.block s2 hs2l (by simp; exact HSR.out))).trans q0; have t1 := (World.cell?_of_block (a := ⟨s2, 1, none⟩) (G4.out.block s2 hs2l (by simp; exact HSR.out))).trans q1; clear hg4; have l0 := (World.cell?_of_block (a := ⟨w.heap.size, 0, none⟩) (G4.out.block w.heap.size hwR (by simp; omega))).trans K0.out; have l1 := (World.cell?_of_block (a := ⟨w.heap.size, 1, none⟩) (G4.out.block w.heap.size hwR (by simp; omega))).trans K1.out; have n0 := (World.frozen?_of_block (a := ⟨w.heap.size, 0, none⟩) (G4.out.block w.heap.size hwR (by simp; omega))).trans M0.out; have n1 := (World.frozen?_of_block (a := ⟨w.heap.size, 1, none⟩) (G4.out.block w.heap.size hwR (by simp; omega))).trans M1.out; have hne : ¬ (w.heap.size = s2) := (by omega); dsimp only))
  go_wp2_with fail
  refine bodyPost_ret (v := .tuple #[.agg #[.int .i64 P, .slice A2 k c2], .int .i64 s]) ?_ rfl (show DkPost w _ _ _ from ⟨P, 0, s, A2, k, c2, rows, rfl, ?_, hk, HL.out, ?_⟩)
  · have hres : Try.f42.results = #[.cell 2 27, .tmp 3] := by kernel_rfl
    simp [results, hres]
    go_simp
  · exact (((S2.out.gby G4.out (by omega)).setLow (by omega)).setLow (by omega)).ss
  · exact ((HWB.out.trans (gby_belowB G4.out (by omega) (by omega))).setCell (Nat.le_refl _) _).setCell (Nat.le_refl _) _

end Go.Proofs.Ytlodhgkecpjieaa
