/-
  DV3. By a program (wip/tools/mk.py) out of snippets.
-/
import Derived.Test.YtlodhgkecpjieaaDV2
import Derived.Test.YtlodhgkecpjieaaEqV
namespace Go.Proofs.Ytlodhgkecpjieaa
open Go.RowKit

set_option maxHeartbeats 1600000 in
theorem setOf_any (R N : Nat) (w : World) (P : Int) (A : Option Addr) (k c : Nat) (hN : N ≤ 2000) (hp0 : 0 ≤ P) (hp1 : P ≤ 17) (h : Rd w R N) :
    Calls Try.prog 76 #[.pointer (some ⟨R, 0, none⟩), .agg #[.int .i64 P, .slice A k c]] w fun e w' => ∃ s : Int, e = .returned (.int .i64 s) ∧ w.grownBy w' (some R) := by
  have hR := h.1
  obtain ⟨W, hW⟩ : ∃ W, W = w.alloc (.cells #[.int .i64 P, .slice A k c] 27) := ⟨_, rfl⟩
  have hb : w.grownBy W (some R) := by rw [hW]; exact gby_below ((Below.refl w.heap.size w).alloc (Nat.le_refl _) _) (Nat.le_refl _)
  have hr : Rd W R N := by rw [hW]; exact h.alloc _
  have q0 : W.cell? ⟨w.heap.size, 0, none⟩ = some (.int .i64 P) := by rw [hW]; simp
  have HB := Lib.hid hb
  have HR := Lib.hid hr
  have e1 : ¬ P < 0 := by omega
  have e2 : max P 0 = P := by omega
  obtain ⟨n, hn, hn16⟩ : ∃ n : Nat, min P 16 = n ∧ n ≤ 16 := ⟨(min P 16).toNat, by omega, by omega⟩
  have HPw := Lib.hid (fun w => specpower_any n w (by omega))
  have hpp := Nat.two_pow_pos n
  have hp2 : 2 ^ n ≤ 65536 := pow16 hn16
  generalize 2 ^ n = p at *
  have hpz : ((p : Int) == 0) = false := by simp; omega
  clear hb hr h
  by_cases h16 : 16 < P
  all_goals
    first
      | rw [show (n : Int) = 16 by omega] at HPw
      | rw [show (n : Int) = P by omega] at HPw
    clear hn hn16
    go_enter Try.func76, Try.ntmps76
    go_wp2_with fail
    rw [← hW]
    clear hW
    refine (pick_b R N 24 W (by omega) (by omega) HR.out).mono ?_
    rintro e w1 ⟨r, rfl, hr0, hr1, _, hR1, hg1, hb1⟩
    have HB1 := Lib.hid (gby_trans HB.out hg1)
    have HR1 := Lib.hid hR1
    clear hr1 hR1 hg1 hb1 q0
    by_cases hr : r = 0
    · subst hr
      go_wp2_with fail
      refine (HPw.out _).mono ?_
      rintro e w' ⟨rfl, rfl⟩
      go_wp2_with fail
      refine (one_lit R (N + 1) _ w1 3 [-1, (p : Int)] 2 rfl rfl (by omega) (by omega) (by omega) HR1.out).mono ?_
      rintro e w2 ⟨z, rfl, hz, hR2, hg2, hb2⟩
      have HB2 := Lib.hid (gby_trans HB1.out hg2)
      clear hz hR2 hg2 hb2
      go_wp2_with fail
      go_ret
      exact ⟨z, rfl, HB2.out⟩
    · have e0 : (r == 0) = false := by simpa using hr
      go_wp2_with fail
      refine (pick_b R (N + 1) 256 w1 (by omega) (by omega) HR1.out).mono ?_
      rintro e w2 ⟨x, rfl, hx0, hx1, _, hR2, hg2, hb2⟩
      have HB2 := Lib.hid (gby_trans HB1.out hg2)
      have HR2 := Lib.hid hR2
      have hx2 : x ≤ 255 := by have := hx1 (by omega); omega
      clear hx1 hR2 hg2 hb2
      go_wp2_with fail
      refine (pick_b R (N + 2) 256 w2 (by omega) (by omega) HR2.out).mono ?_
      rintro e w3 ⟨y, rfl, hy0, hy1, _, hR3, hg3, hb3⟩
      have HB3 := Lib.hid (gby_trans HB2.out hg3)
      have HR3 := Lib.hid hR3
      have hy2 : y ≤ 255 := by have := hy1 (by omega); omega
      clear hy1 hR3 hg3 hb3
      go_wp2_with fail
      refine (pick_b R (N + 3) 2 w3 (by omega) (by omega) HR3.out).mono ?_
      rintro e w4 ⟨r2, rfl, hs0, hs1, _, hR4, hg4, hb4⟩
      have HB4 := Lib.hid (gby_trans HB3.out hg4)
      have HR4 := Lib.hid hR4
      clear hs1 hR4 hg4 hb4
      by_cases hr2 : r2 = 0
      · subst hr2
        go_wp2_with fail
        refine (pick_b R (N + 4) 256 w4 (by omega) (by omega) HR4.out).mono ?_
        rintro e w5 ⟨x2, rfl, hu0, hu1, _, hR5, hg5, hb5⟩
        have HB5 := Lib.hid (gby_trans HB4.out hg5)
        have HR5 := Lib.hid hR5
        have hu2 : x2 ≤ 255 := by have := hu1 (by omega); omega
        clear hu1 hR5 hg5 hb5
        go_wp2_with fail
        refine (pick_b R (N + 5) 256 w5 (by omega) (by omega) HR5.out).mono ?_
        rintro e w6 ⟨y2, rfl, hv0, hv1, _, hR6, hg6, hb6⟩
        have HB6 := Lib.hid (gby_trans HB5.out hg6)
        have hv2 : y2 ≤ 255 := by have := hv1 (by omega); omega
        clear hv1 hR6 hg6 hb6
        go_wp2_with fail
        refine (HPw.out _).mono ?_
        rintro e w' ⟨rfl, rfl⟩
        go_wp2_with fail
        go_ret
        exact ⟨_, rfl, HB6.out⟩
      · have e3 : (r2 == 0) = false := by simpa using hr2
        go_wp2_with fail
        refine (HPw.out _).mono ?_
        rintro e w' ⟨rfl, rfl⟩
        go_wp2_with fail
        go_ret
        exact ⟨_, rfl, HB4.out⟩

/-- What the drawer of a view and a set leaves. -/
def DkPost (w : World) (f : Int → Int → Array Value) (e : Ending) (w' : World) : Prop :=
  ∃ (P a s : Int) (A : Option Addr) (k c : Nat) (rows : List (List Int)), e = .returned (.tuple (#[.agg #[.int .i64 P, .slice A k c]] ++ f a s)) ∧ SS w' A k rows ∧ k ≤ 4 ∧ (∀ i, i < k → (rat rows i).length ≤ 2000000) ∧ Below w.heap.size w w'
set_option maxHeartbeats 1600000 in
theorem drawKnowsOf_any (A : Option Addr) (n c : Nat) (bs : List Int) (w : World) (hc : n ≤ c) (hn : n ≤ 2000000) (hs : SB w A n bs) :
    Calls Try.prog 36 #[.slice A n c] w (DkPost w fun a s => #[.int .i64 a, .int .i64 s]) := by
  obtain ⟨W, hW⟩ : ∃ W, W = w.alloc (.cells #[.int .i64 0, .slice none 0 0] 27) := ⟨_, rfl⟩
  have hb : Below w.heap.size w W := by rw [hW]; exact (Below.refl _ _).alloc (Nat.le_refl _) _
  have hz : W.heap.size = w.heap.size + 1 := by rw [hW]; simp
  have hsW : SB W A n bs := by
    refine ⟨hs.1, hs.2.1, fun hp => ?_⟩
    obtain ⟨b, off, e, hcl⟩ := hs.2.2 hp
    refine ⟨b, off, e, fun i hi => ?_⟩
    have h1 := hcl i hi
    have := World.block_lt_of_cell? w _ h1
    rw [hW, World.cell?_alloc_lt _ _ _ this, h1]
  have l0 : W.cell? ⟨w.heap.size, 0, none⟩ = some (.int .i64 0) := by rw [hW]; simp
  have l1 : W.cell? ⟨w.heap.size, 1, none⟩ = some (.slice none 0 0) := by rw [hW]; simp
  have n0 : W.frozen? ⟨w.heap.size, 0, none⟩ = false := by rw [hW]; go_simp
  have n1 : W.frozen? ⟨w.heap.size, 1, none⟩ = false := by rw [hW]; go_simp
  have L0 := Lib.hid l0
  have L1 := Lib.hid l1
  have N0 := Lib.hid n0
  have N1 := Lib.hid n1
  have HZ := Lib.hid hz
  have HB := Lib.hid hb
  have H := Lib.hid (newReader_any A n c bs W hc hn hsW)
  clear hs hsW hb hz l0 l1 n0 n1
  go_enter Try.func36, Try.ntmps36
  go_wp2_with fail
  rw [← hW]
  clear hW
  refine H.out.mono ?_
  rintro e w1 ⟨rfl, hR, hb1⟩
  obtain ⟨R, hRe⟩ : ∃ R, R = W.heap.size := ⟨_, rfl⟩
  rw [← hRe] at hR hb1
  rw [← hRe]
  have HRe := Lib.hid hRe
  have HB1 := Lib.hid hb1
  have HRd := Lib.hid hR
  have hRw : R = w.heap.size + 1 := by rw [hRe, HZ.out]
  have hRs : w.heap.size < R := by omega
  clear hb1 hR hRe H
  have hRw' := Lib.hid hRw
  clear hRw
  go_wp2_with fail
  refine (someView_any R 0 w1 (by omega) HRd.out).mono ?_
  rintro e w2 ⟨P, A2, k, c2, rows, rfl, hS, hk, hl, hp0, hp1, hR2, hb2⟩
  have HS := Lib.hid hS
  have HL := Lib.hid hl
  have HR2 := Lib.hid hR2
  have HB2 := Lib.hid (HB1.out.trans hb2)
  have hR2lt := hR2.1
  clear hS hl hR2 hb2 HB1 HRd
  go_wp2_with fail
  obtain ⟨W2, hW2⟩ : ∃ W, W = w2.alloc (.cells #[.int .i64 P, .slice A2 k c2] 27) := ⟨_, rfl⟩
  rw [← hW2]
  have b2 : Below w2.heap.size w2 W2 := by rw [hW2]; exact (Below.refl _ _).alloc (Nat.le_refl _) _
  have X2 := Lib.hid (show Bx W2 w2.heap.size P A2 k c2 by rw [hW2]; exact Bx.new _ _ _ _ _ _)
  obtain ⟨s2, hs2⟩ : ∃ s, s = w2.heap.size := ⟨_, rfl⟩
  rw [← hs2] at X2
  rw [← hs2]
  have hRs2 : R < s2 := by omega
  have S2 := Lib.hid (HS.out.gby (w' := W2) (R := R) (gby_below b2 (Nat.le_refl _)) (by omega))
  have HB2' := Lib.hid (HB2.out.trans (b2.mono (by omega)))
  have HRD := Lib.hid ((HR2.out.below b2 (by omega)).below (bDrewN (Below.refl W2.heap.size W2) 1) (by have := X2.out.lt; omega))
  have q0 := X2.out.c0
  have q1 := X2.out.c1
  have hs2l := X2.out.lt
  have hsR : s2 ≠ R := by omega
  have HSR := Lib.hid hsR
  have hwR : w.heap.size < W2.heap.size := by omega
  have l0 := (HB2'.out.cell (p := ⟨w.heap.size, 0, none⟩) hRs).trans L0.out
  have l1 := (HB2'.out.cell (p := ⟨w.heap.size, 1, none⟩) hRs).trans L1.out
  have n0 := (HB2'.out.frozen (p := ⟨w.heap.size, 0, none⟩) hRs).trans N0.out
  have n1 := (HB2'.out.frozen (p := ⟨w.heap.size, 1, none⟩) hRs).trans N1.out
  have K0 := Lib.hid l0
  have K1 := Lib.hid l1
  have M0 := Lib.hid n0
  have M1 := Lib.hid n1
  have HWB := Lib.hid (show Below w.heap.size w W2 from HB.out.trans (HB2'.out.mono (by omega)))
  clear hW2 hs2 b2 l0 l1 n0 n1 HS HB2 HR2 hsR
  go_region_held3 (fun w' => w'.cell? ⟨s2, 0, none⟩ = some (.int .i64 P) ∧ w'.cell? ⟨s2, 1, none⟩ = some (.slice A2 k c2)) (go_keep) (first
    | (go_simp; go_at_call 75; refine (one_lit R 1000 W2.heap.size W2.drew 3 [0, 0, 1, 2, 4, -1] 6 rfl rfl (by omega) (by omega) (by omega) HRD.out).mono ?_; rintro e w3 ⟨a, rfl, ha, hR3, hg3, hb3⟩; have G3 := Lib.hid (gby_trans (gby_drewN W2 (some R) 1) hg3); have r0 := (World.cell?_of_block (a := ⟨s2, 0, none⟩) (G3.out.block s2 hs2l (by simp; exact HSR.out))).trans q0; have r1 := (World.cell?_of_block (a := ⟨s2, 1, none⟩) (G3.out.block s2 hs2l (by simp; exact HSR.out))).trans q1; have HR3 := Lib.hid hR3; clear ha hR3 hg3 hb3; dsimp only)
    | (go_simp; go_at_call 76; refine (setOf_any R (1000 + 1) w3 P A2 k c2 (by omega) hp0 hp1 HR3.out).mono ?_; rintro e w4 ⟨s, rfl, hg4⟩; have G4 := Lib.hid (gby_trans G3.out hg4); have t0 := (World.cell?_of_block (a := ⟨s2, 0, none⟩) (G4.out.block s2 hs2l (by simp; exact HSR.out))).trans q0; have t1 := (World.cell?_of_block (a := ⟨s2, 1, none⟩) (G4.out.block s2 hs2l (by simp; exact HSR.out))).trans q1; clear hg4; have l0 := (World.cell?_of_block (a := ⟨w.heap.size, 0, none⟩) (G4.out.block w.heap.size hwR (by simp; omega))).trans K0.out; have l1 := (World.cell?_of_block (a := ⟨w.heap.size, 1, none⟩) (G4.out.block w.heap.size hwR (by simp; omega))).trans K1.out; have n0 := (World.frozen?_of_block (a := ⟨w.heap.size, 0, none⟩) (G4.out.block w.heap.size hwR (by simp; omega))).trans M0.out; have n1 := (World.frozen?_of_block (a := ⟨w.heap.size, 1, none⟩) (G4.out.block w.heap.size hwR (by simp; omega))).trans M1.out; have hne : ¬ (w.heap.size = s2) := (by omega); dsimp only))
  go_wp2_with fail
  refine bodyPost_ret (v := .tuple #[.agg #[.int .i64 P, .slice A2 k c2], .int .i64 a, .int .i64 s]) ?_ rfl (show DkPost w _ _ _ from ⟨P, a, s, A2, k, c2, rows, rfl, ?_, hk, HL.out, ?_⟩)
  · have hres : Try.f36.results = #[.cell 2 27, .tmp 3, .tmp 4] := by kernel_rfl
    simp [results, hres]
    go_simp
  · exact (((S2.out.gby G4.out (by omega)).setLow (by omega)).setLow (by omega)).ss
  · exact ((HWB.out.trans (gby_belowB G4.out (by omega) (by omega))).setCell (Nat.le_refl _) _).setCell (Nat.le_refl _) _

end Go.Proofs.Ytlodhgkecpjieaa
