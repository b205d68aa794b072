/-
  LVRun. By a program (wip/tools/mk.py) out of snippets.
-/
import Derived.Test.YtblaaeanbhgokaaSRun
import Derived.Test.YtblaaeanbhgokaaToRun
import Derived.Test.YtblaaeanbhgokaaFr
namespace Go.Proofs.Ytblaaeanbhgokaa
open Go.RowKit

def DrPost (w : World) (e : Ending) (w' : World) : Prop :=
  ∃ (A : Option Addr) (j c : Nat) (xs : List Int) (B : Option Addr) (k d : Nat) (ys : List Int), e = .returned (.agg #[.slice A j c, .slice B k d]) ∧ SI w' A j xs ∧ SI w' B (k * 3) ys ∧ j ≤ 100 ∧ k ≤ 100 ∧ k ≤ d ∧ Below w.heap.size w w'
set_option maxHeartbeats 1600000 in
theorem drawValidRun_any (A : Option Addr) (n c : Nat) (bs : List Int) (w : World) (hc : n ≤ c) (hn : n ≤ 2000000) (hs : SB w A n bs) :
    Calls Try.prog 31 #[.slice A n c] w (DrPost w) := by
  obtain ⟨W, hW⟩ : ∃ W, W = w.alloc (.cells #[.slice none 0 0, .slice none 0 0] 44) := ⟨_, rfl⟩
  have hb : Below w.heap.size w W := by rw [hW]; exact (Below.refl _ _).alloc (Nat.le_refl _) _
  have hz : W.heap.size = w.heap.size + 1 := by rw [hW]; simp
  have hsW : SB W A n bs := by
    refine ⟨hs.1, hs.2.1, fun hp => ?_⟩
    obtain ⟨b, off, e, hcl⟩ := hs.2.2 hp
    refine ⟨b, off, e, fun i hi => ?_⟩
    have h1 := hcl i hi
    have := World.block_lt_of_cell? w _ h1
    rw [hW, World.cell?_alloc_lt _ _ _ this, h1]
  have l0 : W.cell? ⟨w.heap.size, 0, none⟩ = some (.slice none 0 0) := by rw [hW]; simp
  have l1 : W.cell? ⟨w.heap.size, 1, none⟩ = some (.slice none 0 0) := by rw [hW]; simp
  have n0 : W.frozen? ⟨w.heap.size, 0, none⟩ = false := by rw [hW]; go_simp
  have n1 : W.frozen? ⟨w.heap.size, 1, none⟩ = false := by rw [hW]; go_simp
  have L0 := Lib.hid l0
  have L1 := Lib.hid l1
  have N0 := Lib.hid n0
  have N1 := Lib.hid n1
  have HZ := Lib.hid hz
  have HB := Lib.hid hb
  have H := Lib.hid (newReader_any A n c bs W hc hn hsW)
  clear hs hsW hb hz l0 l1 n0 n1
  go_enter Try.func31, Try.ntmps31
  go_wp2_with fail
  rw [← hW]
  clear hW
  refine H.out.mono ?_
  rintro e w1 ⟨rfl, hR, hb1⟩
  obtain ⟨R, hRe⟩ : ∃ R, R = W.heap.size := ⟨_, rfl⟩
  rw [← hRe] at hR hb1
  rw [← hRe]
  have HB1 := Lib.hid hb1
  have HRd := Lib.hid hR
  have hRw : R = w.heap.size + 1 := by rw [hRe, HZ.out]
  have hRs : w.heap.size < R := by omega
  have HRe := Lib.hid hRe
  have hRw' := Lib.hid hRw
  clear hb1 hR hRe H hRw
  go_wp2_with fail
  refine (someRun_any R 0 w1 (by omega) HRd.out).mono ?_
  rintro e w2 ⟨A1, j, c1, xs, A2, k, c2, ys, rfl, s1, s2, hj, hk, hkc, hb2⟩
  have hB2 := HB1.out.trans hb2
  have S1 := Lib.hid ((s1.low (i := 0) (v := .slice A1 j c1) hRs).low (i := 1) (v := .slice A2 k c2) hRs).si
  have S2 := Lib.hid ((s2.low (i := 0) (v := .slice A1 j c1) hRs).low (i := 1) (v := .slice A2 k c2) hRs).si
  have l0 := (hB2.cell (p := ⟨w.heap.size, 0, none⟩) hRs).trans L0.out
  have l1 := (hB2.cell (p := ⟨w.heap.size, 1, none⟩) hRs).trans L1.out
  have n0 := (hB2.frozen (p := ⟨w.heap.size, 0, none⟩) hRs).trans N0.out
  have n1 := (hB2.frozen (p := ⟨w.heap.size, 1, none⟩) hRs).trans N1.out
  have HBe := Lib.hid (((HB.out.trans (hB2.mono (by omega))).setCell (p := ⟨w.heap.size, 0, none⟩) (Nat.le_refl _) (.slice A1 j c1)).setCell (p := ⟨w.heap.size, 1, none⟩) (Nat.le_refl _) (.slice A2 k c2))
  clear s1 s2 hb2 hB2 HB1 HRd
  go_wp2_with fail
  refine bodyPost_ret (v := .agg #[.slice A1 j c1, .slice A2 k c2]) ?_ rfl (show DrPost w _ _ from ⟨A1, j, c1, xs, A2, k, c2, ys, rfl, S1.out, S2.out, hj, hk, hkc, HBe.out⟩)
  have hres : Try.f31.results = #[.cell 2 44] := by kernel_rfl
  simp only [results, hres]
  go_simp

set_option maxRecDepth 20000 in
set_option maxHeartbeats 3200000 in
theorem lawValidRun (A : Option Addr) (n c : Nat) (byt : List Int) (w : World) (hb : byt.length = n ∧ (0 < n → ∃ b off, A = some ⟨b, off, none⟩ ∧ ∀ i, i < n → w.cell? ⟨b, off + i, none⟩ = some (.int .u8 (iat byt i)))) (hwf : ∀ z ∈ byt, (Lit.int .u8 z).wf = true) (hcap : n ≤ c) :
    Calls Try.prog 8 #[.slice A n c] w fun e w' => e = .returned (.bool true) ∧ Below w.heap.size w w' := by
  by_cases hbig : 1048576 < n
  · clear hb
    go_enter Try.func8, Try.ntmps8
    go_wp2_with fail
    go_ret
    exact ⟨rfl, Below.refl _ _⟩
  · have H := Lib.hid (drawValidRun_any A n c byt w hcap (by omega) (SB.of hb hwf))
    clear hb hwf
    go_enter Try.func8, Try.ntmps8
    go_wp2_with fail
    refine H.out.mono ?_
    rintro e w1 ⟨A1, j, c1, xs, A2, k, c2, ys, rfl, s1, s2, hj, hk, hkc, b1⟩
    obtain ⟨W, hW⟩ : ∃ W, W = w1.alloc (.cells #[.slice A1 j c1, .slice A2 k c2] 44) := ⟨_, rfl⟩
    obtain ⟨σ, hσ⟩ : ∃ s, s = w1.heap.size := ⟨_, rfl⟩
    have hB : Below w1.heap.size w1 W := by rw [hW]; exact (Below.refl _ _).alloc (Nat.le_refl _) _
    have q0 : W.cell? ⟨σ, 0, none⟩ = some (.slice A1 j c1) := by rw [hW, hσ]; simp
    have q1 : W.cell? ⟨σ, 1, none⟩ = some (.slice A2 k c2) := by rw [hW, hσ]; simp
    have HB := Lib.hid (bstep b1 hB)
    have S1 := Lib.hid (s1.below hB (Nat.le_refl _))
    have S2 := Lib.hid (s2.below hB (Nat.le_refl _))
    have hlt : σ < W.heap.size := by rw [hW, hσ]; simp
    have HL := Lib.hid hlt
    have Q0 := Lib.hid q0
    have Q1 := Lib.hid q1
    have CI := Lib.hid (fun (w' : World) k1 k2 => implValidRun_any A1 j c1 A2 k c2 xs ys w' (by omega) (by omega) k1 k2)
    have CS := Lib.hid (fun (w' : World) k1 k2 => specValidRun_any A1 j c1 A2 k c2 xs ys w' (by omega) (by omega) k1 k2)
    clear s1 s2 hB b1 H hlt q0 q1 hbig
    cases hv : vrM xs ys k with
    | false =>
      rw [hv] at CI CS
      clear hv
      go_wp2_with fail
      rw [← hW, ← hσ]
      clear hW hσ
      have q0 := Q0.out
      have q1 := Q1.out
      refine (CI.out W S1.out S2.out).mono ?_
      rintro e w2 ⟨rfl, b2⟩
      have S12 := Lib.hid (S1.out.below b2 (Nat.le_refl _))
      have S22 := Lib.hid (S2.out.below b2 (Nat.le_refl _))
      have B2 := Lib.hid (bstep HB.out b2)
      have BW := Lib.hid b2
      clear b2 q0 q1 S1 S2 HB
      have q0 := (BW.out.cell (p := ⟨σ, 0, none⟩) HL.out).trans Q0.out
      have q1 := (BW.out.cell (p := ⟨σ, 1, none⟩) HL.out).trans Q1.out
      go_wp2_with fail
      refine (CS.out w2 S12.out S22.out).mono ?_
      rintro e w3 ⟨rfl, b3⟩
      have S13 := Lib.hid (S12.out.below b3 (Nat.le_refl _))
      have S23 := Lib.hid (S22.out.below b3 (Nat.le_refl _))
      have B3 := Lib.hid (bstep B2.out b3)
      have BV := Lib.hid (bstep BW.out b3)
      clear b3 q0 q1
      have q0 := (BV.out.cell (p := ⟨σ, 0, none⟩) HL.out).trans Q0.out
      have q1 := (BV.out.cell (p := ⟨σ, 1, none⟩) HL.out).trans Q1.out
      go_wp2_with fail
      refine (CS.out w3 S13.out S23.out).mono ?_
      rintro e w4 ⟨rfl, b4⟩
      have B4 := Lib.hid (bstep B3.out b4)
      clear b4
      go_wp2_with fail
      go_ret
      exact ⟨rfl, B4.out⟩
    | true =>
      rw [hv] at CI CS
      have HV := Lib.hid hv
      clear hv
      go_wp2_with fail
      rw [← hW, ← hσ]
      clear hW hσ
      have q0 := Q0.out
      have q1 := Q1.out
      refine (CI.out W S1.out S2.out).mono ?_
      rintro e w2 ⟨rfl, b2⟩
      have S12 := Lib.hid (S1.out.below b2 (Nat.le_refl _))
      have S22 := Lib.hid (S2.out.below b2 (Nat.le_refl _))
      have B2 := Lib.hid (bstep HB.out b2)
      have BW := Lib.hid b2
      clear b2 q0 q1 S1 S2 HB
      have q0 := (BW.out.cell (p := ⟨σ, 0, none⟩) HL.out).trans Q0.out
      have q1 := (BW.out.cell (p := ⟨σ, 1, none⟩) HL.out).trans Q1.out
      go_wp2_with fail
      refine (CS.out w2 S12.out S22.out).mono ?_
      rintro e w3 ⟨rfl, b3⟩
      have S13 := Lib.hid (S12.out.below b3 (Nat.le_refl _))
      have S23 := Lib.hid (S22.out.below b3 (Nat.le_refl _))
      have B3 := Lib.hid (bstep B2.out b3)
      have BV := Lib.hid (bstep BW.out b3)
      clear b3 q0 q1 CI CS
      have q0 := (BV.out.cell (p := ⟨σ, 0, none⟩) HL.out).trans Q0.out
      have q1 := (BV.out.cell (p := ⟨σ, 1, none⟩) HL.out).trans Q1.out
      cases k with
      | zero =>
        go_wp2_with fail
        have B4 := Lib.hid (bDrewN B3.out 1)
        try go_region
        all_goals
          go_wp2_with fail
          go_ret
          exact ⟨rfl, B4.out⟩
      | succ m =>
        obtain ⟨b, off, rfl, _⟩ := S23.out.2 (by omega)
        have hw : IntKind.i64.wrap ((m : Int) + 1 - 1) = (m : Int) := by rw [IntKind.wrap_i64]; omega
        have hw1 : (m : Int) + 1 - 1 = (m : Int) := by omega
        have hwm : IntKind.i64.wrap (m : Int) = (m : Int) := by rw [IntKind.wrap_i64]; omega
        have hmc : m ≤ c2 := by omega
        have hne : (((m : Int) + 1) == 0) = false := by simp; omega
        have hne2 : ¬ ((m : Int) + 1 = 0) := by omega
        have hvt : vrM xs (ys.take (m * 3)) m = true := by
          have h1 := vrM_cut HV.out (Nat.le_succ m)
          unfold vrM at *
          rwa [stTo_take (Nat.le_refl m)]
        have CV := Lib.hid (fun (w' : World) k1 k2 => (by have := implValidRun_any A1 j c1 (some ⟨b, off, none⟩) m c2 xs (ys.take (m * 3)) w' (by omega) (by omega) k1 k2; rwa [hvt] at this : Calls Try.prog 32 #[.agg #[.slice A1 j c1, .slice (some ⟨b, off, none⟩) m c2]] w' fun e w2 => e = .returned (.bool true) ∧ Below w'.heap.size w' w2))
        have S14 := Lib.hid (S13.out.below (bDrewN (Below.refl w3.heap.size w3) 1) (Nat.le_refl _))
        have S24 := Lib.hid ((S23.out.take (m := m * 3) (by omega)).below (bDrewN (Below.refl w3.heap.size w3) 1) (Nat.le_refl _))
        have B4 := Lib.hid (bDrewN B3.out 1)
        clear hvt
        go_wp2_with fail
        go_region_with (go_simp; go_at_call 32; refine (CV.out w3.drew S14.out S24.out).mono ?_; rintro e w6 ⟨rfl, b6⟩; have B6 := Lib.hid (bstep B4.out b6); clear b6)
        all_goals
          go_wp2_with fail
          go_ret
          exact ⟨rfl, B6.out⟩

end Go.Proofs.Ytblaaeanbhgokaa
