/-
  LVV2. By a program (wip/tools/mk.py) out of snippets.
-/
import Derived.Test.YtfjpnennbdefiaaTellA
import Derived.Test.YtfjpnennbdefiaaDV2
import Derived.Test.YtfjpnennbdefiaaEqV
import Derived.Test.YtfjpnennbdefiaaFnBase
import Derived.Test.YtfjpnennbdefiaaLVV
import Derived.Deep.RegionHeld3
namespace Go.Proofs.Ytfjpnennbdefiaa
open Go.RowKit

def DvPost (w : World) (e : Ending) (w' : World) : Prop :=
  ∃ (P : Int) (A : Option Addr) (k c : Nat) (rows : List (List Int)), e = .returned (.agg #[.int .i64 P, .slice A k c]) ∧ SS w' A k rows ∧ k ≤ 4 ∧ (∀ i, i < k → (rat rows i).length ≤ 2000000) ∧ Below w.heap.size w w'
set_option maxHeartbeats 1600000 in
theorem drawValidView_any (A : Option Addr) (n c : Nat) (bs : List Int) (w : World) (hc : n ≤ c) (hn : n ≤ 2000000) (hs : SB w A n bs) :
    Calls Try.prog 6 #[.slice A n c] w (DvPost w) := by
  obtain ⟨W, hW⟩ : ∃ W, W = w.alloc (.cells #[.int .i64 0, .slice none 0 0] 25) := ⟨_, rfl⟩
  have hb : Below w.heap.size w W := by rw [hW]; exact (Below.refl _ _).alloc (Nat.le_refl _) _
  have hz : W.heap.size = w.heap.size + 1 := by rw [hW]; simp
  have hsW : SB W A n bs := by
    refine ⟨hs.1, hs.2.1, fun hp => ?_⟩
    obtain ⟨b, off, e, hcl⟩ := hs.2.2 hp
    refine ⟨b, off, e, fun i hi => ?_⟩
    have h1 := hcl i hi
    have := World.block_lt_of_cell? w _ h1
    rw [hW, World.cell?_alloc_lt _ _ _ this, h1]
  have l0 : W.cell? ⟨w.heap.size, 0, none⟩ = some (.int .i64 0) := by rw [hW]; simp
  have l1 : W.cell? ⟨w.heap.size, 1, none⟩ = some (.slice none 0 0) := by rw [hW]; simp
  have n0 : W.frozen? ⟨w.heap.size, 0, none⟩ = false := by rw [hW]; go_simp
  have n1 : W.frozen? ⟨w.heap.size, 1, none⟩ = false := by rw [hW]; go_simp
  have L0 := Lib.hid l0
  have L1 := Lib.hid l1
  have N0 := Lib.hid n0
  have N1 := Lib.hid n1
  have HZ := Lib.hid hz
  have HB := Lib.hid hb
  have H := Lib.hid (newReader_any A n c bs W hc hn hsW)
  clear hs hsW hb hz l0 l1 n0 n1
  go_enter Try.func6, Try.ntmps6
  go_wp2_with fail
  rw [← hW]
  clear hW
  refine H.out.mono ?_
  rintro e w1 ⟨rfl, hR, hb1⟩
  obtain ⟨R, hRe⟩ : ∃ R, R = W.heap.size := ⟨_, rfl⟩
  rw [← hRe] at hR hb1
  rw [← hRe]
  have HB1 := Lib.hid hb1
  have HRd := Lib.hid hR
  have hRw : R = w.heap.size + 1 := by rw [hRe, HZ.out]
  have hRs : w.heap.size < R := by omega
  have HRe := Lib.hid hRe
  have hRw' := Lib.hid hRw
  clear hb1 hR hRe H hRw
  go_wp2_with fail
  refine (someView_any R 0 w1 (by omega) HRd.out).mono ?_
  rintro e w2 ⟨P, A2, k, c2, rows, rfl, hS, hk, hl, hp0, hp1, hR2, hb2⟩
  have hB2 := HB1.out.trans hb2
  have HS := Lib.hid (((hS.setLow (R := w.heap.size) (i := 0) (v := .int .i64 P) (by omega)).setLow (R := w.heap.size) (i := 1) (v := .slice A2 k c2) (by omega)).ss)
  have HL := Lib.hid hl
  have l0 := (hB2.cell (p := ⟨w.heap.size, 0, none⟩) hRs).trans L0.out
  have l1 := (hB2.cell (p := ⟨w.heap.size, 1, none⟩) hRs).trans L1.out
  have n0 := (hB2.frozen (p := ⟨w.heap.size, 0, none⟩) hRs).trans N0.out
  have n1 := (hB2.frozen (p := ⟨w.heap.size, 1, none⟩) hRs).trans N1.out
  have HBe := Lib.hid (((HB.out.trans (hB2.mono (by omega))).setCell (p := ⟨w.heap.size, 0, none⟩) (Nat.le_refl _) (.int .i64 P)).setCell (p := ⟨w.heap.size, 1, none⟩) (Nat.le_refl _) (.slice A2 k c2))
  clear hS hl hR2 hb2 hB2 HB1 HRd
  go_wp2_with fail
  refine bodyPost_ret (v := .agg #[.int .i64 P, .slice A2 k c2]) ?_ rfl (show DvPost w _ _ from ⟨P, A2, k, c2, rows, rfl, HS.out, hk, HL.out, HBe.out⟩)
  have hres : Try.f6.results = #[.cell 2 25] := by kernel_rfl
  simp only [results, hres]
  go_simp

set_option maxRecDepth 20000 in
set_option maxHeartbeats 3200000 in
theorem lawValidView (A : Option Addr) (n c : Nat) (byt : List Int) (w : World) (hb : byt.length = n ∧ (0 < n → ∃ b off, A = some ⟨b, off, none⟩ ∧ ∀ i, i < n → w.cell? ⟨b, off + i, none⟩ = some (.int .u8 (iat byt i)))) (hwf : ∀ z ∈ byt, (Lit.int .u8 z).wf = true) (hcap : n ≤ c) :
    Calls Try.prog 3 #[.slice A n c] w fun e w' => e = .returned (.bool true) ∧ Below w.heap.size w w' := by
  by_cases hbig : 1048576 < n
  · clear hb
    go_enter Try.func3, Try.ntmps3
    go_wp2_with fail
    go_ret
    exact ⟨rfl, Below.refl _ _⟩
  · have H := Lib.hid (drawValidView_any A n c byt w hcap (by omega) (SB.of hb hwf))
    clear hb hwf
    go_enter Try.func3, Try.ntmps3
    go_wp2_with fail
    refine H.out.mono ?_
    rintro e w1 ⟨P, A1, k, c1, rows, rfl, hS, hk, hl, b1⟩
    obtain ⟨W, s1, hW, hs1, x1, f1, B1, y1⟩ := boxed w1 P A1 k c1 25 rows hS w.heap.size w b1 (Nat.le_refl _)
    have X1 := Lib.hid x1
    have S1 := Lib.hid f1
    have B1 := Lib.hid B1
    have HL := Lib.hid hl
    have hk2 : k ≤ 2000000 := by omega
    have hrl := hS.1
    clear x1 f1 y1 b1 hS hl H
    have CI := Lib.hid (fun w' h => implValidView_any P A1 k c1 rows w' hk2 HL.out h)
    have CS := Lib.hid (fun w' h => specValidView_any P A1 k c1 rows w' hk2 HL.out h)
    cases hv : vv P rows with
    | false =>
      rw [hv] at CI CS
      clear hv
      go_wp2_with fail
      rw [← hW, ← hs1]
      clear hW hs1
      have q0 := X1.out.c0
      have q1 := X1.out.c1
      refine (CI.out W S1.out).mono ?_
      rintro e w2 ⟨rfl, b2⟩
      have X2 := Lib.hid (X1.out.later b2)
      have S2 := Lib.hid (S1.out.below b2 (Nat.le_refl _))
      have B2 := Lib.hid (bstep B1.out b2)
      clear b2 X1 S1 B1 q0 q1
      have q0 := X2.out.c0
      have q1 := X2.out.c1
      go_wp2_with fail
      refine (CS.out w2 S2.out).mono ?_
      rintro e w3 ⟨rfl, b3⟩
      have X3 := Lib.hid (X2.out.later b3)
      have S3 := Lib.hid (S2.out.below b3 (Nat.le_refl _))
      have B3 := Lib.hid (bstep B2.out b3)
      clear b3 X2 S2 B2 q0 q1
      have q0 := X3.out.c0
      have q1 := X3.out.c1
      go_wp2_with fail
      refine (CS.out w3 S3.out).mono ?_
      rintro e w4 ⟨rfl, b4⟩
      have B4 := Lib.hid (bstep B3.out b4)
      clear b4
      go_wp2_with fail
      go_ret
      exact ⟨rfl, B4.out⟩
    | true =>
      obtain ⟨h1, h2, _⟩ := vv_iff.1 hv
      obtain ⟨N, rfl⟩ : ∃ N : Nat, P = N := ⟨P.toNat, by omega⟩
      have hGV := GV.of hv
      rw [Int.toNat_natCast, hrl] at hGV
      obtain ⟨hgd, hvt, hal, hfu⟩ := tellFacts hv
      have hp16 := pow16 (n := N) (by omega)
      have hp1 := Nat.two_pow_pos N
      have hkt : ∀ i, i < k → (rat (tlV rows N (2 ^ N - 1)) i).length ≤ 2000000 := fun i hi => by
        rw [tlV_at (by omega), tlRow_length]; omega
      have HKT := Lib.hid hkt
      have CT := Lib.hid (fun w' h => implTellAll_in N k (2 ^ N - 1) c1 A1 rows w' hGV hgd (by omega) hk2 HL.out h)
      have CP := Lib.hid (fun w' => power_any N w' (by omega))
      have CVT := Lib.hid (fun A' c' w' h => (by have := implValidView_any N A' k c' (tlV rows N (2 ^ N - 1)) w' hk2 HKT.out h; rw [hvt] at this; exact this : Calls Try.prog 7 #[.agg #[.int .i64 N, .slice A' k c']] w' fun e w2 => e = .returned (.bool true) ∧ Below w'.heap.size w' w2))
      have CAT := Lib.hid (fun A' c' w' h => (by have := implAllKnow_any N 1 A' k c' (tlV rows N (2 ^ N - 1)) w' hk2 HKT.out h; rw [hal] at this; exact this : Calls Try.prog 11 #[.agg #[.int .i64 N, .slice A' k c'], .int .i64 1] w' fun e w2 => e = .returned (.int .i64 (alA N rows 1)) ∧ Below w'.heap.size w' w2))
      have CA1 := Lib.hid (fun w' h => implAllKnow_any N 1 A1 k c1 rows w' hk2 HL.out h)
      have CAF := Lib.hid (fun w' h => (by have := implAllKnow_any N ((2 ^ N - 1 : Nat) : Int) A1 k c1 rows w' hk2 HL.out h; rw [hfu] at this; exact this : Calls Try.prog 11 #[.agg #[.int .i64 N, .slice A1 k c1], .int .i64 ((2 ^ N - 1 : Nat) : Int)] w' fun e w2 => e = .returned (.int .i64 ((2 ^ N - 1 : Nat) : Int)) ∧ Below w'.heap.size w' w2))
      rw [hv] at CI CS
      have hsb : ((2 ^ N - 1 : Nat) : Int) = ((2 ^ N : Nat) : Int) - 1 := by omega
      rw [hsb] at CAF CT
      generalize alA N rows 1 = av at *
      generalize tlV rows N (2 ^ N - 1) = rt at *
      clear hv hgd hvt hal hfu hkt hsb h1 h2 hGV
      generalize 2 ^ N = Pw at *
      have heq1 : (av == av) = true := by simp
      go_wp2_with fail
      rw [← hW, ← hs1]
      clear hW hs1
      have q0 := X1.out.c0
      have q1 := X1.out.c1
      refine (CI.out W S1.out).mono ?_
      rintro e w2 ⟨rfl, b2⟩
      have X2 := Lib.hid (X1.out.later b2)
      have S2 := Lib.hid (S1.out.below b2 (Nat.le_refl _))
      have B2 := Lib.hid (bstep B1.out b2)
      clear b2 X1 S1 B1 q0 q1
      have q0 := X2.out.c0
      have q1 := X2.out.c1
      go_wp2_with fail
      refine (CS.out w2 S2.out).mono ?_
      rintro e w3 ⟨rfl, b3⟩
      have X3 := Lib.hid (X2.out.later b3)
      have S3 := Lib.hid (S2.out.below b3 (Nat.le_refl _))
      have B3 := Lib.hid (bstep B2.out b3)
      clear b3 X2 S2 B2 q0 q1
      have q0 := X3.out.c0
      have q1 := X3.out.c1
      go_wp2_with fail
      refine (CP.out _).mono ?_
      rintro e w4 ⟨rfl, rfl⟩
      go_wp2_with fail
      refine (CT.out w3 S3.out).mono ?_
      rintro e w4 ⟨A4, c4, rfl, hS4, b4⟩
      have X4 := Lib.hid (X3.out.later b4)
      have S4 := Lib.hid (S3.out.below b4 (Nat.le_refl _))
      have B4 := Lib.hid (bstep B3.out b4)
      obtain ⟨W5, s5, hW5, hs5, x5, f5, B5', y5⟩ := boxed w4 N A4 k c4 25 rt hS4 w.heap.size w B4.out (Nat.le_refl _)
      have X5 := Lib.hid x5
      have T5 := Lib.hid f5
      have B5 := Lib.hid B5'
      have Y5 := Lib.hid (X4.out.later y5)
      have S5 := Lib.hid (S4.out.below y5 (Nat.le_refl _))
      have hlt5 : s1 < w4.heap.size := X4.out.lt
      have hne5 : ¬ (s1 = w4.heap.size) := by omega
      clear b4 hS4 x5 f5 B5' y5 q0 q1 X3 S3 B3 X4 S4 B4 CI CS CP CT
      go_wp2_with fail
      rw [← hW5, ← hs5]
      rw [← hs5] at hlt5 hne5
      clear hW5 hs5 hne5
      have p0 := X5.out.c0
      have p1 := X5.out.c1
      have q0 := Y5.out.c0
      have q1 := Y5.out.c1
      have TD := Lib.hid (T5.out.below (bDrewN (Below.refl W5.heap.size W5) 1) (Nat.le_refl W5.heap.size))
      have heq2 : (((Pw : Int) - 1) == ((Pw : Int) - 1)) = true := by simp
      have hwp : IntKind.i64.wrap ((Pw : Int) - 1) = (Pw : Int) - 1 := IntWalk.i64_in _ (by omega)
      go_region_held3 (fun w' => w'.cell? ⟨s5, 0, none⟩ = some (.int .i64 N) ∧ w'.cell? ⟨s5, 1, none⟩ = some (.slice A4 k c4) ∧ w'.cell? ⟨s1, 0, none⟩ = some (.int .i64 N) ∧ w'.cell? ⟨s1, 1, none⟩ = some (.slice A1 k c1)) (go_keep) (first
        | (go_simp; go_at_call 7; refine (CVT.out A4 c4 W5.drew TD.out).mono ?_; rintro e w6 ⟨rfl, b60⟩; have b6 : Below W5.heap.size W5 w6 := (bDrewN (Below.refl W5.heap.size W5) 1).trans b60; have X6 := Lib.hid (X5.out.later b6); have Y6 := Lib.hid (Y5.out.later b6); have T6 := Lib.hid (T5.out.below b6 (Nat.le_refl W5.heap.size)); have S6 := Lib.hid (S5.out.below b6 (Nat.le_refl W5.heap.size)); have B6 := Lib.hid (bstep B5.out b6); have u0 := X6.out.c0; have u1 := X6.out.c1; have u2 := Y6.out.c0; have u3 := Y6.out.c1; clear b6 b60 CVT; dsimp only)
        | (go_simp; go_at_call 11; refine (CAT.out A4 c4 w6 T6.out).mono ?_; rintro e w7 ⟨rfl, b7⟩; have X7 := Lib.hid (X6.out.later b7); have Y7 := Lib.hid (Y6.out.later b7); have T7 := Lib.hid (T6.out.below b7 (Nat.le_refl w6.heap.size)); have S7 := Lib.hid (S6.out.below b7 (Nat.le_refl w6.heap.size)); have B7 := Lib.hid (bstep B6.out b7); have x0 := X7.out.c0; have x1 := X7.out.c1; have x2 := Y7.out.c0; have x3 := Y7.out.c1; clear b7 CAT; dsimp only)
        | (go_simp; go_at_call 11; refine (CA1.out w7 S7.out).mono ?_; rintro e w8 ⟨rfl, b8⟩; have X8 := Lib.hid (X7.out.later b8); have Y8 := Lib.hid (Y7.out.later b8); have T8 := Lib.hid (T7.out.below b8 (Nat.le_refl w7.heap.size)); have S8 := Lib.hid (S7.out.below b8 (Nat.le_refl w7.heap.size)); have B8 := Lib.hid (bstep B7.out b8); have y0 := X8.out.c0; have y1 := X8.out.c1; have y2 := Y8.out.c0; have y3 := Y8.out.c1; clear b8 CA1; dsimp only)
        | (go_simp; go_at_call 11; refine (CAF.out w8 S8.out).mono ?_; rintro e w9 ⟨rfl, b9⟩; have X9 := Lib.hid (X8.out.later b9); have Y9 := Lib.hid (Y8.out.later b9); have T9 := Lib.hid (T8.out.below b9 (Nat.le_refl w8.heap.size)); have S9 := Lib.hid (S8.out.below b9 (Nat.le_refl w8.heap.size)); have B9 := Lib.hid (bstep B8.out b9); have z0 := X9.out.c0; have z1 := X9.out.c1; have z2 := Y9.out.c0; have z3 := Y9.out.c1; clear b9 CAF; dsimp only))
      go_wp2_with fail
      go_ret
      exact ⟨rfl, B9.out⟩

end Go.Proofs.Ytfjpnennbdefiaa
