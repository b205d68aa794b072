/-
  LMu. By a program (wip/tools/mk.py) out of snippets.
-/
import Derived.Test.YtfjpnennbdefiaaMuI
import Derived.Test.YtfjpnennbdefiaaMuS
import Derived.Test.YtfjpnennbdefiaaDMu
namespace Go.Proofs.Ytfjpnennbdefiaa
open Go.RowKit

set_option maxHeartbeats 1600000 in
theorem lawExactMuddyOf (n w0 : Int) (w : World) (_hn : (Lit.int .i64 n).wf = true) (_hw : (Lit.int .i64 w0).wf = true) :
    Calls Try.prog 4 #[.int .i64 n, .int .i64 w0] w fun e w' => e = .returned (.bool true) ∧ Below w.heap.size w w' := by
  have CS := Lib.hid (fun w => specMuddyOf_any n w0 w)
  have CI := Lib.hid (fun w => implMuddyOf_any n w0 w)
  generalize muK n w0 = k at *
  generalize muE n w0 = s at *
  have h1 : (k != k) = false := by simp
  have h2 : (s != s) = false := by simp
  go_enter Try.func4, Try.ntmps4
  go_wp2_with fail
  refine (CS.out _).mono ?_
  rintro e w1 ⟨rfl, b1⟩
  go_wp2_with fail
  refine (CI.out _).mono ?_
  rintro e w2 ⟨rfl, b2⟩
  have B2 := Lib.hid (bstep b1 b2)
  clear b1 b2
  go_wp2_with fail
  go_ret
  exact ⟨rfl, B2.out⟩

set_option maxHeartbeats 1600000 in
theorem lawMuddyOf (A : Option Addr) (n c : Nat) (bs : List Int) (w : World) (hb : bs.length = n ∧ (0 < n → ∃ b off, A = some ⟨b, off, none⟩ ∧ ∀ i, i < n → w.cell? ⟨b, off + i, none⟩ = some (.int .u8 (iat bs i)))) (hwf : ∀ z ∈ bs, (Lit.int .u8 z).wf = true) (hcap : n ≤ c) :
    Calls Try.prog 5 #[.slice A n c] w fun e w' => e = .returned (.bool true) ∧ Below w.heap.size w w' := by
  by_cases hbig : 1048576 < n
  · clear hb
    go_enter Try.func5, Try.ntmps5
    go_wp2_with fail
    go_ret
    exact ⟨rfl, Below.refl _ _⟩
  · have H := Lib.hid (drawMuddyOf_any A n c bs w hcap (by omega) (SB.of hb hwf))
    clear hb hwf
    go_enter Try.func5, Try.ntmps5
    go_wp2_with fail
    refine H.out.mono ?_
    rintro e w1 ⟨x, y, rfl, hx, hy, B1⟩
    have CS := Lib.hid (fun w => specMuddyOf_any x y w)
    have CI := Lib.hid (fun w => implMuddyOf_any x y w)
    have KEY : (muK x y = 0 ∧ muE x y = 0) ∨ ∃ N M : Nat, x = N ∧ y = M ∧ muK x y = (wtN N M : Nat) ∧ muE x y = y ∧ M < 2 ^ N ∧ 1 ≤ wtN N M ∧ wtN N M ≤ N := by
      cases h : (inR x 1 4 && inR y 1 (2 ^ x.toNat - 1)) with
      | false => exact .inl (muK_out h)
      | true =>
        right
        have h2 := h
        rw [Bool.and_eq_true] at h2
        obtain ⟨h3, h4⟩ := h2
        have h3' := inR_iff.1 h3
        obtain ⟨N, rfl⟩ : ∃ N : Nat, x = N := ⟨x.toNat, by omega⟩
        have ec : ((2 : Int) ^ N) = ((2 ^ N : Nat) : Int) := by simp
        rw [Int.toNat_natCast, ec] at h4
        have h4' := inR_iff.1 h4
        obtain ⟨M, rfl⟩ : ∃ M : Nat, y = M := ⟨y.toNat, by omega⟩
        obtain ⟨_, hfa⟩ := muFacts (n := N) (by omega) (by omega)
        obtain ⟨⟨hk1, hk2⟩, _⟩ := hfa M (by omega) (by omega)
        refine ⟨N, M, rfl, rfl, ?_, ?_, by omega, hk1, hk2⟩
        · unfold muK
          rw [h]
          rfl
        · unfold muE
          rw [h]
          rfl
    clear H
    rcases KEY with ⟨e1, e2⟩ | ⟨N, M, rfl, rfl, e1, e2, hM, hk1, hk2⟩
    · rw [e1, e2] at CS CI
      clear e1 e2
      go_wp2_with fail
      refine (CI.out _).mono ?_
      rintro e w2 ⟨rfl, b2⟩
      have B2 := bstep B1 b2
      clear b2 B1
      go_wp2_with fail
      refine (CS.out _).mono ?_
      rintro e w3 ⟨rfl, b3⟩
      have B3 := Lib.hid (bstep B2 b3)
      clear b3 B2
      go_wp2_with fail
      go_ret
      exact ⟨rfl, B3.out⟩
    · rw [e1, e2] at CS CI
      have HWt := Lib.hid (fun w' => weight_any N M w' hM (by omega))
      clear e1 e2
      generalize wtN N M = k at *
      have h1 : ((k : Int) != (k : Int)) = false := by simp
      have h2 : ((M : Int) != (M : Int)) = false := by simp
      have h3 : ((k : Int) == 0) = false := by simp; omega
      have h4 : ((k : Int) == (k : Int)) = true := by simp
      have h5 : ((M : Int) == (M : Int)) = true := by simp
      go_wp2_with fail
      refine (CI.out _).mono ?_
      rintro e w2 ⟨rfl, b2⟩
      have B2 := bstep B1 b2
      clear b2 B1
      go_wp2_with fail
      refine (CS.out _).mono ?_
      rintro e w3 ⟨rfl, b3⟩
      have B3 := Lib.hid (bstep B2 b3)
      clear b3 B2
      go_wp2_with fail
      refine (HWt.out _).mono ?_
      rintro e w4 ⟨rfl, rfl⟩
      go_wp2_with fail
      go_ret
      exact ⟨rfl, B3.out⟩

end Go.Proofs.Ytfjpnennbdefiaa
