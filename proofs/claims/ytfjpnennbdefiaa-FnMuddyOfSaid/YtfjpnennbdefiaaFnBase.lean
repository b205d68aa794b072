/-
  FnBase. By a program (wip/tools/mk.py) out of snippets.
-/
import Derived.Test.YtfjpnennbdefiaaFn2
namespace Go.Proofs.Ytfjpnennbdefiaa
open Go.RowKit

theorem power_any (k : Nat) (w : World) (hk : k ≤ 60) :
    Calls Try.prog 9 #[.int .i64 k] w fun e w' => e = .returned (.int .i64 ((2 ^ k : Nat) : Int)) ∧ w = w' := by
  have hp : 2 ^ k ≤ 1152921504606846976 := by
    have := Nat.pow_le_pow_right (n := 2) (by omega) hk
    exact Nat.le_trans this (by decide)
  obtain ⟨p, hP⟩ : ∃ p, p = 2 ^ k := ⟨_, rfl⟩
  rw [← hP] at hp
  have HP := Lib.hid hP
  rw [← hP]
  clear hP
  go_enter Try.func9, Try.ntmps9
  go_wp2
  go_loopg [0, 3] k (fun gg nv av wr => ∃ j a : Nat, j ≤ gg ∧ nv = .int .i64 j ∧ av = .int .i64 a ∧ a ≤ p ∧ Aside (a * 2 ^ j = 2 ^ k) ∧ j ≤ k ∧ w = wr)
  case atStart => exact ⟨k, 1, Nat.le_refl _, rfl, rfl, by rw [HP.out]; exact Nat.one_le_two_pow, Nat.one_mul _, Nat.le_refl _, rfl⟩
  case round =>
    obtain ⟨j, a, hg, rfl, rfl, ha, HA, hj, rfl⟩ := hrel
    by_cases h0 : 0 < j
    · obtain ⟨j, rfl⟩ : ∃ i, j = i + 1 := ⟨j - 1, by omega⟩
      have h2 : 2 * a ≤ p := by
        have h1 := HA.out
        rw [HP.out, ← h1, Nat.pow_succ, ← Nat.mul_assoc, Nat.mul_comm 2 a]
        exact Nat.mul_le_mul_right _ (Nat.le_mul_of_pos_right _ (Nat.two_pow_pos j))
      go_wp2
      go_roundg j
      case measure => omega
      case rel => exact ⟨j, 2 * a, Nat.le_refl _, by go_num, by go_num, h2, by show 2 * a * 2 ^ j = 2 ^ k; have h1 := HA.out; rw [Nat.pow_succ] at h1; rw [← h1, Nat.mul_comm 2 a, Nat.mul_assoc, Nat.mul_comm 2 (2 ^ j)], by omega, rfl⟩
    · obtain rfl : j = 0 := by omega
      have h1 : a = p := by have h1 := HA.out; rw [HP.out, ← h1]; simp
      subst h1
      go_wp2
      go_ret
      exact ⟨rfl, rfl⟩

end Go.Proofs.Ytfjpnennbdefiaa
