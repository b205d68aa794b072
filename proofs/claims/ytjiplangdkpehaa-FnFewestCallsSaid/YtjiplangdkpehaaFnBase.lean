/-
  FnBase. By a program (wip/tools/mk.py) out of snippets.
-/
import Derived.Test.YtjiplangdkpehaaFn2
namespace Go.Proofs.Ytjiplangdkpehaa
open Go.RowKit

theorem equalInts_true (A B : Option Addr) (n c c' : Nat) (zs : List Int) (w : World) (hn : n ≤ 9000000000000000000) (ha : SI w A n zs) (hb : SI w B n zs) :
    Calls Try.prog 33 #[.slice A n c, .slice B n c'] w fun e w' => Qt w (.bool true) e w' := by
  go_enter Try.func33, Try.ntmps33
  go_wp2
  go_loopw [5] (fun i wr => ∃ k : Nat, k ≤ n ∧ i = .int .i64 k ∧ ∃ m, wr = w.drewN m) (fun i _ => n - (intOf i).toNat)
  case atStart => exact ⟨0, by omega, rfl, 0, rfl⟩
  case round =>
    obtain ⟨k, hk, rfl, m, rfl⟩ := hrel
    by_cases hlt : k < n
    · obtain ⟨b, off, rfl, h1⟩ := ha.at_ hlt
      obtain ⟨b', off', rfl, h2⟩ := hb.at_ hlt
      clear ha hb
      go_wp2
      go_quiet (fail)
      go_wp2
      go_roundw
      case rel => exact ⟨k + 1, by omega, by go_num, by first | exact ⟨_, rfl⟩ | trivial⟩
      case measure => simp [intOf]; omega
    · clear ha hb
      go_wp2
      go_ret
      exact ⟨rfl, m, rfl⟩

theorem power_any (k : Nat) (w : World) (hk : k ≤ 60) :
    Calls Try.prog 37 #[.int .i64 k] w fun e w' => e = .returned (.int .i64 ((2 ^ k : Nat) : Int)) ∧ w = w' := by
  have hp : 2 ^ k ≤ 1152921504606846976 := by
    have := Nat.pow_le_pow_right (n := 2) (by omega) hk
    exact Nat.le_trans this (by decide)
  obtain ⟨p, hP⟩ : ∃ p, p = 2 ^ k := ⟨_, rfl⟩
  rw [← hP] at hp
  have HP := Lib.hid hP
  rw [← hP]
  clear hP
  go_enter Try.func37, Try.ntmps37
  go_wp2
  go_loopg [0, 3] k (fun gg nv av wr => ∃ j a : Nat, j ≤ gg ∧ nv = .int .i64 j ∧ av = .int .i64 a ∧ a ≤ p ∧ Aside (a * 2 ^ j = 2 ^ k) ∧ j ≤ k ∧ w = wr)
  case atStart => exact ⟨k, 1, Nat.le_refl _, rfl, rfl, by rw [HP.out]; exact Nat.one_le_two_pow, Nat.one_mul _, Nat.le_refl _, rfl⟩
  case round =>
    obtain ⟨j, a, hg, rfl, rfl, ha, HA, hj, rfl⟩ := hrel
    by_cases h0 : 0 < j
    · obtain ⟨j, rfl⟩ : ∃ i, j = i + 1 := ⟨j - 1, by omega⟩
      have h2 : 2 * a ≤ p := by
        have h1 := HA.out
        rw [HP.out, ← h1, Nat.pow_succ, ← Nat.mul_assoc, Nat.mul_comm 2 a]
        exact Nat.mul_le_mul_right _ (Nat.le_mul_of_pos_right _ (Nat.two_pow_pos j))
      go_wp2
      go_roundg j
      case measure => omega
      case rel => exact ⟨j, 2 * a, Nat.le_refl _, by go_num, by go_num, h2, by show 2 * a * 2 ^ j = 2 ^ k; have h1 := HA.out; rw [Nat.pow_succ] at h1; rw [← h1, Nat.mul_comm 2 a, Nat.mul_assoc, Nat.mul_comm 2 (2 ^ j)], by omega, rfl⟩
    · obtain rfl : j = 0 := by omega
      have h1 : a = p := by have h1 := HA.out; rw [HP.out, ← h1]; simp
      subst h1
      go_wp2
      go_ret
      exact ⟨rfl, rfl⟩

end Go.Proofs.Ytjiplangdkpehaa
