/-
  FnBase. By a program (wip/tools/mk.py) out of snippets.
-/
import Derived.Test.YthhfnhabnaakiaaFn2
namespace Go.Proofs.Ythhfnhabnaakiaa
open Go.RowKit

theorem equalInts_true (A B : Option Addr) (n c c' : Nat) (zs : List Int) (w : World) (hn : n ≤ 9000000000000000000) (ha : SI w A n zs) (hb : SI w B n zs) :
    Calls Try.prog 26 #[.slice A n c, .slice B n c'] w fun e w' => Qt w (.bool true) e w' := by
  go_enter Try.func26, Try.ntmps26
  go_wp2
  go_loopw [5] (fun i wr => ∃ k : Nat, k ≤ n ∧ i = .int .i64 k ∧ ∃ m, wr = w.drewN m) (fun i _ => n - (intOf i).toNat)
  case atStart => exact ⟨0, by omega, rfl, 0, rfl⟩
  case round =>
    obtain ⟨k, hk, rfl, m, rfl⟩ := hrel
    by_cases hlt : k < n
    · obtain ⟨b, off, rfl, h1⟩ := ha.at_ hlt
      obtain ⟨b', off', rfl, h2⟩ := hb.at_ hlt
      clear ha hb
      go_wp2
      go_quiet (fail)
      go_wp2
      go_roundw
      case rel => exact ⟨k + 1, by omega, by go_num, by first | exact ⟨_, rfl⟩ | trivial⟩
      case measure => simp [intOf]; omega
    · clear ha hb
      go_wp2
      go_ret
      exact ⟨rfl, m, rfl⟩

theorem isIn_any (A : Option Addr) (n c : Nat) (zs : List Int) (x : Int) (w : World) (hn : n ≤ 9000000000000000000) (ha : SI w A n zs) :
    Calls Try.prog 27 #[.slice A n c, .int .i64 x] w fun e w' => e = .returned (.bool (zs.any fun z => z == x)) ∧ w = w' := by
  have hlen := Lib.hid ha.len
  go_enter Try.func27, Try.ntmps27
  go_wp2
  go_loopg [5] n (fun gg s8 wr => ∃ k : Nat, k ≤ n ∧ n - k ≤ gg ∧ s8 = .int .i64 k ∧ w = wr ∧ Aside (∀ j, j < k → (iat zs j == x) = false))
  case atStart => exact ⟨0, Nat.zero_le _, by omega, rfl, rfl, fun j hj => absurd hj (Nat.not_lt_zero _)⟩
  case round =>
    obtain ⟨k, hk, hg, rfl, rfl, A0⟩ := hrel
    by_cases hlt : k < n
    · obtain ⟨b, off, rfl, h1⟩ := ha.at_ hlt
      clear ha
      cases hq : (iat zs k == x) with
      | true =>
        have HQ := Lib.hid hq
        go_wp2_with fail
        go_ret
        refine ⟨?_, rfl⟩
        have e : (zs.any fun z => z == x) = true := List.any_eq_true.2 ⟨_, iat_mem (by rw [hlen.out]; exact hlt), HQ.out⟩
        rw [e]
        rfl
      | false =>
        have HQ := Lib.hid hq
        go_wp2_with fail
        go_roundg (n - (k + 1))
        case measure => omega
        case rel =>
          refine ⟨k + 1, by omega, by omega, by go_num, by first | rfl | trivial, (show Aside _ from fun j hj => ?_)⟩
          by_cases e : j = k
          · subst e; exact HQ.out
          · exact A0.out j (by omega)
    · obtain rfl : k = n := by omega
      clear ha
      go_wp2_with fail
      go_ret
      refine ⟨?_, rfl⟩
      have e : (zs.any fun z => z == x) = false := by
        rw [List.any_eq_false]
        intro z hz
        obtain ⟨j, hj, rfl⟩ := List.mem_iff_getElem.1 hz
        have := A0.out j (by rw [hlen.out] at hj; exact hj)
        rw [iat_eq hj] at this
        simpa using this
      rw [e]
      rfl

theorem ascends_true (A : Option Addr) (n c : Nat) (zs : List Int) (w : World) (hn : n ≤ 9000000000000000000) (hs : ∀ i, 0 < i → i < n → iat zs (i - 1) < iat zs i) (ha : SI w A n zs) :
    Calls Try.prog 29 #[.slice A n c] w fun e w' => Qt w (.bool true) e w' := by
  have HS := Lib.hid hs; clear hs
  go_enter Try.func29, Try.ntmps29
  go_wp2
  go_loopw [3] (fun i wr => ∃ k : Nat, 1 ≤ k ∧ (k ≤ n ∨ k = 1) ∧ i = .int .i64 k ∧ ∃ m, wr = w.drewN m) (fun i _ => n - (intOf i).toNat)
  case atStart => exact ⟨1, by omega, by omega, rfl, 0, rfl⟩
  case round =>
    obtain ⟨k, hk1, hk, rfl, m, rfl⟩ := hrel
    by_cases hlt : k < n
    · obtain ⟨b, off, rfl, hc⟩ := ha.2 (by omega)
      have h1 := hc k hlt
      have h2 := hc (k - 1) (by omega)
      have h3 := HS.out k (by omega) hlt
      have e1 : IntKind.i64.wrap ((k : Int) - 1) = (k : Int) - 1 := IntWalk.i64_in _ (by omega)
      have e2 : (0 : Int) ≤ (k : Int) - 1 := by omega
      have e3 : ((k : Int) - 1).toNat = k - 1 := by omega
      clear ha hc hk
      go_wp2
      go_quiet (fail)
      go_wp2
      go_roundw
      case rel => exact ⟨k + 1, by omega, by omega, by go_num, by first | exact ⟨_, rfl⟩ | trivial⟩
      case measure => simp [intOf]; omega
    · clear ha hk
      go_wp2
      go_ret
      exact ⟨rfl, m, rfl⟩

end Go.Proofs.Ythhfnhabnaakiaa
