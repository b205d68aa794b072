/-
  Fn1. By a program (wip/tools/mk.py) out of snippets.
-/
import Derived.Test.YtblaaeanbhgokaaWd
namespace Go.Proofs.Ytblaaeanbhgokaa
open Go.RowKit

theorem within_any (n lo hi : Int) (w : World) : Calls Try.prog 60 #[.int .i64 n, .int .i64 lo, .int .i64 hi] w fun e w' => e = .returned (.bool (inR n lo hi)) ∧ w = w' := by
  by_cases h1 : lo ≤ n
  · by_cases h2 : n ≤ hi
    · go_enter Try.func60, Try.ntmps60
      go_wp2
      go_ret
      exact ⟨by rw [inR_true ⟨h1, h2⟩]; rfl, rfl⟩
    · go_enter Try.func60, Try.ntmps60
      go_wp2
      go_ret
      exact ⟨by rw [inR_false (by omega)]; rfl, rfl⟩
  · go_enter Try.func60, Try.ntmps60
    go_wp2
    go_ret
    exact ⟨by rw [inR_false (by omega)]; rfl, rfl⟩

theorem inRange_any (n lo hi : Int) (w : World) : Calls Try.prog 58 #[.int .i64 n, .int .i64 lo, .int .i64 hi] w fun e w' => e = .returned (.bool (inR n lo hi)) ∧ w = w' := by
  by_cases h1 : lo ≤ n
  · by_cases h2 : n ≤ hi
    · go_enter Try.func58, Try.ntmps58
      go_wp2
      go_ret
      exact ⟨by rw [inR_true ⟨h1, h2⟩]; rfl, rfl⟩
    · go_enter Try.func58, Try.ntmps58
      go_wp2
      go_ret
      exact ⟨by rw [inR_false (by omega)]; rfl, rfl⟩
  · go_enter Try.func58, Try.ntmps58
    go_wp2
    go_ret
    exact ⟨by rw [inR_false (by omega)]; rfl, rfl⟩

set_option maxHeartbeats 400000 in
/-- slices.IndexFunc at []int, whatever function value that keeps a class of worlds. -/
theorem indexFunc_any (g : Nat) (caps : Array Value) (p : Int → Bool) (A : Option Addr) (n c : Nat) (zs : List Int) (C : World → Prop) (w : World) (hn : n ≤ 9000000000000000000) (hw : C w)
    (eg : ∀ args w, (callFunc g args).run Try.prog w = .ok (.enter g args) w)
    (ha : ∀ W, C W → SI W A n zs) (hf : ∀ k, k < n → ∀ W, C W → Calls Try.prog g (#[.int .i64 (iat zs k)] ++ caps) W fun e w' => e = .returned (.bool (p (iat zs k))) ∧ C w') :
    Calls Try.prog 95 #[.slice A n c, .func (.func g) #[] caps] w fun e w' => e = .returned (.int .i64 (fidx p zs)) ∧ C w' := by
  have hlen := Lib.hid (ha w hw).len
  have HF := Lib.hid hf; clear hf
  go_enter Try.func95, Try.ntmps95
  go_wp2
  go_loopg [8] n (fun gg s8 wr => ∃ k : Nat, k ≤ n ∧ n - k ≤ gg ∧ s8 = .int .i64 k ∧ C wr ∧ Aside (∀ j, j < k → p (iat zs j) = false))
  case atStart => exact ⟨0, Nat.zero_le _, by omega, rfl, hw, fun j hj => absurd hj (Nat.not_lt_zero _)⟩
  case round =>
    obtain ⟨k, hk, hg, rfl, hC, A0⟩ := hrel
    have HC := Lib.hid hC
    by_cases hlt : k < n
    · obtain ⟨b, off, rfl, h1⟩ := (ha _ hC).at_ hlt
      have hcall := Lib.hid (HF.out k hlt wr hC)
      clear ha hC
      cases hq : p (iat zs k) with
      | true =>
        rw [hq] at hcall
        have HQ := Lib.hid hq; clear hq
        go_wp2_with (go_at_fn g; refine (hcall.out).mono ?_; rintro e w' ⟨rfl, hC'⟩)
        go_ret
        refine ⟨?_, hC'⟩
        rw [fidx_hit (by rw [hlen.out]; exact hlt) HQ.out A0.out]
        rfl
      | false =>
        rw [hq] at hcall
        have HQ := Lib.hid hq; clear hq
        go_wp2_with (go_at_fn g; refine (hcall.out).mono ?_; rintro e w' ⟨rfl, hC'⟩)
        go_roundg (n - (k + 1))
        case measure => omega
        case rel =>
          refine ⟨k + 1, by omega, by omega, by go_num, hC', (show Aside _ from fun j hj => ?_)⟩
          by_cases e : j = k
          · subst e; exact HQ.out
          · exact A0.out j (by omega)
    · obtain rfl : k = n := by omega
      clear ha hC
      go_wp2
      go_ret
      refine ⟨?_, HC.out⟩
      rw [fidx_miss (fun j hj => A0.out j (by rw [hlen.out] at hj; exact hj))]
      rfl

theorem containsFunc_any (g : Nat) (caps : Array Value) (p : Int → Bool) (A : Option Addr) (n c : Nat) (zs : List Int) (C : World → Prop) (w : World) (hn : n ≤ 9000000000000000000) (hw : C w)
    (eg : ∀ args w, (callFunc g args).run Try.prog w = .ok (.enter g args) w)
    (ha : ∀ W, C W → SI W A n zs) (hf : ∀ k, k < n → ∀ W, C W → Calls Try.prog g (#[.int .i64 (iat zs k)] ++ caps) W fun e w' => e = .returned (.bool (p (iat zs k))) ∧ C w') :
    Calls Try.prog 66 #[.slice A n c, .func (.func g) #[] caps] w fun e w' => e = .returned (.bool (zs.any p)) ∧ C w' := by
  have H := Lib.hid (indexFunc_any g caps p A n c zs C w hn hw eg ha hf)
  have hany := Lib.hid (fidx_any p zs)
  generalize hz : zs.any p = z at hany
  clear hz
  generalize hy : fidx p zs = y at H hany
  have hbd : -1 ≤ y := by have := (fidx_bd (p := p) (zs := zs)).1; omega
  clear hy eg ha hf
  go_enter Try.func66, Try.ntmps66
  go_wp2_with (go_at_call 95; refine H.out.mono ?_; rintro e w' ⟨rfl, hC'⟩)
  go_ret
  exact ⟨by rw [← hany.out]; rfl, hC'⟩

end Go.Proofs.Ytblaaeanbhgokaa
