/-
  Ru0. By a program (wip/tools/mk.py) out of snippets.
-/
import Derived.Test.YtblaaeanbhgokaaSS
import Derived.Test.YtblaaeanbhgokaaFn2
namespace Go.Proofs.Ytblaaeanbhgokaa
open Go.RowKit

set_option maxHeartbeats 400000 in
theorem indexFuncSS_any (g : Nat) (caps : Array Value) (p : List Int → Bool) (A : Option Addr) (n c : Nat) (rows : List (List Int)) (C : World → Prop) (w : World) (hn : n ≤ 9000000000000000000) (hw : C w)
    (eg : ∀ args w, (callFunc g args).run Try.prog w = .ok (.enter g args) w)
    (ha : ∀ W, C W → SS W A n rows) (hf : ∀ k, k < n → ∀ W A' n' c', C W → SI W A' n' (rat rows k) → Calls Try.prog g (#[.slice A' n' c'] ++ caps) W fun e w' => e = .returned (.bool (p (rat rows k))) ∧ C w') :
    Calls Try.prog 110 #[.slice A n c, .func (.func g) #[] caps] w fun e w' => ∃ r : Int, e = .returned (.int .i64 r) ∧ -1 ≤ r ∧ r ≤ n ∧ decide (0 ≤ r) = rows.any p ∧ C w' := by
  have hlen := Lib.hid (ha w hw).len
  have HF := Lib.hid hf; clear hf
  go_enter Try.func110, Try.ntmps110
  go_wp2
  go_loopg [8] n (fun gg s8 wr => ∃ k : Nat, k ≤ n ∧ n - k ≤ gg ∧ s8 = .int .i64 k ∧ C wr ∧ Aside (∀ j, j < k → p (rat rows j) = false))
  case atStart => exact ⟨0, Nat.zero_le _, by omega, rfl, hw, fun j hj => absurd hj (Nat.not_lt_zero _)⟩
  case round =>
    obtain ⟨k, hk, hg, rfl, hC, A0⟩ := hrel
    have HC := Lib.hid hC
    by_cases hlt : k < n
    · obtain ⟨b, off, A', n', c', rfl, h1, h2⟩ := (ha _ hC).at_ hlt
      have hcall := Lib.hid (HF.out k hlt wr A' n' c' hC h2)
      clear ha hC h2
      cases hq : p (rat rows k) with
      | true =>
        rw [hq] at hcall
        have HQ := Lib.hid hq; clear hq
        go_wp2_with (go_at_fn g; refine (hcall.out).mono ?_; rintro e w' ⟨rfl, hC'⟩)
        go_ret
        refine ⟨(k : Int), rfl, by omega, by omega, ?_, hC'⟩
        have : rows.any p = true := List.any_eq_true.2 ⟨_, rat_mem (by rw [hlen.out]; exact hlt), HQ.out⟩
        rw [this]; simp
      | false =>
        rw [hq] at hcall
        have HQ := Lib.hid hq; clear hq
        go_wp2_with (go_at_fn g; refine (hcall.out).mono ?_; rintro e w' ⟨rfl, hC'⟩)
        go_roundg (n - (k + 1))
        case measure => omega
        case rel =>
          refine ⟨k + 1, by omega, by omega, by go_num, hC', (show Aside _ from fun j hj => ?_)⟩
          by_cases e : j = k
          · subst e; exact HQ.out
          · exact A0.out j (by omega)
    · obtain rfl : k = n := by omega
      clear ha hC
      go_wp2
      go_ret
      refine ⟨-1, rfl, by omega, by omega, ?_, HC.out⟩
      have : rows.any p = false := by
        rw [List.any_eq_false]
        intro x hx
        obtain ⟨j, hj, rfl⟩ := List.mem_iff_getElem.1 hx
        have := A0.out j (by rw [hlen.out] at hj; exact hj)
        rw [rat_eq hj] at this
        simp [this]
      rw [this]; rfl

theorem containsFuncSS_any (g : Nat) (caps : Array Value) (p : List Int → Bool) (A : Option Addr) (n c : Nat) (rows : List (List Int)) (C : World → Prop) (w : World) (hn : n ≤ 9000000000000000000) (hw : C w)
    (eg : ∀ args w, (callFunc g args).run Try.prog w = .ok (.enter g args) w)
    (ha : ∀ W, C W → SS W A n rows) (hf : ∀ k, k < n → ∀ W A' n' c', C W → SI W A' n' (rat rows k) → Calls Try.prog g (#[.slice A' n' c'] ++ caps) W fun e w' => e = .returned (.bool (p (rat rows k))) ∧ C w') :
    Calls Try.prog 100 #[.slice A n c, .func (.func g) #[] caps] w fun e w' => e = .returned (.bool (rows.any p)) ∧ C w' := by
  have H := Lib.hid (indexFuncSS_any g caps p A n c rows C w hn hw eg ha hf)
  generalize rows.any p = z at H
  clear eg ha hf
  go_enter Try.func100, Try.ntmps100
  go_wp2_with fail
  refine H.out.mono ?_
  rintro e w' ⟨r, rfl, hr0, hr1, hr2, hC'⟩
  have HR := Lib.hid hr2; clear hr2
  go_wp2_with fail
  go_ret
  exact ⟨by rw [← HR.out]; rfl, hC'⟩

end Go.Proofs.Ytblaaeanbhgokaa
