/-
  RlI2. By a program (wip/tools/mk.py) out of snippets.
-/
import Derived.Test.YtblaaeanbhgokaaRlI
import Derived.Test.YtblaaeanbhgokaaRlR
import Derived.Test.YtblaaeanbhgokaaBase
import Derived.Deep.DeepCutAuto
import Derived.Deep.CutBlock
import Derived.Deep.AppendLies
import Derived.Deep.RegionLaw
namespace Go.Proofs.Ytblaaeanbhgokaa
open Go.RowKit

theorem quietV {P : Program} {f : FuncId} {args : Array Value} {w : World} {x : Nat} {v : Value} (h : Calls P f args (w.drewN x) fun e w' => e = .returned v ∧ w.drewN x = w') :
    Calls P f args (w.drewN x) fun e w'' => e = .returned v ∧ ∃ n, w'' = w.drewN n :=
  h.mono fun e w' ⟨he, hq⟩ => ⟨he, x, hq.symm⟩
theorem rulesOf1_any (B g n : Nat) (ev : Nat → Nat → Int) (a b : Nat) (ha : a < n) (hb : b < n) (w : World) (hc : w.cell? ⟨B, 1, none⟩ = some (.func (.func g) #[] #[])) (eg : ∀ args w, (callFunc g args).run Try.prog w = .ok (.enter g args) w)
    (hE : ∀ (x y : Nat), x < n → y < n → ∀ W, Calls Try.prog g #[.int .i64 x, .int .i64 y] W fun e w' => e = .returned (.int .i64 (ev x y)) ∧ W = w') :
    Calls Try.prog 108 #[.int .i64 a, .int .i64 b, .pointer (some ⟨B, 0, none⟩)] w fun e w' => e = .returned (.tuple #[.int .i64 (ev a b), .int .i64 (ev b a)]) ∧ ∃ q, w' = w.drewN q := by
  have HE := Lib.hid hE
  clear hE
  go_enter Try.func108, Try.ntmps108
  go_wp2_with fail
  go_quiet (first | (go_at_fn g; exact quietV (HE.out _ _ (by assumption) (by assumption) _)))
  go_wp2_with fail
  go_ret2
  exact ⟨rfl, _, rfl⟩

theorem clipSS_any (b off n c : Nat) (w : World) (hn : 0 < n) (hc : n ≤ c) (hm : n ≤ 9000000000000000000) :
    Calls Try.prog 109 #[.slice (some ⟨b, off, none⟩) n c] w fun e w' => e = .returned (.slice (some ⟨b, off, none⟩) n n) ∧ w = w' := by
  go_enter Try.func109, Try.ntmps109
  go_wp2
  go_ret
  exact ⟨rfl, rfl⟩

end Go.Proofs.Ytblaaeanbhgokaa
