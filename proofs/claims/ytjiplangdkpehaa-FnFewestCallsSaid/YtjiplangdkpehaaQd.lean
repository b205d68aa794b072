/-
  Qd. By a program (wip/tools/mk.py) out of snippets.
-/
import Derived.Test.YtjiplangdkpehaaBase
namespace Go.Proofs.Ytjiplangdkpehaa
open Go.RowKit

/-- A callee that only reads, in a world that has drawn. -/
theorem quietD {P : Program} {f : FuncId} {args : Array Value} {w : World} {m x : Nat} {v : Value} (h : Calls P f args (w.drewN (m + x)) fun e w' => Qt (w.drewN (m + x)) v e w') :
    Calls P f args (w.drewN (m + x)) fun e w'' => e = .returned v ∧ ∃ n, w'' = w.drewN (m + n) :=
  h.mono fun e w' ⟨he, q, hq⟩ => ⟨he, x + q, by rw [hq, World.drewN_drewN, Nat.add_assoc]⟩
theorem quietP {P : Program} {f : FuncId} {args : Array Value} {w : World} {m x : Nat} {v : Value} (h : Calls P f args (w.drewN (m + x)) fun e w' => e = .returned v ∧ w.drewN (m + x) = w') :
    Calls P f args (w.drewN (m + x)) fun e w'' => e = .returned v ∧ ∃ n, w'' = w.drewN (m + n) :=
  h.mono fun e w' ⟨he, hq⟩ => ⟨he, x, hq.symm⟩

end Go.Proofs.Ytjiplangdkpehaa
