/-
  Mud2. By a program (wip/tools/mk.py) out of snippets.
-/
import Derived.Test.YtfjpnennbdefiaaMud
namespace Go.Proofs.Ytfjpnennbdefiaa
open Go.RowKit

theorem FR.setLow {w : World} {lo hi : Nat} {A : Option Addr} {k : Nat} {rows : List (List Int)} (h : FR w lo hi A k rows) {p : Addr} (hp : p.block < lo) (v : Value) : FR (w.setCell p v) lo hi A k rows :=
  h.wn (lo' := p.block) (hi' := p.block + 1) ⟨rfl, rfl, rfl, by simp, fun i _ ho => Below.heap_setCell _ _ _ _ (by omega)⟩ (.inr (by omega))
theorem muW_in {n : Nat} (h1 : 1 ≤ n) (h2 : n ≤ 4) : muW n = ((2 ^ n : Nat) : Int) ∧ muR n = (List.range n).map (muRow n) ∧ inR n 1 4 = true := by
  have : inR (n : Int) 1 4 = true := inR_true (by omega)
  simp [muW, muR, this]
theorem muW_out {n : Int} (h : ¬ (1 ≤ n ∧ n ≤ 4)) : muW n = 0 ∧ muR n = [] ∧ inR n 1 4 = false := by
  have : inR n 1 4 = false := inR_false h
  simp [muW, muR, this]

end Go.Proofs.Ytfjpnennbdefiaa
