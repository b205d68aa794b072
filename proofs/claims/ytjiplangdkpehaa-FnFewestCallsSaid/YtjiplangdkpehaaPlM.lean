/-
  PlM. By a program (wip/tools/mk.py) out of snippets.
-/
import Derived.Test.YtjiplangdkpehaaPlan3
import Derived.Test.YtjiplangdkpehaaGTab
namespace Go.Proofs.Ytjiplangdkpehaa
open Go.RowKit

def planChk (n : Nat) : Bool := ifA n (plL n) (plN n) && plN n == fewN n
theorem planChk_all : ([1, 2, 3, 4, 5, 6].all planChk) = true := by kernel_rfl
theorem planFacts {n : Nat} (h : n ∈ [1, 2, 3, 4, 5, 6]) : ifA n (plL n) (plN n) = true ∧ plN n = fewN n := by
  have := List.all_eq_true.1 planChk_all n h
  unfold planChk at this
  simpa using this

end Go.Proofs.Ytjiplangdkpehaa
