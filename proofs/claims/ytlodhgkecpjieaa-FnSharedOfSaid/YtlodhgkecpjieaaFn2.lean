/-
  Fn2. By a program (wip/tools/mk.py) out of snippets.
-/
import Derived.Test.YtlodhgkecpjieaaFn1
import Derived.Test.YtlodhgkecpjieaaBase
namespace Go.Proofs.Ytlodhgkecpjieaa
open Go.RowKit

theorem clip_any (b off n c : Nat) (w : World) (_hn : 0 < n) (hc : n ≤ c) (hm : n ≤ 9000000000000000000) :
    Calls Try.prog 54 #[.slice (some ⟨b, off, none⟩) n c] w fun e w' => e = .returned (.slice (some ⟨b, off, none⟩) n n) ∧ w = w' := by
  go_enter Try.func54, Try.ntmps54
  go_wp2
  go_ret
  exact ⟨rfl, rfl⟩

end Go.Proofs.Ytlodhgkecpjieaa
