/-
  RlI. By a program (wip/tools/mk.py) out of snippets.
-/
import Derived.Test.YtblaaeanbhgokaaRlS2
namespace Go.Proofs.Ytblaaeanbhgokaa
open Go.RowKit

def ruV (t g : Nat) : Value :=
  .iface (if t = 0 ∨ t = 2 then 107 else 110) (.agg #[.slice (some ⟨g, 0, none⟩) (ruN t) (ruN t), .func (.func (if t = 0 then 103 else if t = 1 then 104 else if t = 2 then 105 else 107)) #[] #[]])
set_option maxHeartbeats 1600000 in
theorem implmeetingOf_any (s : ByteArray) (w : World) : Calls Try.prog 86 #[.string s] w fun e w' =>
    if rlT s < 4 then e = .returned (ruV (rlT s) w.heap.size) ∧ w' = w.alloc (.cells (ints (ruS (rlT s))) 3) else e = .returned .nilIface ∧ w' = w := by
  rcases rlT_cases s with ⟨e0, ht⟩ | ⟨e0, e1, ht⟩ | ⟨e0, e1, e2, ht⟩ | ⟨e0, e1, e2, e3, ht⟩ | ⟨e0, e1, e2, e3, ht⟩
  all_goals
    rw [ht]
    clear ht
    go_enter Try.func86, Try.ntmps86
    go_wp2_with fail
    go_ret
    exact ⟨rfl, rfl⟩

end Go.Proofs.Ytblaaeanbhgokaa
