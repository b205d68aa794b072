/-
  Base. By a program (wip/tools/mk.py) out of snippets.
-/
import Derived.Test.YtfjpnennbdefiaaWd
namespace Go.Proofs.Ytfjpnennbdefiaa
open Go.RowKit



end Go.Proofs.Ytfjpnennbdefiaa
