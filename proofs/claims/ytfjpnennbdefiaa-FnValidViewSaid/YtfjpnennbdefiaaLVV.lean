/-
  LVV. By a program (wip/tools/mk.py) out of snippets.
-/
import Derived.Test.YtfjpnennbdefiaaViewI2
import Derived.Test.YtfjpnennbdefiaaViewS
namespace Go.Proofs.Ytfjpnennbdefiaa
open Go.RowKit



end Go.Proofs.Ytfjpnennbdefiaa
