/-
  Fn2. By a program (wip/tools/mk.py) out of snippets.
-/
import Derived.Test.YtfjpnennbdefiaaFn1
import Derived.Test.YtfjpnennbdefiaaBase
namespace Go.Proofs.Ytfjpnennbdefiaa
open Go.RowKit



end Go.Proofs.Ytfjpnennbdefiaa
