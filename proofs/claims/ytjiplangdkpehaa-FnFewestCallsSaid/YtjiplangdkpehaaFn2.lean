/-
  Fn2. By a program (wip/tools/mk.py) out of snippets.
-/
import Derived.Test.YtjiplangdkpehaaFn1
import Derived.Test.YtjiplangdkpehaaBase
namespace Go.Proofs.Ytjiplangdkpehaa
open Go.RowKit



end Go.Proofs.Ytjiplangdkpehaa
