/-
  No cell of these rows narrows 'for every input' (looked for: loops, veiled, ifaces, maps, wideKeys, modest, calm, conditions, laid).
  DERIVED. THE GIVEN ROWS OF THIS SEAT. 11 by the template 'for every input the law returns true; each argument reads behind the call as it read before'; 0 by the template 'total and deterministic' (their statements: YthhfnhabnaakiaaTotals.lean).
  GIVEN WITH THE SEED: the statements are not yours to turn. If you find one false, say at which input.
  Laid BY PROGRAM, IN A SANDBOX (cutbox-rows.mjs): the forced cells as the released guide's own fill.sh prints them over the translation fd9267c89924c34a… (all of the seat's roots in one cut). By AI agents, Wed Nov 11 2026. No macro, syntax, notation, axiom, sorry.
-/
import Derived.Test.YthhfnhabnaakiaaChecked
import GoSem.Claim
import GoSem.ClaimJoined
import GoSem.ClaimMapViews
import Derived.JoinedTies
import Derived.KernelRfl
namespace Go.Proofs.Ythhfnhabnaakiaa
/- THE CELL 'sum', in the pinned program and in every row, IS THE sha256 OF THE DUMP (.gsa) THAT YthhfnhabnaakiaaProg.lean LOADS. Nothing in Lean hashes anything: it is a label: what it is worth is what the hold of that sum in a sandbox is worth. -/
noncomputable def Try.pinned : Pinned := { name := "ythhfnhabnaakiaa", sum := "fd9267c89924c34a4dcc96da06aa475b841f43c2141e0d3e126b51e5e4ffc019", checked := Try.checked }
namespace Rows
def none {H : Type} : Left H := { results := [], args := [] }

/-- 'laws.FnExactConstants': WHATEVER THE INPUT: true; the input reads as it did. -/
def fnExactConstantsSpec : ChangeSpec := { name := "fnExactConstants", fn := fun _ => fun
  | [] => { results := [.lit (.bool true)], args := [] }
  | _ => none }
def fnExactConstantsRow : OpenClaim := { program := "ythhfnhabnaakiaa", sum := "fd9267c89924c34a4dcc96da06aa475b841f43c2141e0d3e126b51e5e4ffc019", func := "loop.example/ringsandrounds/laws.FnExactConstants", spec := "fnExactConstants", apart := false }
def FnExactConstantsSaid : Prop := fnExactConstantsRow.holds Try.pinned (OpenSpec.ofChange fnExactConstantsSpec)

/-- ITS FALSE NEIGHBOUR: 'it returns false'. Refute it at one input. -/
def fnExactConstantsWrong : ChangeSpec := { name := "fnExactConstants", fn := fun _ => fun
  | [] => { results := [.lit (.bool false)], args := [] }
  | _ => none }
def FnExactConstantsWrongFalsely : Prop := fnExactConstantsRow.holds Try.pinned (OpenSpec.ofChange fnExactConstantsWrong)

/-- 'laws.FnExactValidTokens': WHATEVER THE INPUT: true; the input reads as it did. -/
def fnExactValidTokensSpec : ChangeSpec := { name := "fnExactValidTokens", fn := fun _ => fun
  | [d1, d2] => { results := [.lit (.bool true)], args := [d1, d2] }
  | _ => none }
def fnExactValidTokensRow : OpenClaim := { program := "ythhfnhabnaakiaa", sum := "fd9267c89924c34a4dcc96da06aa475b841f43c2141e0d3e126b51e5e4ffc019", func := "loop.example/ringsandrounds/laws.FnExactValidTokens", spec := "fnExactValidTokens", unfollowed := true, recurses := true, apart := false }
def FnExactValidTokensSaid : Prop := fnExactValidTokensRow.holds Try.pinned (OpenSpec.ofChange fnExactValidTokensSpec)

/-- ITS FALSE NEIGHBOUR: 'it returns false'. Refute it at one input. -/
def fnExactValidTokensWrong : ChangeSpec := { name := "fnExactValidTokens", fn := fun _ => fun
  | [d1, d2] => { results := [.lit (.bool false)], args := [d1, d2] }
  | _ => none }
def FnExactValidTokensWrongFalsely : Prop := fnExactValidTokensRow.holds Try.pinned (OpenSpec.ofChange fnExactValidTokensWrong)

/-- 'laws.FnValidTokens': WHATEVER THE INPUT: true; the input reads as it did. -/
def fnValidTokensSpec : ChangeSpec := { name := "fnValidTokens", fn := fun _ => fun
  | [d] => { results := [.lit (.bool true)], args := [d] }
  | _ => none }
def fnValidTokensRow : OpenClaim := { program := "ythhfnhabnaakiaa", sum := "fd9267c89924c34a4dcc96da06aa475b841f43c2141e0d3e126b51e5e4ffc019", func := "loop.example/ringsandrounds/laws.FnValidTokens", spec := "fnValidTokens", unfollowed := true, recurses := true, apart := false }
def FnValidTokensSaid : Prop := fnValidTokensRow.holds Try.pinned (OpenSpec.ofChange fnValidTokensSpec)

/-- ITS FALSE NEIGHBOUR: 'it returns false'. Refute it at one input. -/
def fnValidTokensWrong : ChangeSpec := { name := "fnValidTokens", fn := fun _ => fun
  | [d] => { results := [.lit (.bool false)], args := [d] }
  | _ => none }
def FnValidTokensWrongFalsely : Prop := fnValidTokensRow.holds Try.pinned (OpenSpec.ofChange fnValidTokensWrong)

/-- 'laws.FnExactTokensOf': WHATEVER THE INPUT: true; the input reads as it did. -/
def fnExactTokensOfSpec : ChangeSpec := { name := "fnExactTokensOf", fn := fun _ => fun
  | [d1, d2] => { results := [.lit (.bool true)], args := [d1, d2] }
  | _ => none }
def fnExactTokensOfRow : OpenClaim := { program := "ythhfnhabnaakiaa", sum := "fd9267c89924c34a4dcc96da06aa475b841f43c2141e0d3e126b51e5e4ffc019", func := "loop.example/ringsandrounds/laws.FnExactTokensOf", spec := "fnExactTokensOf", unfollowed := true, recurses := true, apart := false }
def FnExactTokensOfSaid : Prop := fnExactTokensOfRow.holds Try.pinned (OpenSpec.ofChange fnExactTokensOfSpec)

/-- ITS FALSE NEIGHBOUR: 'it returns false'. Refute it at one input. -/
def fnExactTokensOfWrong : ChangeSpec := { name := "fnExactTokensOf", fn := fun _ => fun
  | [d1, d2] => { results := [.lit (.bool false)], args := [d1, d2] }
  | _ => none }
def FnExactTokensOfWrongFalsely : Prop := fnExactTokensOfRow.holds Try.pinned (OpenSpec.ofChange fnExactTokensOfWrong)

/-- 'laws.FnExactMoveOf': WHATEVER THE INPUT: true; the input reads as it did. -/
def fnExactMoveOfSpec : ChangeSpec := { name := "fnExactMoveOf", fn := fun _ => fun
  | [d1, d2, d3] => { results := [.lit (.bool true)], args := [d1, d2, d3] }
  | _ => none }
def fnExactMoveOfRow : OpenClaim := { program := "ythhfnhabnaakiaa", sum := "fd9267c89924c34a4dcc96da06aa475b841f43c2141e0d3e126b51e5e4ffc019", func := "loop.example/ringsandrounds/laws.FnExactMoveOf", spec := "fnExactMoveOf", unfollowed := true, recurses := true, apart := false }
def FnExactMoveOfSaid : Prop := fnExactMoveOfRow.holds Try.pinned (OpenSpec.ofChange fnExactMoveOfSpec)

/-- ITS FALSE NEIGHBOUR: 'it returns false'. Refute it at one input. -/
def fnExactMoveOfWrong : ChangeSpec := { name := "fnExactMoveOf", fn := fun _ => fun
  | [d1, d2, d3] => { results := [.lit (.bool false)], args := [d1, d2, d3] }
  | _ => none }
def FnExactMoveOfWrongFalsely : Prop := fnExactMoveOfRow.holds Try.pinned (OpenSpec.ofChange fnExactMoveOfWrong)

/-- 'laws.FnMoveOf': WHATEVER THE INPUT: true; the input reads as it did. -/
def fnMoveOfSpec : ChangeSpec := { name := "fnMoveOf", fn := fun _ => fun
  | [d] => { results := [.lit (.bool true)], args := [d] }
  | _ => none }
def fnMoveOfRow : OpenClaim := { program := "ythhfnhabnaakiaa", sum := "fd9267c89924c34a4dcc96da06aa475b841f43c2141e0d3e126b51e5e4ffc019", func := "loop.example/ringsandrounds/laws.FnMoveOf", spec := "fnMoveOf", unfollowed := true, recurses := true, apart := false }
def FnMoveOfSaid : Prop := fnMoveOfRow.holds Try.pinned (OpenSpec.ofChange fnMoveOfSpec)

/-- ITS FALSE NEIGHBOUR: 'it returns false'. Refute it at one input. -/
def fnMoveOfWrong : ChangeSpec := { name := "fnMoveOf", fn := fun _ => fun
  | [d] => { results := [.lit (.bool false)], args := [d] }
  | _ => none }
def FnMoveOfWrongFalsely : Prop := fnMoveOfRow.holds Try.pinned (OpenSpec.ofChange fnMoveOfWrong)

/-- 'laws.FnTokensOf': WHATEVER THE INPUT: true; the input reads as it did. -/
def fnTokensOfSpec : ChangeSpec := { name := "fnTokensOf", fn := fun _ => fun
  | [d] => { results := [.lit (.bool true)], args := [d] }
  | _ => none }
def fnTokensOfRow : OpenClaim := { program := "ythhfnhabnaakiaa", sum := "fd9267c89924c34a4dcc96da06aa475b841f43c2141e0d3e126b51e5e4ffc019", func := "loop.example/ringsandrounds/laws.FnTokensOf", spec := "fnTokensOf", unfollowed := true, recurses := true, apart := false }
def FnTokensOfSaid : Prop := fnTokensOfRow.holds Try.pinned (OpenSpec.ofChange fnTokensOfSpec)

/-- ITS FALSE NEIGHBOUR: 'it returns false'. Refute it at one input. -/
def fnTokensOfWrong : ChangeSpec := { name := "fnTokensOf", fn := fun _ => fun
  | [d] => { results := [.lit (.bool false)], args := [d] }
  | _ => none }
def FnTokensOfWrongFalsely : Prop := fnTokensOfRow.holds Try.pinned (OpenSpec.ofChange fnTokensOfWrong)

/-- 'laws.FnExactTourOf': WHATEVER THE INPUT: true; the input reads as it did. -/
def fnExactTourOfSpec : ChangeSpec := { name := "fnExactTourOf", fn := fun _ => fun
  | [d1, d2, d3] => { results := [.lit (.bool true)], args := [d1, d2, d3] }
  | _ => none }
def fnExactTourOfRow : OpenClaim := { program := "ythhfnhabnaakiaa", sum := "fd9267c89924c34a4dcc96da06aa475b841f43c2141e0d3e126b51e5e4ffc019", func := "loop.example/ringsandrounds/laws.FnExactTourOf", spec := "fnExactTourOf", unfollowed := true, recurses := true, apart := false }
def FnExactTourOfSaid : Prop := fnExactTourOfRow.holds Try.pinned (OpenSpec.ofChange fnExactTourOfSpec)

/-- ITS FALSE NEIGHBOUR: 'it returns false'. Refute it at one input. -/
def fnExactTourOfWrong : ChangeSpec := { name := "fnExactTourOf", fn := fun _ => fun
  | [d1, d2, d3] => { results := [.lit (.bool false)], args := [d1, d2, d3] }
  | _ => none }
def FnExactTourOfWrongFalsely : Prop := fnExactTourOfRow.holds Try.pinned (OpenSpec.ofChange fnExactTourOfWrong)

/-- 'laws.FnTourOf': WHATEVER THE INPUT: true; the input reads as it did. -/
def fnTourOfSpec : ChangeSpec := { name := "fnTourOf", fn := fun _ => fun
  | [d] => { results := [.lit (.bool true)], args := [d] }
  | _ => none }
def fnTourOfRow : OpenClaim := { program := "ythhfnhabnaakiaa", sum := "fd9267c89924c34a4dcc96da06aa475b841f43c2141e0d3e126b51e5e4ffc019", func := "loop.example/ringsandrounds/laws.FnTourOf", spec := "fnTourOf", unfollowed := true, recurses := true, apart := false }
def FnTourOfSaid : Prop := fnTourOfRow.holds Try.pinned (OpenSpec.ofChange fnTourOfSpec)

/-- ITS FALSE NEIGHBOUR: 'it returns false'. Refute it at one input. -/
def fnTourOfWrong : ChangeSpec := { name := "fnTourOf", fn := fun _ => fun
  | [d] => { results := [.lit (.bool false)], args := [d] }
  | _ => none }
def FnTourOfWrongFalsely : Prop := fnTourOfRow.holds Try.pinned (OpenSpec.ofChange fnTourOfWrong)

/-- 'laws.FnExactLegalStates': WHATEVER THE INPUT: true; the input reads as it did. -/
def fnExactLegalStatesSpec : ChangeSpec := { name := "fnExactLegalStates", fn := fun _ => fun
  | [d1, d2] => { results := [.lit (.bool true)], args := [d1, d2] }
  | _ => none }
def fnExactLegalStatesRow : OpenClaim := { program := "ythhfnhabnaakiaa", sum := "fd9267c89924c34a4dcc96da06aa475b841f43c2141e0d3e126b51e5e4ffc019", func := "loop.example/ringsandrounds/laws.FnExactLegalStates", spec := "fnExactLegalStates", unfollowed := true, recurses := true, apart := false }
def FnExactLegalStatesSaid : Prop := fnExactLegalStatesRow.holds Try.pinned (OpenSpec.ofChange fnExactLegalStatesSpec)

/-- ITS FALSE NEIGHBOUR: 'it returns false'. Refute it at one input. -/
def fnExactLegalStatesWrong : ChangeSpec := { name := "fnExactLegalStates", fn := fun _ => fun
  | [d1, d2] => { results := [.lit (.bool false)], args := [d1, d2] }
  | _ => none }
def FnExactLegalStatesWrongFalsely : Prop := fnExactLegalStatesRow.holds Try.pinned (OpenSpec.ofChange fnExactLegalStatesWrong)

/-- 'laws.FnLegalStates': WHATEVER THE INPUT: true; the input reads as it did. -/
def fnLegalStatesSpec : ChangeSpec := { name := "fnLegalStates", fn := fun _ => fun
  | [d] => { results := [.lit (.bool true)], args := [d] }
  | _ => none }
def fnLegalStatesRow : OpenClaim := { program := "ythhfnhabnaakiaa", sum := "fd9267c89924c34a4dcc96da06aa475b841f43c2141e0d3e126b51e5e4ffc019", func := "loop.example/ringsandrounds/laws.FnLegalStates", spec := "fnLegalStates", unfollowed := true, recurses := true, apart := false }
def FnLegalStatesSaid : Prop := fnLegalStatesRow.holds Try.pinned (OpenSpec.ofChange fnLegalStatesSpec)

/-- ITS FALSE NEIGHBOUR: 'it returns false'. Refute it at one input. -/
def fnLegalStatesWrong : ChangeSpec := { name := "fnLegalStates", fn := fun _ => fun
  | [d] => { results := [.lit (.bool false)], args := [d] }
  | _ => none }
def FnLegalStatesWrongFalsely : Prop := fnLegalStatesRow.holds Try.pinned (OpenSpec.ofChange fnLegalStatesWrong)

/- THE SECOND FORM. 'bulk': how many values and letters a reading holds, each counted each time it is reached (what is shared counts as often as it is met; a slice's spare places count too). A statement '..UptoSaid' is the law's where the arguments, and the package variables that the reading takes, are together of bulk at most 1048576: NARROWER than '..Said'. Prove '..Said' where nothing that the law and all that it calls make is longer than what came in: it says more and counts as full. Else prove '..UptoSaid'. A law counts once. -/
mutual
def uptoBulk {H : Type} : DataW H → Nat
  | .lit (.string bytes) => bytes.length + 1
  | .lit _ => 1
  | .nil => 1
  | .ptr d => uptoBulk d + 1
  | .slice elems spare => uptoBulkAll elems + uptoBulkAll spare + 1
  | .agg parts => uptoBulkAll parts + 1
  | .iface _ d => uptoBulk d + 1
  | .map entries => uptoBulkEntries entries + 1
  | .held _ => 1
def uptoBulkAll {H : Type} : List (DataW H) → Nat
  | [] => 0
  | d :: r => uptoBulk d + uptoBulkAll r
def uptoBulkEntries {H : Type} : List (Lit × DataW H) → Nat
  | [] => 0
  | x :: r => uptoBulkEntry x + uptoBulkEntries r
def uptoBulkEntry {H : Type} : Lit × DataW H → Nat
  | (.string bytes, d) => bytes.length + uptoBulk d + 1
  | (_, d) => uptoBulk d + 1
 end
def uptoSmall : (H : Type) → List (DataW H) → Bool := fun _ ds => decide (uptoBulkAll ds ≤ 1048576)
def OpenSpec.upto (s : _root_.Go.ChangeSpec) : _root_.Go.OpenSpec := { _root_.Go.OpenSpec.ofChange s with cond := some uptoSmall }

/-- 'laws.FnExactConstants', WHERE WHAT IT READS IS OF BULK AT MOST 1048576: true; the input reads as it did. -/
def fnExactConstantsUptoRow : OpenClaim := { program := "ythhfnhabnaakiaa", sum := "fd9267c89924c34a4dcc96da06aa475b841f43c2141e0d3e126b51e5e4ffc019", func := "loop.example/ringsandrounds/laws.FnExactConstants", spec := "fnExactConstants", apart := false, narrowed := true }
def FnExactConstantsUptoSaid : Prop := fnExactConstantsUptoRow.holds Try.pinned (OpenSpec.upto fnExactConstantsSpec)

/-- 'laws.FnExactValidTokens', WHERE WHAT IT READS IS OF BULK AT MOST 1048576: true; the input reads as it did. -/
def fnExactValidTokensUptoRow : OpenClaim := { program := "ythhfnhabnaakiaa", sum := "fd9267c89924c34a4dcc96da06aa475b841f43c2141e0d3e126b51e5e4ffc019", func := "loop.example/ringsandrounds/laws.FnExactValidTokens", spec := "fnExactValidTokens", unfollowed := true, recurses := true, apart := false, narrowed := true }
def FnExactValidTokensUptoSaid : Prop := fnExactValidTokensUptoRow.holds Try.pinned (OpenSpec.upto fnExactValidTokensSpec)

/-- 'laws.FnValidTokens', WHERE WHAT IT READS IS OF BULK AT MOST 1048576: true; the input reads as it did. -/
def fnValidTokensUptoRow : OpenClaim := { program := "ythhfnhabnaakiaa", sum := "fd9267c89924c34a4dcc96da06aa475b841f43c2141e0d3e126b51e5e4ffc019", func := "loop.example/ringsandrounds/laws.FnValidTokens", spec := "fnValidTokens", unfollowed := true, recurses := true, apart := false, narrowed := true }
def FnValidTokensUptoSaid : Prop := fnValidTokensUptoRow.holds Try.pinned (OpenSpec.upto fnValidTokensSpec)

/-- 'laws.FnExactTokensOf', WHERE WHAT IT READS IS OF BULK AT MOST 1048576: true; the input reads as it did. -/
def fnExactTokensOfUptoRow : OpenClaim := { program := "ythhfnhabnaakiaa", sum := "fd9267c89924c34a4dcc96da06aa475b841f43c2141e0d3e126b51e5e4ffc019", func := "loop.example/ringsandrounds/laws.FnExactTokensOf", spec := "fnExactTokensOf", unfollowed := true, recurses := true, apart := false, narrowed := true }
def FnExactTokensOfUptoSaid : Prop := fnExactTokensOfUptoRow.holds Try.pinned (OpenSpec.upto fnExactTokensOfSpec)

/-- 'laws.FnExactMoveOf', WHERE WHAT IT READS IS OF BULK AT MOST 1048576: true; the input reads as it did. -/
def fnExactMoveOfUptoRow : OpenClaim := { program := "ythhfnhabnaakiaa", sum := "fd9267c89924c34a4dcc96da06aa475b841f43c2141e0d3e126b51e5e4ffc019", func := "loop.example/ringsandrounds/laws.FnExactMoveOf", spec := "fnExactMoveOf", unfollowed := true, recurses := true, apart := false, narrowed := true }
def FnExactMoveOfUptoSaid : Prop := fnExactMoveOfUptoRow.holds Try.pinned (OpenSpec.upto fnExactMoveOfSpec)

/-- 'laws.FnMoveOf', WHERE WHAT IT READS IS OF BULK AT MOST 1048576: true; the input reads as it did. -/
def fnMoveOfUptoRow : OpenClaim := { program := "ythhfnhabnaakiaa", sum := "fd9267c89924c34a4dcc96da06aa475b841f43c2141e0d3e126b51e5e4ffc019", func := "loop.example/ringsandrounds/laws.FnMoveOf", spec := "fnMoveOf", unfollowed := true, recurses := true, apart := false, narrowed := true }
def FnMoveOfUptoSaid : Prop := fnMoveOfUptoRow.holds Try.pinned (OpenSpec.upto fnMoveOfSpec)

/-- 'laws.FnTokensOf', WHERE WHAT IT READS IS OF BULK AT MOST 1048576: true; the input reads as it did. -/
def fnTokensOfUptoRow : OpenClaim := { program := "ythhfnhabnaakiaa", sum := "fd9267c89924c34a4dcc96da06aa475b841f43c2141e0d3e126b51e5e4ffc019", func := "loop.example/ringsandrounds/laws.FnTokensOf", spec := "fnTokensOf", unfollowed := true, recurses := true, apart := false, narrowed := true }
def FnTokensOfUptoSaid : Prop := fnTokensOfUptoRow.holds Try.pinned (OpenSpec.upto fnTokensOfSpec)

/-- 'laws.FnExactTourOf', WHERE WHAT IT READS IS OF BULK AT MOST 1048576: true; the input reads as it did. -/
def fnExactTourOfUptoRow : OpenClaim := { program := "ythhfnhabnaakiaa", sum := "fd9267c89924c34a4dcc96da06aa475b841f43c2141e0d3e126b51e5e4ffc019", func := "loop.example/ringsandrounds/laws.FnExactTourOf", spec := "fnExactTourOf", unfollowed := true, recurses := true, apart := false, narrowed := true }
def FnExactTourOfUptoSaid : Prop := fnExactTourOfUptoRow.holds Try.pinned (OpenSpec.upto fnExactTourOfSpec)

/-- 'laws.FnTourOf', WHERE WHAT IT READS IS OF BULK AT MOST 1048576: true; the input reads as it did. -/
def fnTourOfUptoRow : OpenClaim := { program := "ythhfnhabnaakiaa", sum := "fd9267c89924c34a4dcc96da06aa475b841f43c2141e0d3e126b51e5e4ffc019", func := "loop.example/ringsandrounds/laws.FnTourOf", spec := "fnTourOf", unfollowed := true, recurses := true, apart := false, narrowed := true }
def FnTourOfUptoSaid : Prop := fnTourOfUptoRow.holds Try.pinned (OpenSpec.upto fnTourOfSpec)

/-- 'laws.FnExactLegalStates', WHERE WHAT IT READS IS OF BULK AT MOST 1048576: true; the input reads as it did. -/
def fnExactLegalStatesUptoRow : OpenClaim := { program := "ythhfnhabnaakiaa", sum := "fd9267c89924c34a4dcc96da06aa475b841f43c2141e0d3e126b51e5e4ffc019", func := "loop.example/ringsandrounds/laws.FnExactLegalStates", spec := "fnExactLegalStates", unfollowed := true, recurses := true, apart := false, narrowed := true }
def FnExactLegalStatesUptoSaid : Prop := fnExactLegalStatesUptoRow.holds Try.pinned (OpenSpec.upto fnExactLegalStatesSpec)

/-- 'laws.FnLegalStates', WHERE WHAT IT READS IS OF BULK AT MOST 1048576: true; the input reads as it did. -/
def fnLegalStatesUptoRow : OpenClaim := { program := "ythhfnhabnaakiaa", sum := "fd9267c89924c34a4dcc96da06aa475b841f43c2141e0d3e126b51e5e4ffc019", func := "loop.example/ringsandrounds/laws.FnLegalStates", spec := "fnLegalStates", unfollowed := true, recurses := true, apart := false, narrowed := true }
def FnLegalStatesUptoSaid : Prop := fnLegalStatesUptoRow.holds Try.pinned (OpenSpec.upto fnLegalStatesSpec)

end Rows
end Go.Proofs.Ythhfnhabnaakiaa
