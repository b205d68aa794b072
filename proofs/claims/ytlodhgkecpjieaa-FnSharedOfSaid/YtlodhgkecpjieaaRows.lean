/-
  No cell of these rows narrows 'for every input' (looked for: loops, veiled, ifaces, maps, wideKeys, modest, calm, conditions, laid).
  DERIVED. THE GIVEN ROWS OF THIS SEAT. 12 by the template 'for every input the law returns true; each argument reads behind the call as it read before'; 0 by the template 'total and deterministic' (their statements: YtlodhgkecpjieaaTotals.lean).
  GIVEN WITH THE SEED: the statements are not yours to turn. If you find one false, say at which input.
  Laid BY PROGRAM, IN A SANDBOX (cutbox-rows.mjs): the forced cells as the released guide's own fill.sh prints them over the translation 4762830d2c742882… (all of the seat's roots in one cut). By AI agents, Wed Nov 11 2026. No macro, syntax, notation, axiom, sorry.
-/
import Derived.Test.YtlodhgkecpjieaaChecked
import GoSem.Claim
import GoSem.ClaimJoined
import GoSem.ClaimMapViews
import Derived.JoinedTies
import Derived.KernelRfl
namespace Go.Proofs.Ytlodhgkecpjieaa
/- THE CELL 'sum', in the pinned program and in every row, IS THE sha256 OF THE DUMP (.gsa) THAT YtlodhgkecpjieaaProg.lean LOADS. Nothing in Lean hashes anything: it is a label: what it is worth is what the hold of that sum in a sandbox is worth. -/
noncomputable def Try.pinned : Pinned := { name := "ytlodhgkecpjieaa", sum := "4762830d2c742882a982b9453fedcd5a056d2c05f485fd972bff3aefcced8577", checked := Try.checked }
namespace Rows
def none {H : Type} : Left H := { results := [], args := [] }

/-- 'laws.FnExactValidView': WHATEVER THE INPUT: true; the input reads as it did. -/
def fnExactValidViewSpec : ChangeSpec := { name := "fnExactValidView", fn := fun _ => fun
  | [d] => { results := [.lit (.bool true)], args := [d] }
  | _ => none }
def fnExactValidViewRow : OpenClaim := { program := "ytlodhgkecpjieaa", sum := "4762830d2c742882a982b9453fedcd5a056d2c05f485fd972bff3aefcced8577", func := "loop.example/ringsandrounds/laws.FnExactValidView", spec := "fnExactValidView", unfollowed := true, recurses := true, apart := false }
def FnExactValidViewSaid : Prop := fnExactValidViewRow.holds Try.pinned (OpenSpec.ofChange fnExactValidViewSpec)

/-- ITS FALSE NEIGHBOUR: 'it returns false'. Refute it at one input. -/
def fnExactValidViewWrong : ChangeSpec := { name := "fnExactValidView", fn := fun _ => fun
  | [d] => { results := [.lit (.bool false)], args := [d] }
  | _ => none }
def FnExactValidViewWrongFalsely : Prop := fnExactValidViewRow.holds Try.pinned (OpenSpec.ofChange fnExactValidViewWrong)

/-- 'laws.FnExactLettersView': WHATEVER THE INPUT: true; the input reads as it did. -/
def fnExactLettersViewSpec : ChangeSpec := { name := "fnExactLettersView", fn := fun _ => fun
  | [d] => { results := [.lit (.bool true)], args := [d] }
  | _ => none }
def fnExactLettersViewRow : OpenClaim := { program := "ytlodhgkecpjieaa", sum := "4762830d2c742882a982b9453fedcd5a056d2c05f485fd972bff3aefcced8577", func := "loop.example/ringsandrounds/laws.FnExactLettersView", spec := "fnExactLettersView", apart := false }
def FnExactLettersViewSaid : Prop := fnExactLettersViewRow.holds Try.pinned (OpenSpec.ofChange fnExactLettersViewSpec)

/-- ITS FALSE NEIGHBOUR: 'it returns false'. Refute it at one input. -/
def fnExactLettersViewWrong : ChangeSpec := { name := "fnExactLettersView", fn := fun _ => fun
  | [d] => { results := [.lit (.bool false)], args := [d] }
  | _ => none }
def FnExactLettersViewWrongFalsely : Prop := fnExactLettersViewRow.holds Try.pinned (OpenSpec.ofChange fnExactLettersViewWrong)

/-- 'laws.FnExactMuddyView': WHATEVER THE INPUT: true; the input reads as it did. -/
def fnExactMuddyViewSpec : ChangeSpec := { name := "fnExactMuddyView", fn := fun _ => fun
  | [d] => { results := [.lit (.bool true)], args := [d] }
  | _ => none }
def fnExactMuddyViewRow : OpenClaim := { program := "ytlodhgkecpjieaa", sum := "4762830d2c742882a982b9453fedcd5a056d2c05f485fd972bff3aefcced8577", func := "loop.example/ringsandrounds/laws.FnExactMuddyView", spec := "fnExactMuddyView", apart := false }
def FnExactMuddyViewSaid : Prop := fnExactMuddyViewRow.holds Try.pinned (OpenSpec.ofChange fnExactMuddyViewSpec)

/-- ITS FALSE NEIGHBOUR: 'it returns false'. Refute it at one input. -/
def fnExactMuddyViewWrong : ChangeSpec := { name := "fnExactMuddyView", fn := fun _ => fun
  | [d] => { results := [.lit (.bool false)], args := [d] }
  | _ => none }
def FnExactMuddyViewWrongFalsely : Prop := fnExactMuddyViewRow.holds Try.pinned (OpenSpec.ofChange fnExactMuddyViewWrong)

/-- 'laws.FnExactKnowsOf': WHATEVER THE INPUT: true; the input reads as it did. -/
def fnExactKnowsOfSpec : ChangeSpec := { name := "fnExactKnowsOf", fn := fun _ => fun
  | [d1, d2, d3] => { results := [.lit (.bool true)], args := [d1, d2, d3] }
  | _ => none }
def fnExactKnowsOfRow : OpenClaim := { program := "ytlodhgkecpjieaa", sum := "4762830d2c742882a982b9453fedcd5a056d2c05f485fd972bff3aefcced8577", func := "loop.example/ringsandrounds/laws.FnExactKnowsOf", spec := "fnExactKnowsOf", unfollowed := true, recurses := true, apart := false }
def FnExactKnowsOfSaid : Prop := fnExactKnowsOfRow.holds Try.pinned (OpenSpec.ofChange fnExactKnowsOfSpec)

/-- ITS FALSE NEIGHBOUR: 'it returns false'. Refute it at one input. -/
def fnExactKnowsOfWrong : ChangeSpec := { name := "fnExactKnowsOf", fn := fun _ => fun
  | [d1, d2, d3] => { results := [.lit (.bool false)], args := [d1, d2, d3] }
  | _ => none }
def FnExactKnowsOfWrongFalsely : Prop := fnExactKnowsOfRow.holds Try.pinned (OpenSpec.ofChange fnExactKnowsOfWrong)

/-- 'laws.FnExactAllKnow': WHATEVER THE INPUT: true; the input reads as it did. -/
def fnExactAllKnowSpec : ChangeSpec := { name := "fnExactAllKnow", fn := fun _ => fun
  | [d1, d2] => { results := [.lit (.bool true)], args := [d1, d2] }
  | _ => none }
def fnExactAllKnowRow : OpenClaim := { program := "ytlodhgkecpjieaa", sum := "4762830d2c742882a982b9453fedcd5a056d2c05f485fd972bff3aefcced8577", func := "loop.example/ringsandrounds/laws.FnExactAllKnow", spec := "fnExactAllKnow", unfollowed := true, recurses := true, apart := false }
def FnExactAllKnowSaid : Prop := fnExactAllKnowRow.holds Try.pinned (OpenSpec.ofChange fnExactAllKnowSpec)

/-- ITS FALSE NEIGHBOUR: 'it returns false'. Refute it at one input. -/
def fnExactAllKnowWrong : ChangeSpec := { name := "fnExactAllKnow", fn := fun _ => fun
  | [d1, d2] => { results := [.lit (.bool false)], args := [d1, d2] }
  | _ => none }
def FnExactAllKnowWrongFalsely : Prop := fnExactAllKnowRow.holds Try.pinned (OpenSpec.ofChange fnExactAllKnowWrong)

/-- 'laws.FnExactCommonOf': WHATEVER THE INPUT: true; the input reads as it did. -/
def fnExactCommonOfSpec : ChangeSpec := { name := "fnExactCommonOf", fn := fun _ => fun
  | [d1, d2] => { results := [.lit (.bool true)], args := [d1, d2] }
  | _ => none }
def fnExactCommonOfRow : OpenClaim := { program := "ytlodhgkecpjieaa", sum := "4762830d2c742882a982b9453fedcd5a056d2c05f485fd972bff3aefcced8577", func := "loop.example/ringsandrounds/laws.FnExactCommonOf", spec := "fnExactCommonOf", unfollowed := true, recurses := true, apart := false }
def FnExactCommonOfSaid : Prop := fnExactCommonOfRow.holds Try.pinned (OpenSpec.ofChange fnExactCommonOfSpec)

/-- ITS FALSE NEIGHBOUR: 'it returns false'. Refute it at one input. -/
def fnExactCommonOfWrong : ChangeSpec := { name := "fnExactCommonOf", fn := fun _ => fun
  | [d1, d2] => { results := [.lit (.bool false)], args := [d1, d2] }
  | _ => none }
def FnExactCommonOfWrongFalsely : Prop := fnExactCommonOfRow.holds Try.pinned (OpenSpec.ofChange fnExactCommonOfWrong)

/-- 'laws.FnExactDepthOf': WHATEVER THE INPUT: true; the input reads as it did. -/
def fnExactDepthOfSpec : ChangeSpec := { name := "fnExactDepthOf", fn := fun _ => fun
  | [d1, d2, d3] => { results := [.lit (.bool true)], args := [d1, d2, d3] }
  | _ => none }
def fnExactDepthOfRow : OpenClaim := { program := "ytlodhgkecpjieaa", sum := "4762830d2c742882a982b9453fedcd5a056d2c05f485fd972bff3aefcced8577", func := "loop.example/ringsandrounds/laws.FnExactDepthOf", spec := "fnExactDepthOf", unfollowed := true, recurses := true, apart := false }
def FnExactDepthOfSaid : Prop := fnExactDepthOfRow.holds Try.pinned (OpenSpec.ofChange fnExactDepthOfSpec)

/-- ITS FALSE NEIGHBOUR: 'it returns false'. Refute it at one input. -/
def fnExactDepthOfWrong : ChangeSpec := { name := "fnExactDepthOf", fn := fun _ => fun
  | [d1, d2, d3] => { results := [.lit (.bool false)], args := [d1, d2, d3] }
  | _ => none }
def FnExactDepthOfWrongFalsely : Prop := fnExactDepthOfRow.holds Try.pinned (OpenSpec.ofChange fnExactDepthOfWrong)

/-- 'laws.FnExactSharedOf': WHATEVER THE INPUT: true; the input reads as it did. -/
def fnExactSharedOfSpec : ChangeSpec := { name := "fnExactSharedOf", fn := fun _ => fun
  | [d1, d2] => { results := [.lit (.bool true)], args := [d1, d2] }
  | _ => none }
def fnExactSharedOfRow : OpenClaim := { program := "ytlodhgkecpjieaa", sum := "4762830d2c742882a982b9453fedcd5a056d2c05f485fd972bff3aefcced8577", func := "loop.example/ringsandrounds/laws.FnExactSharedOf", spec := "fnExactSharedOf", unfollowed := true, recurses := true, apart := false }
def FnExactSharedOfSaid : Prop := fnExactSharedOfRow.holds Try.pinned (OpenSpec.ofChange fnExactSharedOfSpec)

/-- ITS FALSE NEIGHBOUR: 'it returns false'. Refute it at one input. -/
def fnExactSharedOfWrong : ChangeSpec := { name := "fnExactSharedOf", fn := fun _ => fun
  | [d1, d2] => { results := [.lit (.bool false)], args := [d1, d2] }
  | _ => none }
def FnExactSharedOfWrongFalsely : Prop := fnExactSharedOfRow.holds Try.pinned (OpenSpec.ofChange fnExactSharedOfWrong)

/-- 'laws.FnKnowsOf': WHATEVER THE INPUT: true; the input reads as it did. -/
def fnKnowsOfSpec : ChangeSpec := { name := "fnKnowsOf", fn := fun _ => fun
  | [d] => { results := [.lit (.bool true)], args := [d] }
  | _ => none }
def fnKnowsOfRow : OpenClaim := { program := "ytlodhgkecpjieaa", sum := "4762830d2c742882a982b9453fedcd5a056d2c05f485fd972bff3aefcced8577", func := "loop.example/ringsandrounds/laws.FnKnowsOf", spec := "fnKnowsOf", unfollowed := true, recurses := true, apart := false }
def FnKnowsOfSaid : Prop := fnKnowsOfRow.holds Try.pinned (OpenSpec.ofChange fnKnowsOfSpec)

/-- ITS FALSE NEIGHBOUR: 'it returns false'. Refute it at one input. -/
def fnKnowsOfWrong : ChangeSpec := { name := "fnKnowsOf", fn := fun _ => fun
  | [d] => { results := [.lit (.bool false)], args := [d] }
  | _ => none }
def FnKnowsOfWrongFalsely : Prop := fnKnowsOfRow.holds Try.pinned (OpenSpec.ofChange fnKnowsOfWrong)

/-- 'laws.FnMuddyView': WHATEVER THE INPUT: true; the input reads as it did. -/
def fnMuddyViewSpec : ChangeSpec := { name := "fnMuddyView", fn := fun _ => fun
  | [d] => { results := [.lit (.bool true)], args := [d] }
  | _ => none }
def fnMuddyViewRow : OpenClaim := { program := "ytlodhgkecpjieaa", sum := "4762830d2c742882a982b9453fedcd5a056d2c05f485fd972bff3aefcced8577", func := "loop.example/ringsandrounds/laws.FnMuddyView", spec := "fnMuddyView", unfollowed := true, recurses := true, apart := false }
def FnMuddyViewSaid : Prop := fnMuddyViewRow.holds Try.pinned (OpenSpec.ofChange fnMuddyViewSpec)

/-- ITS FALSE NEIGHBOUR: 'it returns false'. Refute it at one input. -/
def fnMuddyViewWrong : ChangeSpec := { name := "fnMuddyView", fn := fun _ => fun
  | [d] => { results := [.lit (.bool false)], args := [d] }
  | _ => none }
def FnMuddyViewWrongFalsely : Prop := fnMuddyViewRow.holds Try.pinned (OpenSpec.ofChange fnMuddyViewWrong)

/-- 'laws.FnLettersView': WHATEVER THE INPUT: true; the input reads as it did. -/
def fnLettersViewSpec : ChangeSpec := { name := "fnLettersView", fn := fun _ => fun
  | [d] => { results := [.lit (.bool true)], args := [d] }
  | _ => none }
def fnLettersViewRow : OpenClaim := { program := "ytlodhgkecpjieaa", sum := "4762830d2c742882a982b9453fedcd5a056d2c05f485fd972bff3aefcced8577", func := "loop.example/ringsandrounds/laws.FnLettersView", spec := "fnLettersView", unfollowed := true, recurses := true, apart := false }
def FnLettersViewSaid : Prop := fnLettersViewRow.holds Try.pinned (OpenSpec.ofChange fnLettersViewSpec)

/-- ITS FALSE NEIGHBOUR: 'it returns false'. Refute it at one input. -/
def fnLettersViewWrong : ChangeSpec := { name := "fnLettersView", fn := fun _ => fun
  | [d] => { results := [.lit (.bool false)], args := [d] }
  | _ => none }
def FnLettersViewWrongFalsely : Prop := fnLettersViewRow.holds Try.pinned (OpenSpec.ofChange fnLettersViewWrong)

/-- 'laws.FnSharedOf': WHATEVER THE INPUT: true; the input reads as it did. -/
def fnSharedOfSpec : ChangeSpec := { name := "fnSharedOf", fn := fun _ => fun
  | [d] => { results := [.lit (.bool true)], args := [d] }
  | _ => none }
def fnSharedOfRow : OpenClaim := { program := "ytlodhgkecpjieaa", sum := "4762830d2c742882a982b9453fedcd5a056d2c05f485fd972bff3aefcced8577", func := "loop.example/ringsandrounds/laws.FnSharedOf", spec := "fnSharedOf", unfollowed := true, recurses := true, apart := false }
def FnSharedOfSaid : Prop := fnSharedOfRow.holds Try.pinned (OpenSpec.ofChange fnSharedOfSpec)

/-- ITS FALSE NEIGHBOUR: 'it returns false'. Refute it at one input. -/
def fnSharedOfWrong : ChangeSpec := { name := "fnSharedOf", fn := fun _ => fun
  | [d] => { results := [.lit (.bool false)], args := [d] }
  | _ => none }
def FnSharedOfWrongFalsely : Prop := fnSharedOfRow.holds Try.pinned (OpenSpec.ofChange fnSharedOfWrong)

/- THE SECOND FORM. 'bulk': how many values and letters a reading holds, each counted each time it is reached (what is shared counts as often as it is met; a slice's spare places count too). A statement '..UptoSaid' is the law's where the arguments, and the package variables that the reading takes, are together of bulk at most 1048576: NARROWER than '..Said'. Prove '..Said' where nothing that the law and all that it calls make is longer than what came in: it says more and counts as full. Else prove '..UptoSaid'. A law counts once. -/
mutual
def uptoBulk {H : Type} : DataW H → Nat
  | .lit (.string bytes) => bytes.length + 1
  | .lit _ => 1
  | .nil => 1
  | .ptr d => uptoBulk d + 1
  | .slice elems spare => uptoBulkAll elems + uptoBulkAll spare + 1
  | .agg parts => uptoBulkAll parts + 1
  | .iface _ d => uptoBulk d + 1
  | .map entries => uptoBulkEntries entries + 1
  | .held _ => 1
def uptoBulkAll {H : Type} : List (DataW H) → Nat
  | [] => 0
  | d :: r => uptoBulk d + uptoBulkAll r
def uptoBulkEntries {H : Type} : List (Lit × DataW H) → Nat
  | [] => 0
  | x :: r => uptoBulkEntry x + uptoBulkEntries r
def uptoBulkEntry {H : Type} : Lit × DataW H → Nat
  | (.string bytes, d) => bytes.length + uptoBulk d + 1
  | (_, d) => uptoBulk d + 1
 end
def uptoSmall : (H : Type) → List (DataW H) → Bool := fun _ ds => decide (uptoBulkAll ds ≤ 1048576)
def OpenSpec.upto (s : _root_.Go.ChangeSpec) : _root_.Go.OpenSpec := { _root_.Go.OpenSpec.ofChange s with cond := some uptoSmall }

/-- 'laws.FnExactValidView', WHERE WHAT IT READS IS OF BULK AT MOST 1048576: true; the input reads as it did. -/
def fnExactValidViewUptoRow : OpenClaim := { program := "ytlodhgkecpjieaa", sum := "4762830d2c742882a982b9453fedcd5a056d2c05f485fd972bff3aefcced8577", func := "loop.example/ringsandrounds/laws.FnExactValidView", spec := "fnExactValidView", unfollowed := true, recurses := true, apart := false, narrowed := true }
def FnExactValidViewUptoSaid : Prop := fnExactValidViewUptoRow.holds Try.pinned (OpenSpec.upto fnExactValidViewSpec)

/-- 'laws.FnExactLettersView', WHERE WHAT IT READS IS OF BULK AT MOST 1048576: true; the input reads as it did. -/
def fnExactLettersViewUptoRow : OpenClaim := { program := "ytlodhgkecpjieaa", sum := "4762830d2c742882a982b9453fedcd5a056d2c05f485fd972bff3aefcced8577", func := "loop.example/ringsandrounds/laws.FnExactLettersView", spec := "fnExactLettersView", apart := false, narrowed := true }
def FnExactLettersViewUptoSaid : Prop := fnExactLettersViewUptoRow.holds Try.pinned (OpenSpec.upto fnExactLettersViewSpec)

/-- 'laws.FnExactMuddyView', WHERE WHAT IT READS IS OF BULK AT MOST 1048576: true; the input reads as it did. -/
def fnExactMuddyViewUptoRow : OpenClaim := { program := "ytlodhgkecpjieaa", sum := "4762830d2c742882a982b9453fedcd5a056d2c05f485fd972bff3aefcced8577", func := "loop.example/ringsandrounds/laws.FnExactMuddyView", spec := "fnExactMuddyView", apart := false, narrowed := true }
def FnExactMuddyViewUptoSaid : Prop := fnExactMuddyViewUptoRow.holds Try.pinned (OpenSpec.upto fnExactMuddyViewSpec)

/-- 'laws.FnExactKnowsOf', WHERE WHAT IT READS IS OF BULK AT MOST 1048576: true; the input reads as it did. -/
def fnExactKnowsOfUptoRow : OpenClaim := { program := "ytlodhgkecpjieaa", sum := "4762830d2c742882a982b9453fedcd5a056d2c05f485fd972bff3aefcced8577", func := "loop.example/ringsandrounds/laws.FnExactKnowsOf", spec := "fnExactKnowsOf", unfollowed := true, recurses := true, apart := false, narrowed := true }
def FnExactKnowsOfUptoSaid : Prop := fnExactKnowsOfUptoRow.holds Try.pinned (OpenSpec.upto fnExactKnowsOfSpec)

/-- 'laws.FnExactAllKnow', WHERE WHAT IT READS IS OF BULK AT MOST 1048576: true; the input reads as it did. -/
def fnExactAllKnowUptoRow : OpenClaim := { program := "ytlodhgkecpjieaa", sum := "4762830d2c742882a982b9453fedcd5a056d2c05f485fd972bff3aefcced8577", func := "loop.example/ringsandrounds/laws.FnExactAllKnow", spec := "fnExactAllKnow", unfollowed := true, recurses := true, apart := false, narrowed := true }
def FnExactAllKnowUptoSaid : Prop := fnExactAllKnowUptoRow.holds Try.pinned (OpenSpec.upto fnExactAllKnowSpec)

/-- 'laws.FnExactCommonOf', WHERE WHAT IT READS IS OF BULK AT MOST 1048576: true; the input reads as it did. -/
def fnExactCommonOfUptoRow : OpenClaim := { program := "ytlodhgkecpjieaa", sum := "4762830d2c742882a982b9453fedcd5a056d2c05f485fd972bff3aefcced8577", func := "loop.example/ringsandrounds/laws.FnExactCommonOf", spec := "fnExactCommonOf", unfollowed := true, recurses := true, apart := false, narrowed := true }
def FnExactCommonOfUptoSaid : Prop := fnExactCommonOfUptoRow.holds Try.pinned (OpenSpec.upto fnExactCommonOfSpec)

/-- 'laws.FnExactDepthOf', WHERE WHAT IT READS IS OF BULK AT MOST 1048576: true; the input reads as it did. -/
def fnExactDepthOfUptoRow : OpenClaim := { program := "ytlodhgkecpjieaa", sum := "4762830d2c742882a982b9453fedcd5a056d2c05f485fd972bff3aefcced8577", func := "loop.example/ringsandrounds/laws.FnExactDepthOf", spec := "fnExactDepthOf", unfollowed := true, recurses := true, apart := false, narrowed := true }
def FnExactDepthOfUptoSaid : Prop := fnExactDepthOfUptoRow.holds Try.pinned (OpenSpec.upto fnExactDepthOfSpec)

/-- 'laws.FnExactSharedOf', WHERE WHAT IT READS IS OF BULK AT MOST 1048576: true; the input reads as it did. -/
def fnExactSharedOfUptoRow : OpenClaim := { program := "ytlodhgkecpjieaa", sum := "4762830d2c742882a982b9453fedcd5a056d2c05f485fd972bff3aefcced8577", func := "loop.example/ringsandrounds/laws.FnExactSharedOf", spec := "fnExactSharedOf", unfollowed := true, recurses := true, apart := false, narrowed := true }
def FnExactSharedOfUptoSaid : Prop := fnExactSharedOfUptoRow.holds Try.pinned (OpenSpec.upto fnExactSharedOfSpec)

/-- 'laws.FnKnowsOf', WHERE WHAT IT READS IS OF BULK AT MOST 1048576: true; the input reads as it did. -/
def fnKnowsOfUptoRow : OpenClaim := { program := "ytlodhgkecpjieaa", sum := "4762830d2c742882a982b9453fedcd5a056d2c05f485fd972bff3aefcced8577", func := "loop.example/ringsandrounds/laws.FnKnowsOf", spec := "fnKnowsOf", unfollowed := true, recurses := true, apart := false, narrowed := true }
def FnKnowsOfUptoSaid : Prop := fnKnowsOfUptoRow.holds Try.pinned (OpenSpec.upto fnKnowsOfSpec)

/-- 'laws.FnMuddyView', WHERE WHAT IT READS IS OF BULK AT MOST 1048576: true; the input reads as it did. -/
def fnMuddyViewUptoRow : OpenClaim := { program := "ytlodhgkecpjieaa", sum := "4762830d2c742882a982b9453fedcd5a056d2c05f485fd972bff3aefcced8577", func := "loop.example/ringsandrounds/laws.FnMuddyView", spec := "fnMuddyView", unfollowed := true, recurses := true, apart := false, narrowed := true }
def FnMuddyViewUptoSaid : Prop := fnMuddyViewUptoRow.holds Try.pinned (OpenSpec.upto fnMuddyViewSpec)

/-- 'laws.FnLettersView', WHERE WHAT IT READS IS OF BULK AT MOST 1048576: true; the input reads as it did. -/
def fnLettersViewUptoRow : OpenClaim := { program := "ytlodhgkecpjieaa", sum := "4762830d2c742882a982b9453fedcd5a056d2c05f485fd972bff3aefcced8577", func := "loop.example/ringsandrounds/laws.FnLettersView", spec := "fnLettersView", unfollowed := true, recurses := true, apart := false, narrowed := true }
def FnLettersViewUptoSaid : Prop := fnLettersViewUptoRow.holds Try.pinned (OpenSpec.upto fnLettersViewSpec)

/-- 'laws.FnSharedOf', WHERE WHAT IT READS IS OF BULK AT MOST 1048576: true; the input reads as it did. -/
def fnSharedOfUptoRow : OpenClaim := { program := "ytlodhgkecpjieaa", sum := "4762830d2c742882a982b9453fedcd5a056d2c05f485fd972bff3aefcced8577", func := "loop.example/ringsandrounds/laws.FnSharedOf", spec := "fnSharedOf", unfollowed := true, recurses := true, apart := false, narrowed := true }
def FnSharedOfUptoSaid : Prop := fnSharedOfUptoRow.holds Try.pinned (OpenSpec.upto fnSharedOfSpec)

end Rows
end Go.Proofs.Ytlodhgkecpjieaa
