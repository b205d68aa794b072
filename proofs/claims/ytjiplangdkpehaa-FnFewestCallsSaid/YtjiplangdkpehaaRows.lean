/-
  No cell of these rows narrows 'for every input' (looked for: loops, veiled, ifaces, maps, wideKeys, modest, calm, conditions, laid).
  DERIVED. THE GIVEN ROWS OF THIS SEAT. 10 by the template 'for every input the law returns true; each argument reads behind the call as it read before'; 0 by the template 'total and deterministic' (their statements: YtjiplangdkpehaaTotals.lean).
  GIVEN WITH THE SEED: the statements are not yours to turn. If you find one false, say at which input.
  Laid BY PROGRAM, IN A SANDBOX (cutbox-rows.mjs): the forced cells as the released guide's own fill.sh prints them over the translation add6e170cfd49826… (all of the seat's roots in one cut). By AI agents, Wed Nov 11 2026. No macro, syntax, notation, axiom, sorry.
-/
import Derived.Test.YtjiplangdkpehaaChecked
import GoSem.Claim
import GoSem.ClaimJoined
import GoSem.ClaimMapViews
import Derived.JoinedTies
import Derived.KernelRfl
namespace Go.Proofs.Ytjiplangdkpehaa
/- THE CELL 'sum', in the pinned program and in every row, IS THE sha256 OF THE DUMP (.gsa) THAT YtjiplangdkpehaaProg.lean LOADS. Nothing in Lean hashes anything: it is a label: what it is worth is what the hold of that sum in a sandbox is worth. -/
noncomputable def Try.pinned : Pinned := { name := "ytjiplangdkpehaa", sum := "add6e170cfd49826e2c74e57fa782b34dc3c410f9cfce659e1d33d6af190ea7e", checked := Try.checked }
namespace Rows
def none {H : Type} : Left H := { results := [], args := [] }

/-- 'laws.FnExactValidCalls': WHATEVER THE INPUT: true; the input reads as it did. -/
def fnExactValidCallsSpec : ChangeSpec := { name := "fnExactValidCalls", fn := fun _ => fun
  | [d1, d2] => { results := [.lit (.bool true)], args := [d1, d2] }
  | _ => none }
def fnExactValidCallsRow : OpenClaim := { program := "ytjiplangdkpehaa", sum := "add6e170cfd49826e2c74e57fa782b34dc3c410f9cfce659e1d33d6af190ea7e", func := "loop.example/ringsandrounds/laws.FnExactValidCalls", spec := "fnExactValidCalls", unfollowed := true, recurses := true, apart := false }
def FnExactValidCallsSaid : Prop := fnExactValidCallsRow.holds Try.pinned (OpenSpec.ofChange fnExactValidCallsSpec)

/-- ITS FALSE NEIGHBOUR: 'it returns false'. Refute it at one input. -/
def fnExactValidCallsWrong : ChangeSpec := { name := "fnExactValidCalls", fn := fun _ => fun
  | [d1, d2] => { results := [.lit (.bool false)], args := [d1, d2] }
  | _ => none }
def FnExactValidCallsWrongFalsely : Prop := fnExactValidCallsRow.holds Try.pinned (OpenSpec.ofChange fnExactValidCallsWrong)

/-- 'laws.FnValidCalls': WHATEVER THE INPUT: true; the input reads as it did. -/
def fnValidCallsSpec : ChangeSpec := { name := "fnValidCalls", fn := fun _ => fun
  | [d] => { results := [.lit (.bool true)], args := [d] }
  | _ => none }
def fnValidCallsRow : OpenClaim := { program := "ytjiplangdkpehaa", sum := "add6e170cfd49826e2c74e57fa782b34dc3c410f9cfce659e1d33d6af190ea7e", func := "loop.example/ringsandrounds/laws.FnValidCalls", spec := "fnValidCalls", unfollowed := true, recurses := true, apart := false }
def FnValidCallsSaid : Prop := fnValidCallsRow.holds Try.pinned (OpenSpec.ofChange fnValidCallsSpec)

/-- ITS FALSE NEIGHBOUR: 'it returns false'. Refute it at one input. -/
def fnValidCallsWrong : ChangeSpec := { name := "fnValidCalls", fn := fun _ => fun
  | [d] => { results := [.lit (.bool false)], args := [d] }
  | _ => none }
def FnValidCallsWrongFalsely : Prop := fnValidCallsRow.holds Try.pinned (OpenSpec.ofChange fnValidCallsWrong)

/-- 'laws.FnExactPlanOf': WHATEVER THE INPUT: true; the input reads as it did. -/
def fnExactPlanOfSpec : ChangeSpec := { name := "fnExactPlanOf", fn := fun _ => fun
  | [d] => { results := [.lit (.bool true)], args := [d] }
  | _ => none }
def fnExactPlanOfRow : OpenClaim := { program := "ytjiplangdkpehaa", sum := "add6e170cfd49826e2c74e57fa782b34dc3c410f9cfce659e1d33d6af190ea7e", func := "loop.example/ringsandrounds/laws.FnExactPlanOf", spec := "fnExactPlanOf", apart := false }
def FnExactPlanOfSaid : Prop := fnExactPlanOfRow.holds Try.pinned (OpenSpec.ofChange fnExactPlanOfSpec)

/-- ITS FALSE NEIGHBOUR: 'it returns false'. Refute it at one input. -/
def fnExactPlanOfWrong : ChangeSpec := { name := "fnExactPlanOf", fn := fun _ => fun
  | [d] => { results := [.lit (.bool false)], args := [d] }
  | _ => none }
def FnExactPlanOfWrongFalsely : Prop := fnExactPlanOfRow.holds Try.pinned (OpenSpec.ofChange fnExactPlanOfWrong)

/-- 'laws.FnPlanOf': WHATEVER THE INPUT: true; the input reads as it did. -/
def fnPlanOfSpec : ChangeSpec := { name := "fnPlanOf", fn := fun _ => fun
  | [d] => { results := [.lit (.bool true)], args := [d] }
  | _ => none }
def fnPlanOfRow : OpenClaim := { program := "ytjiplangdkpehaa", sum := "add6e170cfd49826e2c74e57fa782b34dc3c410f9cfce659e1d33d6af190ea7e", func := "loop.example/ringsandrounds/laws.FnPlanOf", spec := "fnPlanOf", unfollowed := true, recurses := true, apart := false }
def FnPlanOfSaid : Prop := fnPlanOfRow.holds Try.pinned (OpenSpec.ofChange fnPlanOfSpec)

/-- ITS FALSE NEIGHBOUR: 'it returns false'. Refute it at one input. -/
def fnPlanOfWrong : ChangeSpec := { name := "fnPlanOf", fn := fun _ => fun
  | [d] => { results := [.lit (.bool false)], args := [d] }
  | _ => none }
def FnPlanOfWrongFalsely : Prop := fnPlanOfRow.holds Try.pinned (OpenSpec.ofChange fnPlanOfWrong)

/-- 'laws.FnExactKnownAfter': WHATEVER THE INPUT: true; the input reads as it did. -/
def fnExactKnownAfterSpec : ChangeSpec := { name := "fnExactKnownAfter", fn := fun _ => fun
  | [d1, d2] => { results := [.lit (.bool true)], args := [d1, d2] }
  | _ => none }
def fnExactKnownAfterRow : OpenClaim := { program := "ytjiplangdkpehaa", sum := "add6e170cfd49826e2c74e57fa782b34dc3c410f9cfce659e1d33d6af190ea7e", func := "loop.example/ringsandrounds/laws.FnExactKnownAfter", spec := "fnExactKnownAfter", unfollowed := true, recurses := true, apart := false }
def FnExactKnownAfterSaid : Prop := fnExactKnownAfterRow.holds Try.pinned (OpenSpec.ofChange fnExactKnownAfterSpec)

/-- ITS FALSE NEIGHBOUR: 'it returns false'. Refute it at one input. -/
def fnExactKnownAfterWrong : ChangeSpec := { name := "fnExactKnownAfter", fn := fun _ => fun
  | [d1, d2] => { results := [.lit (.bool false)], args := [d1, d2] }
  | _ => none }
def FnExactKnownAfterWrongFalsely : Prop := fnExactKnownAfterRow.holds Try.pinned (OpenSpec.ofChange fnExactKnownAfterWrong)

/-- 'laws.FnKnownAfter': WHATEVER THE INPUT: true; the input reads as it did. -/
def fnKnownAfterSpec : ChangeSpec := { name := "fnKnownAfter", fn := fun _ => fun
  | [d] => { results := [.lit (.bool true)], args := [d] }
  | _ => none }
def fnKnownAfterRow : OpenClaim := { program := "ytjiplangdkpehaa", sum := "add6e170cfd49826e2c74e57fa782b34dc3c410f9cfce659e1d33d6af190ea7e", func := "loop.example/ringsandrounds/laws.FnKnownAfter", spec := "fnKnownAfter", unfollowed := true, recurses := true, apart := false }
def FnKnownAfterSaid : Prop := fnKnownAfterRow.holds Try.pinned (OpenSpec.ofChange fnKnownAfterSpec)

/-- ITS FALSE NEIGHBOUR: 'it returns false'. Refute it at one input. -/
def fnKnownAfterWrong : ChangeSpec := { name := "fnKnownAfter", fn := fun _ => fun
  | [d] => { results := [.lit (.bool false)], args := [d] }
  | _ => none }
def FnKnownAfterWrongFalsely : Prop := fnKnownAfterRow.holds Try.pinned (OpenSpec.ofChange fnKnownAfterWrong)

/-- 'laws.FnExactIsFull': WHATEVER THE INPUT: true; the input reads as it did. -/
def fnExactIsFullSpec : ChangeSpec := { name := "fnExactIsFull", fn := fun _ => fun
  | [d1, d2] => { results := [.lit (.bool true)], args := [d1, d2] }
  | _ => none }
def fnExactIsFullRow : OpenClaim := { program := "ytjiplangdkpehaa", sum := "add6e170cfd49826e2c74e57fa782b34dc3c410f9cfce659e1d33d6af190ea7e", func := "loop.example/ringsandrounds/laws.FnExactIsFull", spec := "fnExactIsFull", unfollowed := true, recurses := true, apart := false }
def FnExactIsFullSaid : Prop := fnExactIsFullRow.holds Try.pinned (OpenSpec.ofChange fnExactIsFullSpec)

/-- ITS FALSE NEIGHBOUR: 'it returns false'. Refute it at one input. -/
def fnExactIsFullWrong : ChangeSpec := { name := "fnExactIsFull", fn := fun _ => fun
  | [d1, d2] => { results := [.lit (.bool false)], args := [d1, d2] }
  | _ => none }
def FnExactIsFullWrongFalsely : Prop := fnExactIsFullRow.holds Try.pinned (OpenSpec.ofChange fnExactIsFullWrong)

/-- 'laws.FnIsFull': WHATEVER THE INPUT: true; the input reads as it did. -/
def fnIsFullSpec : ChangeSpec := { name := "fnIsFull", fn := fun _ => fun
  | [d] => { results := [.lit (.bool true)], args := [d] }
  | _ => none }
def fnIsFullRow : OpenClaim := { program := "ytjiplangdkpehaa", sum := "add6e170cfd49826e2c74e57fa782b34dc3c410f9cfce659e1d33d6af190ea7e", func := "loop.example/ringsandrounds/laws.FnIsFull", spec := "fnIsFull", unfollowed := true, recurses := true, apart := false }
def FnIsFullSaid : Prop := fnIsFullRow.holds Try.pinned (OpenSpec.ofChange fnIsFullSpec)

/-- ITS FALSE NEIGHBOUR: 'it returns false'. Refute it at one input. -/
def fnIsFullWrong : ChangeSpec := { name := "fnIsFull", fn := fun _ => fun
  | [d] => { results := [.lit (.bool false)], args := [d] }
  | _ => none }
def FnIsFullWrongFalsely : Prop := fnIsFullRow.holds Try.pinned (OpenSpec.ofChange fnIsFullWrong)

/-- 'laws.FnExactFewestCalls': WHATEVER THE INPUT: true; the input reads as it did. -/
def fnExactFewestCallsSpec : ChangeSpec := { name := "fnExactFewestCalls", fn := fun _ => fun
  | [d] => { results := [.lit (.bool true)], args := [d] }
  | _ => none }
def fnExactFewestCallsRow : OpenClaim := { program := "ytjiplangdkpehaa", sum := "add6e170cfd49826e2c74e57fa782b34dc3c410f9cfce659e1d33d6af190ea7e", func := "loop.example/ringsandrounds/laws.FnExactFewestCalls", spec := "fnExactFewestCalls", unfollowed := true, recurses := true, apart := false }
def FnExactFewestCallsSaid : Prop := fnExactFewestCallsRow.holds Try.pinned (OpenSpec.ofChange fnExactFewestCallsSpec)

/-- ITS FALSE NEIGHBOUR: 'it returns false'. Refute it at one input. -/
def fnExactFewestCallsWrong : ChangeSpec := { name := "fnExactFewestCalls", fn := fun _ => fun
  | [d] => { results := [.lit (.bool false)], args := [d] }
  | _ => none }
def FnExactFewestCallsWrongFalsely : Prop := fnExactFewestCallsRow.holds Try.pinned (OpenSpec.ofChange fnExactFewestCallsWrong)

/-- 'laws.FnFewestCalls': WHATEVER THE INPUT: true; the input reads as it did. -/
def fnFewestCallsSpec : ChangeSpec := { name := "fnFewestCalls", fn := fun _ => fun
  | [d] => { results := [.lit (.bool true)], args := [d] }
  | _ => none }
def fnFewestCallsRow : OpenClaim := { program := "ytjiplangdkpehaa", sum := "add6e170cfd49826e2c74e57fa782b34dc3c410f9cfce659e1d33d6af190ea7e", func := "loop.example/ringsandrounds/laws.FnFewestCalls", spec := "fnFewestCalls", unfollowed := true, recurses := true, apart := false }
def FnFewestCallsSaid : Prop := fnFewestCallsRow.holds Try.pinned (OpenSpec.ofChange fnFewestCallsSpec)

/-- ITS FALSE NEIGHBOUR: 'it returns false'. Refute it at one input. -/
def fnFewestCallsWrong : ChangeSpec := { name := "fnFewestCalls", fn := fun _ => fun
  | [d] => { results := [.lit (.bool false)], args := [d] }
  | _ => none }
def FnFewestCallsWrongFalsely : Prop := fnFewestCallsRow.holds Try.pinned (OpenSpec.ofChange fnFewestCallsWrong)

/- THE SECOND FORM. 'bulk': how many values and letters a reading holds, each counted each time it is reached (what is shared counts as often as it is met; a slice's spare places count too). A statement '..UptoSaid' is the law's where the arguments, and the package variables that the reading takes, are together of bulk at most 1048576: NARROWER than '..Said'. Prove '..Said' where nothing that the law and all that it calls make is longer than what came in: it says more and counts as full. Else prove '..UptoSaid'. A law counts once. -/
mutual
def uptoBulk {H : Type} : DataW H → Nat
  | .lit (.string bytes) => bytes.length + 1
  | .lit _ => 1
  | .nil => 1
  | .ptr d => uptoBulk d + 1
  | .slice elems spare => uptoBulkAll elems + uptoBulkAll spare + 1
  | .agg parts => uptoBulkAll parts + 1
  | .iface _ d => uptoBulk d + 1
  | .map entries => uptoBulkEntries entries + 1
  | .held _ => 1
def uptoBulkAll {H : Type} : List (DataW H) → Nat
  | [] => 0
  | d :: r => uptoBulk d + uptoBulkAll r
def uptoBulkEntries {H : Type} : List (Lit × DataW H) → Nat
  | [] => 0
  | x :: r => uptoBulkEntry x + uptoBulkEntries r
def uptoBulkEntry {H : Type} : Lit × DataW H → Nat
  | (.string bytes, d) => bytes.length + uptoBulk d + 1
  | (_, d) => uptoBulk d + 1
 end
def uptoSmall : (H : Type) → List (DataW H) → Bool := fun _ ds => decide (uptoBulkAll ds ≤ 1048576)
def OpenSpec.upto (s : _root_.Go.ChangeSpec) : _root_.Go.OpenSpec := { _root_.Go.OpenSpec.ofChange s with cond := some uptoSmall }

/-- 'laws.FnExactValidCalls', WHERE WHAT IT READS IS OF BULK AT MOST 1048576: true; the input reads as it did. -/
def fnExactValidCallsUptoRow : OpenClaim := { program := "ytjiplangdkpehaa", sum := "add6e170cfd49826e2c74e57fa782b34dc3c410f9cfce659e1d33d6af190ea7e", func := "loop.example/ringsandrounds/laws.FnExactValidCalls", spec := "fnExactValidCalls", unfollowed := true, recurses := true, apart := false, narrowed := true }
def FnExactValidCallsUptoSaid : Prop := fnExactValidCallsUptoRow.holds Try.pinned (OpenSpec.upto fnExactValidCallsSpec)

/-- 'laws.FnValidCalls', WHERE WHAT IT READS IS OF BULK AT MOST 1048576: true; the input reads as it did. -/
def fnValidCallsUptoRow : OpenClaim := { program := "ytjiplangdkpehaa", sum := "add6e170cfd49826e2c74e57fa782b34dc3c410f9cfce659e1d33d6af190ea7e", func := "loop.example/ringsandrounds/laws.FnValidCalls", spec := "fnValidCalls", unfollowed := true, recurses := true, apart := false, narrowed := true }
def FnValidCallsUptoSaid : Prop := fnValidCallsUptoRow.holds Try.pinned (OpenSpec.upto fnValidCallsSpec)

/-- 'laws.FnExactPlanOf', WHERE WHAT IT READS IS OF BULK AT MOST 1048576: true; the input reads as it did. -/
def fnExactPlanOfUptoRow : OpenClaim := { program := "ytjiplangdkpehaa", sum := "add6e170cfd49826e2c74e57fa782b34dc3c410f9cfce659e1d33d6af190ea7e", func := "loop.example/ringsandrounds/laws.FnExactPlanOf", spec := "fnExactPlanOf", apart := false, narrowed := true }
def FnExactPlanOfUptoSaid : Prop := fnExactPlanOfUptoRow.holds Try.pinned (OpenSpec.upto fnExactPlanOfSpec)

/-- 'laws.FnPlanOf', WHERE WHAT IT READS IS OF BULK AT MOST 1048576: true; the input reads as it did. -/
def fnPlanOfUptoRow : OpenClaim := { program := "ytjiplangdkpehaa", sum := "add6e170cfd49826e2c74e57fa782b34dc3c410f9cfce659e1d33d6af190ea7e", func := "loop.example/ringsandrounds/laws.FnPlanOf", spec := "fnPlanOf", unfollowed := true, recurses := true, apart := false, narrowed := true }
def FnPlanOfUptoSaid : Prop := fnPlanOfUptoRow.holds Try.pinned (OpenSpec.upto fnPlanOfSpec)

/-- 'laws.FnExactKnownAfter', WHERE WHAT IT READS IS OF BULK AT MOST 1048576: true; the input reads as it did. -/
def fnExactKnownAfterUptoRow : OpenClaim := { program := "ytjiplangdkpehaa", sum := "add6e170cfd49826e2c74e57fa782b34dc3c410f9cfce659e1d33d6af190ea7e", func := "loop.example/ringsandrounds/laws.FnExactKnownAfter", spec := "fnExactKnownAfter", unfollowed := true, recurses := true, apart := false, narrowed := true }
def FnExactKnownAfterUptoSaid : Prop := fnExactKnownAfterUptoRow.holds Try.pinned (OpenSpec.upto fnExactKnownAfterSpec)

/-- 'laws.FnKnownAfter', WHERE WHAT IT READS IS OF BULK AT MOST 1048576: true; the input reads as it did. -/
def fnKnownAfterUptoRow : OpenClaim := { program := "ytjiplangdkpehaa", sum := "add6e170cfd49826e2c74e57fa782b34dc3c410f9cfce659e1d33d6af190ea7e", func := "loop.example/ringsandrounds/laws.FnKnownAfter", spec := "fnKnownAfter", unfollowed := true, recurses := true, apart := false, narrowed := true }
def FnKnownAfterUptoSaid : Prop := fnKnownAfterUptoRow.holds Try.pinned (OpenSpec.upto fnKnownAfterSpec)

/-- 'laws.FnExactIsFull', WHERE WHAT IT READS IS OF BULK AT MOST 1048576: true; the input reads as it did. -/
def fnExactIsFullUptoRow : OpenClaim := { program := "ytjiplangdkpehaa", sum := "add6e170cfd49826e2c74e57fa782b34dc3c410f9cfce659e1d33d6af190ea7e", func := "loop.example/ringsandrounds/laws.FnExactIsFull", spec := "fnExactIsFull", unfollowed := true, recurses := true, apart := false, narrowed := true }
def FnExactIsFullUptoSaid : Prop := fnExactIsFullUptoRow.holds Try.pinned (OpenSpec.upto fnExactIsFullSpec)

/-- 'laws.FnIsFull', WHERE WHAT IT READS IS OF BULK AT MOST 1048576: true; the input reads as it did. -/
def fnIsFullUptoRow : OpenClaim := { program := "ytjiplangdkpehaa", sum := "add6e170cfd49826e2c74e57fa782b34dc3c410f9cfce659e1d33d6af190ea7e", func := "loop.example/ringsandrounds/laws.FnIsFull", spec := "fnIsFull", unfollowed := true, recurses := true, apart := false, narrowed := true }
def FnIsFullUptoSaid : Prop := fnIsFullUptoRow.holds Try.pinned (OpenSpec.upto fnIsFullSpec)

/-- 'laws.FnExactFewestCalls', WHERE WHAT IT READS IS OF BULK AT MOST 1048576: true; the input reads as it did. -/
def fnExactFewestCallsUptoRow : OpenClaim := { program := "ytjiplangdkpehaa", sum := "add6e170cfd49826e2c74e57fa782b34dc3c410f9cfce659e1d33d6af190ea7e", func := "loop.example/ringsandrounds/laws.FnExactFewestCalls", spec := "fnExactFewestCalls", unfollowed := true, recurses := true, apart := false, narrowed := true }
def FnExactFewestCallsUptoSaid : Prop := fnExactFewestCallsUptoRow.holds Try.pinned (OpenSpec.upto fnExactFewestCallsSpec)

/-- 'laws.FnFewestCalls', WHERE WHAT IT READS IS OF BULK AT MOST 1048576: true; the input reads as it did. -/
def fnFewestCallsUptoRow : OpenClaim := { program := "ytjiplangdkpehaa", sum := "add6e170cfd49826e2c74e57fa782b34dc3c410f9cfce659e1d33d6af190ea7e", func := "loop.example/ringsandrounds/laws.FnFewestCalls", spec := "fnFewestCalls", unfollowed := true, recurses := true, apart := false, narrowed := true }
def FnFewestCallsUptoSaid : Prop := fnFewestCallsUptoRow.holds Try.pinned (OpenSpec.upto fnFewestCallsSpec)

end Rows
end Go.Proofs.Ytjiplangdkpehaa
