/-
  No cell of these rows narrows 'for every input' (looked for: loops, veiled, ifaces, maps, wideKeys, modest, calm, conditions, laid).
  DERIVED. THE GIVEN ROWS OF THIS SEAT. 11 by the template 'for every input the law returns true; each argument reads behind the call as it read before'; 0 by the template 'total and deterministic' (their statements: YtblaaeanbhgokaaTotals.lean).
  GIVEN WITH THE SEED: the statements are not yours to turn. If you find one false, say at which input.
  Laid BY PROGRAM, IN A SANDBOX (cutbox-rows.mjs): the forced cells as the released guide's own fill.sh prints them over the translation ab43dd8ccbbaa3da… (all of the seat's roots in one cut). By AI agents, Wed Nov 11 2026. No macro, syntax, notation, axiom, sorry.
-/
import Derived.Test.YtblaaeanbhgokaaChecked
import GoSem.Claim
import GoSem.ClaimJoined
import GoSem.ClaimMapViews
import Derived.JoinedTies
import Derived.KernelRfl
namespace Go.Proofs.Ytblaaeanbhgokaa
/- THE CELL 'sum', in the pinned program and in every row, IS THE sha256 OF THE DUMP (.gsa) THAT YtblaaeanbhgokaaProg.lean LOADS. Nothing in Lean hashes anything: it is a label: what it is worth is what the hold of that sum in a sandbox is worth. -/
noncomputable def Try.pinned : Pinned := { name := "ytblaaeanbhgokaa", sum := "ab43dd8ccbbaa3dac36c43bd5296738ca57e6ee5872895d4f60109d93fe4a107", checked := Try.checked }
namespace Rows
def none {H : Type} : Left H := { results := [], args := [] }

/-- 'laws.FnExactElectOf': WHATEVER THE INPUT: true; the input reads as it did. -/
def fnExactElectOfSpec : ChangeSpec := { name := "fnExactElectOf", fn := fun _ => fun
  | [d] => { results := [.lit (.bool true)], args := [d] }
  | _ => none }
def fnExactElectOfRow : OpenClaim := { program := "ytblaaeanbhgokaa", sum := "ab43dd8ccbbaa3dac36c43bd5296738ca57e6ee5872895d4f60109d93fe4a107", func := "loop.example/ringsandrounds/laws.FnExactElectOf", spec := "fnExactElectOf", unfollowed := true, recurses := true, apart := false }
def FnExactElectOfSaid : Prop := fnExactElectOfRow.holds Try.pinned (OpenSpec.ofChange fnExactElectOfSpec)

/-- ITS FALSE NEIGHBOUR: 'it returns false'. Refute it at one input. -/
def fnExactElectOfWrong : ChangeSpec := { name := "fnExactElectOf", fn := fun _ => fun
  | [d] => { results := [.lit (.bool false)], args := [d] }
  | _ => none }
def FnExactElectOfWrongFalsely : Prop := fnExactElectOfRow.holds Try.pinned (OpenSpec.ofChange fnExactElectOfWrong)

/-- 'laws.FnExactRoundsOf': WHATEVER THE INPUT: true; the input reads as it did. -/
def fnExactRoundsOfSpec : ChangeSpec := { name := "fnExactRoundsOf", fn := fun _ => fun
  | [d] => { results := [.lit (.bool true)], args := [d] }
  | _ => none }
def fnExactRoundsOfRow : OpenClaim := { program := "ytblaaeanbhgokaa", sum := "ab43dd8ccbbaa3dac36c43bd5296738ca57e6ee5872895d4f60109d93fe4a107", func := "loop.example/ringsandrounds/laws.FnExactRoundsOf", spec := "fnExactRoundsOf", unfollowed := true, recurses := true, apart := false }
def FnExactRoundsOfSaid : Prop := fnExactRoundsOfRow.holds Try.pinned (OpenSpec.ofChange fnExactRoundsOfSpec)

/-- ITS FALSE NEIGHBOUR: 'it returns false'. Refute it at one input. -/
def fnExactRoundsOfWrong : ChangeSpec := { name := "fnExactRoundsOf", fn := fun _ => fun
  | [d] => { results := [.lit (.bool false)], args := [d] }
  | _ => none }
def FnExactRoundsOfWrongFalsely : Prop := fnExactRoundsOfRow.holds Try.pinned (OpenSpec.ofChange fnExactRoundsOfWrong)

/-- 'laws.FnElectOf': WHATEVER THE INPUT: true; the input reads as it did. -/
def fnElectOfSpec : ChangeSpec := { name := "fnElectOf", fn := fun _ => fun
  | [d] => { results := [.lit (.bool true)], args := [d] }
  | _ => none }
def fnElectOfRow : OpenClaim := { program := "ytblaaeanbhgokaa", sum := "ab43dd8ccbbaa3dac36c43bd5296738ca57e6ee5872895d4f60109d93fe4a107", func := "loop.example/ringsandrounds/laws.FnElectOf", spec := "fnElectOf", unfollowed := true, recurses := true, apart := false }
def FnElectOfSaid : Prop := fnElectOfRow.holds Try.pinned (OpenSpec.ofChange fnElectOfSpec)

/-- ITS FALSE NEIGHBOUR: 'it returns false'. Refute it at one input. -/
def fnElectOfWrong : ChangeSpec := { name := "fnElectOf", fn := fun _ => fun
  | [d] => { results := [.lit (.bool false)], args := [d] }
  | _ => none }
def FnElectOfWrongFalsely : Prop := fnElectOfRow.holds Try.pinned (OpenSpec.ofChange fnElectOfWrong)

/-- 'laws.FnRoundsOf': WHATEVER THE INPUT: true; the input reads as it did. -/
def fnRoundsOfSpec : ChangeSpec := { name := "fnRoundsOf", fn := fun _ => fun
  | [d] => { results := [.lit (.bool true)], args := [d] }
  | _ => none }
def fnRoundsOfRow : OpenClaim := { program := "ytblaaeanbhgokaa", sum := "ab43dd8ccbbaa3dac36c43bd5296738ca57e6ee5872895d4f60109d93fe4a107", func := "loop.example/ringsandrounds/laws.FnRoundsOf", spec := "fnRoundsOf", unfollowed := true, recurses := true, apart := false }
def FnRoundsOfSaid : Prop := fnRoundsOfRow.holds Try.pinned (OpenSpec.ofChange fnRoundsOfSpec)

/-- ITS FALSE NEIGHBOUR: 'it returns false'. Refute it at one input. -/
def fnRoundsOfWrong : ChangeSpec := { name := "fnRoundsOf", fn := fun _ => fun
  | [d] => { results := [.lit (.bool false)], args := [d] }
  | _ => none }
def FnRoundsOfWrongFalsely : Prop := fnRoundsOfRow.holds Try.pinned (OpenSpec.ofChange fnRoundsOfWrong)

/-- 'laws.FnExactRingOf': WHATEVER THE INPUT: true; the input reads as it did. -/
def fnExactRingOfSpec : ChangeSpec := { name := "fnExactRingOf", fn := fun _ => fun
  | [d] => { results := [.lit (.bool true)], args := [d] }
  | _ => none }
def fnExactRingOfRow : OpenClaim := { program := "ytblaaeanbhgokaa", sum := "ab43dd8ccbbaa3dac36c43bd5296738ca57e6ee5872895d4f60109d93fe4a107", func := "loop.example/ringsandrounds/laws.FnExactRingOf", spec := "fnExactRingOf", unfollowed := true, recurses := true, apart := false }
def FnExactRingOfSaid : Prop := fnExactRingOfRow.holds Try.pinned (OpenSpec.ofChange fnExactRingOfSpec)

/-- ITS FALSE NEIGHBOUR: 'it returns false'. Refute it at one input. -/
def fnExactRingOfWrong : ChangeSpec := { name := "fnExactRingOf", fn := fun _ => fun
  | [d] => { results := [.lit (.bool false)], args := [d] }
  | _ => none }
def FnExactRingOfWrongFalsely : Prop := fnExactRingOfRow.holds Try.pinned (OpenSpec.ofChange fnExactRingOfWrong)

/-- 'laws.FnValidRun': WHATEVER THE INPUT: true; the input reads as it did. -/
def fnValidRunSpec : ChangeSpec := { name := "fnValidRun", fn := fun _ => fun
  | [d] => { results := [.lit (.bool true)], args := [d] }
  | _ => none }
def fnValidRunRow : OpenClaim := { program := "ytblaaeanbhgokaa", sum := "ab43dd8ccbbaa3dac36c43bd5296738ca57e6ee5872895d4f60109d93fe4a107", func := "loop.example/ringsandrounds/laws.FnValidRun", spec := "fnValidRun", unfollowed := true, recurses := true, apart := false }
def FnValidRunSaid : Prop := fnValidRunRow.holds Try.pinned (OpenSpec.ofChange fnValidRunSpec)

/-- ITS FALSE NEIGHBOUR: 'it returns false'. Refute it at one input. -/
def fnValidRunWrong : ChangeSpec := { name := "fnValidRun", fn := fun _ => fun
  | [d] => { results := [.lit (.bool false)], args := [d] }
  | _ => none }
def FnValidRunWrongFalsely : Prop := fnValidRunRow.holds Try.pinned (OpenSpec.ofChange fnValidRunWrong)

/-- 'laws.FnExactValidRun': WHATEVER THE INPUT: true; the input reads as it did. -/
def fnExactValidRunSpec : ChangeSpec := { name := "fnExactValidRun", fn := fun _ => fun
  | [d] => { results := [.lit (.bool true)], args := [d] }
  | _ => none }
def fnExactValidRunRow : OpenClaim := { program := "ytblaaeanbhgokaa", sum := "ab43dd8ccbbaa3dac36c43bd5296738ca57e6ee5872895d4f60109d93fe4a107", func := "loop.example/ringsandrounds/laws.FnExactValidRun", spec := "fnExactValidRun", unfollowed := true, recurses := true, apart := false }
def FnExactValidRunSaid : Prop := fnExactValidRunRow.holds Try.pinned (OpenSpec.ofChange fnExactValidRunSpec)

/-- ITS FALSE NEIGHBOUR: 'it returns false'. Refute it at one input. -/
def fnExactValidRunWrong : ChangeSpec := { name := "fnExactValidRun", fn := fun _ => fun
  | [d] => { results := [.lit (.bool false)], args := [d] }
  | _ => none }
def FnExactValidRunWrongFalsely : Prop := fnExactValidRunRow.holds Try.pinned (OpenSpec.ofChange fnExactValidRunWrong)

/-- 'laws.FnExactOrdersOf': WHATEVER THE INPUT: true; the input reads as it did. -/
def fnExactOrdersOfSpec : ChangeSpec := { name := "fnExactOrdersOf", fn := fun _ => fun
  | [d1, d2, d3, d4] => { results := [.lit (.bool true)], args := [d1, d2, d3, d4] }
  | _ => none }
def fnExactOrdersOfRow : OpenClaim := { program := "ytblaaeanbhgokaa", sum := "ab43dd8ccbbaa3dac36c43bd5296738ca57e6ee5872895d4f60109d93fe4a107", func := "loop.example/ringsandrounds/laws.FnExactOrdersOf", spec := "fnExactOrdersOf", unfollowed := true, recurses := true, apart := false }
def FnExactOrdersOfSaid : Prop := fnExactOrdersOfRow.holds Try.pinned (OpenSpec.ofChange fnExactOrdersOfSpec)

/-- ITS FALSE NEIGHBOUR: 'it returns false'. Refute it at one input. -/
def fnExactOrdersOfWrong : ChangeSpec := { name := "fnExactOrdersOf", fn := fun _ => fun
  | [d1, d2, d3, d4] => { results := [.lit (.bool false)], args := [d1, d2, d3, d4] }
  | _ => none }
def FnExactOrdersOfWrongFalsely : Prop := fnExactOrdersOfRow.holds Try.pinned (OpenSpec.ofChange fnExactOrdersOfWrong)

/-- 'laws.FnOrdersOf': WHATEVER THE INPUT: true; the input reads as it did. -/
def fnOrdersOfSpec : ChangeSpec := { name := "fnOrdersOf", fn := fun _ => fun
  | [d] => { results := [.lit (.bool true)], args := [d] }
  | _ => none }
def fnOrdersOfRow : OpenClaim := { program := "ytblaaeanbhgokaa", sum := "ab43dd8ccbbaa3dac36c43bd5296738ca57e6ee5872895d4f60109d93fe4a107", func := "loop.example/ringsandrounds/laws.FnOrdersOf", spec := "fnOrdersOf", unfollowed := true, recurses := true, apart := false }
def FnOrdersOfSaid : Prop := fnOrdersOfRow.holds Try.pinned (OpenSpec.ofChange fnOrdersOfSpec)

/-- ITS FALSE NEIGHBOUR: 'it returns false'. Refute it at one input. -/
def fnOrdersOfWrong : ChangeSpec := { name := "fnOrdersOf", fn := fun _ => fun
  | [d] => { results := [.lit (.bool false)], args := [d] }
  | _ => none }
def FnOrdersOfWrongFalsely : Prop := fnOrdersOfRow.holds Try.pinned (OpenSpec.ofChange fnOrdersOfWrong)

/-- 'laws.FnExactValidRules': WHATEVER THE INPUT: true; the input reads as it did. -/
def fnExactValidRulesSpec : ChangeSpec := { name := "fnExactValidRules", fn := fun _ => fun
  | [d] => { results := [.lit (.bool true)], args := [d] }
  | _ => none }
def fnExactValidRulesRow : OpenClaim := { program := "ytblaaeanbhgokaa", sum := "ab43dd8ccbbaa3dac36c43bd5296738ca57e6ee5872895d4f60109d93fe4a107", func := "loop.example/ringsandrounds/laws.FnExactValidRules", spec := "fnExactValidRules", unfollowed := true, recurses := true, apart := false }
def FnExactValidRulesSaid : Prop := fnExactValidRulesRow.holds Try.pinned (OpenSpec.ofChange fnExactValidRulesSpec)

/-- ITS FALSE NEIGHBOUR: 'it returns false'. Refute it at one input. -/
def fnExactValidRulesWrong : ChangeSpec := { name := "fnExactValidRules", fn := fun _ => fun
  | [d] => { results := [.lit (.bool false)], args := [d] }
  | _ => none }
def FnExactValidRulesWrongFalsely : Prop := fnExactValidRulesRow.holds Try.pinned (OpenSpec.ofChange fnExactValidRulesWrong)

/-- 'laws.FnExactRulesOf': WHATEVER THE INPUT: true; the input reads as it did. -/
def fnExactRulesOfSpec : ChangeSpec := { name := "fnExactRulesOf", fn := fun _ => fun
  | [d] => { results := [.lit (.bool true)], args := [d] }
  | _ => none }
def fnExactRulesOfRow : OpenClaim := { program := "ytblaaeanbhgokaa", sum := "ab43dd8ccbbaa3dac36c43bd5296738ca57e6ee5872895d4f60109d93fe4a107", func := "loop.example/ringsandrounds/laws.FnExactRulesOf", spec := "fnExactRulesOf", unfollowed := true, recurses := true, apart := false }
def FnExactRulesOfSaid : Prop := fnExactRulesOfRow.holds Try.pinned (OpenSpec.ofChange fnExactRulesOfSpec)

/-- ITS FALSE NEIGHBOUR: 'it returns false'. Refute it at one input. -/
def fnExactRulesOfWrong : ChangeSpec := { name := "fnExactRulesOf", fn := fun _ => fun
  | [d] => { results := [.lit (.bool false)], args := [d] }
  | _ => none }
def FnExactRulesOfWrongFalsely : Prop := fnExactRulesOfRow.holds Try.pinned (OpenSpec.ofChange fnExactRulesOfWrong)

/- THE SECOND FORM. 'bulk': how many values and letters a reading holds, each counted each time it is reached (what is shared counts as often as it is met; a slice's spare places count too). A statement '..UptoSaid' is the law's where the arguments, and the package variables that the reading takes, are together of bulk at most 1048576: NARROWER than '..Said'. Prove '..Said' where nothing that the law and all that it calls make is longer than what came in: it says more and counts as full. Else prove '..UptoSaid'. A law counts once. -/
mutual
def uptoBulk {H : Type} : DataW H → Nat
  | .lit (.string bytes) => bytes.length + 1
  | .lit _ => 1
  | .nil => 1
  | .ptr d => uptoBulk d + 1
  | .slice elems spare => uptoBulkAll elems + uptoBulkAll spare + 1
  | .agg parts => uptoBulkAll parts + 1
  | .iface _ d => uptoBulk d + 1
  | .map entries => uptoBulkEntries entries + 1
  | .held _ => 1
def uptoBulkAll {H : Type} : List (DataW H) → Nat
  | [] => 0
  | d :: r => uptoBulk d + uptoBulkAll r
def uptoBulkEntries {H : Type} : List (Lit × DataW H) → Nat
  | [] => 0
  | x :: r => uptoBulkEntry x + uptoBulkEntries r
def uptoBulkEntry {H : Type} : Lit × DataW H → Nat
  | (.string bytes, d) => bytes.length + uptoBulk d + 1
  | (_, d) => uptoBulk d + 1
 end
def uptoSmall : (H : Type) → List (DataW H) → Bool := fun _ ds => decide (uptoBulkAll ds ≤ 1048576)
def OpenSpec.upto (s : _root_.Go.ChangeSpec) : _root_.Go.OpenSpec := { _root_.Go.OpenSpec.ofChange s with cond := some uptoSmall }

/-- 'laws.FnExactElectOf', WHERE WHAT IT READS IS OF BULK AT MOST 1048576: true; the input reads as it did. -/
def fnExactElectOfUptoRow : OpenClaim := { program := "ytblaaeanbhgokaa", sum := "ab43dd8ccbbaa3dac36c43bd5296738ca57e6ee5872895d4f60109d93fe4a107", func := "loop.example/ringsandrounds/laws.FnExactElectOf", spec := "fnExactElectOf", unfollowed := true, recurses := true, apart := false, narrowed := true }
def FnExactElectOfUptoSaid : Prop := fnExactElectOfUptoRow.holds Try.pinned (OpenSpec.upto fnExactElectOfSpec)

/-- 'laws.FnExactRoundsOf', WHERE WHAT IT READS IS OF BULK AT MOST 1048576: true; the input reads as it did. -/
def fnExactRoundsOfUptoRow : OpenClaim := { program := "ytblaaeanbhgokaa", sum := "ab43dd8ccbbaa3dac36c43bd5296738ca57e6ee5872895d4f60109d93fe4a107", func := "loop.example/ringsandrounds/laws.FnExactRoundsOf", spec := "fnExactRoundsOf", unfollowed := true, recurses := true, apart := false, narrowed := true }
def FnExactRoundsOfUptoSaid : Prop := fnExactRoundsOfUptoRow.holds Try.pinned (OpenSpec.upto fnExactRoundsOfSpec)

/-- 'laws.FnElectOf', WHERE WHAT IT READS IS OF BULK AT MOST 1048576: true; the input reads as it did. -/
def fnElectOfUptoRow : OpenClaim := { program := "ytblaaeanbhgokaa", sum := "ab43dd8ccbbaa3dac36c43bd5296738ca57e6ee5872895d4f60109d93fe4a107", func := "loop.example/ringsandrounds/laws.FnElectOf", spec := "fnElectOf", unfollowed := true, recurses := true, apart := false, narrowed := true }
def FnElectOfUptoSaid : Prop := fnElectOfUptoRow.holds Try.pinned (OpenSpec.upto fnElectOfSpec)

/-- 'laws.FnRoundsOf', WHERE WHAT IT READS IS OF BULK AT MOST 1048576: true; the input reads as it did. -/
def fnRoundsOfUptoRow : OpenClaim := { program := "ytblaaeanbhgokaa", sum := "ab43dd8ccbbaa3dac36c43bd5296738ca57e6ee5872895d4f60109d93fe4a107", func := "loop.example/ringsandrounds/laws.FnRoundsOf", spec := "fnRoundsOf", unfollowed := true, recurses := true, apart := false, narrowed := true }
def FnRoundsOfUptoSaid : Prop := fnRoundsOfUptoRow.holds Try.pinned (OpenSpec.upto fnRoundsOfSpec)

/-- 'laws.FnExactRingOf', WHERE WHAT IT READS IS OF BULK AT MOST 1048576: true; the input reads as it did. -/
def fnExactRingOfUptoRow : OpenClaim := { program := "ytblaaeanbhgokaa", sum := "ab43dd8ccbbaa3dac36c43bd5296738ca57e6ee5872895d4f60109d93fe4a107", func := "loop.example/ringsandrounds/laws.FnExactRingOf", spec := "fnExactRingOf", unfollowed := true, recurses := true, apart := false, narrowed := true }
def FnExactRingOfUptoSaid : Prop := fnExactRingOfUptoRow.holds Try.pinned (OpenSpec.upto fnExactRingOfSpec)

/-- 'laws.FnValidRun', WHERE WHAT IT READS IS OF BULK AT MOST 1048576: true; the input reads as it did. -/
def fnValidRunUptoRow : OpenClaim := { program := "ytblaaeanbhgokaa", sum := "ab43dd8ccbbaa3dac36c43bd5296738ca57e6ee5872895d4f60109d93fe4a107", func := "loop.example/ringsandrounds/laws.FnValidRun", spec := "fnValidRun", unfollowed := true, recurses := true, apart := false, narrowed := true }
def FnValidRunUptoSaid : Prop := fnValidRunUptoRow.holds Try.pinned (OpenSpec.upto fnValidRunSpec)

/-- 'laws.FnExactValidRun', WHERE WHAT IT READS IS OF BULK AT MOST 1048576: true; the input reads as it did. -/
def fnExactValidRunUptoRow : OpenClaim := { program := "ytblaaeanbhgokaa", sum := "ab43dd8ccbbaa3dac36c43bd5296738ca57e6ee5872895d4f60109d93fe4a107", func := "loop.example/ringsandrounds/laws.FnExactValidRun", spec := "fnExactValidRun", unfollowed := true, recurses := true, apart := false, narrowed := true }
def FnExactValidRunUptoSaid : Prop := fnExactValidRunUptoRow.holds Try.pinned (OpenSpec.upto fnExactValidRunSpec)

/-- 'laws.FnExactOrdersOf', WHERE WHAT IT READS IS OF BULK AT MOST 1048576: true; the input reads as it did. -/
def fnExactOrdersOfUptoRow : OpenClaim := { program := "ytblaaeanbhgokaa", sum := "ab43dd8ccbbaa3dac36c43bd5296738ca57e6ee5872895d4f60109d93fe4a107", func := "loop.example/ringsandrounds/laws.FnExactOrdersOf", spec := "fnExactOrdersOf", unfollowed := true, recurses := true, apart := false, narrowed := true }
def FnExactOrdersOfUptoSaid : Prop := fnExactOrdersOfUptoRow.holds Try.pinned (OpenSpec.upto fnExactOrdersOfSpec)

/-- 'laws.FnOrdersOf', WHERE WHAT IT READS IS OF BULK AT MOST 1048576: true; the input reads as it did. -/
def fnOrdersOfUptoRow : OpenClaim := { program := "ytblaaeanbhgokaa", sum := "ab43dd8ccbbaa3dac36c43bd5296738ca57e6ee5872895d4f60109d93fe4a107", func := "loop.example/ringsandrounds/laws.FnOrdersOf", spec := "fnOrdersOf", unfollowed := true, recurses := true, apart := false, narrowed := true }
def FnOrdersOfUptoSaid : Prop := fnOrdersOfUptoRow.holds Try.pinned (OpenSpec.upto fnOrdersOfSpec)

/-- 'laws.FnExactValidRules', WHERE WHAT IT READS IS OF BULK AT MOST 1048576: true; the input reads as it did. -/
def fnExactValidRulesUptoRow : OpenClaim := { program := "ytblaaeanbhgokaa", sum := "ab43dd8ccbbaa3dac36c43bd5296738ca57e6ee5872895d4f60109d93fe4a107", func := "loop.example/ringsandrounds/laws.FnExactValidRules", spec := "fnExactValidRules", unfollowed := true, recurses := true, apart := false, narrowed := true }
def FnExactValidRulesUptoSaid : Prop := fnExactValidRulesUptoRow.holds Try.pinned (OpenSpec.upto fnExactValidRulesSpec)

/-- 'laws.FnExactRulesOf', WHERE WHAT IT READS IS OF BULK AT MOST 1048576: true; the input reads as it did. -/
def fnExactRulesOfUptoRow : OpenClaim := { program := "ytblaaeanbhgokaa", sum := "ab43dd8ccbbaa3dac36c43bd5296738ca57e6ee5872895d4f60109d93fe4a107", func := "loop.example/ringsandrounds/laws.FnExactRulesOf", spec := "fnExactRulesOf", unfollowed := true, recurses := true, apart := false, narrowed := true }
def FnExactRulesOfUptoSaid : Prop := fnExactRulesOfUptoRow.holds Try.pinned (OpenSpec.upto fnExactRulesOfSpec)

end Rows
end Go.Proofs.Ytblaaeanbhgokaa
