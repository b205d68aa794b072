/-
  No cell of these rows narrows 'for every input' (looked for: loops, veiled, ifaces, maps, wideKeys, modest, calm, conditions, laid).
  DERIVED. THE GIVEN ROWS OF THIS SEAT. 3 by the template 'for every input the law returns true; each argument reads behind the call as it read before'; 0 by the template 'total and deterministic' (their statements: YtfjpnennbdefiaaTotals.lean).
  GIVEN WITH THE SEED: the statements are not yours to turn. If you find one false, say at which input.
  Laid BY PROGRAM, IN A SANDBOX (cutbox-rows.mjs): the forced cells as the released guide's own fill.sh prints them over the translation 037a17d7e9a66059… (all of the seat's roots in one cut). By AI agents, Wed Nov 11 2026. No macro, syntax, notation, axiom, sorry.
-/
import Derived.Test.YtfjpnennbdefiaaChecked
import GoSem.Claim
import GoSem.ClaimJoined
import GoSem.ClaimMapViews
import Derived.JoinedTies
import Derived.KernelRfl
namespace Go.Proofs.Ytfjpnennbdefiaa
/- THE CELL 'sum', in the pinned program and in every row, IS THE sha256 OF THE DUMP (.gsa) THAT YtfjpnennbdefiaaProg.lean LOADS. Nothing in Lean hashes anything: it is a label: what it is worth is what the hold of that sum in a sandbox is worth. -/
noncomputable def Try.pinned : Pinned := { name := "ytfjpnennbdefiaa", sum := "037a17d7e9a660596d4b7fb1a2fcf34c4b64edee64f7504dcfa2a8e13c6c04d9", checked := Try.checked }
namespace Rows
def none {H : Type} : Left H := { results := [], args := [] }

/-- 'laws.FnValidView': WHATEVER THE INPUT: true; the input reads as it did. -/
def fnValidViewSpec : ChangeSpec := { name := "fnValidView", fn := fun _ => fun
  | [d] => { results := [.lit (.bool true)], args := [d] }
  | _ => none }
def fnValidViewRow : OpenClaim := { program := "ytfjpnennbdefiaa", sum := "037a17d7e9a660596d4b7fb1a2fcf34c4b64edee64f7504dcfa2a8e13c6c04d9", func := "loop.example/ringsandrounds/laws.FnValidView", spec := "fnValidView", unfollowed := true, recurses := true, apart := false }
def FnValidViewSaid : Prop := fnValidViewRow.holds Try.pinned (OpenSpec.ofChange fnValidViewSpec)

/-- ITS FALSE NEIGHBOUR: 'it returns false'. Refute it at one input. -/
def fnValidViewWrong : ChangeSpec := { name := "fnValidView", fn := fun _ => fun
  | [d] => { results := [.lit (.bool false)], args := [d] }
  | _ => none }
def FnValidViewWrongFalsely : Prop := fnValidViewRow.holds Try.pinned (OpenSpec.ofChange fnValidViewWrong)

/-- 'laws.FnExactMuddyOf': WHATEVER THE INPUT: true; the input reads as it did. -/
def fnExactMuddyOfSpec : ChangeSpec := { name := "fnExactMuddyOf", fn := fun _ => fun
  | [d1, d2] => { results := [.lit (.bool true)], args := [d1, d2] }
  | _ => none }
def fnExactMuddyOfRow : OpenClaim := { program := "ytfjpnennbdefiaa", sum := "037a17d7e9a660596d4b7fb1a2fcf34c4b64edee64f7504dcfa2a8e13c6c04d9", func := "loop.example/ringsandrounds/laws.FnExactMuddyOf", spec := "fnExactMuddyOf", unfollowed := true, recurses := true, apart := false }
def FnExactMuddyOfSaid : Prop := fnExactMuddyOfRow.holds Try.pinned (OpenSpec.ofChange fnExactMuddyOfSpec)

/-- ITS FALSE NEIGHBOUR: 'it returns false'. Refute it at one input. -/
def fnExactMuddyOfWrong : ChangeSpec := { name := "fnExactMuddyOf", fn := fun _ => fun
  | [d1, d2] => { results := [.lit (.bool false)], args := [d1, d2] }
  | _ => none }
def FnExactMuddyOfWrongFalsely : Prop := fnExactMuddyOfRow.holds Try.pinned (OpenSpec.ofChange fnExactMuddyOfWrong)

/-- 'laws.FnMuddyOf': WHATEVER THE INPUT: true; the input reads as it did. -/
def fnMuddyOfSpec : ChangeSpec := { name := "fnMuddyOf", fn := fun _ => fun
  | [d] => { results := [.lit (.bool true)], args := [d] }
  | _ => none }
def fnMuddyOfRow : OpenClaim := { program := "ytfjpnennbdefiaa", sum := "037a17d7e9a660596d4b7fb1a2fcf34c4b64edee64f7504dcfa2a8e13c6c04d9", func := "loop.example/ringsandrounds/laws.FnMuddyOf", spec := "fnMuddyOf", unfollowed := true, recurses := true, apart := false }
def FnMuddyOfSaid : Prop := fnMuddyOfRow.holds Try.pinned (OpenSpec.ofChange fnMuddyOfSpec)

/-- ITS FALSE NEIGHBOUR: 'it returns false'. Refute it at one input. -/
def fnMuddyOfWrong : ChangeSpec := { name := "fnMuddyOf", fn := fun _ => fun
  | [d] => { results := [.lit (.bool false)], args := [d] }
  | _ => none }
def FnMuddyOfWrongFalsely : Prop := fnMuddyOfRow.holds Try.pinned (OpenSpec.ofChange fnMuddyOfWrong)

/- THE SECOND FORM. 'bulk': how many values and letters a reading holds, each counted each time it is reached (what is shared counts as often as it is met; a slice's spare places count too). A statement '..UptoSaid' is the law's where the arguments, and the package variables that the reading takes, are together of bulk at most 1048576: NARROWER than '..Said'. Prove '..Said' where nothing that the law and all that it calls make is longer than what came in: it says more and counts as full. Else prove '..UptoSaid'. A law counts once. -/
mutual
def uptoBulk {H : Type} : DataW H → Nat
  | .lit (.string bytes) => bytes.length + 1
  | .lit _ => 1
  | .nil => 1
  | .ptr d => uptoBulk d + 1
  | .slice elems spare => uptoBulkAll elems + uptoBulkAll spare + 1
  | .agg parts => uptoBulkAll parts + 1
  | .iface _ d => uptoBulk d + 1
  | .map entries => uptoBulkEntries entries + 1
  | .held _ => 1
def uptoBulkAll {H : Type} : List (DataW H) → Nat
  | [] => 0
  | d :: r => uptoBulk d + uptoBulkAll r
def uptoBulkEntries {H : Type} : List (Lit × DataW H) → Nat
  | [] => 0
  | x :: r => uptoBulkEntry x + uptoBulkEntries r
def uptoBulkEntry {H : Type} : Lit × DataW H → Nat
  | (.string bytes, d) => bytes.length + uptoBulk d + 1
  | (_, d) => uptoBulk d + 1
 end
def uptoSmall : (H : Type) → List (DataW H) → Bool := fun _ ds => decide (uptoBulkAll ds ≤ 1048576)
def OpenSpec.upto (s : _root_.Go.ChangeSpec) : _root_.Go.OpenSpec := { _root_.Go.OpenSpec.ofChange s with cond := some uptoSmall }

/-- 'laws.FnValidView', WHERE WHAT IT READS IS OF BULK AT MOST 1048576: true; the input reads as it did. -/
def fnValidViewUptoRow : OpenClaim := { program := "ytfjpnennbdefiaa", sum := "037a17d7e9a660596d4b7fb1a2fcf34c4b64edee64f7504dcfa2a8e13c6c04d9", func := "loop.example/ringsandrounds/laws.FnValidView", spec := "fnValidView", unfollowed := true, recurses := true, apart := false, narrowed := true }
def FnValidViewUptoSaid : Prop := fnValidViewUptoRow.holds Try.pinned (OpenSpec.upto fnValidViewSpec)

/-- 'laws.FnExactMuddyOf', WHERE WHAT IT READS IS OF BULK AT MOST 1048576: true; the input reads as it did. -/
def fnExactMuddyOfUptoRow : OpenClaim := { program := "ytfjpnennbdefiaa", sum := "037a17d7e9a660596d4b7fb1a2fcf34c4b64edee64f7504dcfa2a8e13c6c04d9", func := "loop.example/ringsandrounds/laws.FnExactMuddyOf", spec := "fnExactMuddyOf", unfollowed := true, recurses := true, apart := false, narrowed := true }
def FnExactMuddyOfUptoSaid : Prop := fnExactMuddyOfUptoRow.holds Try.pinned (OpenSpec.upto fnExactMuddyOfSpec)

/-- 'laws.FnMuddyOf', WHERE WHAT IT READS IS OF BULK AT MOST 1048576: true; the input reads as it did. -/
def fnMuddyOfUptoRow : OpenClaim := { program := "ytfjpnennbdefiaa", sum := "037a17d7e9a660596d4b7fb1a2fcf34c4b64edee64f7504dcfa2a8e13c6c04d9", func := "loop.example/ringsandrounds/laws.FnMuddyOf", spec := "fnMuddyOf", unfollowed := true, recurses := true, apart := false, narrowed := true }
def FnMuddyOfUptoSaid : Prop := fnMuddyOfUptoRow.holds Try.pinned (OpenSpec.upto fnMuddyOfSpec)

end Rows
end Go.Proofs.Ytfjpnennbdefiaa
