/-
  FnExactValidRules: for all rules the program's ValidRules returns what the reference's returns, and leaves its argument as it was. No condition.
-/
import Derived.Test.YtblaaeanbhgokaaLRu
import Derived.Test.YtblaaeanbhgokaaFr
import Derived.Test.YtblaaeanbhgokaaRows
import Derived.WalkKit
import Derived.ProofKit
import Derived.OpenShut
import Derived.ShutString
import Derived.ChangeOld
import Derived.Below
namespace Go.Proofs.Ytblaaeanbhgokaa.fnExactValidRules
open Go.ChangeShapes Go.WideShapes Go.ChangeAt Go.RowKit
open Go.Proofs.Ytblaaeanbhgokaa
set_option linter.unusedVariables false

theorem own : ownKnob Try.prog.godebug = none := by kernel_rfl
theorem laidOut : laidOutB Try.prog = true := by kernel_rfl

set_option maxRecDepth 100000 in
theorem lifted (os : Os) (started : os.Started) (H : Type) (enc : TypeId × Value → H) :
    ReturnsInHanded {} Try.checked os 12 .any (Rows.fnExactValidRulesSpec.pre6 enc Try.prog Try.f12 Rows.fnExactValidRulesRow.domain false) (Rows.fnExactValidRulesSpec.post enc Try.prog Try.f12 false true false false) := by
  refine returnsInHanded_of_change (C := Try.checked) own started (by kernel_rfl) Try.func12
    (ChangeSpec.witness6 (enc := enc) (C := Try.checked) false ⟨#[], #[.agg #[.slice none 0 0, .slice none 0 0, .slice none 0 0]], []⟩ 8 (by kernel_rfl) (by kernel_rfl) (by kernel_rfl) (by kernel_rfl)) ?_
  intro W base args ds gs before hval0 hW hcnd _
  have hval : ∀ (j : Nat) t v, Try.f12.params[j]? = some t → args[j]? = some v → Value.okWide Try.prog W .any base t v := hval0
  have hW' := hW
  obtain ⟨p, q, hA0, hV, rfl, hfz, hnd⟩ := hW
  have hA : DataW.TrodAll enc Try.prog W 0 (fun _ => true) true Try.f12.params.toList args.toList ds p := hA0
  rw [Try.params12] at hA hval
  obtain ⟨v0, vs0, d0, ds0, p0, q0, hargs, rfl, rfl, h0, r0⟩ := trodAll_cons hA
  obtain ⟨rfl, rfl, rfl⟩ := trodAll_nil r0
  obtain rfl : args = #[v0] := by cases args; simp_all
  obtain ⟨rfl, rfl⟩ := trodVars_none hV
  have k0 := h0
  have lt0 : ∀ x ∈ p0, x.block < W.heap.size := by obtain ⟨m, hm⟩ := k0; exact DataW.trod_lt m _ _ _ hm
  obtain ⟨xa0, xb0, xd0, ya0, yb0, yd0, m0, rfl, _, _, ea0, eb0, ed0⟩ := Go.Joins.open_agg3 Try.underlying59 (by kernel_rfl) (by kernel_rfl) (hval 0 59 v0 rfl rfl) h0
  obtain ⟨A0, na0, c0, za0, rfl, _, ha0, sa0, _⟩ := si_tr Try.underlying22 Try.underlying3 (by kernel_rfl) ea0
  obtain ⟨B0, nb0, cc0, zb0, rfl, _, hb0, rb0, sb0, _⟩ := ss_tr Try.underlying35 Try.underlying22 Try.underlying3 (by kernel_rfl) (by kernel_rfl) eb0
  obtain ⟨D0, nd0, cd0, zd0, rfl, _, hd0, rd0, sd0, _⟩ := ss_tr Try.underlying35 Try.underlying22 Try.underlying3 (by kernel_rfl) (by kernel_rfl) ed0
  clear hA0 hval0
  refine (lawExactValidRules A0 na0 c0 B0 nb0 cc0 D0 nd0 cd0 za0 zb0 zd0 W ha0 hb0 hd0 rb0 rd0 sa0 sb0 sd0).mono fun e W' ⟨he, bel⟩ => ?_
  subst he
  exact ⟨_, rfl, _, _, _, [], _, [], hW', trodAll_mk1 (shut_bool Try.underlying4 _), (trodAll_cons_mk (Below.trod laidOut (by kernel_rfl) (of_decide_eq_true (by kernel_rfl)) k0 bel lt0) trodAll_mk0), rfl, bel.frame _, fun h => by cases h⟩

theorem over : Rows.fnExactValidRulesRow.holds Try.pinned (OpenSpec.ofChange Rows.fnExactValidRulesSpec) :=
  OpenClaim.holds_of_wide 12 Try.f12 rfl rfl rfl rfl rfl rfl rfl ⟨rfl, rfl, rfl, rfl, rfl⟩ rfl rfl rfl rfl rfl (by kernel_rfl) Try.func12 (by kernel_rfl)
    (of_decide_eq_true (by kernel_rfl)) (by unfold Func.isWrapper; first | (rw [if_pos (by decide +kernel)]; kernel_rfl) | (rw [if_neg (by decide +kernel)]; exact ⟨rfl, rfl⟩))
    (fun os started H enc _ => lifted os started H enc)

/-- ████ THE STATEMENT ████ -/
theorem proved : Rows.FnExactValidRulesSaid := over
#print axioms proved
end Go.Proofs.Ytblaaeanbhgokaa.fnExactValidRules
