/-
  Step. By a program (wip/tools/mk.py) out of snippets.
-/
import Derived.Test.YtblaaeanbhgokaaWd
import Derived.Deep.AppendLies
import Derived.Deep.RegionHeld3
namespace Go.Proofs.Ytblaaeanbhgokaa
open Go.RowKit

/-- What 'append(s, zs...)' runs to. -/
theorem run_appAll (ty : TypeId) (w : World) (base : Nat) (A0 : Option Addr) (n0 c0 : Nat) (xs : List Int) (A : Option Addr) (n c : Nat) (zs : List Int)
    (hown : w.ownsRow base 3 1 (.slice A0 n0 c0) n0 (xs.map (Value.int .i64)))
    (hr : SI w A n zs) (hn : n0 + n ≤ 100000000) (hbase : base ≤ w.heap.size) :
    ∃ A' c' w', (Builtin.append_ #[22, 22] ty #[.slice A0 n0 c0, .slice A n c]).run Try.prog w = .ok (.slice A' (n0 + n) c') w' ∧
      w'.ownsRow base 3 1 (.slice A' (n0 + n) c') (n0 + n) ((xs ++ zs).map (Value.int .i64)) ∧ Below base w w' ∧ w.grownBy w' (Value.slice A0 n0 c0).ownBlock := by
  obtain ⟨i0, hi, hz0, hz1, hz2⟩ := info_parts info3
  have hb : ∀ w', w.grownBy w' (Value.slice A0 n0 c0).ownBlock → Below base w w' := fun w' hg => (Below.refl base w).grown hg hbase (fun k hk => (World.ownsRow.lt hown k hk).1)
  by_cases h0 : A = none ∧ n = 0
  · obtain ⟨rfl, rfl⟩ := h0
    have hz : zs = [] := List.eq_nil_of_length_eq_zero hr.1
    subst hz
    exact ⟨A0, c0, w, run_app_nil (P := Try.prog) w base 22 ty 3 i0 1 Try.underlying22 hi _ _ _ hown c, by simpa using hown, Below.refl _ _, World.grownBy.refl _ _⟩
  · obtain ⟨ad, rfl, hc⟩ : ∃ ad, A = some ad ∧ ∀ j u, (zs.map (Value.int .i64))[j]? = some u → w.cell? (ad.add j) = some u := by
      by_cases hn0 : n = 0
      · subst hn0
        have hz : zs = [] := List.eq_nil_of_length_eq_zero hr.1
        cases A with
        | none => exact absurd ⟨rfl, rfl⟩ h0
        | some ad => exact ⟨ad, rfl, by subst hz; simp⟩
      · obtain ⟨b, off, rfl, hc⟩ := hr.2 (by omega)
        refine ⟨_, rfl, fun j u hu => ?_⟩
        have hj : j < zs.length := by have := (List.getElem?_eq_some_iff.1 hu).1; simpa using this
        rw [Addr.add_lit, hc j (by rw [← hr.1]; exact hj)]
        simp [hj] at hu
        rw [← hu]
        simp [iat, hj]
    obtain ⟨v', w', hrun, hown', hg, _, _⟩ := run_append_own_at (P := Try.prog) w base 22 ty 3 i0 (.int .i64 0) 1 8 Try.underlying22 hi hz0 hz1 hz2 rfl (by decide) _ n0 _ hown ad n c (zs.map (Value.int .i64)) (by simp [hr.1]) hc (ints_oneCell _ _) (by unfold maxLen; omega) (by omega) hbase
    rw [← List.map_append] at hown'
    have hv : ∃ A' c', v' = .slice A' (n0 + n) c' := by
      rcases hown'.2 with ⟨rfl, h1⟩ | ⟨g, cap, cur, rfl, _⟩
      · exact ⟨none, 0, by rw [h1]⟩
      · exact ⟨_, _, rfl⟩
    obtain ⟨A', c', rfl⟩ := hv
    exact ⟨A', c', w', hrun, hown', hb _ hg, hg⟩

/-- 'append(s, zs...)' at a step of a region that draws its order. -/
theorem stepAll {ops : Array Oper} {o : Oper} {a : Act} {K : Act → World → Prop} {Q : Exit → Act → World → Prop} {E : Prop} (w : World) (base : Nat) (A0 : Option Addr) (n0 c0 : Nat) (xs : List Int) (A : Option Addr) (n c : Nat) (zs : List Int) (m : Nat) (ys : List Int) (hgd : o.guard = none) (s y : Operand)
    (ho : o.op = .call { callee := .builtin .append, args := #[s, y], argTypes := #[22, 22] }) (hs : a.eval s = .slice A0 n0 c0) (hown : w.ownsRow base 3 1 (.slice A0 n0 c0) n0 (xs.map (Value.int .i64)))
    (hy : a.eval y = .slice A n c) (hr : SI w A n zs) (hn : n0 + n = m) (hys : xs ++ zs = ys) (hm : m ≤ 100000000) (hbase : base ≤ w.heap.size)
    (h : ∀ A' c' w', w'.ownsRow base 3 1 (.slice A' m c') m (ys.map (Value.int .i64)) → Below base w w' → w.grownBy w' (Value.slice A0 n0 c0).ownBlock → K (a.put o.dst (.slice A' m c')) w') :
    if Region.wanted o (yielded ops a.tmps) = true then Oper.wp Try.prog o a w K Q else E := by
  subst hn; subst hys
  have hw : Region.wanted o (yielded ops a.tmps) = true := by simp [Region.wanted, hgd]
  rw [if_pos hw]
  obtain ⟨A', c', w', hrun, h1, h2, h3⟩ := run_appAll o.type w base A0 n0 c0 xs A n c zs hown hr hm hbase
  unfold Oper.wp
  simp [execOp, ho, resolve, invoke, builtin, hs, hy, hrun, Result.andThen]
  exact h A' c' w' h1 h2 h3

section
variable {P : Program} {ops : Array Oper} {Q : Exit → Act → World → Prop} {md : Region.Mode} {S : World → Prop}
/-- Take an operation first: it is found in the list, so that it stands written out. -/
theorem takeL (i : Nat) {oi : Oper} {v : Value} {fuel : Nat} {listed : Array Bool} {a : Act} {w : World} (hi : ops.toList[i]? = some oi)
    (hs : Region.noSelect ops = true) (hf : Region.free md ops listed i = true) (hr : (Region.ready md ops listed).contains i = true)
    (hQ : ∀ c a w, Q (.panic c) (a.put oi.dst v) w → Q (.panic c) a w) (hS : S w)
    (hw : Region.wanted oi (yielded ops a.tmps) = true) (hy : ∀ w, S w → (execOp a.eval oi).run P w = .ok (.value v) w)
    (h : wpAnyH P md ops Q S fuel (listed.setIfInBounds i true) (a.put oi.dst v) w) : wpAnyH P md ops Q S (fuel + 1) listed a w :=
  wpAnyH_take (by rw [← Array.getElem?_toList]; exact hi) hs hf hr hQ (Or.inl ⟨hw, hy⟩) hS h
theorem skipL (i : Nat) {oi : Oper} {fuel : Nat} {listed : Array Bool} {a : Act} {w : World} (hi : ops.toList[i]? = some oi)
    (hs : Region.noSelect ops = true) (hf : Region.free md ops listed i = true) (hr : (Region.ready md ops listed).contains i = true)
    (hQ : ∀ c a w, Q (.panic c) (a.put oi.dst undef) w → Q (.panic c) a w) (hS : S w)
    (hw : Region.wanted oi (yielded ops a.tmps) = false)
    (h : wpAnyH P md ops Q S fuel (listed.setIfInBounds i true) (a.put oi.dst undef) w) : wpAnyH P md ops Q S (fuel + 1) listed a w :=
  wpAnyH_take (by rw [← Array.getElem?_toList]; exact hi) hs hf hr hQ (Or.inr ⟨hw, rfl⟩) hS h
end

end Go.Proofs.Ytblaaeanbhgokaa
