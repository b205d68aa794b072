/-
  Wd. By a program (wip/tools/mk.py) out of snippets.
-/
import Derived.Test.YtblaaeanbhgokaaWp
import Derived.Test.YtblaaeanbhgokaaProg
namespace Go.Proofs.Ytblaaeanbhgokaa
open Go.RowKit

theorem info3 : (Try.prog.info? 3).map (fun i => (i.zero, i.size, i.bytes)) = some (some (.int .i64 0), 1, 8) := by kernel_rfl

/-- 'append(out, x)' of one number onto a row of the call's own. -/
theorem app1 {ops : Array Oper} {rest : List Oper} {o : Oper} {a : Act} {Q : Exit → Act → World → Prop} (w : World) (base : Nat) (A : Option Addr) (n c : Nat) (xs : List Int) (x : Int) (hgd : o.guard = none) (s y : Operand)
    (ho : o.op = .call { callee := .builtin .append, args := #[s, y], argTypes := #[22, 22] }) (hs : a.eval s = .slice A n c) (hown : w.ownsRow base 3 1 (.slice A n c) n (xs.map (Value.int .i64)))
    (hy : a.eval y = .slice (some ⟨w.heap.size, 0, none⟩) 1 1) (hn : n ≤ 100000000) (hbase : base ≤ w.heap.size)
    (h : ∀ A' c' w', w'.ownsRow base 3 1 (.slice A' (n + 1) c') (n + 1) ((xs ++ [x]).map (Value.int .i64)) → Below base w w' → (w.alloc (.cells #[.int .i64 x] 3)).grownBy w' (Value.slice A n c).ownBlock → (A'.isSome = true) → wpList Try.prog ops Q rest (a.put o.dst (.slice A' (n + 1) c')) w') :
    wpList Try.prog ops Q (o :: rest) a (w.alloc (.cells #[.int .i64 x] 3)) := by
  obtain ⟨i0, hi, hz0, hz1, hz2⟩ := info_parts info3
  refine wpList_append_own _ hgd s y 22 ho base 3 i0 (.int .i64 0) 1 8 Try.underlying22 hi hz0 hz1 hz2 rfl (by decide) _ n _ hs (hown.alloc _) ⟨w.heap.size, 0, none⟩ 1 1 [.int .i64 x] hy rfl (cell_one_new _ _ _) (by intro u hu; simp at hu; subst hu; rfl) (by unfold maxLen; omega) (by omega) (by simp; omega) ?_
  intro v' w' hown' hg _
  have hown'' : w'.ownsRow base 3 1 v' (n + 1) ((xs ++ [x]).map (Value.int .i64)) := by simpa using hown'
  rcases hown''.2 with ⟨_, h0⟩ | ⟨g, cap, cur, rfl, _⟩
  · omega
  · refine h _ _ _ hown'' ?_ hg rfl
    refine ((Below.refl base w).alloc hbase _).grown hg (by simp; omega) (fun k hk => ?_)
    exact (World.ownsRow.lt hown k hk).1

/-- '[]int{}' -/
theorem own_empty (w : World) (base : Nat) (hb : base ≤ w.heap.size) : (w.alloc (.cells #[] 3)).ownsRow base 3 1 (.slice (some ⟨w.heap.size, 0, none⟩) 0 0) 0 (([] : List Int).map (Value.int .i64)) := by
  have := World.ownsRow_made (base := base) (e := 3) (size := 1) w #[] 0 hb (by unfold maxLen; omega) rfl
  simpa using this

theorem run_app_nil {P : Program} (w : World) (base : Nat) (t ty e : TypeId) (i : TypeInfo) (size : Nat) (ht : P.underlying t = some (.slice e)) (hi : P.info? e = some i)
    (v : Value) (n : Nat) (xs : List Value) (hown : w.ownsRow base e size v n xs) (c : Nat) : (Builtin.append_ #[t, t] ty #[v, .slice none 0 c]).run P w = .ok v w := by
  rcases hown.2 with ⟨rfl, rfl⟩ | ⟨g, cap, cur, rfl, _, _, hnc, _⟩
  · simp [Builtin.append_, run_underlying ht, sizeOf, typeInfo, hi, Builtin.lenOf, Builtin.firstCells]
  · simp [Builtin.append_, run_underlying ht, sizeOf, typeInfo, hi, Builtin.lenOf, Builtin.firstCells, hnc, storeCells]
/-- 'append(out, xs...)', xs whatever slice of numbers. -/
theorem appAll {ops : Array Oper} {rest : List Oper} {o : Oper} {a : Act} {Q : Exit → Act → World → Prop} (w : World) (base : Nat) (A0 : Option Addr) (n0 c0 : Nat) (xs : List Int) (A : Option Addr) (n c : Nat) (zs : List Int) (hgd : o.guard = none) (s y : Operand)
    (ho : o.op = .call { callee := .builtin .append, args := #[s, y], argTypes := #[22, 22] }) (hs : a.eval s = .slice A0 n0 c0) (hown : w.ownsRow base 3 1 (.slice A0 n0 c0) n0 (xs.map (Value.int .i64)))
    (hy : a.eval y = .slice A n c) (hr : SI w A n zs) (hn : n0 + n ≤ 100000000) (hbase : base ≤ w.heap.size)
    (h : ∀ A' c' w', w'.ownsRow base 3 1 (.slice A' (n0 + n) c') (n0 + n) ((xs ++ zs).map (Value.int .i64)) → Below base w w' → w.grownBy w' (Value.slice A0 n0 c0).ownBlock → wpList Try.prog ops Q rest (a.put o.dst (.slice A' (n0 + n) c')) w') :
    wpList Try.prog ops Q (o :: rest) a w := by
  obtain ⟨i0, hi, hz0, hz1, hz2⟩ := info_parts info3
  have hb : ∀ w', w.grownBy w' (Value.slice A0 n0 c0).ownBlock → Below base w w' := fun w' hg => (Below.refl base w).grown hg hbase (fun k hk => (World.ownsRow.lt hown k hk).1)
  by_cases h0 : A = none ∧ n = 0
  · obtain ⟨rfl, rfl⟩ := h0
    have hz : zs = [] := List.eq_nil_of_length_eq_zero hr.1
    subst hz
    refine wpList_plain hgd fun K hK => ?_
    have hrun := run_app_nil (P := Try.prog) w base 22 o.type 3 i0 1 Try.underlying22 hi _ _ _ hown c
    unfold Oper.wp
    simp [execOp, ho, resolve, invoke, builtin, hs, hy, hrun, Result.andThen]
    exact hK _ _ (h A0 c0 w (by simpa using hown) (Below.refl _ _) (World.grownBy.refl _ _))
  · obtain ⟨ad, rfl, hc⟩ : ∃ ad, A = some ad ∧ ∀ j u, (zs.map (Value.int .i64))[j]? = some u → w.cell? (ad.add j) = some u := by
      by_cases hn0 : n = 0
      · subst hn0
        have hz : zs = [] := List.eq_nil_of_length_eq_zero hr.1
        cases A with
        | none => exact absurd ⟨rfl, rfl⟩ h0
        | some ad => exact ⟨ad, rfl, by subst hz; simp⟩
      · obtain ⟨b, off, rfl, hc⟩ := hr.2 (by omega)
        refine ⟨_, rfl, fun j u hu => ?_⟩
        have hj : j < zs.length := by have := (List.getElem?_eq_some_iff.1 hu).1; simpa using this
        rw [Addr.add_lit, hc j (by rw [← hr.1]; exact hj)]
        simp [hj] at hu
        rw [← hu]
        simp [iat, hj]
    refine wpList_append_own _ hgd s y 22 ho base 3 i0 (.int .i64 0) 1 8 Try.underlying22 hi hz0 hz1 hz2 rfl (by decide) _ n0 _ hs hown ad n c (zs.map (Value.int .i64)) hy (by simp [hr.1]) hc (ints_oneCell _ _) (by unfold maxLen; omega) (by omega) hbase ?_
    intro v' w' hown' hg hnil
    rw [← List.map_append] at hown'
    have hv : ∃ A' c', v' = .slice A' (n0 + n) c' := by
      rcases hown'.2 with ⟨rfl, h1⟩ | ⟨g, cap, cur, rfl, _⟩
      · exact ⟨none, 0, by rw [h1]⟩
      · exact ⟨_, _, rfl⟩
    obtain ⟨A', c', rfl⟩ := hv
    exact h _ _ _ hown' (hb _ hg) hg

theorem own_cap {w : World} {base n c : Nat} {A : Option Addr} {xs : List Value} {e size : Nat} (h : w.ownsRow base e size (.slice A n c) n xs) : n ≤ c := by
  rcases h.2 with ⟨h1, h2⟩ | ⟨g, cap, cur, h1, _, _, h3, _⟩
  · omega
  · injection h1 with _ _ h4; omega
theorem own_form {w : World} {base n c : Nat} {A : Option Addr} {xs : List Value} {e size : Nat} (h : w.ownsRow base e size (.slice A n c) n xs) (hn : 0 < n) : ∃ g, A = some ⟨g, 0, none⟩ ∧ base ≤ g ∧ g < w.heap.size := by
  rcases h.2 with ⟨h1, h2⟩ | ⟨g, cap, cur, h1, hb, hh, h3, _⟩
  · omega
  · injection h1 with h4; exact ⟨g, h4, hb, (Array.getElem?_eq_some_iff.1 hh).1⟩

/-- 'append(out, x)' of one number, with the place of the new row. -/
theorem appL {ops : Array Oper} {rest : List Oper} {o : Oper} {a : Act} {Q : Exit → Act → World → Prop} (w : World) (base : Nat) (A : Option Addr) (n c : Nat) (xs : List Int) (x : Int) (hgd : o.guard = none) (s y : Operand)
    (ho : o.op = .call { callee := .builtin .append, args := #[s, y], argTypes := #[22, 22] }) (hs : a.eval s = .slice A n c) (hown : w.ownsRow base 3 1 (.slice A n c) n (xs.map (Value.int .i64)))
    (hy : a.eval y = .slice (some ⟨w.heap.size, 0, none⟩) 1 1) (hn : n ≤ 100000000) (hbase : base ≤ w.heap.size)
    (h : ∀ g c' w', w'.ownsRow base 3 1 (.slice (some ⟨g, 0, none⟩) (n + 1) c') (n + 1) ((xs ++ [x]).map (Value.int .i64)) → Below base w w' → (w.alloc (.cells #[.int .i64 x] 3)).grownBy w' (Value.slice A n c).ownBlock → ((Value.slice A n c).ownBlock = some g ∨ g = w.heap.size + 1) → wpList Try.prog ops Q rest (a.put o.dst (.slice (some ⟨g, 0, none⟩) (n + 1) c')) w') :
    wpList Try.prog ops Q (o :: rest) a (w.alloc (.cells #[.int .i64 x] 3)) := by
  obtain ⟨i0, hi, hz0, hz1, hz2⟩ := info_parts info3
  refine wpList_append_lies _ hgd s y 22 ho base 3 i0 (.int .i64 0) 1 8 Try.underlying22 hi hz0 hz1 hz2 rfl (by decide) _ n _ hs (hown.alloc _) ⟨w.heap.size, 0, none⟩ 1 1 [.int .i64 x] hy rfl (cell_one_new _ _ _) (by intro u hu; simp at hu; subst hu; rfl) (by omega) (by unfold maxLen; omega) (by omega) (by simp; omega) (w.heap.size + 1) (by simp) ?_
  intro g cap w' hown' hg hl _
  have hown'' : w'.ownsRow base 3 1 (.slice (some ⟨g, 0, none⟩) (n + 1) cap) (n + 1) ((xs ++ [x]).map (Value.int .i64)) := by simpa using hown'
  refine h _ _ _ hown'' ?_ hg hl
  refine ((Below.refl base w).alloc hbase _).grown hg (by simp; omega) (fun k hk => ?_)
  exact (World.ownsRow.lt hown k hk).1

end Go.Proofs.Ytblaaeanbhgokaa
