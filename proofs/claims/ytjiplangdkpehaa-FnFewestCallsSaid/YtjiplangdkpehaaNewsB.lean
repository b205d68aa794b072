/-
  NewsB. By a program (wip/tools/mk.py) out of snippets.
-/
import Derived.Test.YtjiplangdkpehaaFn2
namespace Go.Proofs.Ytjiplangdkpehaa
open Go.RowKit

/-- 'append(out, xs...)', xs whatever slice of numbers. -/
theorem appAllN {ops : Array Oper} {rest : List Oper} {o : Oper} {a : Act} {Q : Exit → Act → World → Prop} (w : World) (base : Nat) (A0 : Option Addr) (n0 c0 : Nat) (xs : List Int) (A : Option Addr) (n c : Nat) (zs : List Int) (hgd : o.guard = none) (s y : Operand)
    (ho : o.op = .call { callee := .builtin .append, args := #[s, y], argTypes := #[57, 57] }) (hs : a.eval s = .slice A0 n0 c0) (hown : w.ownsRow base 3 1 (.slice A0 n0 c0) n0 (xs.map (Value.int .i64)))
    (hy : a.eval y = .slice A n c) (hr : SI w A n zs) (hn : n0 + n ≤ 100000000) (hbase : base ≤ w.heap.size)
    (h : ∀ A' c' w', w'.ownsRow base 3 1 (.slice A' (n0 + n) c') (n0 + n) ((xs ++ zs).map (Value.int .i64)) → Below base w w' → w.grownBy w' (Value.slice A0 n0 c0).ownBlock → wpList Try.prog ops Q rest (a.put o.dst (.slice A' (n0 + n) c')) w') :
    wpList Try.prog ops Q (o :: rest) a w := by
  obtain ⟨i0, hi, hz0, hz1, hz2⟩ := info_parts info3
  have hb : ∀ w', w.grownBy w' (Value.slice A0 n0 c0).ownBlock → Below base w w' := fun w' hg => (Below.refl base w).grown hg hbase (fun k hk => (World.ownsRow.lt hown k hk).1)
  by_cases h0 : A = none ∧ n = 0
  · obtain ⟨rfl, rfl⟩ := h0
    have hz : zs = [] := List.eq_nil_of_length_eq_zero hr.1
    subst hz
    refine wpList_plain hgd fun K hK => ?_
    have hrun := run_app_nil (P := Try.prog) w base 57 o.type 3 i0 1 Try.underlying57 hi _ _ _ hown c
    unfold Oper.wp
    simp [execOp, ho, resolve, invoke, builtin, hs, hy, hrun, Result.andThen]
    exact hK _ _ (h A0 c0 w (by simpa using hown) (Below.refl _ _) (World.grownBy.refl _ _))
  · obtain ⟨ad, rfl, hc⟩ : ∃ ad, A = some ad ∧ ∀ j u, (zs.map (Value.int .i64))[j]? = some u → w.cell? (ad.add j) = some u := by
      by_cases hn0 : n = 0
      · subst hn0
        have hz : zs = [] := List.eq_nil_of_length_eq_zero hr.1
        cases A with
        | none => exact absurd ⟨rfl, rfl⟩ h0
        | some ad => exact ⟨ad, rfl, by subst hz; simp⟩
      · obtain ⟨b, off, rfl, hc⟩ := hr.2 (by omega)
        refine ⟨_, rfl, fun j u hu => ?_⟩
        have hj : j < zs.length := by have := (List.getElem?_eq_some_iff.1 hu).1; simpa using this
        rw [Addr.add_lit, hc j (by rw [← hr.1]; exact hj)]
        simp [hj] at hu
        rw [← hu]
        simp [iat, hj]
    refine wpList_append_own _ hgd s y 57 ho base 3 i0 (.int .i64 0) 1 8 Try.underlying57 hi hz0 hz1 hz2 rfl (by decide) _ n0 _ hs hown ad n c (zs.map (Value.int .i64)) hy (by simp [hr.1]) hc (ints_oneCell _ _) (by unfold maxLen; omega) (by omega) hbase ?_
    intro v' w' hown' hg hnil
    rw [← List.map_append] at hown'
    have hv : ∃ A' c', v' = .slice A' (n0 + n) c' := by
      rcases hown'.2 with ⟨rfl, h1⟩ | ⟨g, cap, cur, rfl, _⟩
      · exact ⟨none, 0, by rw [h1]⟩
      · exact ⟨_, _, rfl⟩
    obtain ⟨A', c', rfl⟩ := hv
    exact h _ _ _ hown' (hb _ hg) hg

/-- 'append(out, x)' of one number, with the place of the new row. -/
theorem appLN {ops : Array Oper} {rest : List Oper} {o : Oper} {a : Act} {Q : Exit → Act → World → Prop} (w : World) (base : Nat) (A : Option Addr) (n c : Nat) (xs : List Int) (x : Int) (hgd : o.guard = none) (s y : Operand)
    (ho : o.op = .call { callee := .builtin .append, args := #[s, y], argTypes := #[57, 57] }) (hs : a.eval s = .slice A n c) (hown : w.ownsRow base 3 1 (.slice A n c) n (xs.map (Value.int .i64)))
    (hy : a.eval y = .slice (some ⟨w.heap.size, 0, none⟩) 1 1) (hn : n ≤ 100000000) (hbase : base ≤ w.heap.size)
    (h : ∀ g c' w', w'.ownsRow base 3 1 (.slice (some ⟨g, 0, none⟩) (n + 1) c') (n + 1) ((xs ++ [x]).map (Value.int .i64)) → Below base w w' → (w.alloc (.cells #[.int .i64 x] 3)).grownBy w' (Value.slice A n c).ownBlock → ((Value.slice A n c).ownBlock = some g ∨ g = w.heap.size + 1) → wpList Try.prog ops Q rest (a.put o.dst (.slice (some ⟨g, 0, none⟩) (n + 1) c')) w') :
    wpList Try.prog ops Q (o :: rest) a (w.alloc (.cells #[.int .i64 x] 3)) := by
  obtain ⟨i0, hi, hz0, hz1, hz2⟩ := info_parts info3
  refine wpList_append_lies _ hgd s y 57 ho base 3 i0 (.int .i64 0) 1 8 Try.underlying57 hi hz0 hz1 hz2 rfl (by decide) _ n _ hs (hown.alloc _) ⟨w.heap.size, 0, none⟩ 1 1 [.int .i64 x] hy rfl (cell_one_new _ _ _) (by intro u hu; simp at hu; subst hu; rfl) (by omega) (by unfold maxLen; omega) (by omega) (by simp; omega) (w.heap.size + 1) (by simp) ?_
  intro g cap w' hown' hg hl _
  have hown'' : w'.ownsRow base 3 1 (.slice (some ⟨g, 0, none⟩) (n + 1) cap) (n + 1) ((xs ++ [x]).map (Value.int .i64)) := by simpa using hown'
  refine h _ _ _ hown'' ?_ hg hl
  refine ((Below.refl base w).alloc hbase _).grown hg (by simp; omega) (fun k hk => ?_)
  exact (World.ownsRow.lt hown k hk).1

theorem clipN_any (b off n c : Nat) (w : World) (_hn : 0 < n) (hc : n ≤ c) (hm : n ≤ 9000000000000000000) :
    Calls Try.prog 63 #[.slice (some ⟨b, off, none⟩) n c] w fun e w' => e = .returned (.slice (some ⟨b, off, none⟩) n n) ∧ w = w' := by
  go_enter Try.func63, Try.ntmps63
  go_wp2
  go_ret
  exact ⟨rfl, rfl⟩

theorem cloneN_any (A : Option Addr) (n c : Nat) (zs : List Int) (w : World) (hn0 : 0 < n) (hn : n ≤ 2000000) (ha : SI w A n zs) :
    Calls Try.prog 64 #[.slice A n c] w fun e w' => ∃ A' c', e = .returned (.slice A' n c') ∧ n ≤ c' ∧ NewI w' w.heap.size A' n zs ∧ Below w.heap.size w w' := by
  obtain ⟨b, off, rfl, hc⟩ := ha.2 hn0
  have hb0 : Below w.heap.size w (w.alloc (.cells #[] 3)) := (Below.refl _ _).alloc (Nat.le_refl _) _
  have HO := Lib.hid (own_empty w w.heap.size (Nat.le_refl _))
  have HS := Lib.hid (ha.alloc (.cells #[] 3))
  have hneq := fun (W : World) a l c => Lib.run_eql_slice_nil (P := Try.prog) W 57 3 a l c 0 0 Try.underlying57
  clear ha hc
  go_enter Try.func64, Try.ntmps64
  go_wp2_with (at_builtin; refine appAllN _ w.heap.size _ 0 0 [] _ n _ zs rfl _ _ rfl rfl HO.out rfl HS.out (by omega) (by simp) ?_; intro A2 c2 w2 ho2 hb2 hg2)
  go_ret
  simp only [Nat.zero_add, List.nil_append] at ho2
  exact ⟨A2, c2, by simp, own_cap ho2, NewI.of_own ho2, hb0.trans hb2⟩

set_option maxHeartbeats 400000 in
/-- slices.IndexFunc at []int, whatever function value that keeps a class of worlds. -/
theorem indexFuncN_any (g : Nat) (caps : Array Value) (p : Int → Bool) (A : Option Addr) (n c : Nat) (zs : List Int) (C : World → Prop) (w : World) (hn : n ≤ 9000000000000000000) (hw : C w)
    (eg : ∀ args w, (callFunc g args).run Try.prog w = .ok (.enter g args) w)
    (ha : ∀ W, C W → SI W A n zs) (hf : ∀ k, k < n → ∀ W, C W → Calls Try.prog g (#[.int .i64 (iat zs k)] ++ caps) W fun e w' => e = .returned (.bool (p (iat zs k))) ∧ C w') :
    Calls Try.prog 69 #[.slice A n c, .func (.func g) #[] caps] w fun e w' => e = .returned (.int .i64 (fidx p zs)) ∧ C w' := by
  have hlen := Lib.hid (ha w hw).len
  have HF := Lib.hid hf; clear hf
  go_enter Try.func69, Try.ntmps69
  go_wp2
  go_loopg [8] n (fun gg s8 wr => ∃ k : Nat, k ≤ n ∧ n - k ≤ gg ∧ s8 = .int .i64 k ∧ C wr ∧ Aside (∀ j, j < k → p (iat zs j) = false))
  case atStart => exact ⟨0, Nat.zero_le _, by omega, rfl, hw, fun j hj => absurd hj (Nat.not_lt_zero _)⟩
  case round =>
    obtain ⟨k, hk, hg, rfl, hC, A0⟩ := hrel
    have HC := Lib.hid hC
    by_cases hlt : k < n
    · obtain ⟨b, off, rfl, h1⟩ := (ha _ hC).at_ hlt
      have hcall := Lib.hid (HF.out k hlt wr hC)
      clear ha hC
      cases hq : p (iat zs k) with
      | true =>
        rw [hq] at hcall
        have HQ := Lib.hid hq; clear hq
        go_wp2_with (go_at_fn g; refine (hcall.out).mono ?_; rintro e w' ⟨rfl, hC'⟩)
        go_ret
        refine ⟨?_, hC'⟩
        rw [fidx_hit (by rw [hlen.out]; exact hlt) HQ.out A0.out]
        rfl
      | false =>
        rw [hq] at hcall
        have HQ := Lib.hid hq; clear hq
        go_wp2_with (go_at_fn g; refine (hcall.out).mono ?_; rintro e w' ⟨rfl, hC'⟩)
        go_roundg (n - (k + 1))
        case measure => omega
        case rel =>
          refine ⟨k + 1, by omega, by omega, by go_num, hC', (show Aside _ from fun j hj => ?_)⟩
          by_cases e : j = k
          · subst e; exact HQ.out
          · exact A0.out j (by omega)
    · obtain rfl : k = n := by omega
      clear ha hC
      go_wp2
      go_ret
      refine ⟨?_, HC.out⟩
      rw [fidx_miss (fun j hj => A0.out j (by rw [hlen.out] at hj; exact hj))]
      rfl

theorem containsFuncN_any (g : Nat) (caps : Array Value) (p : Int → Bool) (A : Option Addr) (n c : Nat) (zs : List Int) (C : World → Prop) (w : World) (hn : n ≤ 9000000000000000000) (hw : C w)
    (eg : ∀ args w, (callFunc g args).run Try.prog w = .ok (.enter g args) w)
    (ha : ∀ W, C W → SI W A n zs) (hf : ∀ k, k < n → ∀ W, C W → Calls Try.prog g (#[.int .i64 (iat zs k)] ++ caps) W fun e w' => e = .returned (.bool (p (iat zs k))) ∧ C w') :
    Calls Try.prog 66 #[.slice A n c, .func (.func g) #[] caps] w fun e w' => e = .returned (.bool (zs.any p)) ∧ C w' := by
  have H := Lib.hid (indexFuncN_any g caps p A n c zs C w hn hw eg ha hf)
  have hany := Lib.hid (fidx_any p zs)
  generalize hz : zs.any p = z at hany
  clear hz
  generalize hy : fidx p zs = y at H hany
  have hbd : -1 ≤ y := by have := (fidx_bd (p := p) (zs := zs)).1; omega
  clear hy eg ha hf
  go_enter Try.func66, Try.ntmps66
  go_wp2_with (go_at_call 69; refine H.out.mono ?_; rintro e w' ⟨rfl, hC'⟩)
  go_ret
  exact ⟨by rw [← hany.out]; rfl, hC'⟩

end Go.Proofs.Ytjiplangdkpehaa
