/-
  FwM. By a program (wip/tools/mk.py) out of snippets.
-/
import Derived.Test.YtjiplangdkpehaaKnDef
import Derived.Test.YtjiplangdkpehaaPlan
namespace Go.Proofs.Ytjiplangdkpehaa
open Go.RowKit

theorem fs_none {α : Type} {f : Nat → Option α} {n : Nat} (h : ∀ j, j < n → f j = none) : (List.range n).findSome? f = none :=
  List.findSome?_eq_none_iff.2 fun j hj => h j (List.mem_range.1 hj)
theorem fs_some {α : Type} {f : Nat → Option α} {n i : Nat} {y : α} (hi : i < n) (h : f i = some y) (hb : ∀ j, j < i → f j = none) : (List.range n).findSome? f = some y := by
  obtain ⟨k, rfl⟩ : ∃ k, n = i + (k + 1) := ⟨n - i - 1, by omega⟩
  rw [List.range_add, List.findSome?_append, fs_none hb, Option.none_or, List.range_succ_eq_map]
  simp [h]

def fillM (n : Nat) : Nat → List Nat → Option (List Int)
  | 0, ks => if fullK n ks then some [] else none
  | m + 1, ks => (List.range n).findSome? fun a => (List.range n).findSome? fun b => if a < b then (fillM n m (stepK ks a b)).map fun r => (a : Int) :: (b : Int) :: r else none
/-- How many do not know all. -/
def missK (n : Nat) (ks : List Nat) : Nat → Nat
  | 0 => 0
  | p + 1 => missK n ks p + if ks.getD p 0 = 2 ^ n - 1 then 0 else 1
def ffM (n : Nat) : Nat → List Int → Option (List Int)
  | 0, zs => if fullK n (knTo n zs (zs.length / 2)) then some zs else none
  | l + 1, zs => if fullK n (knTo n zs (zs.length / 2)) then none else if 2 * (l + 1) < missK n (knTo n zs (zs.length / 2)) n then none else
      (List.range n).findSome? fun a => (List.range n).findSome? fun b => if a < b then (if (knTo n zs (zs.length / 2)).getD a 0 = (knTo n zs (zs.length / 2)).getD b 0 then none else ffM n l (zs ++ [(a : Int), (b : Int)])) else none
def fcChk (n : Nat) : Bool := fillM n (planN n) (kn0 n) == some (planL n) && ffM n (planN n) [] == some (planL n) && (List.range (planN n)).all fun m => fillM n m (kn0 n) == none && ffM n m [] == none
theorem fcChk_all : ([1, 2, 3, 4].all fcChk) = true := by kernel_rfl
theorem fcFacts {n : Nat} (h : n ∈ [1, 2, 3, 4]) : (fillM n (planN n) (kn0 n) = some (planL n) ∧ ∀ m, m < planN n → fillM n m (kn0 n) = none) ∧ (ffM n (planN n) [] = some (planL n) ∧ ∀ m, m < planN n → ffM n m [] = none) := by
  have := List.all_eq_true.1 fcChk_all n h
  unfold fcChk at this
  simp only [Bool.and_eq_true, beq_iff_eq, List.all_eq_true, List.mem_range] at this
  exact ⟨⟨this.1.1, fun m hm => (this.2 m hm).1⟩, ⟨this.1.2, fun m hm => (this.2 m hm).2⟩⟩

end Go.Proofs.Ytjiplangdkpehaa
