/-
  RunDef. By a program (wip/tools/mk.py) out of snippets.
-/
import Derived.Test.YtblaaeanbhgokaaBase
import Derived.Test.YtblaaeanbhgokaaSS
namespace Go.Proofs.Ytblaaeanbhgokaa
open Go.RowKit

def stp (n : Nat) (last p r h : Int) : Bool := inR p (last + 1) ((n : Int) - 1) && (inR r 1 4 && inR h 0 (2 ^ n - 1))
/-- The process that stopped last among the first i. -/
def lastP (zs : List Int) : Nat → Int
  | 0 => -1
  | i + 1 => iat zs (i * 3)
def stTo (n : Nat) (zs : List Int) (k : Nat) : Bool := (List.range k).all fun i => stp n (lastP zs i) (iat zs (i * 3)) (iat zs (i * 3 + 1)) (iat zs (i * 3 + 2))
def vrM (ia : List Int) (sb : List Int) (k : Nat) : Bool := inR ia.length 1 4 && (ia.all (fun z => inR z 0 3) && stTo ia.length sb k)
theorem stTo_not {n : Nat} {zs : List Int} {k i : Nat} (hi : i < k) (h : stp n (lastP zs i) (iat zs (i * 3)) (iat zs (i * 3 + 1)) (iat zs (i * 3 + 2)) = false) : stTo n zs k = false := by
  rw [stTo, Bool.eq_false_iff]
  intro h2
  rw [List.all_eq_true] at h2
  rw [h2 i (List.mem_range.2 hi)] at h
  cases h
theorem stTo_of {n : Nat} {zs : List Int} {k : Nat} (h : ∀ i, i < k → stp n (lastP zs i) (iat zs (i * 3)) (iat zs (i * 3 + 1)) (iat zs (i * 3 + 2)) = true) : stTo n zs k = true := by
  rw [stTo, List.all_eq_true]
  intro i hi
  exact h i (List.mem_range.1 hi)
theorem stTo_at {n : Nat} {zs : List Int} {k i : Nat} (h : stTo n zs k = true) (hi : i < k) : stp n (lastP zs i) (iat zs (i * 3)) (iat zs (i * 3 + 1)) (iat zs (i * 3 + 2)) = true := by
  rw [stTo, List.all_eq_true] at h
  exact h i (List.mem_range.2 hi)
theorem stTo_succ (n : Nat) (zs : List Int) (k : Nat) : stTo n zs (k + 1) = (stTo n zs k && stp n (lastP zs k) (iat zs (k * 3)) (iat zs (k * 3 + 1)) (iat zs (k * 3 + 2))) := by
  simp [stTo, List.range_succ]
theorem stp_iff {n : Nat} {last p r h : Int} : stp n last p r h = true ↔ (last + 1 ≤ p ∧ p ≤ (n : Int) - 1) ∧ (1 ≤ r ∧ r ≤ 4) ∧ 0 ≤ h ∧ h ≤ 2 ^ n - 1 := by
  unfold stp
  simp only [Bool.and_eq_true, inR_iff]
theorem vrM_cut {ia sb : List Int} {k m : Nat} (h : vrM ia sb k = true) (hm : m ≤ k) : vrM ia sb m = true := by
  unfold vrM at *
  simp only [Bool.and_eq_true] at *
  exact ⟨h.1, h.2.1, stTo_of fun i hi => stTo_at h.2.2 (by omega)⟩
theorem stTo_take {n : Nat} {zs : List Int} {m k : Nat} (hm : m ≤ k) : stTo n (zs.take (k * 3)) m = stTo n zs m := by
  have e : ∀ j, j < k * 3 → iat (zs.take (k * 3)) j = iat zs j := fun j hj => by
    simp only [iat, List.getD_eq_getElem?_getD, List.getElem?_take]
    rw [if_pos hj]
  have l : ∀ i, i ≤ k → lastP (zs.take (k * 3)) i = lastP zs i := fun i hi => by
    cases i with
    | zero => rfl
    | succ i => exact e _ (by omega)
  unfold stTo
  rw [Bool.eq_iff_iff, List.all_eq_true, List.all_eq_true]
  refine forall_congr' fun i => forall_congr' fun hi => ?_
  have hi' := List.mem_range.1 hi
  rw [l i (by omega), e _ (by omega), e _ (by omega), e _ (by omega)]

end Go.Proofs.Ytblaaeanbhgokaa
