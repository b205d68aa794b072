/-
  TokDef. By a program (wip/tools/mk.py) out of snippets.
-/
import Derived.Test.YthhfnhabnaakiaaWp
namespace Go.Proofs.Ythhfnhabnaakiaa
open Go.RowKit

/-- Are zs the states of a ring with k states? -/
def vtok (k : Int) (zs : List Int) : Bool := inR k 2 5 && (inR zs.length 2 5 && zs.all (fun z => inR z 0 (k - 1)))
theorem vtok_iff {k : Int} {zs : List Int} : vtok k zs = true ↔ (2 ≤ k ∧ k ≤ 5) ∧ (2 ≤ zs.length ∧ zs.length ≤ 5) ∧ ∀ z ∈ zs, 0 ≤ z ∧ z ≤ k - 1 := by
  simp [vtok, inR_iff]; omega

/-- May the machine i move? -/
def tokAt (zs : List Int) (i : Nat) : Bool := if i = 0 then iat zs 0 == iat zs (zs.length - 1) else iat zs i != iat zs (i - 1)
def toksTo (zs : List Int) (k : Nat) : List Int := ((List.range k).filter (tokAt zs)).map fun (i : Nat) => (i : Int)
def toks (zs : List Int) : List Int := toksTo zs zs.length
theorem toksTo_zero (zs : List Int) : toksTo zs 0 = [] := rfl
theorem toksTo_hit {zs : List Int} {k : Nat} (h : tokAt zs k = true) : toksTo zs (k + 1) = toksTo zs k ++ [(k : Int)] := by
  simp [toksTo, List.range_succ, List.filter_append, h]
theorem toksTo_miss {zs : List Int} {k : Nat} (h : tokAt zs k = false) : toksTo zs (k + 1) = toksTo zs k := by
  simp [toksTo, List.range_succ, List.filter_append, h]
theorem toksTo_length (zs : List Int) (k : Nat) : (toksTo zs k).length ≤ k := by
  unfold toksTo
  rw [List.length_map]
  exact Nat.le_trans (List.length_filter_le _ _) (by simp)

/-- The states behind a move of the machine i. -/
def mv (k : Int) (zs : List Int) (i : Nat) : List Int := zs.set i (if i = 0 then (iat zs 0 + 1) % k else iat zs (i - 1))
def mvOk (k : Int) (zs : List Int) (i : Int) : Bool := vtok k zs && (inR i 0 ((zs.length : Int) - 1) && tokAt zs i.toNat)
def mvOf (k : Int) (zs : List Int) (i : Int) : List Int := if mvOk k zs i then mv k zs i.toNat else []
theorem mv_length (k : Int) (zs : List Int) (i : Nat) : (mv k zs i).length = zs.length := by simp [mv]
theorem toks_any {zs : List Int} {i : Int} : ((toks zs).any fun z => i == z) = (inR i 0 ((zs.length : Int) - 1) && tokAt zs i.toNat) := by
  rw [Bool.eq_iff_iff]
  simp only [List.any_eq_true, toks, toksTo, List.mem_map, List.mem_filter, List.mem_range, beq_iff_eq, Bool.and_eq_true, inR_iff]
  constructor
  · rintro ⟨z, ⟨j, ⟨hj, ht⟩, rfl⟩, rfl⟩
    exact ⟨by omega, by simpa using ht⟩
  · rintro ⟨h1, h2⟩
    exact ⟨i, ⟨i.toNat, ⟨by omega, h2⟩, by omega⟩, rfl⟩

theorem mvOf_le (k : Int) (zs : List Int) (i : Int) : (mvOf k zs i).length ≤ zs.length := by
  unfold mvOf
  split
  · rw [mv_length]; exact Nat.le_refl _
  · simp

end Go.Proofs.Ythhfnhabnaakiaa
