/-
  RF2. By a program (wip/tools/mk.py) out of snippets.
-/
import Derived.Test.YtfjpnennbdefiaaRF
import Derived.Test.YtfjpnennbdefiaaView1
namespace Go.Proofs.Ytfjpnennbdefiaa
open Go.RowKit

/-- The views of mud and of letters. -/
def inN (n : Int) (hi : Int) : Bool := inR n 1 hi
def lvW (n : Int) : Int := if inR n 1 15 then n + 1 else 0
def lvR (n : Int) : List (List Int) := if inR n 1 15 then [(List.range (n.toNat + 1)).map fun (w : Nat) => ((w / 2 : Nat) : Int), (List.range (n.toNat + 1)).map fun (w : Nat) => (((w + 1) / 2 : Nat) : Int)] else []
def muF (a w : Nat) : Int := ((w - (if w.testBit a then 2 ^ a else 0) : Nat) : Int)
def muRow (n a : Nat) : List Int := (List.range (2 ^ n)).map (muF a)
def muW (n : Int) : Int := if inR n 1 4 then ((2 ^ n.toNat : Nat) : Int) else 0
def muR (n : Int) : List (List Int) := if inR n 1 4 then (List.range n.toNat).map (muRow n.toNat) else []
theorem lvR_fits (n : Int) : (lvR n).length ≤ 2000000 ∧ (∀ i, i < (lvR n).length → (rat (lvR n) i).length ≤ 2000000) ∧ offR (lvR n) (lvR n).length ≤ 1000000000 := by
  by_cases h : 1 ≤ n ∧ n ≤ 15
  · obtain ⟨k, rfl⟩ : ∃ k : Nat, n = k := ⟨n.toNat, by omega⟩
    have hk : k ≤ 15 := by omega
    rw [lvR, if_pos (inR_true h)]
    simp only [Int.toNat_natCast]
    refine ⟨by simp, fun i hi => ?_, ?_⟩
    · have : i = 0 ∨ i = 1 := by simp at hi; omega
      rcases this with rfl | rfl <;> simp [rat] <;> omega
    · simp [offR, rat]
      omega
  · rw [lvR, if_neg (by rw [inR_false h]; simp)]
    exact ⟨by simp, fun i hi => absurd hi (by simp), by simp [offR]⟩
theorem muR_fits (n : Int) : (muR n).length ≤ 2000000 ∧ (∀ i, i < (muR n).length → (rat (muR n) i).length ≤ 2000000) ∧ offR (muR n) (muR n).length ≤ 1000000000 := by
  by_cases h : 1 ≤ n ∧ n ≤ 4
  · obtain ⟨k, rfl⟩ : ∃ k : Nat, n = k := ⟨n.toNat, by omega⟩
    have hk : k ≤ 4 := by omega
    rw [muR, if_pos (inR_true h)]
    simp only [Int.toNat_natCast]
    have hp : 2 ^ k ≤ 16 := Nat.pow_le_pow_right (n := 2) (by omega) hk
    have hrow : ∀ i, (rat ((List.range k).map (muRow k)) i).length ≤ 16 := by
      intro i
      by_cases hi : i < k
      · simp [rat, hi, muRow]
        exact hp
      · simp [rat, hi]
    have hoff : ∀ i, offR ((List.range k).map (muRow k)) i ≤ i * 16 := by
      intro i
      induction i with
      | zero => exact Nat.le_refl _
      | succ i ih =>
        have := hrow i
        show offR _ i + _ ≤ _
        omega
    refine ⟨by simp; omega, fun i _ => by have := hrow i; omega, ?_⟩
    have := hoff ((List.range k).map (muRow k)).length
    simp only [List.length_map, List.length_range] at this ⊢
    omega
  · rw [muR, if_neg (by rw [inR_false h]; simp)]
    exact ⟨by simp, fun i hi => absurd hi (by simp), by simp [offR]⟩

end Go.Proofs.Ytfjpnennbdefiaa
