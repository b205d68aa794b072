/-
  KnDef. By a program (wip/tools/mk.py) out of snippets.
-/
import Derived.Test.YtjiplangdkpehaaCalls
namespace Go.Proofs.Ytjiplangdkpehaa
open Go.RowKit

/-- What all know behind a call of a and b. -/
def stepK (ks : List Nat) (a b : Nat) : List Nat := (ks.set a (ks.getD a 0 ||| ks.getD b 0)).set b (ks.getD a 0 ||| ks.getD b 0)
def kn0 (n : Nat) : List Nat := (List.range n).map fun p => 2 ^ p
def knTo (n : Nat) (zs : List Int) : Nat → List Nat
  | 0 => kn0 n
  | k + 1 => stepK (knTo n zs k) (iat zs (k * 2)).toNat (iat zs (k * 2 + 1)).toNat
def toI (ks : List Nat) : List Int := ks.map fun (x : Nat) => (x : Int)
theorem toI_length (ks : List Nat) : (toI ks).length = ks.length := by simp [toI]
theorem toI_at {ks : List Nat} {i : Nat} : iat (toI ks) i = ((ks.getD i 0 : Nat) : Int) := by
  simp only [iat, toI, List.getD_eq_getElem?_getD, List.getElem?_map]
  cases ks[i]? <;> rfl
theorem toI_set (ks : List Nat) (i v : Nat) : (toI ks).set i (v : Int) = toI (ks.set i v) := by simp [toI, List.map_set]
theorem stepK_length (ks : List Nat) (a b : Nat) : (stepK ks a b).length = ks.length := by simp [stepK]
theorem knTo_length (n : Nat) (zs : List Int) (k : Nat) : (knTo n zs k).length = n := by
  induction k with
  | zero => simp [knTo, kn0]
  | succ k ih => rw [knTo, stepK_length, ih]
def Small (n : Nat) (ks : List Nat) : Prop := ∀ i, ks.getD i 0 < 2 ^ n
theorem kn0_small (n : Nat) : Small n (kn0 n) := by
  intro i
  have hp := Nat.two_pow_pos n
  simp only [kn0, List.getD_eq_getElem?_getD, List.getElem?_map]
  by_cases h : i < n
  · simp [h]
    exact Nat.pow_lt_pow_right (by omega) h
  · simp [h]
    exact hp
theorem stepK_at (ks : List Nat) (a b i : Nat) (ha : a < ks.length) (hb : b < ks.length) : (stepK ks a b).getD i 0 = if i = a ∨ i = b then ks.getD a 0 ||| ks.getD b 0 else ks.getD i 0 := by
  unfold stepK
  generalize ks.getD a 0 ||| ks.getD b 0 = v
  by_cases h1 : b = i
  · subst h1
    simp [List.getD_eq_getElem?_getD, hb]
  · by_cases h2 : a = i
    · subst h2
      simp [List.getD_eq_getElem?_getD, List.getElem?_set, h1, ha]
    · have h3 : ¬ (i = a ∨ i = b) := by omega
      simp [List.getD_eq_getElem?_getD, List.getElem?_set, h1, h2, h3]
theorem stepK_small {n : Nat} {ks : List Nat} (h : Small n ks) (a b : Nat) (ha : a < ks.length) (hb : b < ks.length) : Small n (stepK ks a b) := by
  intro i
  rw [stepK_at ks a b i ha hb]
  split
  · exact Nat.or_lt_two_pow (h a) (h b)
  · exact h i
theorem knTo_small {n : Nat} {zs : List Int} {k : Nat} (hc : cOk ((n : Int) - 1) zs k = true) : ∀ j, j ≤ k → Small n (knTo n zs j) := by
  intro j
  induction j with
  | zero => intro _; exact kn0_small n
  | succ j ih =>
    intro hj
    obtain ⟨h1, h2, _⟩ := cOk_at hc (i := j) (by omega)
    rw [knTo]
    exact stepK_small (ih (by omega)) _ _ (by rw [knTo_length]; omega) (by rw [knTo_length]; omega)
def knA (n : Int) (zs : List Int) (k : Nat) : List Int := if vcl n zs k then toI (knTo n.toNat zs k) else []
def fullK (n : Nat) (ks : List Nat) : Bool := ks.all fun x => x == 2 ^ n - 1
def ifA (n : Int) (zs : List Int) (k : Nat) : Bool := vcl n zs k && fullK n.toNat (knTo n.toNat zs k)
theorem knA_length (n : Int) (zs : List Int) (k : Nat) : (knA n zs k).length ≤ 6 := by
  unfold knA
  split
  · rename_i h
    rw [toI_length, knTo_length]
    simp only [vcl, Bool.and_eq_true] at h
    have := (inR_iff.1 h.1).2
    omega
  · simp
theorem vcl_iff {n : Int} {zs : List Int} {k : Nat} (h : vcl n zs k = true) : (1 ≤ n ∧ n ≤ 6) ∧ k ≤ 12 ∧ cOk (n - 1) zs k = true := by
  simp only [vcl, Bool.and_eq_true, decide_eq_true_eq] at h
  exact ⟨inR_iff.1 h.1, h.2.1, h.2.2⟩

end Go.Proofs.Ytjiplangdkpehaa
