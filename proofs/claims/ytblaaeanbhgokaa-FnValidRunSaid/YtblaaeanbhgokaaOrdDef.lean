/-
  OrdDef. By a program (wip/tools/mk.py) out of snippets.
-/
import Derived.Test.YtblaaeanbhgokaaWp
namespace Go.Proofs.Ytblaaeanbhgokaa
open Go.RowKit

/-- What one says to another one. -/
def sayL (n : Nat) (liar : Int) (zs : List Int) (p q : Nat) (x : Int) : Int := if (p : Int) = liar then iat zs (p * n + q) else x
def firL (n : Nat) (order liar : Int) (zs : List Int) (p : Nat) : Int := sayL n liar zs 0 p order
/-- How many said 1 to p, of those up to m. -/
def oneTo (n : Nat) (order liar : Int) (zs : List Int) (p : Nat) : Nat → Int
  | 0 => firL n order liar zs p
  | m + 1 => oneTo n order liar zs p m + if m = 0 ∨ m = p then 0 else sayL n liar zs m p (firL n order liar zs m)
def outL (n : Nat) (order liar : Int) (zs : List Int) (p : Nat) : Int := if (p : Int) = liar then -1 else if (n : Int) - 1 < 2 * oneTo n order liar zs p n then 1 else 0
def ordTo (n : Nat) (order liar : Int) (zs : List Int) (k : Nat) : List Int := (List.range k).map fun i => outL n order liar zs (i + 1)
def okO (n order liar : Int) (zs : List Int) : Bool := (inR n 3 5 && inR order 0 1) && (inR liar (-1) (n - 1) && ((zs.length : Int) == n * n && zs.all fun z => inR z 0 1))
def ordA (n order liar : Int) (zs : List Int) : List Int := if okO n order liar zs then ordTo n.toNat order liar zs (n.toNat - 1) else []
theorem ordTo_succ (n : Nat) (order liar : Int) (zs : List Int) (k : Nat) : ordTo n order liar zs (k + 1) = ordTo n order liar zs k ++ [outL n order liar zs (k + 1)] := by simp [ordTo, List.range_succ]
theorem ordTo_length (n : Nat) (order liar : Int) (zs : List Int) (k : Nat) : (ordTo n order liar zs k).length = k := by simp [ordTo]
theorem say_bd {n : Nat} {liar : Int} {zs : List Int} {p q : Nat} {x : Int} (hz : ∀ z ∈ zs, 0 ≤ z ∧ z ≤ 1) (hx : 0 ≤ x ∧ x ≤ 1) : 0 ≤ sayL n liar zs p q x ∧ sayL n liar zs p q x ≤ 1 := by
  unfold sayL
  split
  · by_cases h : p * n + q < zs.length
    · exact hz _ (iat_mem h)
    · have : iat zs (p * n + q) = 0 := by simp [iat, h]
      omega
  · exact hx
theorem one_bd {n : Nat} {order liar : Int} {zs : List Int} (hz : ∀ z ∈ zs, 0 ≤ z ∧ z ≤ 1) (hx : 0 ≤ order ∧ order ≤ 1) (p m : Nat) : 0 ≤ oneTo n order liar zs p m ∧ oneTo n order liar zs p m ≤ m + 1 := by
  induction m with
  | zero => have := say_bd (n := n) (liar := liar) (p := 0) (q := p) hz hx; simp only [oneTo, firL]; omega
  | succ m ih =>
    have h1 := say_bd (n := n) (liar := liar) (p := 0) (q := m) hz hx
    have h2 := say_bd (n := n) (liar := liar) (p := m) (q := p) hz h1
    rw [oneTo]
    unfold firL
    split <;> omega
theorem okO_iff {n order liar : Int} {zs : List Int} : okO n order liar zs = true ↔ (3 ≤ n ∧ n ≤ 5) ∧ (0 ≤ order ∧ order ≤ 1) ∧ (-1 ≤ liar ∧ liar ≤ n - 1) ∧ (zs.length : Int) = n * n ∧ ∀ z ∈ zs, 0 ≤ z ∧ z ≤ 1 := by
  simp [okO, inR_iff, List.all_eq_true, and_assoc]
/-- What was told first, up to k. -/
def fTo (n : Nat) (order liar : Int) (zs : List Int) (k : Nat) : List Int := (List.range k).map fun p => firL n order liar zs p
theorem fTo_succ (n : Nat) (order liar : Int) (zs : List Int) (k : Nat) : fTo n order liar zs (k + 1) = fTo n order liar zs k ++ [firL n order liar zs k] := by simp [fTo, List.range_succ]
theorem fTo_length (n : Nat) (order liar : Int) (zs : List Int) (k : Nat) : (fTo n order liar zs k).length = k := by simp [fTo]
theorem fTo_at {n : Nat} {order liar : Int} {zs : List Int} {k p : Nat} (h : p < k) : iat (fTo n order liar zs k) p = firL n order liar zs p := by simp [fTo, iat, h]
/-- The same, but 0 for the first one, and for those from k on. -/
def tTo (n : Nat) (order liar : Int) (zs : List Int) (k : Nat) : List Int := (List.range n).map fun p => if 1 ≤ p ∧ p < k then firL n order liar zs p else 0
theorem tTo_one (n : Nat) (order liar : Int) (zs : List Int) : tTo n order liar zs 1 = List.replicate n 0 := by
  apply List.ext_getElem
  · simp [tTo]
  · intro i h1 h2
    simp [tTo]
    omega
theorem tTo_length (n : Nat) (order liar : Int) (zs : List Int) (k : Nat) : (tTo n order liar zs k).length = n := by simp [tTo]
theorem tTo_set {n : Nat} {order liar : Int} {zs : List Int} {k : Nat} (h1 : 1 ≤ k) : (tTo n order liar zs k).set k (firL n order liar zs k) = tTo n order liar zs (k + 1) := by
  apply List.ext_getElem
  · simp [tTo]
  · intro i hi1 hi2
    simp only [tTo, List.getElem_set, List.getElem_map, List.getElem_range]
    by_cases e : k = i
    · subst e
      rw [if_pos rfl, if_pos ⟨h1, by omega⟩]
    · rw [if_neg e]
      by_cases h : 1 ≤ i ∧ i < k
      · rw [if_pos h, if_pos ⟨h.1, by omega⟩]
      · rw [if_neg h, if_neg (by omega)]
theorem tTo_at {n : Nat} {order liar : Int} {zs : List Int} {p : Nat} (h1 : 1 ≤ p) (h : p < n) : iat (tTo n order liar zs n) p = firL n order liar zs p := by simp [tTo, iat, h, h1]
theorem one_hit {n : Nat} {order liar : Int} {zs : List Int} {p m : Nat} (h : 1 ≤ m) (hp : m ≠ p) : oneTo n order liar zs p (m + 1) = oneTo n order liar zs p m + sayL n liar zs m p (firL n order liar zs m) := by
  rw [oneTo, if_neg (by omega)]
theorem one_skip {n : Nat} {order liar : Int} {zs : List Int} {p : Nat} : oneTo n order liar zs p (p + 1) = oneTo n order liar zs p p := by
  rw [oneTo, if_pos (.inr rfl), Int.add_zero]
theorem one_first {n : Nat} {order liar : Int} {zs : List Int} {p : Nat} : oneTo n order liar zs p 1 = firL n order liar zs p := by
  rw [oneTo, if_pos (.inl rfl), Int.add_zero]; rfl

end Go.Proofs.Ytblaaeanbhgokaa
