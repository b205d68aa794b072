/-
  RingDef. By a program (wip/tools/mk.py) out of snippets.
-/
import Derived.Test.YtblaaeanbhgokaaSS
namespace Go.Proofs.Ytblaaeanbhgokaa
open Go.RowKit

def ringRow (m v : Nat) : List Int := [(((v + m - 1) % m : Nat) : Int), (((v + 1) % m : Nat) : Int)]
def ringR (m : Nat) : List (List Int) := (List.range m).map (ringRow m)
theorem ringR_length (m : Nat) : (ringR m).length = m := by simp [ringR]
theorem ringR_at {m v : Nat} (h : v < m) : rat (ringR m) v = ringRow m v := by simp [ringR, rat, List.getD_eq_getElem?_getD, h]
theorem ringR_succ (m v : Nat) : (List.range (v + 1)).map (ringRow m) = (List.range v).map (ringRow m) ++ [ringRow m v] := by simp [List.range_succ]

def fStep (rows : List (List Int)) (d v p : Nat) (out : List Int) : List Int :=
  if iat out v = (d : Int) then (if iat out (iat (rat rows v) p).toNat < 0 then out.set (iat (rat rows v) p).toNat ((d : Int) + 1) else out) else out
def fPort (rows : List (List Int)) (d v : Nat) : Nat → List Int → List Int
  | 0, out => out
  | p + 1, out => fStep rows d v p (fPort rows d v p out)
def fNode (rows : List (List Int)) (d : Nat) : Nat → List Int → List Int
  | 0, out => out
  | v + 1, out => fPort rows d v (rat rows v).length (fNode rows d v out)
def fAll (rows : List (List Int)) (m : Nat) : Nat → List Int → List Int
  | 0, out => out
  | d + 1, out => fNode rows d m (fAll rows m d out)
def far0 (m src : Nat) : List Int := (List.replicate m (-1)).set src 0
def farR (rows : List (List Int)) (m src : Nat) : List Int := fAll rows m m (far0 m src)
/-- Numbers of a list of m that are small. -/
def Sm (m : Nat) (out : List Int) : Prop := out.length = m ∧ ∀ i, -1 ≤ iat out i ∧ iat out i ≤ 7
theorem Sm.set {m : Nat} {out : List Int} (h : Sm m out) {i : Nat} {x : Int} (h0 : -1 ≤ x) (h1 : x ≤ 7) : Sm m (out.set i x) := by
  refine ⟨by simpa using h.1, fun j => ?_⟩
  have hj := h.2 j
  simp only [iat, List.getD_eq_getElem?_getD, List.getElem?_set] at *
  split
  · split
    · simp; omega
    · simp
  · exact hj
theorem fStep_sm {rows : List (List Int)} {d v p m : Nat} {out : List Int} (hd : d ≤ 6) (h : Sm m out) : Sm m (fStep rows d v p out) := by
  unfold fStep
  split
  · split
    · exact h.set (by omega) (by omega)
    · exact h
  · exact h
theorem fPort_sm {rows : List (List Int)} {d v m : Nat} {out : List Int} (hd : d ≤ 6) (h : Sm m out) : ∀ p, Sm m (fPort rows d v p out) := by
  intro p
  induction p with
  | zero => exact h
  | succ p ih => exact fStep_sm hd ih
theorem fNode_sm {rows : List (List Int)} {d m : Nat} {out : List Int} (hd : d ≤ 6) (h : Sm m out) : ∀ v, Sm m (fNode rows d v out) := by
  intro v
  induction v with
  | zero => exact h
  | succ v ih => exact fPort_sm hd ih _
theorem fAll_sm {rows : List (List Int)} {m : Nat} {out : List Int} (h : Sm m out) : ∀ d, d ≤ 6 → Sm m (fAll rows m d out) := by
  intro d
  induction d with
  | zero => intro _; exact h
  | succ d ih => intro hd; exact fNode_sm (by omega) (ih (by omega)) _
theorem far0_sm (m f : Nat) : Sm m (far0 m f) := by
  have h : Sm m (List.replicate m (-1)) := by
    refine ⟨by simp, fun i => ?_⟩
    simp only [iat, List.getD_eq_getElem?_getD, List.getElem?_replicate]
    split <;> simp
  exact h.set (by omega) (by omega)
/-- Once a node is not at the distance, its ports turn nothing more. -/
theorem fPort_stop {rows : List (List Int)} {d v p : Nat} {out : List Int} (h : iat (fPort rows d v p out) v ≠ (d : Int)) : ∀ q, p ≤ q → fPort rows d v q out = fPort rows d v p out := by
  intro q
  induction q with
  | zero => intro hq; obtain rfl : p = 0 := by omega
            rfl
  | succ q ih =>
    intro hq
    by_cases e : p = q + 1
    · rw [e]
    · have := ih (by omega)
      rw [fPort, this, fStep, if_neg h]
def ringChk (m : Nat) : Bool := (List.range m).all fun v => decide (((v + m - 1) % m ≠ v ∧ (v + 1) % m ≠ v ∧ (v + m - 1) % m ≠ (v + 1) % m) ∧ (v : Int) ∈ ringRow m ((v + m - 1) % m) ∧ (v : Int) ∈ ringRow m ((v + 1) % m)) && decide (0 ≤ iat (farR (ringR m) m 0) v)
theorem ringChk_all : ([3, 4, 5, 6].all ringChk) = true := by decide +kernel
theorem ringFacts {m : Nat} (h3 : 3 ≤ m) (h6 : m ≤ 6) {v : Nat} (hv : v < m) : ((v + m - 1) % m ≠ v ∧ (v + 1) % m ≠ v ∧ (v + m - 1) % m ≠ (v + 1) % m) ∧ ((v : Int) ∈ ringRow m ((v + m - 1) % m) ∧ (v : Int) ∈ ringRow m ((v + 1) % m)) ∧ 0 ≤ iat (farR (ringR m) m 0) v := by
  have h := List.all_eq_true.1 ringChk_all m (by simp; omega)
  have h2 := List.all_eq_true.1 h v (List.mem_range.2 hv)
  simp only [Bool.and_eq_true, decide_eq_true_eq] at h2
  exact ⟨h2.1.1, h2.1.2, h2.2⟩

end Go.Proofs.Ytblaaeanbhgokaa
