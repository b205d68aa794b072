/-
  MuM. By a program (wip/tools/mk.py) out of snippets.
-/
import Derived.Test.YtfjpnennbdefiaaTlM
import Derived.Test.YtfjpnennbdefiaaRF2
namespace Go.Proofs.Ytfjpnennbdefiaa
open Go.RowKit

/-- The worlds in which one knows whether it has mud. -/
def mdB (N a : Nat) : Nat := bs (fun x => x.testBit a) N
def clB (N a : Nat) : Nat := bs (fun x => !x.testBit a) N
def suV (row : List Int) (N a : Nat) : Nat := knV row N (mdB N a) ||| knV row N (clB N a)
theorem suV_lt (row : List Int) (N a : Nat) : suV row N a < 2 ^ N := Nat.or_lt_two_pow (knV_lt _ _ _) (knV_lt _ _ _)
/-- All are told, of the first k, whether they know. -/
def muTo (rows : List (List Int)) (N : Nat) : Nat → List (List Int)
  | 0 => rows
  | k + 1 => tlV (muTo rows N k) N (suV (rat rows k) N k)
def muSt (n : Nat) : Nat → List (List Int)
  | 0 => tlV (muR n) (2 ^ n) (2 ^ (2 ^ n) - 2)
  | t + 1 => muTo (muSt n t) (2 ^ n) n
/-- Who of the first k knows in the world w. -/
def whTo (rows : List (List Int)) (N w k : Nat) : Nat := bs (fun a => (suV (rat rows a) N a).testBit w) k
def wtN : Nat → Nat → Nat
  | 0, _ => 0
  | f + 1, x => x % 2 + wtN f (x / 2)
def muChk (n : Nat) : Bool := (List.range n).all (fun t => vv ((2 ^ n : Nat) : Int) (muSt n t)) && (List.range (2 ^ n)).all fun w => w == 0 || (decide (1 ≤ wtN n w ∧ wtN n w ≤ n) && (whTo (muSt n (wtN n w - 1)) (2 ^ n) w n == w && (List.range (wtN n w - 1)).all fun t => whTo (muSt n t) (2 ^ n) w n == 0))
theorem muChk_all : ([1, 2, 3, 4].all muChk) = true := by kernel_rfl
theorem muFacts {n : Nat} (hn1 : 1 ≤ n) (hn : n ≤ 4) : (∀ t, t < n → vv ((2 ^ n : Nat) : Int) (muSt n t) = true) ∧ ∀ w, 1 ≤ w → w < 2 ^ n → (1 ≤ wtN n w ∧ wtN n w ≤ n) ∧ whTo (muSt n (wtN n w - 1)) (2 ^ n) w n = w ∧ ∀ t, t < wtN n w - 1 → whTo (muSt n t) (2 ^ n) w n = 0 := by
  have h := List.all_eq_true.1 muChk_all n (by simp; omega)
  unfold muChk at h
  simp only [Bool.and_eq_true, List.all_eq_true, List.mem_range, Bool.or_eq_true, beq_iff_eq, decide_eq_true_eq] at h
  refine ⟨h.1, fun w h1 h2 => ?_⟩
  rcases h.2 w h2 with h3 | ⟨h3, h4, h5⟩
  · omega
  · exact ⟨h3, h4, h5⟩

end Go.Proofs.Ytfjpnennbdefiaa
