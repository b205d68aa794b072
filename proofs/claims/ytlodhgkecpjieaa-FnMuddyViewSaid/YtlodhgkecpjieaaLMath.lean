/-
  LMath. By a program (wip/tools/mk.py) out of snippets.
-/
import Derived.Test.YtlodhgkecpjieaaViewDef
import Derived.Test.YtlodhgkecpjieaaRF2
namespace Go.Proofs.Ytlodhgkecpjieaa
open Go.RowKit

def letS (n j : Nat) : Nat := 2 ^ (n + 1) - 2 ^ (j + 1)
def letChk (n : Nat) : Bool :=
  ((List.range (n + 1)).all fun j => alV (lvR n) (n + 1) (letS n j) == letS n (j + 1) && (letS n j &&& letS n (j + 1) == letS n (j + 1)) && (List.range (n + 1)).all fun x => (letS n (j + 1)).testBit x == decide (j + 2 ≤ x)) && (vv (lvW n) (lvR n) && gd (lvW n) (lvR n) ((2 ^ (n + 1) - 2 : Nat) : Int)) && (lvW n == (n : Int) + 1)
theorem letChk_all : ([3, 5, 8, 1, 15].all letChk) = true := by kernel_rfl
theorem letDp (n : Nat) (h : letChk n = true) (x : Nat) (hx : x ≤ n) : ∀ g j, x ≤ g + j + 1 → j ≤ n → dpV (lvR n) (n + 1) x g (letS n j) = x - 1 - j := by
  unfold letChk at h
  simp only [Bool.and_eq_true, List.all_eq_true, List.mem_range, beq_iff_eq] at h
  obtain ⟨⟨h1, _⟩, _⟩ := h
  intro g
  induction g with
  | zero => intro j hj _; rw [dpV]; omega
  | succ g ih =>
    intro j hj hjn
    obtain ⟨⟨e1, _⟩, e3⟩ := h1 j (by omega)
    rw [dpV, e1, e3 x (by omega)]
    by_cases hd : j + 2 ≤ x
    · rw [if_pos (by simpa using hd), ih (j + 1) (by omega) (by omega)]
      omega
    · rw [if_neg (by simpa using hd)]
      omega
theorem letCm (n : Nat) (h : letChk n = true) : ∀ d j, j + d = n → cmV (lvR n) (n + 1) (letS n j) = 0 := by
  unfold letChk at h
  simp only [Bool.and_eq_true, List.all_eq_true, List.mem_range, beq_iff_eq] at h
  obtain ⟨⟨h1, _⟩, _⟩ := h
  intro d
  induction d with
  | zero =>
    intro j hj
    obtain rfl : j = n := by omega
    have : letS j j = 0 := by simp [letS]
    rw [this]
    exact cmV_stop (by simp)
  | succ d ih =>
    intro j hj
    obtain ⟨⟨e1, e2⟩, _⟩ := h1 j (by omega)
    rw [← cmV_go, e1, e2]
    exact ih (j + 1) (by omega)
theorem letFacts {n : Nat} (h : n ∈ [3, 5, 8, 1, 15]) : vv (lvW n) (lvR n) = true ∧ cmA (lvW n) (lvR n) ((2 ^ (n + 1) - 2 : Nat) : Int) = 0 ∧ ∀ x : Nat, x ≤ n → dpA (lvW n) (lvR n) x ((2 ^ (n + 1) - 2 : Nat) : Int) = ((x - 1 : Nat) : Int) := by
  have hc := List.all_eq_true.1 letChk_all n h
  have hd := letDp n hc
  have hm := letCm n hc n 0 (by omega)
  have h20 : n ≤ 15 := by simp at h; omega
  unfold letChk at hc
  simp only [Bool.and_eq_true, beq_iff_eq] at hc
  obtain ⟨⟨_, h1, h2⟩, h3⟩ := hc
  refine ⟨h1, ?_, fun x hx => ?_⟩
  · unfold cmA
    rw [h2, if_pos rfl, h3]
    have : letS n 0 = 2 ^ (n + 1) - 2 := rfl
    rw [this] at hm
    simp only [Int.toNat_natCast]
    rw [show ((n : Int) + 1).toNat = n + 1 by omega, hm]
    rfl
  · unfold dpA
    have hx2 : inR (x : Int) 0 (lvW n - 1) = true := inR_true (by rw [h3]; omega)
    rw [h2, hx2, Bool.and_self, if_pos rfl, h3]
    simp only [Int.toNat_natCast]
    have := hd x hx 20 0 (by omega) (by omega)
    rw [show letS n 0 = 2 ^ (n + 1) - 2 from rfl] at this
    rw [show ((n : Int) + 1).toNat = n + 1 by omega, this]
    rfl

def mudD (n a : Nat) : Nat := bs (fun x => x.testBit a) (2 ^ n)
def mudChk (n : Nat) : Bool := vv (muW n) (muR n) && (List.range n).all fun a => knA (muW n) (muR n) a (mudD n a) == 0 && (decide (n ≤ 1) || shA (muW n) (muR n) (mudD n a) == (mudD n a : Int)) && decide (mudD n a < 65536)
theorem mudChk_all : ([2, 3, 4, 1].all mudChk) = true := by kernel_rfl
theorem mudFacts {n : Nat} (h : n ∈ [2, 3, 4, 1]) : vv (muW n) (muR n) = true ∧ ∀ a : Nat, a < n → knA (muW n) (muR n) a (mudD n a) = 0 ∧ (1 < n → shA (muW n) (muR n) (mudD n a) = (mudD n a : Int)) ∧ mudD n a < 65536 := by
  have hc := List.all_eq_true.1 mudChk_all n h
  unfold mudChk at hc
  simp only [Bool.and_eq_true, List.all_eq_true, List.mem_range, beq_iff_eq, Bool.or_eq_true, decide_eq_true_eq] at hc
  refine ⟨hc.1, fun a ha => ?_⟩
  obtain ⟨⟨h1, h2⟩, h3⟩ := hc.2 a ha
  exact ⟨h1, fun h => by rcases h2 with h2 | h2; · omega
                         · exact h2, h3⟩

end Go.Proofs.Ytlodhgkecpjieaa
