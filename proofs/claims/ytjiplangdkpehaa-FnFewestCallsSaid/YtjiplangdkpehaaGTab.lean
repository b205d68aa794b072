/-
  GTab. By a program (wip/tools/mk.py) out of snippets.
-/
import Derived.Test.YtjiplangdkpehaaKnDef
namespace Go.Proofs.Ytjiplangdkpehaa
open Go.RowKit

def gtab2 : List (List (List Nat × List Nat)) := [
  [([1, 2], [])]
]
def gtab3 : List (List (List Nat × List Nat)) := [
  [([1, 2, 4], [0, 0, 0])],
  [],
  []
]
def gtab4 : List (List (List Nat × List Nat)) := [
  [([1, 2, 4, 8], [262682, 262850, 263746, 262864, 263760, 263816])],
  [([1, 2, 12, 12], [0, 0, 0, 0, 0, 0])],
  [],
  []
]
def gtab5 : List (List (List Nat × List Nat)) := [
  [([1, 2, 4, 8, 16], [270883, 271107, 272451, 279619, 271128, 272472, 279640, 272584, 279752, 280200])],
  [([1, 2, 4, 24, 24], [542225, 542337, 271940, 275524, 542344, 271968, 275552, 272136, 275720, 280200])],
  [([1, 2, 12, 28, 28], [0, 0, 0, 0, 0, 0, 0, 0, 0, 0]), ([1, 6, 6, 24, 24], [0, 0, 0, 0, 0, 0, 0, 0, 0, 0])],
  [],
  [],
  []
]
def gtab6 : List (List (List Nat × List Nat)) := [
  [([1, 2, 4, 8, 16, 32], [369196, 369476, 371268, 382020, 439364, 369504, 371296, 382048, 439392, 371464, 382216, 439560, 383112, 440456, 444040])],
  [([1, 2, 4, 8, 48, 48], [705050, 705218, 706114, 377925, 406597, 705232, 706128, 377960, 406632, 706184, 378184, 406856, 379528, 408200, 444040])],
  [([1, 2, 4, 24, 56, 56], [1492497, 1492609, 1229891, 406597, 668741, 1492616, 1229912, 406632, 668776, 1230024, 406856, 669000, 1754760, 1754760, 440456]), ([1, 2, 12, 12, 48, 48], [2016904, 1382149, 1382597, 1426501, 1455173, 1382184, 1382632, 1426536, 1455208, 706184, 939208, 967880, 939656, 968328, 706184])],
  [([1, 2, 12, 60, 28, 60], [3327624, 2016834, 1193029, 1688645, 406597, 2016848, 1193064, 1688680, 406632, 2803336, 2803336, 2803336, 2803336, 406632, 2803336]), ([1, 2, 12, 28, 60, 60], [3589768, 2541122, 1754179, 930885, 668741, 2541136, 1754200, 930920, 668776, 2803336, 2803336, 2803336, 2803336, 2803336, 443592]), ([1, 2, 12, 60, 48, 60], [4114056, 3741445, 1382597, 3785797, 1455173, 3741480, 1382632, 3785832, 1455208, 2803336, 2803336, 2803336, 2803336, 1455208, 2803336]), ([1, 2, 28, 28, 52, 52], [4638344, 1906885, 2431173, 1979461, 2503749, 1906920, 2431208, 1979496, 2503784, 1754760, 2803336, 2803336, 2803336, 2803336, 1754760]), ([1, 6, 6, 24, 56, 56], [4376074, 4376130, 4637763, 3290181, 3552325, 369504, 3851856, 2990888, 2204456, 3851912, 2990944, 2204512, 4900488, 4900488, 369504]), ([1, 2, 4, 56, 56, 56], [4900369, 4900481, 2803266, 2803266, 2803266, 4900488, 2803280, 2803280, 2803280, 2803336, 2803336, 2803336, 2803336, 2803336, 2803336]), ([3, 3, 12, 12, 48, 48], [3589768, 3967315, 3967763, 4084243, 4112915, 3967322, 3967770, 4084250, 4112922, 3589768, 4084936, 4113608, 4085384, 4114056, 3589768])],
  [([1, 6, 30, 14, 62, 62], [0, 0, 0, 2241605, 1193029, 0, 0, 0, 0, 0, 0, 0, 0, 0, 0]), ([1, 6, 14, 30, 62, 62], [0, 0, 0, 1717317, 1979461, 0, 0, 0, 0, 0, 0, 0, 0, 0, 0]), ([1, 6, 14, 62, 30, 62], [0, 0, 668741, 0, 930885, 0, 0, 0, 0, 0, 0, 0, 0, 0, 0]), ([1, 6, 62, 14, 30, 62], [0, 406597, 0, 0, 1455173, 0, 0, 0, 0, 0, 0, 0, 0, 0, 0]), ([1, 6, 30, 24, 62, 62], [0, 0, 0, 2765893, 2503749, 0, 0, 0, 0, 0, 0, 0, 0, 0, 0]), ([1, 6, 30, 30, 54, 54], [0, 0, 0, 0, 0, 0, 0, 0, 0, 0, 0, 0, 0, 0, 0]), ([1, 14, 14, 58, 26, 58], [0, 0, 0, 0, 0, 0, 0, 0, 0, 0, 0, 0, 0, 0, 0]), ([1, 6, 14, 62, 48, 62], [0, 0, 3552325, 0, 3814469, 0, 0, 0, 0, 0, 0, 0, 0, 0, 0]), ([1, 14, 14, 26, 58, 58], [0, 0, 0, 0, 0, 0, 0, 0, 0, 0, 0, 0, 0, 0, 0]), ([1, 2, 60, 60, 60, 60], [0, 0, 0, 0, 0, 0, 0, 0, 0, 0, 0, 0, 0, 0, 0]), ([1, 6, 62, 14, 48, 62], [0, 2918613, 0, 0, 3290181, 0, 0, 0, 0, 0, 0, 0, 0, 0, 0]), ([3, 3, 12, 60, 28, 60], [0, 0, 4039205, 0, 4825637, 0, 4039212, 0, 4825644, 0, 0, 0, 0, 0, 0]), ([3, 3, 12, 28, 60, 60], [0, 0, 0, 4301349, 4563493, 0, 0, 4301356, 4563500, 0, 0, 0, 0, 0, 0]), ([1, 6, 30, 30, 56, 56], [0, 0, 0, 0, 0, 0, 0, 0, 0, 0, 0, 0, 0, 0, 0]), ([3, 3, 12, 60, 48, 60], [0, 0, 5539493, 0, 5612069, 0, 5539500, 0, 5612076, 0, 0, 0, 0, 0, 0]), ([3, 7, 7, 24, 56, 56], [0, 0, 0, 0, 0, 0, 0, 5949064, 5312867, 0, 5424776, 5162632, 0, 0, 0]), ([3, 3, 28, 28, 52, 52], [0, 0, 0, 0, 0, 0, 0, 0, 0, 0, 0, 0, 0, 0, 0]), ([1, 6, 6, 56, 56, 56], [0, 0, 0, 0, 0, 0, 0, 0, 0, 0, 0, 0, 0, 0, 0])],
  [([3, 63, 7, 15, 31, 63], [0, 0, 0, 0, 0, 0, 0, 0, 0, 0, 0, 0, 0, 0, 0]), ([3, 7, 63, 15, 31, 63], [0, 0, 0, 0, 0, 0, 0, 0, 0, 0, 0, 0, 0, 0, 0]), ([3, 7, 31, 15, 63, 63], [0, 0, 0, 0, 0, 0, 0, 0, 0, 0, 0, 0, 0, 0, 0]), ([3, 15, 7, 31, 63, 63], [0, 0, 0, 0, 0, 0, 0, 0, 0, 0, 0, 0, 0, 0, 0]), ([3, 31, 7, 15, 63, 63], [0, 0, 0, 0, 0, 0, 0, 0, 0, 0, 0, 0, 0, 0, 0]), ([3, 7, 15, 63, 31, 63], [0, 0, 0, 0, 0, 0, 0, 0, 0, 0, 0, 0, 0, 0, 0]), ([3, 7, 15, 31, 63, 63], [0, 0, 0, 0, 0, 0, 0, 0, 0, 0, 0, 0, 0, 0, 0]), ([3, 15, 7, 63, 31, 63], [0, 0, 0, 0, 0, 0, 0, 0, 0, 0, 0, 0, 0, 0, 0]), ([3, 15, 12, 31, 63, 63], [0, 0, 0, 0, 0, 0, 0, 0, 0, 0, 0, 0, 0, 0, 0]), ([3, 15, 12, 63, 31, 63], [0, 0, 0, 0, 0, 0, 0, 0, 0, 0, 0, 0, 0, 0, 0]), ([3, 31, 12, 63, 28, 63], [0, 0, 0, 0, 0, 0, 0, 0, 0, 0, 0, 0, 0, 0, 0]), ([3, 31, 7, 24, 63, 63], [0, 0, 0, 0, 0, 0, 0, 0, 0, 0, 0, 0, 0, 0, 0]), ([3, 7, 63, 24, 31, 63], [0, 0, 0, 0, 0, 0, 0, 0, 0, 0, 0, 0, 0, 0, 0]), ([3, 7, 31, 24, 63, 63], [0, 0, 0, 0, 0, 0, 0, 0, 0, 0, 0, 0, 0, 0, 0]), ([3, 63, 7, 15, 48, 63], [0, 0, 0, 0, 0, 0, 0, 0, 0, 0, 0, 0, 706184, 0, 0]), ([3, 7, 63, 15, 48, 63], [0, 0, 0, 0, 0, 0, 0, 0, 0, 0, 0, 0, 444040, 0, 0]), ([3, 7, 15, 63, 48, 63], [0, 0, 0, 0, 0, 0, 0, 0, 0, 0, 444040, 0, 0, 0, 0]), ([3, 15, 7, 63, 48, 63], [0, 0, 0, 0, 0, 0, 0, 706184, 0, 0, 0, 0, 0, 0, 0]), ([3, 7, 63, 24, 56, 63], [0, 0, 0, 0, 0, 0, 0, 963848, 0, 0, 0, 0, 0, 0, 0]), ([3, 7, 63, 24, 63, 56], [0, 0, 0, 0, 0, 0, 0, 0, 963848, 0, 0, 0, 0, 0, 0]), ([3, 15, 12, 63, 48, 63], [0, 0, 0, 0, 0, 0, 0, 968328, 0, 0, 0, 0, 0, 0, 0]), ([3, 63, 7, 24, 63, 56], [0, 0, 0, 0, 0, 0, 0, 0, 0, 0, 0, 963848, 0, 0, 0])],
  [([3, 7, 63, 63, 63, 63], [0, 0, 0, 0, 0, 0, 0, 0, 0, 0, 0, 0, 0, 0, 0]), ([3, 63, 7, 63, 63, 63], [0, 0, 0, 0, 0, 0, 0, 0, 0, 0, 0, 0, 0, 0, 0]), ([3, 63, 12, 63, 63, 63], [0, 0, 0, 0, 0, 0, 0, 0, 0, 0, 0, 0, 0, 0, 0])],
  []
]

/-- All of n know all. -/
def FullP (n : Nat) (s : List Nat) : Prop := ∀ p q, p < n → q < n → (s.getD p 0).testBit q = true
/-- All may come to know all by j calls. -/
def Rch (n : Nat) : Nat → List Nat → Prop
  | 0, s => FullP n s
  | j + 1, s => ∃ a b, a < n ∧ b < n ∧ Rch n j (stepK s a b)
def badP (n : Nat) (s : List Nat) (p : Nat) : Bool := !((List.range n).all fun q => (s.getD p 0).testBit q)
def misR (n : Nat) (s : List Nat) : Nat → Nat
  | 0 => 0
  | k + 1 => misR n s k + if badP n s k then 1 else 0
theorem badP_iff {n : Nat} {s : List Nat} {p : Nat} : badP n s p = true ↔ ∃ q, q < n ∧ (s.getD p 0).testBit q = false := by
  unfold badP
  constructor
  · intro h
    rw [Bool.not_eq_true', List.all_eq_false] at h
    obtain ⟨q, hq, h⟩ := h
    exact ⟨q, List.mem_range.1 hq, by simpa using h⟩
  · rintro ⟨q, hq, h⟩
    rw [Bool.not_eq_true', List.all_eq_false]
    exact ⟨q, List.mem_range.2 hq, by rw [h]; simp⟩
theorem misR_full {n : Nat} {s : List Nat} (h : FullP n s) : ∀ k, k ≤ n → misR n s k = 0 := by
  intro k
  induction k with
  | zero => intro _; rfl
  | succ k ih =>
    intro hk
    rw [misR, ih (by omega)]
    have : badP n s k = false := by
      cases e : badP n s k with
      | false => rfl
      | true =>
        obtain ⟨q, hq, h1⟩ := badP_iff.1 e
        rw [h k q (by omega) hq] at h1
        cases h1
    rw [this]
    rfl
theorem misR_step {n : Nat} {s : List Nat} (a b : Nat) (ha : a < s.length) (hb : b < s.length) : ∀ k, misR n s k ≤ misR n (stepK s a b) k + (if a < k then 1 else 0) + (if b < k then 1 else 0) := by
  intro k
  induction k with
  | zero => simp [misR]
  | succ k ih =>
    rw [misR, misR]
    by_cases e : k = a ∨ k = b
    · have h1 : (if badP n s k = true then 1 else 0) ≤ 1 := by split <;> omega
      rcases e with rfl | rfl
      · rw [if_neg (by omega)] at ih
        rw [if_pos (show k < k + 1 by omega)]
        by_cases e2 : b < k
        · rw [if_pos e2] at ih
          rw [if_pos (show b < k + 1 by omega)]
          omega
        · rw [if_neg e2] at ih
          omega
      · rw [if_neg (show ¬ k < k by omega)] at ih
        rw [if_pos (show k < k + 1 by omega)]
        by_cases e2 : a < k
        · rw [if_pos e2] at ih
          rw [if_pos (show a < k + 1 by omega)]
          omega
        · rw [if_neg e2] at ih
          omega
    · have h1 : badP n (stepK s a b) k = badP n s k := by
        unfold badP
        rw [stepK_at s a b k ha hb, if_neg e]
      rw [h1]
      have e1 : (if a < k + 1 then 1 else 0) = (if a < k then 1 else 0) := by
        by_cases h : a < k
        · rw [if_pos h, if_pos (by omega)]
        · rw [if_neg h, if_neg (by omega)]
      have e2 : (if b < k + 1 then 1 else 0) = (if b < k then 1 else 0) := by
        by_cases h : b < k
        · rw [if_pos h, if_pos (by omega)]
        · rw [if_neg h, if_neg (by omega)]
      rw [e1, e2]
      omega
theorem Rch_mis {n : Nat} : ∀ j s, s.length = n → Rch n j s → misR n s n ≤ 2 * j := by
  intro j
  induction j with
  | zero => intro s _ h; rw [misR_full h n (Nat.le_refl _)]; omega
  | succ j ih =>
    rintro s hl ⟨a, b, ha, hb, h⟩
    have h1 := ih _ (by rw [stepK_length, hl]) h
    have h2 := misR_step (n := n) a b (by omega) (by omega) n (s := s)
    rw [if_pos ha, if_pos hb] at h2
    omega
theorem stepK_comm (s : List Nat) (a b : Nat) (ha : a < s.length) (hb : b < s.length) : stepK s a b = stepK s b a := by
  apply List.ext_getElem
  · simp [stepK_length]
  · intro i h1 h2
    have e := stepK_at s a b i ha hb
    have e' := stepK_at s b a i hb ha
    rw [List.getD_eq_getElem?_getD, List.getElem?_eq_getElem h1] at e
    rw [List.getD_eq_getElem?_getD, List.getElem?_eq_getElem h2] at e'
    simp only [Option.getD_some] at e e'
    rw [e, e', Nat.or_comm]
    by_cases h : i = a ∨ i = b
    · rw [if_pos h, if_pos h.symm]
    · rw [if_neg h, if_neg (fun h' => h h'.symm)]
theorem stepK_self (s : List Nat) (a : Nat) (ha : a < s.length) : stepK s a a = s := by
  apply List.ext_getElem
  · simp [stepK_length]
  · intro i h1 h2
    have e := stepK_at s a a i ha ha
    rw [List.getD_eq_getElem?_getD, List.getElem?_eq_getElem h1] at e
    simp only [Option.getD_some] at e
    rw [e]
    by_cases h : i = a ∨ i = a
    · rw [if_pos h]
      obtain rfl : i = a := by omega
      rw [List.getD_eq_getElem?_getD, List.getElem?_eq_getElem ha]
      simp
    · rw [if_neg h, List.getD_eq_getElem?_getD, List.getElem?_eq_getElem h2]
      rfl
/-- t knows all that s knows, by other names. -/
def pat (c p : Nat) : Nat := c / 8 ^ p % 8
def Dom (n c : Nat) (s t : List Nat) : Prop := (∀ p, p < n → pat c p < n) ∧ (∀ p', p' < n → ∃ p, p < n ∧ pat c p = p') ∧ ∀ p q, p < n → q < n → (s.getD p 0).testBit q = true → (t.getD (pat c p) 0).testBit (pat c q) = true
theorem Rch_dom {n c : Nat} : ∀ j s t, s.length = n → t.length = n → Dom n c s t → Rch n j s → Rch n j t := by
  intro j
  induction j with
  | zero =>
    rintro s t _ _ ⟨_, h2, h3⟩ h
    intro p' q' hp hq
    obtain ⟨p, hp1, rfl⟩ := h2 p' hp
    obtain ⟨q, hq1, rfl⟩ := h2 q' hq
    exact h3 p q hp1 hq1 (h p q hp1 hq1)
  | succ j ih =>
    rintro s t hs ht ⟨h1, h2, h3⟩ ⟨a, b, ha, hb, h⟩
    refine ⟨pat c a, pat c b, h1 a ha, h1 b hb, ih _ _ (by rw [stepK_length, hs]) (by rw [stepK_length, ht]) ⟨h1, h2, fun p q hp hq hbit => ?_⟩ h⟩
    have g1 := h1 a ha
    have g2 := h1 b hb
    rw [stepK_at s a b p (by omega) (by omega)] at hbit
    rw [stepK_at t _ _ _ (by omega) (by omega)]
    by_cases e : p = a ∨ p = b
    · rw [if_pos e, Nat.testBit_or, Bool.or_eq_true] at hbit
      rw [if_pos (by rcases e with rfl | rfl <;> simp), Nat.testBit_or, Bool.or_eq_true]
      rcases hbit with hb1 | hb1
      · exact .inl (h3 a q ha hq hb1)
      · exact .inr (h3 b q hb hq hb1)
    · rw [if_neg e] at hbit
      have hk := h3 p q hp hq hbit
      split
      · rename_i e2
        rw [Nat.testBit_or, Bool.or_eq_true]
        rcases e2 with e2 | e2
        · rw [e2] at hk; exact .inl hk
        · rw [e2] at hk; exact .inr hk
      · exact hk
def domB (n c : Nat) (s t : List Nat) : Bool :=
  ((List.range n).all fun p => decide (pat c p < n)) && ((List.range n).all fun p' => (List.range n).any fun p => pat c p == p') && (List.range n).all fun p => (List.range n).all fun q => !(s.getD p 0).testBit q || (t.getD (pat c p) 0).testBit (pat c q)
theorem domB_dom {n c : Nat} {s t : List Nat} (h : domB n c s t = true) : Dom n c s t := by
  unfold domB at h
  simp only [Bool.and_eq_true, List.all_eq_true, List.any_eq_true, List.mem_range, decide_eq_true_eq, beq_iff_eq, Bool.or_eq_true, Bool.not_eq_true'] at h
  obtain ⟨⟨h1, h2⟩, h3⟩ := h
  exact ⟨h1, h2, fun p q hp hq hb => by
    rcases h3 p hp q hq with h | h
    · rw [h] at hb; cases hb
    · exact h⟩
def pairsL (n : Nat) : List (Nat × Nat) := (List.range n).flatMap fun a => (List.range n).filterMap fun b => if a < b then some (a, b) else none
theorem mem_pairsL {n a b : Nat} (hb : b < n) (h : a < b) : (a, b) ∈ pairsL n := by
  unfold pairsL
  rw [List.mem_flatMap]
  exact ⟨a, List.mem_range.2 (by omega), List.mem_filterMap.2 ⟨b, List.mem_range.2 hb, by rw [if_pos h]⟩⟩
def certB (n left : Nat) (s : List Nat) (nx : List (List Nat × List Nat)) : List (Nat × Nat) → List Nat → Bool
  | [], _ => true
  | (a, b) :: ps, e :: es => (if e = 0 then decide (2 * left < misR n (stepK s a b) n) else (nx[e / 262144 - 1]?).any fun t => domB n (e % 262144) (stepK s a b) t.1) && certB n left s nx ps es
  | _ :: _, [] => false
def lvlB (n : Nat) : List (List (List Nat × List Nat)) → Bool
  | [] => false
  | [L] => L.all fun s => decide (s.1.length = n) && ((List.range n).any fun p => badP n s.1 p)
  | L :: M :: R => (L.all fun s => decide (s.1.length = n) && ((List.range n).any fun p => badP n s.1 p) && certB n R.length s.1 M (pairsL n) s.2) && lvlB n (M :: R)
theorem certB_at {n left : Nat} {s : List Nat} {nx : List (List Nat × List Nat)} {ps : List (Nat × Nat)} {es : List Nat} (h : certB n left s nx ps es = true) {a b : Nat} (hm : (a, b) ∈ ps) : 2 * left < misR n (stepK s a b) n ∨ ∃ t ∈ nx, ∃ c, Dom n c (stepK s a b) t.1 := by
  induction ps generalizing es with
  | nil => cases hm
  | cons p ps ih =>
    obtain ⟨a', b'⟩ := p
    cases es with
    | nil => simp [certB] at h
    | cons e es =>
      rw [certB, Bool.and_eq_true] at h
      rcases List.mem_cons.1 hm with h1 | h1
      · cases h1
        have h2 := h.1
        split at h2
        · left; simpa using h2
        · right
          cases hx : nx[e / 262144 - 1]? with
          | none => rw [hx] at h2; cases h2
          | some t =>
            rw [hx] at h2
            exact ⟨t, List.mem_of_getElem? hx, _, domB_dom h2⟩
      · exact ih h.2 h1
theorem notFull {n : Nat} {s : List Nat} (h : ((List.range n).any fun p => badP n s p) = true) : ¬ FullP n s := by
  intro hf
  rw [List.any_eq_true] at h
  obtain ⟨p, hp, h⟩ := h
  obtain ⟨q, hq, h⟩ := badP_iff.1 h
  rw [hf p q (List.mem_range.1 hp) hq] at h
  cases h
theorem lvlB_not {n : Nat} : ∀ T : List (List (List Nat × List Nat)), lvlB n T = true → ∀ L, T.head? = some L → ∀ s ∈ L, ∀ j, j < T.length → ¬ Rch n j s.1 := by
  intro T
  induction T with
  | nil => intro h; cases h
  | cons L R ih =>
    intro h L' hL s hs
    cases hL
    cases R with
    | nil =>
      rw [lvlB, List.all_eq_true] at h
      have h1 := h s hs
      rw [Bool.and_eq_true] at h1
      intro j hj
      obtain rfl : j = 0 := by simp at hj; omega
      exact notFull h1.2
    | cons M R =>
      rw [lvlB, Bool.and_eq_true, List.all_eq_true] at h
      have h1 := h.1 s hs
      rw [Bool.and_eq_true, Bool.and_eq_true, decide_eq_true_eq] at h1
      obtain ⟨⟨hl, h2⟩, h3⟩ := h1
      have hlen : ∀ t ∈ M, t.1.length = n := by
        have hM := h.2
        cases R with
        | nil =>
          rw [lvlB, List.all_eq_true] at hM
          intro t ht
          have := hM t ht
          rw [Bool.and_eq_true, decide_eq_true_eq] at this
          exact this.1
        | cons _ _ =>
          rw [lvlB, Bool.and_eq_true, List.all_eq_true] at hM
          intro t ht
          have := hM.1 t ht
          rw [Bool.and_eq_true, Bool.and_eq_true, decide_eq_true_eq] at this
          exact this.1.1
      intro j
      induction j with
      | zero => intro _; exact notFull h2
      | succ j ihj =>
        intro hj
        rintro ⟨a, b, ha, hb, hr⟩
        simp only [List.length_cons] at hj
        have key : ∀ a b, b < n → a < b → ¬ Rch n j (stepK s.1 a b) := by
          intro a b hb hab hr
          rcases certB_at h3 (mem_pairsL hb hab) with h4 | ⟨t, ht, c, hd⟩
          · have := Rch_mis j _ (by rw [stepK_length, hl]) hr
            omega
          · exact ih h.2 M rfl t ht j (by simp; omega) (Rch_dom j _ _ (by rw [stepK_length, hl]) (hlen t ht) hd hr)
        rcases Nat.lt_trichotomy a b with e | e | e
        · exact key a b hb e hr
        · subst e
          rw [stepK_self _ _ (by omega)] at hr
          exact ihj (by simp; omega) hr
        · rw [stepK_comm _ _ _ (by omega) (by omega)] at hr
          exact key b a ha e hr
theorem gtab2_ok : lvlB 2 gtab2 = true := by kernel_rfl
theorem gtab3_ok : lvlB 3 gtab3 = true := by kernel_rfl
theorem gtab4_ok : lvlB 4 gtab4 = true := by kernel_rfl
theorem gtab5_ok : lvlB 5 gtab5 = true := by kernel_rfl
theorem gtab6_ok : lvlB 6 gtab6 = true := by kernel_rfl
def fewN (n : Nat) : Nat := if n < 4 then n * (n - 1) / 2 else 2 * n - 4
theorem few_not (n : Nat) (hn1 : 1 ≤ n) (hn : n ≤ 6) (j : Nat) (hj : j < fewN n) : ¬ Rch n j (kn0 n) := by
  have h : n = 1 ∨ n = 2 ∨ n = 3 ∨ n = 4 ∨ n = 5 ∨ n = 6 := by omega
  rcases h with rfl | rfl | rfl | rfl | rfl | rfl
  · exact absurd hj (by simp [fewN])
  · exact lvlB_not gtab2 gtab2_ok _ rfl _ (List.mem_cons_self ..) j hj
  · exact lvlB_not gtab3 gtab3_ok _ rfl _ (List.mem_cons_self ..) j hj
  · exact lvlB_not gtab4 gtab4_ok _ rfl _ (List.mem_cons_self ..) j hj
  · exact lvlB_not gtab5 gtab5_ok _ rfl _ (List.mem_cons_self ..) j hj
  · exact lvlB_not gtab6 gtab6_ok _ rfl _ (List.mem_cons_self ..) j hj
theorem full_of {n : Nat} {s : List Nat} (hl : s.length = n) (h : fullK n s = true) : FullP n s := by
  intro p q hp hq
  unfold fullK at h
  rw [List.all_eq_true] at h
  have h1 := h s[p] (List.getElem_mem (by omega))
  rw [beq_iff_eq] at h1
  rw [List.getD_eq_getElem?_getD, List.getElem?_eq_getElem (by omega), Option.getD_some, h1, Nat.testBit_two_pow_sub_one]
  simpa using hq
theorem Rch_of {n k : Nat} {zs : List Int} (hc : cOk ((n : Int) - 1) zs k = true) (h : FullP n (knTo n zs k)) : ∀ i, i ≤ k → Rch n i (knTo n zs (k - i)) := by
  intro i
  induction i with
  | zero => intro _; exact h
  | succ i ih =>
    intro hi
    obtain ⟨h1, h2, _⟩ := cOk_at hc (i := k - (i + 1)) (by omega)
    have h3 := ih (by omega)
    rw [show k - i = k - (i + 1) + 1 by omega, knTo] at h3
    exact ⟨_, _, by omega, by omega, h3⟩
/-- Fewer calls are not enough. -/
theorem few_le {n k : Nat} {zs : List Int} (hn1 : 1 ≤ n) (hn : n ≤ 6) (hc : cOk ((n : Int) - 1) zs k = true) (h : fullK n (knTo n zs k) = true) : fewN n ≤ k := by
  have h1 := Rch_of hc (full_of (knTo_length n zs k) h) k (Nat.le_refl _)
  rw [Nat.sub_self, knTo] at h1
  by_cases e : k < fewN n
  · exact absurd h1 (few_not n hn1 hn k e)
  · omega

end Go.Proofs.Ytjiplangdkpehaa
