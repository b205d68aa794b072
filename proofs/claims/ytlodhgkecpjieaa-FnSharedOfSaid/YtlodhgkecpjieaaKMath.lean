/-
  KMath. By a program (wip/tools/mk.py) out of snippets.
-/
import Derived.Test.YtlodhgkecpjieaaView1
import Derived.Test.YtlodhgkecpjieaaViewS4
namespace Go.Proofs.Ytlodhgkecpjieaa
open Go.RowKit

theorem knV_bit (row : List Int) (n s w : Nat) : (knV row n s).testBit w = (decide (w < n) && knP row n s w) := bs_bit _ _ _
theorem knP_iff {row : List Int} {n s w : Nat} : knP row n s w = true ↔ ∀ u, u < n → iat row u = iat row w → s.testBit u = true := by
  unfold knP
  simp only [List.all_eq_true, List.mem_range, Bool.or_eq_true, bne_iff_ne, ne_eq]
  constructor
  · intro h u hu e
    rcases h u hu with h1 | h1
    · exact absurd e h1
    · exact h1
  · intro h u hu
    by_cases e : iat row u = iat row w
    · exact .inr (h u hu e)
    · exact .inl e
theorem knP_congr {row : List Int} {n s u w : Nat} (e : iat row u = iat row w) : knP row n s u = knP row n s w := by
  unfold knP
  rw [e]
/-- A set of whole classes is known just where it holds. -/
theorem knV_whole (row : List Int) (n : Nat) (p : Nat → Bool) (hp : ∀ u w, u < n → w < n → iat row u = iat row w → p u = p w) : knV row n (bs p n) = bs p n := by
  unfold knV
  refine bs_congr fun w hw => ?_
  rw [Bool.eq_iff_iff, knP_iff]
  constructor
  · intro h
    have := h w hw rfl
    rw [bs_bit] at this
    simpa [hw] using this
  · intro h u hu e
    rw [bs_bit, hp u w hu hw e, h]
    simpa using hu
theorem bs_compl (p : Nat → Bool) (n : Nat) : bs p n + bs (fun u => !p u) n = 2 ^ n - 1 := by
  induction n with
  | zero => rfl
  | succ n ih =>
    have h2 := Nat.two_pow_pos n
    rw [bs, bs, Nat.pow_succ]
    cases p n <;> simp <;> omega
theorem knV_idem (row : List Int) (n s : Nat) : knV row n (knV row n s) = knV row n s := knV_whole row n (knP row n s) fun _ _ _ _ e => knP_congr e
theorem knV_rest (row : List Int) (n s : Nat) : knV row n (2 ^ n - 1 - knV row n s) = 2 ^ n - 1 - knV row n s := by
  have h := bs_compl (knP row n s) n
  have e : 2 ^ n - 1 - knV row n s = bs (fun u => !knP row n s u) n := by
    have h' : knV row n s = bs (knP row n s) n := rfl
    omega
  rw [e]
  exact knV_whole row n _ fun u w _ _ e => by rw [knP_congr e]
theorem knV_sub (row : List Int) (n s : Nat) : knV row n s &&& s = knV row n s := by
  apply Nat.eq_of_testBit_eq
  intro i
  rw [Nat.testBit_and, knV_bit]
  by_cases hi : i < n
  · cases h : knP row n s i with
    | false => simp
    | true => rw [knP_iff.1 h i hi rfl]; simp
  · simp [hi]
theorem shP_iff {rows : List (List Int)} {n s w : Nat} : shP rows n s w = true ↔ ∀ u, u < n → (∀ row ∈ rows, iat row u = iat row w) → s.testBit u = true := by
  unfold shP
  simp only [List.all_eq_true, List.mem_range, Bool.or_eq_true, List.any_eq_true, bne_iff_ne, ne_eq]
  constructor
  · intro h u hu e
    rcases h u hu with ⟨row, hr, h1⟩ | h1
    · exact absurd (e row hr) h1
    · exact h1
  · intro h u hu
    by_cases e : ∀ row ∈ rows, iat row u = iat row w
    · exact .inr (h u hu e)
    · simp only [Classical.not_forall] at e
      obtain ⟨row, hr, e⟩ := e
      exact .inl ⟨row, hr, e⟩
theorem shV_bit (rows : List (List Int)) (n s w : Nat) : (shV rows n s).testBit w = (decide (w < n) && shP rows n s w) := bs_bit _ _ _
theorem shV_sub (rows : List (List Int)) (n s : Nat) : shV rows n s &&& s = shV rows n s := by
  apply Nat.eq_of_testBit_eq
  intro i
  rw [Nat.testBit_and, shV_bit]
  by_cases hi : i < n
  · cases h : shP rows n s i with
    | false => simp
    | true => rw [shP_iff.1 h i hi (fun _ _ => rfl)]; simp
  · simp [hi]
theorem shV_more {rows : List (List Int)} {n s : Nat} {row : List Int} (hr : row ∈ rows) : shV rows n s &&& knV row n s = knV row n s := by
  apply Nat.eq_of_testBit_eq
  intro i
  rw [Nat.testBit_and, shV_bit, knV_bit]
  by_cases hi : i < n
  · cases h : knP row n s i with
    | false => simp
    | true =>
      have : shP rows n s i = true := shP_iff.2 fun u hu e => knP_iff.1 h u hu (e row hr)
      rw [this]; simp
  · simp [hi]
/-- What 'KnowsOf' answers, where it does. -/
theorem knFacts {P a s : Int} {rows : List (List Int)} (h : 0 ≤ knA P rows a s) : ∃ N K S : Nat, P = N ∧ N ≤ 16 ∧ knA P rows a s = K ∧ s = S ∧ K ≤ 2 ^ N - 1 ∧ S < 65536 ∧ K &&& S = K ∧ knA P rows a K = K ∧ knA P rows a ((2 ^ N - 1 - K : Nat) : Int) = ((2 ^ N - 1 - K : Nat) : Int) := by
  have hA : (gd P rows s && inR a 0 ((rows.length : Int) - 1)) = true := by
    cases e : (gd P rows s && inR a 0 ((rows.length : Int) - 1)) with
    | true => rfl
    | false => rw [knA, e] at h; simp at h
  rw [Bool.and_eq_true] at hA
  obtain ⟨hg, ha⟩ := hA
  obtain ⟨N, S, rfl, rfl, hG, hS1, hS2⟩ := gd_of hg rfl
  have hv := (gd_iff.1 hg).1
  have hk : ∀ x : Nat, x ≤ 2 ^ N - 1 → knA N rows a x = (knV (rat rows a.toNat) N x : Int) := fun x hx => by
    have hp := Nat.two_pow_pos N
    have hg' : gd N rows x = true := gd_iff.2 ⟨hv, by omega, by
      rw [Int.toNat_natCast]
      have hc : ((2 : Int) ^ N) = ((2 ^ N : Nat) : Int) := by simp
      rw [hc]; omega⟩
    rw [knA, hg', ha]
    simp
  have hp := Nat.two_pow_pos N
  have hlt := knV_lt (rat rows a.toNat) N S
  refine ⟨N, knV (rat rows a.toNat) N S, S, rfl, hG.n2, hk S (by omega), rfl, by omega, hS1, knV_sub _ _ _, ?_, ?_⟩
  · rw [hk _ (by omega), knV_idem]
  · rw [hk _ (by omega), knV_rest]
theorem shV_lt (rows : List (List Int)) (n s : Nat) : shV rows n s < 2 ^ n := bs_lt _ _
theorem shFacts {P s : Int} {rows : List (List Int)} (h : 0 ≤ shA P rows s) : ∃ C S : Nat, shA P rows s = C ∧ s = S ∧ C < 65536 ∧ S < 65536 ∧ C &&& S = C ∧ ∀ i : Nat, i < rows.length → ∃ K : Nat, knA P rows i s = K ∧ K < 65536 ∧ C &&& K = K := by
  have hg : gd P rows s = true := by
    cases e : gd P rows s with
    | true => rfl
    | false => rw [shA, e] at h; simp at h
  obtain ⟨N, S, rfl, rfl, hG, hS1, hS2⟩ := gd_of hg rfl
  have h16 := pow16 hG.n2
  refine ⟨shV rows N S, S, ?_, rfl, ?_, hS1, shV_sub _ _ _, fun i hi => ⟨knV (rat rows i) N S, ?_, ?_, shV_more (rat_mem hi)⟩⟩
  · rw [shA, hg]; simp
  · have := shV_lt rows N S; omega
  · have ha : inR (i : Int) 0 ((rows.length : Int) - 1) = true := inR_true (by omega)
    rw [knA, hg, ha]; simp
  · have := knV_lt (rat rows i) N S; omega

end Go.Proofs.Ytlodhgkecpjieaa
