/-
  RndMath. By a program (wip/tools/mk.py) out of snippets.
-/
import Derived.Test.YtblaaeanbhgokaaMarksDef
namespace Go.Proofs.Ytblaaeanbhgokaa
open Go.RowKit

theorem locmax_adj {zs : List Int} {k : Nat} (hk : 0 < k) (hn : k < zs.length) (h : locmax zs k = true) : locmax zs (k - 1) = false := by
  have e1 : (k - 1 + 1) % zs.length = k := by rw [Nat.sub_add_cancel hk]; exact Nat.mod_eq_of_lt hn
  have e2 : (k + zs.length - 1) % zs.length = k - 1 := by
    rw [show k + zs.length - 1 = (k - 1) + zs.length by omega, Nat.add_mod_right]; exact Nat.mod_eq_of_lt (by omega)
  simp only [locmax, Bool.and_eq_true, decide_eq_true_eq] at h
  rw [e2] at h
  simp only [locmax, e1, Bool.and_eq_false_iff, decide_eq_false_iff_not]
  right; omega
theorem locmax_wrap {zs : List Int} (h2 : 2 ≤ zs.length) (h : locmax zs (zs.length - 1) = true) : locmax zs 0 = false := by
  have e1 : (zs.length - 1 + 1) % zs.length = 0 := by rw [Nat.sub_add_cancel (by omega)]; exact Nat.mod_self _
  have e2 : (0 + zs.length - 1) % zs.length = zs.length - 1 := by rw [Nat.zero_add]; exact Nat.mod_eq_of_lt (by omega)
  simp only [locmax, Bool.and_eq_true, decide_eq_true_eq] at h
  rw [e1] at h
  simp only [locmax, e2, Bool.and_eq_false_iff, decide_eq_false_iff_not]
  left; omega
theorem nextTo_half (zs : List Int) : ∀ k, k ≤ zs.length → 2 * (nextTo zs k).length + (if 0 < k ∧ locmax zs 0 = false then 1 else 0) ≤ k + (if 0 < k ∧ locmax zs (k - 1) = true then 1 else 0)
  | 0, _ => by simp [nextTo]
  | k + 1, h => by
    have ih := nextTo_half zs k (by omega)
    cases hl : locmax zs k with
    | true =>
      rw [nextTo_hit hl]
      by_cases hk : 0 < k
      · have h1 := locmax_adj hk (by omega) hl
        simp [hk, h1] at ih
        simp [hl]; omega
      · obtain rfl : k = 0 := by omega
        simp [hl, nextTo]
    | false =>
      rw [nextTo_miss hl]
      by_cases hk : 0 < k
      · simp [hk] at ih
        simp [hl]
        revert ih; split <;> split <;> omega
      · obtain rfl : k = 0 := by omega
        simp [hl, nextTo]
theorem nextL_half {zs : List Int} (h2 : 2 ≤ zs.length) : 2 * (nextL zs).length ≤ zs.length := by
  have h := nextTo_half zs zs.length (Nat.le_refl _)
  unfold nextL
  cases hl : locmax zs (zs.length - 1) with
  | true =>
    have h1 := locmax_wrap h2 hl
    simp [hl, h1] at h
    first | omega | (split at h <;> omega)
  | false =>
    simp [hl] at h
    first | omega | (split at h <;> omega)
theorem iat_inj {zs : List Int} (hn : zs.Nodup) {i j : Nat} (hi : i < zs.length) (hj : j < zs.length) (h : iat zs i = iat zs j) : i = j := by
  rcases Nat.lt_trichotomy i j with c | c | c
  · exact absurd hn (not_nodup hj c h)
  · exact c
  · exact absurd hn (not_nodup hi c h.symm)
theorem locmax_amax {zs : List Int} (hn : zs.Nodup) (h2 : 2 ≤ zs.length) : locmax zs (amax zs zs.length) = true := by
  have hm := amax_lt zs zs.length (by omega)
  have hg : ∀ j, j < zs.length → j ≠ amax zs zs.length → iat zs j < iat zs (amax zs zs.length) := fun j hj hne => by
    have h1 := amax_ge zs zs.length j hj
    have h3 : iat zs j ≠ iat zs (amax zs zs.length) := fun e => hne (iat_inj hn hj hm e)
    omega
  generalize amax zs zs.length = m at *
  have h1 : (m + zs.length - 1) % zs.length < zs.length := Nat.mod_lt _ (by omega)
  have h3 : (m + 1) % zs.length < zs.length := Nat.mod_lt _ (by omega)
  have n1 : (m + zs.length - 1) % zs.length ≠ m := by
    intro e
    by_cases h0 : m = 0
    · subst h0
      rw [Nat.zero_add, Nat.mod_eq_of_lt (by omega)] at e; omega
    · rw [show m + zs.length - 1 = (m - 1) + zs.length by omega, Nat.add_mod_right, Nat.mod_eq_of_lt (by omega)] at e; omega
  have n2 : (m + 1) % zs.length ≠ m := by
    intro e
    by_cases h0 : m + 1 = zs.length
    · rw [h0, Nat.mod_self] at e; omega
    · rw [Nat.mod_eq_of_lt (by omega)] at e; omega
  simp only [locmax, Bool.and_eq_true, decide_eq_true_eq]
  exact ⟨hg _ h1 n1, hg _ h3 n2⟩
theorem nextL_pos {zs : List Int} (hn : zs.Nodup) (h2 : 2 ≤ zs.length) : 1 ≤ (nextL zs).length :=
  List.length_pos_of_mem (List.mem_map.2 ⟨amax zs zs.length, List.mem_filter.2 ⟨List.mem_range.2 (amax_lt zs zs.length (by omega)), locmax_amax hn h2⟩, rfl⟩)
theorem range_iat (zs : List Int) : (List.range zs.length).map (iat zs) = zs := by
  refine List.ext_getElem (by simp) fun i h1 h2 => ?_
  simp [iat_eq h2]
theorem nextL_nodup {zs : List Int} (hn : zs.Nodup) : (nextL zs).Nodup := by
  have h : (nextL zs).Sublist zs := by
    conv => rhs; rw [← range_iat zs]
    exact List.filter_sublist.map _
  exact h.nodup hn
theorem iat_succ (x : Int) (l : List Int) (i : Nat) : iat (x :: l) (i + 1) = iat l i := by simp [iat]
theorem iat_zero (x : Int) (l : List Int) : iat (x :: l) 0 = x := by simp [iat]
/-- The rounds halve, and end with one. -/
theorem roundsL_fine : ∀ (f : Nat) (zs : List Int), zs.Nodup → 1 ≤ zs.length → zs.length ≤ f →
    (∀ i, i < (roundsL f zs).length → 1 ≤ iat (roundsL f zs) i ∧ 2 * iat (roundsL f zs) i ≤ iat ((zs.length : Int) :: roundsL f zs) i) ∧ iat ((zs.length : Int) :: roundsL f zs) (roundsL f zs).length = 1 ∧ 2 ^ (roundsL f zs).length ≤ zs.length
  | 0, zs, _, h1, h2 => by omega
  | f + 1, zs, hn, h1, h2 => by
    by_cases h : zs.length ≤ 1
    · rw [roundsL_one _ h]
      refine ⟨fun i hi => absurd hi (by simp), ?_, ?_⟩
      · rw [List.length_nil, iat_zero]; omega
      · simp; omega
    · have h3 : 2 ≤ zs.length := by omega
      have ih := roundsL_fine f (nextL zs) (nextL_nodup hn) (nextL_pos hn h3) (by have := nextL_lt h3; omega)
      have hh := nextL_half h3
      have hp := nextL_pos hn h3
      rw [roundsL_succ f h3]
      generalize roundsL f (nextL zs) = R at *
      obtain ⟨g1, g2, g3⟩ := ih
      refine ⟨fun i hi => ?_, ?_, ?_⟩
      · cases i with
        | zero => rw [iat_zero, iat_zero]; omega
        | succ i =>
          rw [iat_succ, iat_succ]
          exact g1 i (by simp at hi; exact hi)
      · rw [List.length_cons, iat_succ]; exact g2
      · rw [List.length_cons, Nat.pow_succ]; omega
theorem two_pow_lt : ∀ k : Nat, k < 2 ^ k
  | 0 => by simp
  | k + 1 => by have := two_pow_lt k; rw [Nat.pow_succ]; omega
theorem roundsR_fine {zs : List Int} (h : vmarks zs = true) :
    (∀ i, i < (roundsR zs).length → 1 ≤ iat (roundsR zs) i ∧ 2 * iat (roundsR zs) i ≤ iat ((zs.length : Int) :: roundsR zs) i) ∧ iat ((zs.length : Int) :: roundsR zs) (roundsR zs).length = 1 ∧ 2 ^ (roundsR zs).length ≤ zs.length := by
  have hv := vmarks_iff.1 h
  have e : roundsR zs = roundsL zs.length zs := by simp [roundsR, h]
  rw [e]
  exact roundsL_fine _ _ hv.2.2 hv.1.1 (Nat.le_refl _)

end Go.Proofs.Ytblaaeanbhgokaa
