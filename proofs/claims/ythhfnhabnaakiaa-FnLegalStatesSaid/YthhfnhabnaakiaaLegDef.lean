/-
  LegDef. By a program (wip/tools/mk.py) out of snippets.
-/
import Derived.Test.YthhfnhabnaakiaaTok2
import Derived.Test.YthhfnhabnaakiaaSS
namespace Go.Proofs.Ythhfnhabnaakiaa
open Go.RowKit

/-- The states of a number. -/
def stL (K N x : Nat) : List Int := (List.range N).map fun i => ((x / K ^ (N - 1 - i) % K : Nat) : Int)
theorem stL_length (K N x : Nat) : (stL K N x).length = N := by simp [stL]
theorem stL_at {K N x i : Nat} (h : i < N) : iat (stL K N x) i = ((x / K ^ (N - 1 - i) % K : Nat) : Int) := by simp [stL, iat, List.getD_eq_getElem?_getD, h]
def isLeg (zs : List Int) : Bool := (toks zs).length == 1
def legTo (K N x : Nat) : List (List Int) := ((List.range x).map (stL K N)).filter isLeg
theorem legTo_hit {K N x : Nat} (h : isLeg (stL K N x) = true) : legTo K N (x + 1) = legTo K N x ++ [stL K N x] := by
  simp [legTo, List.range_succ, List.filter_append, h]
theorem legTo_miss {K N x : Nat} (h : isLeg (stL K N x) = false) : legTo K N (x + 1) = legTo K N x := by
  simp [legTo, List.range_succ, List.filter_append, h]
theorem legTo_le (K N x : Nat) : (legTo K N x).length ≤ x := by
  have := List.length_filter_le isLeg ((List.range x).map (stL K N))
  simpa [legTo] using this
theorem legTo_row {K N x : Nat} {row : List Int} (h : row ∈ legTo K N x) : row.length = N ∧ isLeg row = true := by
  simp only [legTo, List.mem_filter, List.mem_map] at h
  obtain ⟨⟨y, _, rfl⟩, h2⟩ := h
  exact ⟨stL_length _ _ _, h2⟩
def lgOk (k n : Int) : Bool := inR k 2 5 && (inR n 2 5 && decide (k.toNat ^ n.toNat ≤ 1024))
def legR (k n : Int) : List (List Int) := if lgOk k n then legTo k.toNat n.toNat (k.toNat ^ n.toNat) else []
theorem lgOk_iff {k n : Int} : lgOk k n = true ↔ ∃ K N : Nat, k = K ∧ n = N ∧ (2 ≤ K ∧ K ≤ 5) ∧ (2 ≤ N ∧ N ≤ 5) ∧ K ^ N ≤ 1024 := by
  unfold lgOk
  simp only [Bool.and_eq_true, decide_eq_true_eq, inR_iff]
  constructor
  · rintro ⟨⟨h1, h2⟩, ⟨h3, h4⟩, h5⟩
    exact ⟨k.toNat, n.toNat, by omega, by omega, by omega, by omega, h5⟩
  · rintro ⟨K, N, rfl, rfl, h1, h2, h3⟩
    exact ⟨by omega, by omega, by simpa using h3⟩
/-- The states with the last j of them zero, the others those of x. -/
def zL (K N j x : Nat) : List Int := (List.range N).map fun i => if N ≤ i + j then 0 else ((x / K ^ (N - 1 - i) % K : Nat) : Int)
/-- The states with the last j of them those of x, the others zero. -/
def loL (K N j x : Nat) : List Int := (List.range N).map fun i => if N ≤ i + j then ((x / K ^ (N - 1 - i) % K : Nat) : Int) else 0
theorem zL_length (K N j x : Nat) : (zL K N j x).length = N := by simp [zL]
theorem loL_length (K N j x : Nat) : (loL K N j x).length = N := by simp [loL]
theorem zL_zero (K N x : Nat) : zL K N 0 x = stL K N x := by
  unfold zL stL
  refine List.map_congr_left fun i hi => ?_
  have := List.mem_range.1 hi
  rw [if_neg (by omega)]
theorem zL_at {K N j x i : Nat} (h : i < N) : iat (zL K N j x) i = if N ≤ i + j then 0 else ((x / K ^ (N - 1 - i) % K : Nat) : Int) := by simp [zL, iat, List.getD_eq_getElem?_getD, h]
theorem loL_zero (K N x : Nat) : loL K N 0 x = List.replicate N 0 := by
  unfold loL
  rw [List.eq_replicate_iff]
  refine ⟨by simp, fun b hb => ?_⟩
  simp only [List.mem_map, List.mem_range] at hb
  obtain ⟨i, hi, rfl⟩ := hb
  rw [if_neg (by omega)]
theorem loL_full (K N x : Nat) : loL K N N x = stL K N x := by
  unfold loL stL
  refine List.map_congr_left fun i hi => ?_
  rw [if_pos (by omega)]
theorem loL_set {K N j x : Nat} (hj : j < N) : (loL K N j x).set (N - 1 - j) ((x / K ^ j % K : Nat) : Int) = loL K N (j + 1) x := by
  apply List.ext_getElem?
  intro i
  rw [List.getElem?_set]
  simp only [loL, List.length_map, List.length_range, List.getElem?_map]
  by_cases hi : i < N
  · rw [List.getElem?_range hi]
    by_cases e : N - 1 - j = i
    · subst e
      simp only [if_true, Option.map_some]
      rw [if_pos (by omega), if_pos (by omega), show N - 1 - (N - 1 - j) = j by omega]
    · rw [if_neg e]
      simp only [Option.map_some]
      by_cases h : N ≤ i + j
      · rw [if_pos h, if_pos (by omega)]
      · rw [if_neg h, if_neg (by omega)]
  · rw [List.getElem?_eq_none (by simpa using hi)]
    by_cases e : N - 1 - j = i
    · omega
    · rw [if_neg e]
      rfl
/-- What the odometer does, over the states of all rings that may be looked at. -/
def odo (K N : Nat) : Bool := (List.range (K ^ N)).all fun x => (List.range (N + 1)).all fun j =>
  !(x % K ^ j == K ^ j - 1) || (if j = N then x + 1 == K ^ N else
    if x / K ^ j % K + 1 < K then decide (x + 1 < K ^ N) && (zL K N j x).set (N - 1 - j) (((x / K ^ j % K + 1 : Nat) : Int)) == stL K N (x + 1)
    else x % K ^ (j + 1) == K ^ (j + 1) - 1 && ((zL K N j x).set (N - 1 - j) 0) == zL K N (j + 1) x && x / K ^ j % K + 1 == K)
def odoAll : Bool := (List.range 6).all fun K => (List.range 6).all fun N => !(decide (2 ≤ K) && decide (2 ≤ N) && decide (K ^ N ≤ 1024)) || odo K N
theorem odoAll_true : odoAll = true := by decide +kernel
theorem odo_true {K N : Nat} (hK : 2 ≤ K) (hK5 : K ≤ 5) (hN : 2 ≤ N) (hN5 : N ≤ 5) (h : K ^ N ≤ 1024) : odo K N = true := by
  have h1 := List.all_eq_true.1 odoAll_true K (List.mem_range.2 (by omega))
  have h2 := List.all_eq_true.1 h1 N (List.mem_range.2 (by omega))
  simpa [hK, hN, h] using h2
theorem odo_at {K N x j : Nat} (h : odo K N = true) (hx : x < K ^ N) (hj : j ≤ N) (hr : x % K ^ j = K ^ j - 1) :
    (j = N → x + 1 = K ^ N) ∧ (j < N → x / K ^ j % K + 1 < K → x + 1 < K ^ N ∧ (zL K N j x).set (N - 1 - j) (((x / K ^ j % K + 1 : Nat) : Int)) = stL K N (x + 1)) ∧
    (j < N → ¬ x / K ^ j % K + 1 < K → x % K ^ (j + 1) = K ^ (j + 1) - 1 ∧ (zL K N j x).set (N - 1 - j) 0 = zL K N (j + 1) x ∧ x / K ^ j % K + 1 = K) := by
  have h1 := List.all_eq_true.1 h x (List.mem_range.2 hx)
  have h2 := List.all_eq_true.1 h1 j (List.mem_range.2 (by omega))
  rw [hr] at h2
  simp only [beq_self_eq_true, Bool.not_true, Bool.false_or] at h2
  refine ⟨fun e => ?_, fun hlt hd => ?_, fun hlt hd => ?_⟩
  · rw [if_pos e] at h2
    simpa using h2
  · rw [if_neg (by omega), if_pos hd] at h2
    simpa using h2
  · rw [if_neg (by omega), if_neg hd] at h2
    simp only [Bool.and_eq_true, beq_iff_eq] at h2
    exact ⟨h2.1.1, h2.1.2, h2.2⟩
/-- What the law asks of the list of the legal states. -/
def legChk (K N : Nat) : Bool := ((legTo K N (K ^ N)).length == K + K * (K - 1) * (N - 1)) && (legTo K N (K ^ N)).all (fun zs => zs.all (fun z => inR z 0 ((K : Int) - 1)) && (List.range N).all (fun i => !tokAt zs i || isLeg (mv K zs i))) &&
  (List.range (legTo K N (K ^ N)).length).all fun i => i == 0 || !(rat (legTo K N (K ^ N)) (i - 1) == rat (legTo K N (K ^ N)) i)
def legChkAll : Bool := (List.range 6).all fun K => (List.range 6).all fun N => !(decide (2 ≤ K) && decide (2 ≤ N) && decide (K ^ N ≤ 1024)) || legChk K N
theorem legChkAll_true : legChkAll = true := by decide +kernel
theorem legChk_true {K N : Nat} (hK : 2 ≤ K) (hK5 : K ≤ 5) (hN : 2 ≤ N) (hN5 : N ≤ 5) (h : K ^ N ≤ 1024) : legChk K N = true := by
  have h1 := List.all_eq_true.1 legChkAll_true K (List.mem_range.2 (by omega))
  have h2 := List.all_eq_true.1 h1 N (List.mem_range.2 (by omega))
  simpa [hK, hN, h] using h2
theorem legCount {K N : Nat} (hK : 2 ≤ K) (hK5 : K ≤ 5) (hN : 2 ≤ N) (hN5 : N ≤ 5) (h : K ^ N ≤ 1024) : (legTo K N (K ^ N)).length = K + K * (K - 1) * (N - 1) := by
  have h1 := legChk_true hK hK5 hN hN5 h
  unfold legChk at h1
  simp only [Bool.and_eq_true, beq_iff_eq] at h1
  exact h1.1.1

end Go.Proofs.Ythhfnhabnaakiaa
