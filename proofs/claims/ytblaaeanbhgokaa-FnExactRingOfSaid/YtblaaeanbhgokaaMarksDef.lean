/-
  MarksDef. By a program (wip/tools/mk.py) out of snippets.
-/
import Derived.Test.YtblaaeanbhgokaaWp
namespace Go.Proofs.Ytblaaeanbhgokaa
open Go.RowKit

/-- Are zs different marks of a ring? -/
def vmarks (zs : List Int) : Bool := inR zs.length 1 6 && (zs.all (fun z => inR z 0 20) && decide zs.Nodup)
theorem vmarks_iff {zs : List Int} : vmarks zs = true ↔ (1 ≤ zs.length ∧ zs.length ≤ 6) ∧ (∀ z ∈ zs, 0 ≤ z ∧ z ≤ 20) ∧ zs.Nodup := by
  simp [vmarks, inR_iff]; omega
theorem nodup_of {zs : List Int} (h : ∀ t, t < zs.length → ∀ s, s < t → iat zs s ≠ iat zs t) : zs.Nodup := by
  rw [List.nodup_iff_pairwise_ne, List.pairwise_iff_getElem]
  intro i j hi hj hij
  have := h j hj i hij
  rwa [iat_eq hi, iat_eq hj] at this
theorem not_nodup {zs : List Int} {t s : Nat} (ht : t < zs.length) (hs : s < t) (h : iat zs s = iat zs t) : ¬ zs.Nodup := by
  intro hn
  rw [List.nodup_iff_pairwise_ne, List.pairwise_iff_getElem] at hn
  have := hn s t (by omega) ht hs
  rw [iat_eq (by omega), iat_eq ht] at h
  exact this h

/-- How many nodes on is the first one whose mark is not less? -/
def hop (zs : List Int) (i : Nat) : Nat := (List.range zs.length).findIdx (fun k => !decide (iat zs ((i + k + 1) % zs.length) < iat zs i)) + 1
theorem hop_le {zs : List Int} {i : Nat} (hi : i < zs.length) : hop zs i ≤ zs.length := by
  unfold hop
  have : (List.range zs.length).findIdx (fun k => !decide (iat zs ((i + k + 1) % zs.length) < iat zs i)) < (List.range zs.length).length := by
    rw [List.findIdx_lt_length]
    refine ⟨zs.length - 1, by simp; omega, ?_⟩
    have e : (i + (zs.length - 1) + 1) % zs.length = i := by
      rw [show i + (zs.length - 1) + 1 = i + zs.length by omega, Nat.add_mod_right, Nat.mod_eq_of_lt hi]
    simp [e]
  simp at this
  omega
theorem hop_pos (zs : List Int) (i : Nat) : 1 ≤ hop zs i := by unfold hop; omega
theorem hop_lt {zs : List Int} {i t : Nat} (h : t + 1 < hop zs i) (_hi : i < zs.length) : iat zs ((i + t + 1) % zs.length) < iat zs i := by
  have h2 : t < (List.range zs.length).findIdx (fun k => !decide (iat zs ((i + k + 1) % zs.length) < iat zs i)) := by unfold hop at h; omega
  have := List.not_of_lt_findIdx h2
  simpa using this
theorem hop_at {zs : List Int} {i t : Nat} (h : t + 1 = hop zs i) (hi : i < zs.length) : ¬ iat zs ((i + t + 1) % zs.length) < iat zs i := by
  have h2 : t = (List.range zs.length).findIdx (fun k => !decide (iat zs ((i + k + 1) % zs.length) < iat zs i)) := by unfold hop at h; omega
  have hl := hop_le hi
  have hlt : (List.range zs.length).findIdx (fun k => !decide (iat zs ((i + k + 1) % zs.length) < iat zs i)) < (List.range zs.length).length := by simp; omega
  have := List.findIdx_getElem (w := hlt)
  simp only [List.getElem_range] at this
  rw [← h2] at this
  simpa using this
/-- How many messages are sent by the first k nodes. -/
def hops (zs : List Int) (k : Nat) : Nat := ((List.range k).map (hop zs)).sum
theorem hops_succ (zs : List Int) (k : Nat) : hops zs (k + 1) = hops zs k + hop zs k := by simp [hops, List.range_succ]
theorem hops_le (zs : List Int) : ∀ k, k ≤ zs.length → hops zs k ≤ k * zs.length
  | 0, _ => by simp [hops]
  | k + 1, h => by
    have := hops_le zs k (by omega)
    have h2 := hop_le (zs := zs) (i := k) (by omega)
    rw [hops_succ, Nat.succ_mul]
    omega
/-- The first of the greatest of the first k numbers. -/
def amax (zs : List Int) : Nat → Nat
  | 0 => 0
  | k + 1 => if iat zs (amax zs k) < iat zs k then k else amax zs k
theorem amax_lt (zs : List Int) : ∀ k, 0 < k → amax zs k < k
  | 1, _ => by simp [amax]
  | k + 2, _ => by
    have := amax_lt zs (k + 1) (by omega)
    have e : amax zs (k + 2) = if iat zs (amax zs (k + 1)) < iat zs (k + 1) then k + 1 else amax zs (k + 1) := rfl
    rw [e]
    split <;> omega
theorem amax_ge (zs : List Int) : ∀ k j, j < k → iat zs j ≤ iat zs (amax zs k)
  | 0, j, h => by omega
  | k + 1, j, h => by
    have ih := amax_ge zs k
    simp only [amax]
    split
    · by_cases e : j = k
      · subst e; exact Int.le_refl _
      · have := ih j (by omega); omega
    · by_cases e : j = k
      · subst e; omega
      · exact ih j (by omega)
theorem amax_first (zs : List Int) : ∀ k j, j < amax zs k → iat zs j < iat zs (amax zs k)
  | 0, j, h => by simp [amax] at h
  | k + 1, j, h => by
    have ih := amax_first zs k
    have ge := amax_ge zs k
    simp only [amax] at h ⊢
    split
    · rename_i h1
      rw [if_pos h1] at h
      have := ge j h; omega
    · rename_i h1
      rw [if_neg h1] at h
      exact ih j h
theorem amax_zero (zs : List Int) : amax zs 1 = 0 := by simp [amax]
/-- What 'ElectOf' returns. -/
def electAt (zs : List Int) : Int := if vmarks zs then (amax zs zs.length : Int) else -1
def electN (zs : List Int) : Int := if vmarks zs then (hops zs zs.length : Int) else -1
theorem fidx_amax {zs : List Int} (h : 0 < zs.length) : fidx (fun z => iat zs (amax zs zs.length) == z) zs = (amax zs zs.length : Int) := by
  have hl := amax_lt zs zs.length h
  refine fidx_hit hl (by simp) fun j hj => ?_
  have := amax_first zs zs.length j hj
  simp; omega

/-- Is the mark at i greater than both beside it? -/
def locmax (zs : List Int) (i : Nat) : Bool := decide (iat zs ((i + zs.length - 1) % zs.length) < iat zs i) && decide (iat zs ((i + 1) % zs.length) < iat zs i)
def nextTo (zs : List Int) (k : Nat) : List Int := ((List.range k).filter (locmax zs)).map (iat zs)
def nextL (zs : List Int) : List Int := nextTo zs zs.length
theorem nextTo_hit {zs : List Int} {k : Nat} (h : locmax zs k = true) : nextTo zs (k + 1) = nextTo zs k ++ [iat zs k] := by
  simp [nextTo, List.range_succ, List.filter_append, h]
theorem nextTo_miss {zs : List Int} {k : Nat} (h : locmax zs k = false) : nextTo zs (k + 1) = nextTo zs k := by
  simp [nextTo, List.range_succ, List.filter_append, h]
theorem nextTo_length (zs : List Int) (k : Nat) : (nextTo zs k).length ≤ k := by
  unfold nextTo
  rw [List.length_map]
  exact Nat.le_trans (List.length_filter_le _ _) (by simp)
theorem nextL_lt {zs : List Int} (h : 2 ≤ zs.length) : (nextL zs).length < zs.length := by
  unfold nextL nextTo
  rw [List.length_map]
  have : ((List.range zs.length).filter (locmax zs)).length < (List.range zs.length).length := by
    rw [List.length_filter_lt_length_iff_exists]
    by_cases h0 : locmax zs 0 = true
    · refine ⟨1, by simp; omega, fun h1 => ?_⟩
      simp only [locmax, Bool.and_eq_true, decide_eq_true_eq] at h0 h1
      have e1 : (0 + 1) % zs.length = 1 := Nat.mod_eq_of_lt (by omega)
      have e2 : (1 + zs.length - 1) % zs.length = 0 := by rw [show 1 + zs.length - 1 = zs.length by omega]; exact Nat.mod_self _
      rw [e1] at h0
      rw [e2] at h1
      omega
    · exact ⟨0, by simp; omega, h0⟩
  simpa using this
/-- How many are left after each time. -/
def roundsL : Nat → List Int → List Int
  | 0, _ => []
  | f + 1, zs => if zs.length ≤ 1 then [] else ((nextL zs).length : Int) :: roundsL f (nextL zs)
theorem roundsL_one (f : Nat) {zs : List Int} (h : zs.length ≤ 1) : roundsL f zs = [] := by
  cases f with
  | zero => rfl
  | succ f => simp [roundsL, h]
theorem roundsL_succ (f : Nat) {zs : List Int} (h : 2 ≤ zs.length) : roundsL (f + 1) zs = ((nextL zs).length : Int) :: roundsL f (nextL zs) := by
  rw [roundsL, if_neg (by omega)]
theorem roundsL_le : ∀ (f : Nat) (zs : List Int), (roundsL f zs).length ≤ f
  | 0, _ => by simp [roundsL]
  | f + 1, zs => by
    rw [roundsL]
    split
    · simp
    · have := roundsL_le f (nextL zs)
      simp; omega
def roundsR (zs : List Int) : List Int := if vmarks zs then roundsL zs.length zs else []
def roundsK (zs : List Int) : Int := if vmarks zs then ((roundsR zs).length : Int) else -1

end Go.Proofs.Ytblaaeanbhgokaa
