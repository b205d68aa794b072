/-
  ElMath. By a program (wip/tools/mk.py) out of snippets.
-/
import Derived.Test.YtblaaeanbhgokaaRndMath
namespace Go.Proofs.Ytblaaeanbhgokaa
open Go.RowKit

/-- How many of the first k numbers have p? -/
def cnt (p : Nat → Bool) (k : Nat) : Nat := ((List.range k).filter p).length
theorem cnt_succ (p : Nat → Bool) (k : Nat) : cnt p (k + 1) = cnt p k + (if p k = true then 1 else 0) := by
  unfold cnt
  rw [List.range_succ, List.filter_append, List.length_append]
  cases h : p k <;> simp [h]
theorem cnt_zero (p : Nat → Bool) : cnt p 0 = 0 := by simp [cnt]
theorem cnt_mono (p : Nat → Bool) (a : Nat) : ∀ d, cnt p a ≤ cnt p (a + d)
  | 0 => Nat.le_refl _
  | d + 1 => by
    have := cnt_mono p a d
    rw [← Nat.add_assoc, cnt_succ]
    omega
theorem cnt_seg (p : Nat → Bool) (a : Nat) : ∀ d, (∀ j, a ≤ j → j < a + d → p j = true) → cnt p a + d ≤ cnt p (a + d)
  | 0, _ => Nat.le_refl _
  | d + 1, h => by
    have := cnt_seg p a d (fun j h1 h2 => h j h1 (by omega))
    rw [show a + (d + 1) = (a + d) + 1 by omega, cnt_succ, if_pos (h (a + d) (by omega) (by omega))]
    omega
theorem cnt_two {p q : Nat → Bool} : ∀ k, (∀ j, j < k → ¬ (p j = true ∧ q j = true)) → cnt p k + cnt q k ≤ k
  | 0, _ => by simp [cnt_zero]
  | k + 1, h => by
    have := cnt_two k (fun j hj => h j (by omega))
    have h2 := h k (by omega)
    rw [cnt_succ, cnt_succ]
    cases hp : p k <;> cases hq : q k <;> simp_all <;> omega
/-- The sum of the first k values. -/
def sumTo (f : Nat → Nat) (k : Nat) : Nat := ((List.range k).map f).sum
theorem sumTo_succ (f : Nat → Nat) (k : Nat) : sumTo f (k + 1) = sumTo f k + f k := by simp [sumTo, List.range_succ]
theorem sumTo_zero (f : Nat → Nat) : sumTo f 0 = 0 := by simp [sumTo]
theorem sumTo_le {f g : Nat → Nat} : ∀ k, (∀ j, j < k → f j ≤ g j) → sumTo f k ≤ sumTo g k
  | 0, _ => by simp [sumTo_zero]
  | k + 1, h => by
    have := sumTo_le k (fun j hj => h j (by omega))
    have h2 := h k (by omega)
    rw [sumTo_succ, sumTo_succ]; omega
theorem sumTo_congr {f g : Nat → Nat} : ∀ k, (∀ j, j < k → f j = g j) → sumTo f k = sumTo g k
  | 0, _ => by simp [sumTo_zero]
  | k + 1, h => by rw [sumTo_succ, sumTo_succ, sumTo_congr k (fun j hj => h j (by omega)), h k (by omega)]
theorem sumTo_add (f g : Nat → Nat) : ∀ k, sumTo (fun i => f i + g i) k = sumTo f k + sumTo g k
  | 0 => by simp [sumTo_zero]
  | k + 1 => by rw [sumTo_succ, sumTo_succ, sumTo_succ, sumTo_add f g k]; omega
theorem sumTo_ind (p : Nat → Bool) : ∀ k, sumTo (fun i => if p i = true then 1 else 0) k = cnt p k
  | 0 => by simp [sumTo_zero, cnt_zero]
  | k + 1 => by rw [sumTo_succ, cnt_succ, sumTo_ind p k]
/-- How many of the first k are less than the one at i? -/
def less (zs : List Int) (i k : Nat) : Nat := cnt (fun j => decide (iat zs j < iat zs i)) k
theorem less_sum (zs : List Int) : ∀ k, 2 * sumTo (fun i => less zs i k) k + k ≤ k * k
  | 0 => by simp [sumTo_zero]
  | k + 1 => by
    have ih := less_sum zs k
    have h1 : sumTo (fun i => less zs i (k + 1)) k = sumTo (fun i => less zs i k) k + cnt (fun i => decide (iat zs k < iat zs i)) k := by
      rw [← sumTo_ind, ← sumTo_add]
      exact sumTo_congr k (fun i _ => by simp only [less]; rw [cnt_succ])
    have h2 : less zs k (k + 1) = cnt (fun j => decide (iat zs j < iat zs k)) k := by
      simp only [less]; rw [cnt_succ]; simp
    have h3 := cnt_two (p := fun j => decide (iat zs j < iat zs k)) (q := fun i => decide (iat zs k < iat zs i)) k (fun j _ => by simp; omega)
    have h4 : (k + 1) * (k + 1) = k * k + 2 * k + 1 := by rw [Nat.succ_mul, Nat.mul_succ]; omega
    rw [sumTo_succ, h1, h2, h4]
    omega
/-- A mark goes no farther than there are lesser ones, and one. -/
theorem hop_less {zs : List Int} {i : Nat} (hi : i < zs.length) : hop zs i ≤ less zs i zs.length + 1 := by
  have hl := hop_le hi
  have hp := hop_pos zs i
  obtain ⟨T, hT⟩ : ∃ T, hop zs i = T + 1 := ⟨hop zs i - 1, by omega⟩
  have ht : ∀ t, t < T → iat zs ((i + t + 1) % zs.length) < iat zs i := fun t h => hop_lt (by omega) hi
  suffices h : T ≤ less zs i zs.length by omega
  unfold less
  by_cases hw : i + T < zs.length
  · have h1 := cnt_seg (fun j => decide (iat zs j < iat zs i)) (i + 1) T (fun j h1 h2 => by
      have := ht (j - i - 1) (by omega)
      rw [show i + (j - i - 1) + 1 = j by omega, Nat.mod_eq_of_lt (by omega)] at this
      simpa using this)
    have h2 := cnt_mono (fun j => decide (iat zs j < iat zs i)) (i + 1 + T) (zs.length - (i + 1 + T))
    rw [show i + 1 + T + (zs.length - (i + 1 + T)) = zs.length by omega] at h2
    omega
  · have h1 := cnt_seg (fun j => decide (iat zs j < iat zs i)) (i + 1) (zs.length - (i + 1)) (fun j h1 h2 => by
      have := ht (j - i - 1) (by omega)
      rw [show i + (j - i - 1) + 1 = j by omega, Nat.mod_eq_of_lt (by omega)] at this
      simpa using this)
    have h2 := cnt_seg (fun j => decide (iat zs j < iat zs i)) 0 (i + T + 1 - zs.length) (fun j h1 h2 => by
      have := ht (j + zs.length - i - 1) (by omega)
      rw [show i + (j + zs.length - i - 1) + 1 = j + zs.length by omega, Nat.add_mod_right, Nat.mod_eq_of_lt (by omega)] at this
      simpa using this)
    have h3 := cnt_mono (fun j => decide (iat zs j < iat zs i)) (0 + (i + T + 1 - zs.length)) (i + 1 - (i + T + 1 - zs.length))
    rw [show 0 + (i + T + 1 - zs.length) + (i + 1 - (i + T + 1 - zs.length)) = i + 1 by omega] at h3
    rw [show i + 1 + (zs.length - (i + 1)) = zs.length by omega] at h1
    rw [cnt_zero] at h2
    omega
theorem hops_sum (zs : List Int) (k : Nat) : hops zs k = sumTo (hop zs) k := rfl
theorem hops_most (zs : List Int) : 2 * hops zs zs.length ≤ zs.length * (zs.length + 1) := by
  have h1 := less_sum zs zs.length
  have h2 : sumTo (hop zs) zs.length ≤ sumTo (fun i => less zs i zs.length + 1) zs.length := sumTo_le _ (fun j hj => hop_less hj)
  have h3 : ∀ k, sumTo (fun _ => 1) k = k := fun k => by
    induction k with
    | zero => exact sumTo_zero _
    | succ k ih => rw [sumTo_succ, ih]
  rw [sumTo_add (fun i => less zs i zs.length) (fun _ => 1), h3] at h2
  rw [hops_sum, Nat.mul_succ]
  omega
theorem hop_amax {zs : List Int} (hn : zs.Nodup) (h1 : 1 ≤ zs.length) : hop zs (amax zs zs.length) = zs.length := by
  have hm := amax_lt zs zs.length (by omega)
  have hg := amax_ge zs zs.length
  generalize amax zs zs.length = m at *
  have hl := hop_le hm
  have hp := hop_pos zs m
  obtain ⟨T, hT⟩ : ∃ T, hop zs m = T + 1 := ⟨hop zs m - 1, by omega⟩
  have h2 := hop_at (t := T) hT.symm hm
  have hq : (m + T + 1) % zs.length < zs.length := Nat.mod_lt _ (by omega)
  have h3 := hg _ hq
  have h4 := iat_inj hn hq hm (by omega)
  by_cases hw : m + T + 1 < zs.length
  · rw [Nat.mod_eq_of_lt hw] at h4; omega
  · rw [show m + T + 1 = (m + T + 1 - zs.length) + zs.length by omega, Nat.add_mod_right, Nat.mod_eq_of_lt (by omega)] at h4
    omega
theorem hops_least {zs : List Int} (hn : zs.Nodup) (h1 : 1 ≤ zs.length) : 2 * zs.length - 1 ≤ hops zs zs.length := by
  have h2 := hop_amax hn h1
  have hm := amax_lt zs zs.length (by omega)
  have h3 : ∀ k, k + (if amax zs zs.length < k then zs.length - 1 else 0) ≤ hops zs k := by
    intro k
    induction k with
    | zero => simp [hops]
    | succ k ih =>
      rw [hops_succ]
      have hp := hop_pos zs k
      by_cases he : k = amax zs zs.length
      · rw [he] at ih hp ⊢
        rw [h2]
        simp at ih ⊢
        omega
      · split at ih <;> split <;> omega
  have h4 := h3 zs.length
  rw [if_pos hm] at h4
  omega

/-- The ring begun elsewhere. -/
def rot (zs : List Int) : List Int := zs.drop 1 ++ [iat zs 0]
theorem rot_length {zs : List Int} (h : 1 ≤ zs.length) : (rot zs).length = zs.length := by simp [rot]; omega
theorem rot_at {zs : List Int} {j : Nat} (hj : j < zs.length) : iat (rot zs) j = iat zs ((j + 1) % zs.length) := by
  by_cases h : j + 1 < zs.length
  · rw [Nat.mod_eq_of_lt h]
    have : j < zs.length - 1 := by omega
    simp [rot, iat, List.getElem?_append, this, Nat.add_comm 1 j]
    rw [List.getElem?_eq_getElem h]; rfl
  · obtain rfl : j = zs.length - 1 := by omega
    rw [show zs.length - 1 + 1 = zs.length by omega, Nat.mod_self]
    simp [rot, iat, List.getElem?_append]
theorem rot_hop {zs : List Int} {i : Nat} (hi : i < zs.length) : hop (rot zs) i = hop zs ((i + 1) % zs.length) := by
  unfold hop
  rw [rot_length (by omega), rot_at hi]
  congr 2
  funext k
  rw [rot_at (Nat.mod_lt _ (by omega))]
  have e : ((i + k + 1) % zs.length + 1) % zs.length = ((i + 1) % zs.length + k + 1) % zs.length := by
    rw [Nat.mod_add_mod, Nat.add_assoc ((i + 1) % zs.length), Nat.mod_add_mod]
    congr 1; omega
  rw [e]
theorem rot_hops {zs : List Int} (h : 1 ≤ zs.length) : hops (rot zs) (rot zs).length = hops zs zs.length := by
  rw [rot_length h]
  obtain ⟨m, hm⟩ : ∃ m, zs.length = m + 1 := ⟨zs.length - 1, by omega⟩
  have h1 : ∀ k, k ≤ m → hops (rot zs) k + hop zs 0 = hops zs (k + 1) := by
    intro k
    induction k with
    | zero => intro _; simp [hops]
    | succ k ih =>
      intro hk
      have := ih (by omega)
      rw [hops_succ, hops_succ zs (k + 1), rot_hop (by omega), Nat.mod_eq_of_lt (by omega)]
      omega
  have h2 := h1 m (Nat.le_refl _)
  rw [hm, hops_succ, rot_hop (by omega), hm, Nat.mod_self]
  exact h2
theorem rot_marks {zs : List Int} (h : vmarks zs = true) : vmarks (rot zs) = true := by
  obtain ⟨⟨h1, h2⟩, h3, h4⟩ := vmarks_iff.1 h
  refine vmarks_iff.2 ⟨by rw [rot_length h1]; exact ⟨h1, h2⟩, ?_, ?_⟩
  · intro z hz
    rcases List.mem_append.1 hz with h5 | h5
    · exact h3 z (List.mem_of_mem_drop h5)
    · rw [List.mem_singleton.1 h5]; exact h3 _ (iat_mem (by omega))
  · cases zs with
    | nil => simp at h1
    | cons z t =>
      have e : rot (z :: t) = t ++ [z] := by simp [rot, iat]
      rw [e, List.nodup_append]
      rw [List.nodup_cons] at h4
      exact ⟨h4.2, by simp, by intro a ha b hb; rw [List.mem_singleton.1 hb]; intro e2; exact h4.1 (e2 ▸ ha)⟩
theorem elect_fine {zs : List Int} (h : vmarks zs = true) :
    electAt zs = (amax zs zs.length : Int) ∧ electN zs = (hops zs zs.length : Int) ∧ electN (rot zs) = (hops zs zs.length : Int) ∧ 2 * zs.length - 1 ≤ hops zs zs.length ∧ 2 * hops zs zs.length ≤ zs.length * (zs.length + 1) ∧ amax zs zs.length < zs.length ∧ ∀ j, j < zs.length → iat zs j ≤ iat zs (amax zs zs.length) := by
  obtain ⟨⟨h1, h2⟩, h3, h4⟩ := vmarks_iff.1 h
  refine ⟨by simp [electAt, h], by simp [electN, h], ?_, hops_least h4 h1, hops_most zs, amax_lt _ _ (by omega), amax_ge zs zs.length⟩
  have := rot_hops h1
  simp [electN, rot_marks h, this]

end Go.Proofs.Ytblaaeanbhgokaa
