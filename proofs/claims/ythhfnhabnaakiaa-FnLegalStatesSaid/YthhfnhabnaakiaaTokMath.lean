/-
  TokMath. By a program (wip/tools/mk.py) out of snippets.
-/
import Derived.Test.YthhfnhabnaakiaaTokDef
namespace Go.Proofs.Ythhfnhabnaakiaa
open Go.RowKit

/-- All lists of n numbers from 0 to k - 1. -/
def allLists (k : Nat) : Nat → List (List Int)
  | 0 => [[]]
  | n + 1 => (allLists k n).flatMap fun l => (List.range k).map fun (z : Nat) => (z : Int) :: l
theorem mem_allLists {k : Nat} : ∀ {zs : List Int}, (∀ z ∈ zs, 0 ≤ z ∧ z < k) → zs ∈ allLists k zs.length
  | [], _ => by simp [allLists]
  | z :: l, h => by
    have hz := h z (by simp)
    simp only [allLists, List.length_cons, List.mem_flatMap, List.mem_map, List.mem_range]
    exact ⟨l, mem_allLists (fun x hx => h x (by simp [hx])), z.toNat, by omega, by rw [Int.toNat_of_nonneg hz.1]⟩
/-- What a move does, at one state. -/
def moveFine (k : Nat) (zs : List Int) : Bool :=
  !(toks zs).isEmpty && (toks zs).all fun i =>
    let z := mv k zs i.toNat
    decide ((toks z).length ≤ (toks zs).length) && !(toks z).contains i && z.all (fun x => decide (0 ≤ x) && decide (x < k)) && ((toks zs).length != 1 || toks z == [(i + 1) % (zs.length : Int)])
theorem mf22 : (allLists 2 2).all (moveFine 2) = true := by kernel_rfl
theorem mf23 : (allLists 2 3).all (moveFine 2) = true := by kernel_rfl
theorem mf24 : (allLists 2 4).all (moveFine 2) = true := by kernel_rfl
theorem mf25 : (allLists 2 5).all (moveFine 2) = true := by kernel_rfl
theorem mf32 : (allLists 3 2).all (moveFine 3) = true := by kernel_rfl
theorem mf33 : (allLists 3 3).all (moveFine 3) = true := by kernel_rfl
theorem mf34 : (allLists 3 4).all (moveFine 3) = true := by kernel_rfl
theorem mf35 : (allLists 3 5).all (moveFine 3) = true := by kernel_rfl
theorem mf42 : (allLists 4 2).all (moveFine 4) = true := by kernel_rfl
theorem mf43 : (allLists 4 3).all (moveFine 4) = true := by kernel_rfl
theorem mf44 : (allLists 4 4).all (moveFine 4) = true := by kernel_rfl
theorem mf45 : (allLists 4 5).all (moveFine 4) = true := by kernel_rfl
theorem mf52 : (allLists 5 2).all (moveFine 5) = true := by kernel_rfl
theorem mf53 : (allLists 5 3).all (moveFine 5) = true := by kernel_rfl
theorem mf54 : (allLists 5 4).all (moveFine 5) = true := by kernel_rfl
theorem mf55 : (allLists 5 5).all (moveFine 5) = true := by kernel_rfl

theorem moveFine_at {k : Int} {zs : List Int} (h : vtok k zs = true) : moveFine k.toNat zs = true := by
  obtain ⟨⟨h1, h2⟩, ⟨h3, h4⟩, h5⟩ := vtok_iff.1 h
  have hm : zs ∈ allLists k.toNat zs.length := mem_allLists fun z hz => by have := h5 z hz; omega
  have all : ∀ (K n : Nat), K = k.toNat → n = zs.length → (allLists K n).all (moveFine K) = true → moveFine k.toNat zs = true := by
    rintro K n rfl rfl ha
    exact List.all_eq_true.1 ha zs hm
  obtain ⟨K, hK⟩ : ∃ K, K = k.toNat := ⟨_, rfl⟩
  obtain ⟨n, hn⟩ : ∃ n, n = zs.length := ⟨_, rfl⟩
  have hK2 : K = 2 ∨ K = 3 ∨ K = 4 ∨ K = 5 := by omega
  have hn2 : n = 2 ∨ n = 3 ∨ n = 4 ∨ n = 5 := by omega
  rcases hK2 with rfl | rfl | rfl | rfl <;> rcases hn2 with rfl | rfl | rfl | rfl
  · exact all 2 2 hK hn mf22
  · exact all 2 3 hK hn mf23
  · exact all 2 4 hK hn mf24
  · exact all 2 5 hK hn mf25
  · exact all 3 2 hK hn mf32
  · exact all 3 3 hK hn mf33
  · exact all 3 4 hK hn mf34
  · exact all 3 5 hK hn mf35
  · exact all 4 2 hK hn mf42
  · exact all 4 3 hK hn mf43
  · exact all 4 4 hK hn mf44
  · exact all 4 5 hK hn mf45
  · exact all 5 2 hK hn mf52
  · exact all 5 3 hK hn mf53
  · exact all 5 4 hK hn mf54
  · exact all 5 5 hK hn mf55

theorem toks_ne {k : Int} {zs : List Int} (h : vtok k zs = true) : 0 < (toks zs).length := by
  have := moveFine_at h
  simp only [moveFine, Bool.and_eq_true, Bool.not_eq_true', List.isEmpty_eq_false_iff] at this
  exact List.length_pos_iff.2 this.1
theorem move_fine {k : Int} {zs : List Int} {i : Nat} (h : vtok k zs = true) (hi : i < zs.length) (ht : tokAt zs i = true) :
    (toks (mv k zs i)).length ≤ (toks zs).length ∧ (i : Int) ∉ toks (mv k zs i) ∧ vtok k (mv k zs i) = true ∧ ((toks zs).length = 1 → toks (mv k zs i) = [((i : Int) + 1) % zs.length]) := by
  have hm := moveFine_at h
  obtain ⟨⟨h1, h2⟩, ⟨h3, h4⟩, h5⟩ := vtok_iff.1 h
  have hmem : (i : Int) ∈ toks zs := by
    simp only [toks, toksTo, List.mem_map, List.mem_filter, List.mem_range]
    exact ⟨i, ⟨hi, ht⟩, rfl⟩
  simp only [moveFine, Bool.and_eq_true, List.all_eq_true] at hm
  have := hm.2 _ hmem
  rw [Int.toNat_of_nonneg (by omega : 0 ≤ k), Int.toNat_natCast] at this
  simp only [Bool.and_eq_true, decide_eq_true_eq, Bool.not_eq_true', Bool.or_eq_true, bne_iff_ne, beq_iff_eq] at this
  obtain ⟨⟨⟨h6, h7⟩, h8⟩, h9⟩ := this
  refine ⟨h6, fun hc => ?_, ?_, fun h1 => ?_⟩
  · rw [List.contains_iff_mem.2 hc] at h7; cases h7
  · rw [vtok_iff, mv_length]
    exact ⟨⟨h1, h2⟩, ⟨h3, h4⟩, fun z hz => by have := h8 z hz; omega⟩
  · rcases h9 with h9 | h9
    · exact absurd h1 h9
    · exact h9

end Go.Proofs.Ythhfnhabnaakiaa
