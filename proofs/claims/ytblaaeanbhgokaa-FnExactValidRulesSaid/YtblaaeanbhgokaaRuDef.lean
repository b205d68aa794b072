/-
  RuDef. By a program (wip/tools/mk.py) out of snippets.
-/
import Derived.Test.YtblaaeanbhgokaaSS
namespace Go.Proofs.Ytblaaeanbhgokaa
open Go.RowKit

/-- Is it a square of kinds? -/
def sqK (n : Int) (rows : List (List Int)) : Bool := ((rows.length : Int) == n) && rows.all fun row => ((row.length : Int) == n) && row.all fun z => inR z 0 (n - 1)
/-- Are these rules valid? -/
def vru (says : List Int) (f s : List (List Int)) : Bool := (inR says.length 1 4 && says.all fun z => inR z 0 1) && (sqK says.length f && sqK says.length s)
theorem sqK_iff {n : Nat} {rows : List (List Int)} : sqK n rows = true ↔ rows.length = n ∧ ∀ i, i < rows.length → (rat rows i).length = n ∧ ∀ j, j < n → inR (iat (rat rows i) j) 0 ((n : Int) - 1) = true := by
  unfold sqK
  simp only [Bool.and_eq_true, List.all_eq_true, beq_iff_eq]
  constructor
  · rintro ⟨h1, h2⟩
    refine ⟨by omega, fun i hi => ?_⟩
    obtain ⟨h3, h4⟩ := h2 _ (rat_mem hi)
    exact ⟨by omega, fun j hj => h4 _ (iat_mem (by omega))⟩
  · rintro ⟨h1, h2⟩
    refine ⟨by omega, fun row hr => ?_⟩
    obtain ⟨i, hi, rfl⟩ := List.mem_iff_getElem.1 hr
    have h3 := h2 i hi
    rw [rat_eq hi] at h3
    refine ⟨by omega, fun z hz => ?_⟩
    obtain ⟨j, hj, rfl⟩ := List.mem_iff_getElem.1 hz
    have := h3.2 j (by omega)
    rwa [iat_eq hj] at this
theorem vru_len {says : List Int} {f s : List (List Int)} (h : inR says.length 1 4 = false) : vru says f s = false := by simp [vru, h]
theorem vru_f {says : List Int} {f s : List (List Int)} (h : f.length ≠ says.length) : vru says f s = false := by
  have : sqK says.length f = false := by
    cases e : sqK says.length f with
    | false => rfl
    | true => exact absurd (sqK_iff.1 e).1 h
  simp [vru, this]
theorem vru_s {says : List Int} {f s : List (List Int)} (h : s.length ≠ says.length) : vru says f s = false := by
  have : sqK says.length s = false := by
    cases e : sqK says.length s with
    | false => rfl
    | true => exact absurd (sqK_iff.1 e).1 h
  simp [vru, this]
/-- Is all right at the kind a? -/
def okAt (says : List Int) (f s : List (List Int)) (a : Nat) : Prop :=
  inR (iat says a) 0 1 = true ∧ (rat f a).length = says.length ∧ (rat s a).length = says.length ∧ ∀ j, j < says.length → inR (iat (rat f a) j) 0 ((says.length : Int) - 1) = true ∧ inR (iat (rat s a) j) 0 ((says.length : Int) - 1) = true
theorem vru_of {says : List Int} {f s : List (List Int)} (h1 : inR says.length 1 4 = true) (hf : f.length = says.length) (hs : s.length = says.length) (h : ∀ a, a < says.length → okAt says f s a) : vru says f s = true := by
  have e1 : (says.all fun z => inR z 0 1) = true := by
    rw [List.all_eq_true]
    intro z hz
    obtain ⟨j, hj, rfl⟩ := List.mem_iff_getElem.1 hz
    have := (h j hj).1
    rwa [iat_eq hj] at this
  have e2 : sqK says.length f = true := sqK_iff.2 ⟨hf, fun i hi => ⟨(h i (by omega)).2.1, fun j hj => ((h i (by omega)).2.2.2 j hj).1⟩⟩
  have e3 : sqK says.length s = true := sqK_iff.2 ⟨hs, fun i hi => ⟨(h i (by omega)).2.2.1, fun j hj => ((h i (by omega)).2.2.2 j hj).2⟩⟩
  simp [vru, h1, e1, e2, e3]
theorem vru_at {says : List Int} {f s : List (List Int)} (h : vru says f s = true) : inR says.length 1 4 = true ∧ f.length = says.length ∧ s.length = says.length ∧ ∀ a, a < says.length → okAt says f s a := by
  simp only [vru, Bool.and_eq_true] at h
  obtain ⟨⟨h1, h2⟩, h3, h4⟩ := h
  obtain ⟨h5, h6⟩ := sqK_iff.1 h3
  obtain ⟨h7, h8⟩ := sqK_iff.1 h4
  refine ⟨h1, h5, h7, fun a ha => ⟨?_, (h6 a (by omega)).1, (h8 a (by omega)).1, fun j hj => ⟨(h6 a (by omega)).2 j hj, (h8 a (by omega)).2 j hj⟩⟩⟩
  rw [List.all_eq_true] at h2
  exact h2 _ (iat_mem ha)
theorem vru_no {says : List Int} {f s : List (List Int)} {a : Nat} (ha : a < says.length) (h : ¬ okAt says f s a) : vru says f s = false := by
  cases e : vru says f s with
  | false => rfl
  | true => exact absurd ((vru_at e).2.2.2 a ha) h

end Go.Proofs.Ytblaaeanbhgokaa
