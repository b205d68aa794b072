/-
  Fr. By a program (wip/tools/mk.py) out of snippets.
-/
import Derived.Test.YthhfnhabnaakiaaSS
import Derived.Deep.Matrix
import Derived.Lib.SmallJoins
import Derived.WalkKit
namespace Go.Proofs.Ythhfnhabnaakiaa
open Go.RowKit

open Go.ChangeShapes Go.WideShapes in
/-- A slice of integers that came in. -/
theorem si_tr {H : Type} {enc : TypeId × Value → H} {P : Program} {w : World} {t e : TypeId} {k : IntKind} {fuel : Nat} {v : Value} {x : DataW H × List MemPlace} (ht : P.underlying t = some (.slice e)) (he : P.underlying e = some (.int k)) (hc : P.cellsOf e = 1)
    (h : DataW.trod enc P w 0 (fun _ => true) true fuel t [v] = some x) :
    ∃ (A : Option Addr) (n c : Nat) (zs : List Int), v = .slice A n c ∧ n ≤ c ∧ n ≤ 9223372036854775807 ∧ (zs.length = n ∧ (0 < n → ∃ b off, A = some ⟨b, off, none⟩ ∧ ∀ i, i < n → w.cell? ⟨b, off + i, none⟩ = some (.int k (iat zs i)))) ∧ ∀ z ∈ zs, (Lit.int k z).wf = true := by
  rcases open_ints ht he hc h with ⟨hcs, _⟩ | ⟨a, l, c, zs, hcs, _, hl, hm, hz, _, hcell, hwz⟩
  · simp at hcs
    exact ⟨none, 0, 0, [], hcs, Nat.le_refl _, by omega, ⟨rfl, fun h => absurd h (by omega)⟩, by simp⟩
  · simp at hcs
    simp at hz
    refine ⟨some a, l, c, zs.take l, hcs, hl, by unfold maxLen at hm; omega, ⟨by simp; omega, fun hp => ?_⟩, fun z hz' => hwz z (List.mem_of_mem_take hz')⟩
    obtain ⟨b, off, spot⟩ := a
    have hc0 := hcell 0 (by omega)
    have hspot : spot = none := by simpa [Addr.add] using World.cell?_spot hc0
    subst hspot
    refine ⟨b, off, rfl, fun i hi => ?_⟩
    have h2 := hcell i (by omega)
    rw [Addr.add_lit] at h2
    rw [h2]
    simp [iat, hi]
open Go.ChangeShapes Go.WideShapes in
/-- Rows of integers that came in. -/
theorem ss_tr {H : Type} {enc : TypeId × Value → H} {P : Program} {w : World} {t e q : TypeId} {fuel : Nat} {v : Value} {x : DataW H × List MemPlace} (ht : P.underlying t = some (.slice e)) (he : P.underlying e = some (.slice q)) (hq : P.underlying q = some (.int .i64))
    (ce : P.cellsOf e = 1) (cq : P.cellsOf q = 1) (h : DataW.trod enc P w 0 (fun _ => true) true fuel t [v] = some x) :
    ∃ (A : Option Addr) (n c : Nat) (rows : List (List Int)), v = .slice A n c ∧ n ≤ c ∧ n ≤ 9223372036854775807 ∧ (∀ i, i < n → (rat rows i).length ≤ 9223372036854775807) ∧ SS w A n rows ∧ ∀ row ∈ rows, ∀ z ∈ row, (Lit.int .i64 z).wf = true := by
  rcases Go.Deep.open_int_rows ht he hq ce cq h with ⟨hcs, _⟩ | ⟨a, len, cap, A, L, C, Z, hcs, _, hl, hm, _, hrow⟩
  · simp at hcs
    exact ⟨none, 0, 0, [], hcs, Nat.le_refl _, by omega, fun i h => absurd h (by omega), ⟨rfl, fun h => absurd h (by omega)⟩, by simp⟩
  · simp at hcs
    refine ⟨some a, len, cap, (List.range len).map fun r => (Z r).take (L r), hcs, hl, by unfold maxLen at hm; omega, fun i hi => ?_, ⟨by simp, fun hp => ?_⟩, ?_⟩
    · obtain ⟨_, h1, h2, h3, _⟩ := hrow i (by omega)
      simp [rat, hi]
      unfold maxLen at h2
      omega
    · obtain ⟨b, off, spot⟩ := a
      have hc0 := (hrow 0 (by omega)).1
      have hspot : spot = none := by simpa [Addr.add] using World.cell?_spot hc0
      subst hspot
      refine ⟨b, off, rfl, fun i hi => ?_⟩
      obtain ⟨h0, h1, h2, h3, h4, h5, h6⟩ := hrow i (by omega)
      rw [Addr.add_lit] at h0
      have er : rat ((List.range len).map fun r => (Z r).take (L r)) i = (Z i).take (L i) := by simp [rat, hi]
      refine ⟨A i, L i, C i, h0, by rw [er]; simp; omega, fun hp => ?_⟩
      cases ha : A i with
      | none => have := h5 ha; omega
      | some a' =>
        obtain ⟨_, h7⟩ := h6 a' ha
        obtain ⟨b', off', spot'⟩ := a'
        have hc0 := h7 0 (by omega)
        have hspot : spot' = none := by simpa [Addr.add] using World.cell?_spot hc0
        subst hspot
        refine ⟨b', off', rfl, fun j hj => ?_⟩
        have h8 := h7 j (by omega)
        rw [Addr.add_lit] at h8
        rw [h8, er]
        simp [iat, hj]
    · intro row hr z hz
      simp only [List.mem_map, List.mem_range] at hr
      obtain ⟨i, hi, rfl⟩ := hr
      exact (hrow i (by omega)).2.2.2.2.1 z (List.mem_of_mem_take hz)

end Go.Proofs.Ythhfnhabnaakiaa
