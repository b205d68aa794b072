/-
  Fr. By a program (wip/tools/mk.py) out of snippets.
-/
import Derived.Test.YtjiplangdkpehaaBase
import Derived.Deep.SlicePairs
import Derived.Lib.SmallJoins
import Derived.WalkKit
namespace Go.Proofs.Ytjiplangdkpehaa
open Go.RowKit

open Go.ChangeShapes Go.WideShapes in
/-- A slice of integers that came in. -/
theorem si_tr {H : Type} {enc : TypeId × Value → H} {P : Program} {w : World} {t e : TypeId} {k : IntKind} {fuel : Nat} {v : Value} {x : DataW H × List MemPlace} (ht : P.underlying t = some (.slice e)) (he : P.underlying e = some (.int k)) (hc : P.cellsOf e = 1)
    (h : DataW.trod enc P w 0 (fun _ => true) true fuel t [v] = some x) :
    ∃ (A : Option Addr) (n c : Nat) (zs : List Int), v = .slice A n c ∧ n ≤ c ∧ n ≤ 9223372036854775807 ∧ (zs.length = n ∧ (0 < n → ∃ b off, A = some ⟨b, off, none⟩ ∧ ∀ i, i < n → w.cell? ⟨b, off + i, none⟩ = some (.int k (iat zs i)))) ∧ ∀ z ∈ zs, (Lit.int k z).wf = true := by
  rcases open_ints ht he hc h with ⟨hcs, _⟩ | ⟨a, l, c, zs, hcs, _, hl, hm, hz, _, hcell, hwz⟩
  · simp at hcs
    exact ⟨none, 0, 0, [], hcs, Nat.le_refl _, by omega, ⟨rfl, fun h => absurd h (by omega)⟩, by simp⟩
  · simp at hcs
    simp at hz
    refine ⟨some a, l, c, zs.take l, hcs, hl, by unfold maxLen at hm; omega, ⟨by simp; omega, fun hp => ?_⟩, fun z hz' => hwz z (List.mem_of_mem_take hz')⟩
    obtain ⟨b, off, spot⟩ := a
    have hc0 := hcell 0 (by omega)
    have hspot : spot = none := by simpa [Addr.add] using World.cell?_spot hc0
    subst hspot
    refine ⟨b, off, rfl, fun i hi => ?_⟩
    have h2 := hcell i (by omega)
    rw [Addr.add_lit] at h2
    rw [h2]
    simp [iat, hi]

open Go.ChangeShapes Go.WideShapes in
/-- A slice of pairs of integers that came in. -/
theorem pairs_tr {H : Type} {enc : TypeId × Value → H} {P : Program} {w : World} {t e : TypeId} {f0 f1 : Field} {fuel : Nat} {v : Value} {x : DataW H × List MemPlace} (ht : P.underlying t = some (.slice e)) (he : P.underlying e = some (.struct #[f0, f1]))
    (ce : P.cellsOf e = 2) (o0 : f0.offset = 0) (o1 : f1.offset = 1) (c0 : P.cellsOf f0.type = 1) (c1 : P.cellsOf f1.type = 1) (h0 : P.underlying f0.type = some (.int .i64)) (h1 : P.underlying f1.type = some (.int .i64))
    (h : DataW.trod enc P w 0 (fun _ => true) true fuel t [v] = some x) :
    ∃ (A : Option Addr) (n c : Nat) (zs : List Int), v = .slice A n c ∧ n ≤ c ∧ n ≤ 9223372036854775807 ∧ SI w A (n * 2) zs ∧ ∀ z ∈ zs, (Lit.int .i64 z).wf = true := by
  rcases Go.Deep.open_slice_pairs ht he ce o0 o1 c0 c1 h with ⟨hcs, _⟩ | ⟨a, len, cap, m, n, V0, V1, D0, D1, P0, P1, hcs, _, hl, hm, hmm, _, hx⟩
  · simp at hcs
    exact ⟨none, 0, 0, [], hcs, Nat.le_refl _, by omega, ⟨rfl, fun h => absurd h (by omega)⟩, by simp⟩
  · simp at hcs
    simp at hmm
    have each : ∀ i, i < len * 2 → ∃ z : Int, w.cell? (a.add i) = some (.int .i64 z) ∧ (Lit.int .i64 z).wf = true := by
      intro i hi
      obtain ⟨r0, r1, r2, r3⟩ := hx (i / 2) (by omega)
      rcases Nat.mod_two_eq_zero_or_one i with hm2 | hm2
      · obtain ⟨z, ez, _, hw⟩ := DataW.trod_int h0 r2
        simp only [List.cons.injEq, and_true] at ez
        refine ⟨z, ?_, hw⟩
        rw [show i = i / 2 * 2 by omega, r0, ez]
      · obtain ⟨z, ez, _, hw⟩ := DataW.trod_int h1 r3
        simp only [List.cons.injEq, and_true] at ez
        refine ⟨z, ?_, hw⟩
        rw [show i = i / 2 * 2 + 1 by omega, r1, ez]
    obtain ⟨Z, hZ⟩ := Go.Deep.choose_lt each
    refine ⟨some a, len, cap, (List.range (len * 2)).map Z, hcs, hl, by unfold maxLen at hm; omega, ⟨by simp, fun hp => ?_⟩, fun z hz => ?_⟩
    · obtain ⟨b, off, spot⟩ := a
      have hc0 := (hZ 0 hp).1
      have hspot : spot = none := by simpa [Addr.add] using World.cell?_spot hc0
      subst hspot
      refine ⟨b, off, rfl, fun i hi => ?_⟩
      have h2 := (hZ i hi).1
      rw [Addr.add_lit] at h2
      rw [h2]
      simp [iat, hi]
    · simp only [List.mem_map, List.mem_range] at hz
      obtain ⟨i, hi, rfl⟩ := hz
      exact (hZ i hi).2

end Go.Proofs.Ytjiplangdkpehaa
