/-
  Fr. By a program (wip/tools/mk.py) out of snippets.
-/
import Derived.Test.YtblaaeanbhgokaaSS
import Derived.Deep.Matrix
import Derived.Lib.SmallJoins
import Derived.WalkKit
import Derived.Deep.Slices
import Derived.ChangeSame
import Derived.Deep.SlicePairs
namespace Go.Proofs.Ytblaaeanbhgokaa
open Go.RowKit

open Go.ChangeShapes Go.WideShapes in
/-- A slice of integers that came in. -/
theorem si_tr {H : Type} {enc : TypeId × Value → H} {P : Program} {w : World} {t e : TypeId} {k : IntKind} {fuel : Nat} {v : Value} {x : DataW H × List MemPlace} (ht : P.underlying t = some (.slice e)) (he : P.underlying e = some (.int k)) (hc : P.cellsOf e = 1)
    (h : DataW.trod enc P w 0 (fun _ => true) true fuel t [v] = some x) :
    ∃ (A : Option Addr) (n c : Nat) (zs : List Int), v = .slice A n c ∧ n ≤ c ∧ n ≤ 9223372036854775807 ∧ (zs.length = n ∧ (0 < n → ∃ b off, A = some ⟨b, off, none⟩ ∧ ∀ i, i < n → w.cell? ⟨b, off + i, none⟩ = some (.int k (iat zs i)))) ∧ ∀ z ∈ zs, (Lit.int k z).wf = true := by
  rcases open_ints ht he hc h with ⟨hcs, _⟩ | ⟨a, l, c, zs, hcs, _, hl, hm, hz, _, hcell, hwz⟩
  · simp at hcs
    exact ⟨none, 0, 0, [], hcs, Nat.le_refl _, by omega, ⟨rfl, fun h => absurd h (by omega)⟩, by simp⟩
  · simp at hcs
    simp at hz
    refine ⟨some a, l, c, zs.take l, hcs, hl, by unfold maxLen at hm; omega, ⟨by simp; omega, fun hp => ?_⟩, fun z hz' => hwz z (List.mem_of_mem_take hz')⟩
    obtain ⟨b, off, spot⟩ := a
    have hc0 := hcell 0 (by omega)
    have hspot : spot = none := by simpa [Addr.add] using World.cell?_spot hc0
    subst hspot
    refine ⟨b, off, rfl, fun i hi => ?_⟩
    have h2 := hcell i (by omega)
    rw [Addr.add_lit] at h2
    rw [h2]
    simp [iat, hi]
open Go.ChangeShapes Go.WideShapes in
/-- Rows of integers that came in. -/
theorem ss_tr {H : Type} {enc : TypeId × Value → H} {P : Program} {w : World} {t e q : TypeId} {fuel : Nat} {v : Value} {x : DataW H × List MemPlace} (ht : P.underlying t = some (.slice e)) (he : P.underlying e = some (.slice q)) (hq : P.underlying q = some (.int .i64))
    (ce : P.cellsOf e = 1) (cq : P.cellsOf q = 1) (h : DataW.trod enc P w 0 (fun _ => true) true fuel t [v] = some x) :
    ∃ (A : Option Addr) (n c : Nat) (rows : List (List Int)), v = .slice A n c ∧ n ≤ c ∧ n ≤ 9223372036854775807 ∧ (∀ i, i < n → (rat rows i).length ≤ 9223372036854775807) ∧ SS w A n rows ∧ ∀ row ∈ rows, ∀ z ∈ row, (Lit.int .i64 z).wf = true := by
  rcases Go.Deep.open_int_rows ht he hq ce cq h with ⟨hcs, _⟩ | ⟨a, len, cap, A, L, C, Z, hcs, _, hl, hm, _, hrow⟩
  · simp at hcs
    exact ⟨none, 0, 0, [], hcs, Nat.le_refl _, by omega, fun i h => absurd h (by omega), ⟨rfl, fun h => absurd h (by omega)⟩, by simp⟩
  · simp at hcs
    refine ⟨some a, len, cap, (List.range len).map fun r => (Z r).take (L r), hcs, hl, by unfold maxLen at hm; omega, fun i hi => ?_, ⟨by simp, fun hp => ?_⟩, ?_⟩
    · obtain ⟨_, h1, h2, h3, _⟩ := hrow i (by omega)
      simp [rat, hi]
      unfold maxLen at h2
      omega
    · obtain ⟨b, off, spot⟩ := a
      have hc0 := (hrow 0 (by omega)).1
      have hspot : spot = none := by simpa [Addr.add] using World.cell?_spot hc0
      subst hspot
      refine ⟨b, off, rfl, fun i hi => ?_⟩
      obtain ⟨h0, h1, h2, h3, h4, h5, h6⟩ := hrow i (by omega)
      rw [Addr.add_lit] at h0
      have er : rat ((List.range len).map fun r => (Z r).take (L r)) i = (Z i).take (L i) := by simp [rat, hi]
      refine ⟨A i, L i, C i, h0, by rw [er]; simp; omega, fun hp => ?_⟩
      cases ha : A i with
      | none => have := h5 ha; omega
      | some a' =>
        obtain ⟨_, h7⟩ := h6 a' ha
        obtain ⟨b', off', spot'⟩ := a'
        have hc0 := h7 0 (by omega)
        have hspot : spot' = none := by simpa [Addr.add] using World.cell?_spot hc0
        subst hspot
        refine ⟨b', off', rfl, fun j hj => ?_⟩
        have h8 := h7 j (by omega)
        rw [Addr.add_lit] at h8
        rw [h8, er]
        simp [iat, hj]
    · intro row hr z hz
      simp only [List.mem_map, List.mem_range] at hr
      obtain ⟨i, hi, rfl⟩ := hr
      exact (hrow i (by omega)).2.2.2.2.1 z (List.mem_of_mem_take hz)

open Go.ChangeShapes Go.WideShapes Go.Deep in
/-- A slice of structs of three integers that came in. -/
theorem trips_tr {H : Type} {enc : TypeId × Value → H} {P : Program} {w : World} {t e : TypeId} {f0 f1 f2 : Field} {fuel : Nat} {v : Value} {x : DataW H × List MemPlace} (ht : P.underlying t = some (.slice e)) (he : P.underlying e = some (.struct #[f0, f1, f2]))
    (ce : P.cellsOf e = 3) (o0 : f0.offset = 0) (o1 : f1.offset = 1) (o2 : f2.offset = 2) (c0 : P.cellsOf f0.type = 1) (c1 : P.cellsOf f1.type = 1) (c2 : P.cellsOf f2.type = 1) (h0 : P.underlying f0.type = some (.int .i64)) (h1 : P.underlying f1.type = some (.int .i64)) (h2 : P.underlying f2.type = some (.int .i64))
    (h : DataW.trod enc P w 0 (fun _ => true) true fuel t [v] = some x) :
    ∃ (A : Option Addr) (n c : Nat) (zs : List Int), v = .slice A n c ∧ n ≤ c ∧ n ≤ 9223372036854775807 ∧ SI w A (n * 3) zs ∧ ∀ z ∈ zs, (Lit.int .i64 z).wf = true := by
  rcases open_slice ht h with ⟨hcs, _⟩ | ⟨a, len, cap, m, n, D, Pl, hcs, hb, hl, hm, hmm, _, hx⟩
  · simp at hcs
    exact ⟨none, 0, 0, [], hcs, Nat.le_refl _, by omega, ⟨rfl, fun h => absurd h (by omega)⟩, by simp⟩
  · simp at hcs
    simp at hmm
    have each : ∀ i, i < len * 3 → ∃ z : Int, w.cell? (a.add i) = some (.int .i64 z) ∧ (Lit.int .i64 z).wf = true := by
      intro i hi
      obtain ⟨cs', g1, g2⟩ := hx (i / 3) (by omega)
      rw [ce] at g1
      obtain ⟨_, hlen, hcell⟩ := World.cells?_some g1
      obtain ⟨xs, k, hk, hxy, _, hxl, hf⟩ := DataW.trod_struct he g2
      match xs, hxl, cs', hlen with
      | [y0, y1, y2], _, [v0, v1, v2], _ =>
        have q0 := hf 0 f0 rfl
        have q1 := hf 1 f1 rfl
        have q2 := hf 2 f2 rfl
        simp [o0, o1, o2, c0, c1, c2] at q0 q1 q2
        have e0 := hcell 0 (by omega)
        have e1 := hcell 1 (by omega)
        have e2 := hcell 2 (by omega)
        rw [add_add] at e0 e1 e2
        have hm3 : i % 3 = 0 ∨ i % 3 = 1 ∨ i % 3 = 2 := by omega
        rcases hm3 with hm2 | hm2 | hm2
        · obtain ⟨z, ez, _, hw⟩ := DataW.trod_int h0 q0
          simp only [List.cons.injEq, and_true] at ez
          refine ⟨z, ?_, hw⟩
          rw [show i = i / 3 * 3 + 0 by omega, ← ez]
          simpa using e0
        · obtain ⟨z, ez, _, hw⟩ := DataW.trod_int h1 q1
          simp only [List.cons.injEq, and_true] at ez
          refine ⟨z, ?_, hw⟩
          rw [show i = i / 3 * 3 + 1 by omega, ← ez]
          simpa using e1
        · obtain ⟨z, ez, _, hw⟩ := DataW.trod_int h2 q2
          simp only [List.cons.injEq, and_true] at ez
          refine ⟨z, ?_, hw⟩
          rw [show i = i / 3 * 3 + 2 by omega, ← ez]
          simpa using e2
    obtain ⟨Z, hZ⟩ := Go.Deep.choose_lt each
    refine ⟨some a, len, cap, (List.range (len * 3)).map Z, hcs, hl, by unfold maxLen at hm; omega, ⟨by simp, fun hp => ?_⟩, fun z hz => ?_⟩
    · obtain ⟨b, off, spot⟩ := a
      have hc0 := (hZ 0 hp).1
      have hspot : spot = none := by simpa [Addr.add] using World.cell?_spot hc0
      subst hspot
      refine ⟨b, off, rfl, fun i hi => ?_⟩
      have h2 := (hZ i hi).1
      rw [Addr.add_lit] at h2
      rw [h2]
      simp [iat, hi]
    · simp only [List.mem_map, List.mem_range] at hz
      obtain ⟨i, hi, rfl⟩ := hz
      exact (hZ i hi).2

end Go.Proofs.Ytblaaeanbhgokaa
