/-
  Let. By a program (wip/tools/mk.py) out of snippets.
-/
import Derived.Test.YtfjpnennbdefiaaMud2
namespace Go.Proofs.Ytfjpnennbdefiaa
open Go.RowKit

/-- What the walks of the letters' views keep: the view in block s + 4, its list in block s + 3. -/
structure LS (w : World) (P : Int) (wr : World) (xs ys : List Int) (b0 c0 b1 c1 : Nat) : Prop where
  o0 : wr.ownsRow (w.heap.size + 1) 3 1 (.slice (some ⟨b0, 0, none⟩) xs.length c0) xs.length (xs.map (Value.int .i64))
  o1 : wr.ownsRow (w.heap.size + 1) 3 1 (.slice (some ⟨b1, 0, none⟩) ys.length c1) ys.length (ys.map (Value.int .i64))
  ne : b0 ≠ b1
  n0 : b0 ≠ w.heap.size + 3 ∧ b0 ≠ w.heap.size + 4
  n1 : b1 ≠ w.heap.size + 3 ∧ b1 ≠ w.heap.size + 4
  G0 : wr.cell? ⟨w.heap.size + 3, 0, none⟩ = some (.slice (some ⟨b0, 0, none⟩) xs.length c0)
  G1 : wr.cell? ⟨w.heap.size + 3, 1, none⟩ = some (.slice (some ⟨b1, 0, none⟩) ys.length c1)
  V0 : wr.cell? ⟨w.heap.size + 4, 0, none⟩ = some (.int .i64 P)
  V1 : wr.cell? ⟨w.heap.size + 4, 1, none⟩ = some (.slice (some ⟨w.heap.size + 3, 0, none⟩) 2 2)
  F0 : wr.frozen? ⟨w.heap.size + 3, 0, none⟩ = false
  F1 : wr.frozen? ⟨w.heap.size + 3, 1, none⟩ = false
  d0 : wr.cell? ⟨w.heap.size, 0, none⟩ = some (.int .i64 0)
  d1 : wr.cell? ⟨w.heap.size, 1, none⟩ = some (.slice none 0 0)
  g0 : wr.frozen? ⟨w.heap.size, 0, none⟩ = false
  g1 : wr.frozen? ⟨w.heap.size, 1, none⟩ = false
  lt : w.heap.size + 5 ≤ wr.heap.size
  bel : Below w.heap.size w wr
/-- What an append to a row runs to, and what then stands. -/
structure LA (w : World) (P : Int) (w4 : World) (xs ys : List Int) (b0 c0 b1 c1 : Nat) (u0 u1 : Value) : Prop where
  o0 : w4.ownsRow (w.heap.size + 1) 3 1 (.slice (some ⟨b0, 0, none⟩) xs.length c0) xs.length (xs.map (Value.int .i64))
  o1 : w4.ownsRow (w.heap.size + 1) 3 1 (.slice (some ⟨b1, 0, none⟩) ys.length c1) ys.length (ys.map (Value.int .i64))
  ne : b0 ≠ b1
  n0 : b0 ≠ w.heap.size + 3 ∧ b0 ≠ w.heap.size + 4
  n1 : b1 ≠ w.heap.size + 3 ∧ b1 ≠ w.heap.size + 4
  G0 : w4.cell? ⟨w.heap.size + 3, 0, none⟩ = some u0
  G1 : w4.cell? ⟨w.heap.size + 3, 1, none⟩ = some u1
  V0 : w4.cell? ⟨w.heap.size + 4, 0, none⟩ = some (.int .i64 P)
  V1 : w4.cell? ⟨w.heap.size + 4, 1, none⟩ = some (.slice (some ⟨w.heap.size + 3, 0, none⟩) 2 2)
  F0 : w4.frozen? ⟨w.heap.size + 3, 0, none⟩ = false
  F1 : w4.frozen? ⟨w.heap.size + 3, 1, none⟩ = false
  d0 : w4.cell? ⟨w.heap.size, 0, none⟩ = some (.int .i64 0)
  d1 : w4.cell? ⟨w.heap.size, 1, none⟩ = some (.slice none 0 0)
  g0 : w4.frozen? ⟨w.heap.size, 0, none⟩ = false
  g1 : w4.frozen? ⟨w.heap.size, 1, none⟩ = false
  lt : w.heap.size + 5 ≤ w4.heap.size
  bel : Below w.heap.size w w4
theorem own_set {w : World} {base e size n : Nat} {v : Value} {xs : List Value} (h : w.ownsRow base e size v n xs) {p : Addr} (hp : v.ownBlock ≠ some p.block) (u : Value) : (w.setCell p u).ownsRow base e size v n xs :=
  h.kept (row := some p.block) ⟨rfl, rfl, rfl, by simp, fun k _ hne => Below.heap_setCell _ _ _ _ (by simpa using hne)⟩ (.inr hp)
theorem LS.app0 {w : World} {P : Int} {wr : World} {xs ys : List Int} {b0 c0 b1 c1 : Nat} (h : LS w P wr xs ys b0 c0 b1 c1) (x : Int) (ty : TypeId) (hl : xs.length ≤ 1000) :
    ∃ g c' w4, (Builtin.append_ #[41, 41] ty #[.slice (some ⟨b0, 0, none⟩) xs.length c0, .slice (some ⟨wr.heap.size, 0, none⟩) 1 1]).run Try.prog (wr.alloc (.cells #[.int .i64 x] 3)).drew = .ok (.slice (some ⟨g, 0, none⟩) (xs.length + 1) c') w4 ∧
      LA w P w4 (xs ++ [x]) ys g c' b1 c1 (.slice (some ⟨b0, 0, none⟩) xs.length c0) (.slice (some ⟨b1, 0, none⟩) ys.length c1) := by
  obtain ⟨i0, hi, hz0, hz1, hz2⟩ := info_parts info3
  have hX : Below wr.heap.size wr (wr.alloc (.cells #[.int .i64 x] 3)).drew := bDrewN ((Below.refl wr.heap.size wr).alloc (Nat.le_refl _) _) 1
  have hsz : (wr.alloc (.cells #[.int .i64 x] 3)).drew.heap.size = wr.heap.size + 1 := by simp
  have hkeep : ∀ {b : Nat} {c n : Nat} {zs : List Value}, wr.ownsRow (w.heap.size + 1) 3 1 (.slice (some ⟨b, 0, none⟩) n c) n zs → (wr.alloc (.cells #[.int .i64 x] 3)).drew.ownsRow (w.heap.size + 1) 3 1 (.slice (some ⟨b, 0, none⟩) n c) n zs := fun h' =>
    World.ownsRow.kept (row := none) h' ⟨hX.os, hX.tape, hX.output, hX.size, fun i hi _ => hX.block i hi⟩ (.inr (by simp [Value.ownBlock]))
  have hlt0 := World.ownsRow.lt h.o0 b0 rfl
  have hlt1 := World.ownsRow.lt h.o1 b1 rfl
  have hlt := h.lt
  obtain ⟨g, c', w4, hr, hown, hg, hl2, hgl⟩ := run_append_lies (P := Try.prog) (wr.alloc (.cells #[.int .i64 x] 3)).drew 41 ty (w.heap.size + 1) 3 i0 (.int .i64 0) 1 8 Try.underlying41 hi hz0 hz1 hz2 rfl (by decide) _ xs.length _ (hkeep h.o0) ⟨wr.heap.size, 0, none⟩ 1 1 [.int .i64 x] rfl (fun j u hu => by have := cell_one_new wr (.int .i64 x) 3 j u hu; simpa using this) (by intro u hu; simp at hu; subst hu; rfl) (by omega) (by unfold maxLen; omega) (by omega) (by simp; omega) (wr.heap.size + 1) hsz
  have hg' : (wr.alloc (.cells #[.int .i64 x] 3)).drew.grownBy w4 (some b0) := hg
  have hK : ∀ b, b < wr.heap.size → b ≠ b0 → w4.heap[b]? = wr.heap[b]? := fun b h1 h2 => by
    rw [hg'.block b (by omega) (by simpa using h2)]
    exact hX.block b h1
  have hgc : g ≠ b1 ∧ g ≠ w.heap.size + 3 ∧ g ≠ w.heap.size + 4 := by
    rcases hl2 with h3 | h3
    · have : b0 = g := by simpa [Value.ownBlock] using h3
      subst this
      exact ⟨h.ne, h.n0⟩
    · omega
  have hs4 := hg'.size
  refine ⟨g, c', w4, hr, ⟨by simpa using hown, (hkeep h.o1).kept hg (.inr (by simp [Value.ownBlock]; exact fun e => h.ne e.symm)), hgc.1, hgc.2, h.n1, ?_, ?_, ?_, ?_, ?_, ?_, ?_, ?_, ?_, ?_, by omega, ?_⟩⟩
  · exact (World.cell?_of_block (a := ⟨w.heap.size + 3, 0, none⟩) (hK (w.heap.size + 3) (by omega) (fun e => h.n0.1 e.symm))).trans h.G0
  · exact (World.cell?_of_block (a := ⟨w.heap.size + 3, 1, none⟩) (hK (w.heap.size + 3) (by omega) (fun e => h.n0.1 e.symm))).trans h.G1
  · exact (World.cell?_of_block (a := ⟨w.heap.size + 4, 0, none⟩) (hK (w.heap.size + 4) (by omega) (fun e => h.n0.2 e.symm))).trans h.V0
  · exact (World.cell?_of_block (a := ⟨w.heap.size + 4, 1, none⟩) (hK (w.heap.size + 4) (by omega) (fun e => h.n0.2 e.symm))).trans h.V1
  · exact (World.frozen?_of_block (a := ⟨w.heap.size + 3, 0, none⟩) (hK (w.heap.size + 3) (by omega) (fun e => h.n0.1 e.symm))).trans h.F0
  · exact (World.frozen?_of_block (a := ⟨w.heap.size + 3, 1, none⟩) (hK (w.heap.size + 3) (by omega) (fun e => h.n0.1 e.symm))).trans h.F1
  · exact (World.cell?_of_block (a := ⟨w.heap.size, 0, none⟩) (hK (w.heap.size) (by omega) (by omega))).trans h.d0
  · exact (World.cell?_of_block (a := ⟨w.heap.size, 1, none⟩) (hK (w.heap.size) (by omega) (by omega))).trans h.d1
  · exact (World.frozen?_of_block (a := ⟨w.heap.size, 0, none⟩) (hK (w.heap.size) (by omega) (by omega))).trans h.g0
  · exact (World.frozen?_of_block (a := ⟨w.heap.size, 1, none⟩) (hK (w.heap.size) (by omega) (by omega))).trans h.g1
  · exact (h.bel.trans (hX.mono (by omega))).grown hg' (by omega) (fun k e => by cases e; omega)
theorem LS.app1 {w : World} {P : Int} {wr : World} {xs ys : List Int} {b0 c0 b1 c1 : Nat} (h : LS w P wr xs ys b0 c0 b1 c1) (x : Int) (ty : TypeId) (hl : ys.length ≤ 1000) :
    ∃ g c' w4, (Builtin.append_ #[41, 41] ty #[.slice (some ⟨b1, 0, none⟩) ys.length c1, .slice (some ⟨wr.heap.size, 0, none⟩) 1 1]).run Try.prog (wr.alloc (.cells #[.int .i64 x] 3)).drew = .ok (.slice (some ⟨g, 0, none⟩) (ys.length + 1) c') w4 ∧
      LA w P w4 xs (ys ++ [x]) b0 c0 g c' (.slice (some ⟨b0, 0, none⟩) xs.length c0) (.slice (some ⟨b1, 0, none⟩) ys.length c1) := by
  obtain ⟨i0, hi, hz0, hz1, hz2⟩ := info_parts info3
  have hX : Below wr.heap.size wr (wr.alloc (.cells #[.int .i64 x] 3)).drew := bDrewN ((Below.refl wr.heap.size wr).alloc (Nat.le_refl _) _) 1
  have hsz : (wr.alloc (.cells #[.int .i64 x] 3)).drew.heap.size = wr.heap.size + 1 := by simp
  have hkeep : ∀ {b : Nat} {c n : Nat} {zs : List Value}, wr.ownsRow (w.heap.size + 1) 3 1 (.slice (some ⟨b, 0, none⟩) n c) n zs → (wr.alloc (.cells #[.int .i64 x] 3)).drew.ownsRow (w.heap.size + 1) 3 1 (.slice (some ⟨b, 0, none⟩) n c) n zs := fun h' =>
    World.ownsRow.kept (row := none) h' ⟨hX.os, hX.tape, hX.output, hX.size, fun i hi _ => hX.block i hi⟩ (.inr (by simp [Value.ownBlock]))
  have hlt0 := World.ownsRow.lt h.o0 b0 rfl
  have hlt1 := World.ownsRow.lt h.o1 b1 rfl
  have hlt := h.lt
  obtain ⟨g, c', w4, hr, hown, hg, hl2, hgl⟩ := run_append_lies (P := Try.prog) (wr.alloc (.cells #[.int .i64 x] 3)).drew 41 ty (w.heap.size + 1) 3 i0 (.int .i64 0) 1 8 Try.underlying41 hi hz0 hz1 hz2 rfl (by decide) _ ys.length _ (hkeep h.o1) ⟨wr.heap.size, 0, none⟩ 1 1 [.int .i64 x] rfl (fun j u hu => by have := cell_one_new wr (.int .i64 x) 3 j u hu; simpa using this) (by intro u hu; simp at hu; subst hu; rfl) (by omega) (by unfold maxLen; omega) (by omega) (by simp; omega) (wr.heap.size + 1) hsz
  have hg' : (wr.alloc (.cells #[.int .i64 x] 3)).drew.grownBy w4 (some b1) := hg
  have hK : ∀ b, b < wr.heap.size → b ≠ b1 → w4.heap[b]? = wr.heap[b]? := fun b h1 h2 => by
    rw [hg'.block b (by omega) (by simpa using h2)]
    exact hX.block b h1
  have hgc : b0 ≠ g ∧ g ≠ w.heap.size + 3 ∧ g ≠ w.heap.size + 4 := by
    rcases hl2 with h3 | h3
    · have : b1 = g := by simpa [Value.ownBlock] using h3
      subst this
      exact ⟨h.ne, h.n1⟩
    · omega
  have hs4 := hg'.size
  refine ⟨g, c', w4, hr, ⟨(hkeep h.o0).kept hg (.inr (by simp [Value.ownBlock]; exact h.ne)), by simpa using hown, hgc.1, h.n0, hgc.2, ?_, ?_, ?_, ?_, ?_, ?_, ?_, ?_, ?_, ?_, by omega, ?_⟩⟩
  · exact (World.cell?_of_block (a := ⟨w.heap.size + 3, 0, none⟩) (hK (w.heap.size + 3) (by omega) (fun e => h.n1.1 e.symm))).trans h.G0
  · exact (World.cell?_of_block (a := ⟨w.heap.size + 3, 1, none⟩) (hK (w.heap.size + 3) (by omega) (fun e => h.n1.1 e.symm))).trans h.G1
  · exact (World.cell?_of_block (a := ⟨w.heap.size + 4, 0, none⟩) (hK (w.heap.size + 4) (by omega) (fun e => h.n1.2 e.symm))).trans h.V0
  · exact (World.cell?_of_block (a := ⟨w.heap.size + 4, 1, none⟩) (hK (w.heap.size + 4) (by omega) (fun e => h.n1.2 e.symm))).trans h.V1
  · exact (World.frozen?_of_block (a := ⟨w.heap.size + 3, 0, none⟩) (hK (w.heap.size + 3) (by omega) (fun e => h.n1.1 e.symm))).trans h.F0
  · exact (World.frozen?_of_block (a := ⟨w.heap.size + 3, 1, none⟩) (hK (w.heap.size + 3) (by omega) (fun e => h.n1.1 e.symm))).trans h.F1
  · exact (World.cell?_of_block (a := ⟨w.heap.size, 0, none⟩) (hK (w.heap.size) (by omega) (by omega))).trans h.d0
  · exact (World.cell?_of_block (a := ⟨w.heap.size, 1, none⟩) (hK (w.heap.size) (by omega) (by omega))).trans h.d1
  · exact (World.frozen?_of_block (a := ⟨w.heap.size, 0, none⟩) (hK (w.heap.size) (by omega) (by omega))).trans h.g0
  · exact (World.frozen?_of_block (a := ⟨w.heap.size, 1, none⟩) (hK (w.heap.size) (by omega) (by omega))).trans h.g1
  · exact (h.bel.trans (hX.mono (by omega))).grown hg' (by omega) (fun k e => by cases e; omega)
theorem LA.put0 {w : World} {P : Int} {w4 : World} {xs ys : List Int} {b0 c0 b1 c1 : Nat} {u0 : Value} (h : LA w P w4 xs ys b0 c0 b1 c1 u0 (.slice (some ⟨b1, 0, none⟩) ys.length c1)) : LS w P (w4.setCell ⟨w.heap.size + 3, 0, none⟩ (.slice (some ⟨b0, 0, none⟩) xs.length c0)) xs ys b0 c0 b1 c1 := by
  refine ⟨own_set h.o0 (by simp [Value.ownBlock]; exact h.n0.1) _, own_set h.o1 (by simp [Value.ownBlock]; exact h.n1.1) _, h.ne, h.n0, h.n1, World.cell?_setCell_same _ _ _ h.G0, ?_, ?_, ?_, by rw [World.frozen?_setCell]; exact h.F0, by rw [World.frozen?_setCell]; exact h.F1, ?_, ?_, by rw [World.frozen?_setCell]; exact h.g0, by rw [World.frozen?_setCell]; exact h.g1, by simpa using h.lt, h.bel.setCell (by show w.heap.size ≤ w.heap.size + 3; omega) _⟩
  · rw [World.cell?_setCell_other _ _ _ _ (by simp)]; exact h.G1
  · rw [World.cell?_setCell_other _ _ _ _ (by simp)]; exact h.V0
  · rw [World.cell?_setCell_other _ _ _ _ (by simp)]; exact h.V1
  · rw [World.cell?_setCell_other _ _ _ _ (by simp)]; exact h.d0
  · rw [World.cell?_setCell_other _ _ _ _ (by simp)]; exact h.d1
theorem LA.put1 {w : World} {P : Int} {w4 : World} {xs ys : List Int} {b0 c0 b1 c1 : Nat} {u1 : Value} (h : LA w P w4 xs ys b0 c0 b1 c1 (.slice (some ⟨b0, 0, none⟩) xs.length c0) u1) : LS w P (w4.setCell ⟨w.heap.size + 3, 1, none⟩ (.slice (some ⟨b1, 0, none⟩) ys.length c1)) xs ys b0 c0 b1 c1 := by
  refine ⟨own_set h.o0 (by simp [Value.ownBlock]; exact h.n0.1) _, own_set h.o1 (by simp [Value.ownBlock]; exact h.n1.1) _, h.ne, h.n0, h.n1, ?_, World.cell?_setCell_same _ _ _ h.G1, ?_, ?_, by rw [World.frozen?_setCell]; exact h.F0, by rw [World.frozen?_setCell]; exact h.F1, ?_, ?_, by rw [World.frozen?_setCell]; exact h.g0, by rw [World.frozen?_setCell]; exact h.g1, by simpa using h.lt, h.bel.setCell (by show w.heap.size ≤ w.heap.size + 3; omega) _⟩
  · rw [World.cell?_setCell_other _ _ _ _ (by simp)]; exact h.G0
  · rw [World.cell?_setCell_other _ _ _ _ (by simp)]; exact h.V0
  · rw [World.cell?_setCell_other _ _ _ _ (by simp)]; exact h.V1
  · rw [World.cell?_setCell_other _ _ _ _ (by simp)]; exact h.d0
  · rw [World.cell?_setCell_other _ _ _ _ (by simp)]; exact h.d1
theorem LS.done {w : World} {P : Int} {wr : World} {xs ys : List Int} {b0 c0 b1 c1 : Nat} (h : LS w P wr xs ys b0 c0 b1 c1) :
    FR ((wr.setCell ⟨w.heap.size, 0, none⟩ (.int .i64 P)).setCell ⟨w.heap.size, 1, none⟩ (.slice (some ⟨w.heap.size + 3, 0, none⟩) 2 2)) w.heap.size ((wr.setCell ⟨w.heap.size, 0, none⟩ (.int .i64 P)).setCell ⟨w.heap.size, 1, none⟩ (.slice (some ⟨w.heap.size + 3, 0, none⟩) 2 2)).heap.size (some ⟨w.heap.size + 3, 0, none⟩) 2 [xs, ys] ∧ Below w.heap.size w ((wr.setCell ⟨w.heap.size, 0, none⟩ (.int .i64 P)).setCell ⟨w.heap.size, 1, none⟩ (.slice (some ⟨w.heap.size + 3, 0, none⟩) 2 2)) := by
  have hlt0 := World.ownsRow.lt h.o0 b0 rfl
  have hlt1 := World.ownsRow.lt h.o1 b1 rfl
  have hlt := h.lt
  refine ⟨?_, (h.bel.setCell (Nat.le_refl _) _).setCell (Nat.le_refl _) _⟩
  have hF : FR wr (w.heap.size + 1) wr.heap.size (some ⟨w.heap.size + 3, 0, none⟩) 2 [xs, ys] := by
    refine ⟨rfl, by omega, Nat.le_refl _, fun _ => ⟨w.heap.size + 3, [.slice (some ⟨b0, 0, none⟩) xs.length c0, .slice (some ⟨b1, 0, none⟩) ys.length c1], rfl, by omega, by omega, fun i hi => ?_, fun i hi => ?_, ⟨rfl, fun i hi => ?_, fun i j hij hj => ?_⟩⟩⟩
    · rcases (by omega : i = 0 ∨ i = 1) with rfl | rfl
      · exact h.G0
      · exact h.G1
    · rcases (by omega : i = 0 ∨ i = 1) with rfl | rfl
      · show some b0 ≠ _
        intro e; cases e; exact h.n0.1 rfl
      · show some b1 ≠ _
        intro e; cases e; exact h.n1.1 rfl
    · have hi' : i < 2 := hi
      rcases (by omega : i = 0 ∨ i = 1) with rfl | rfl
      · exact RowOk.of_own h.o0
      · exact RowOk.of_own h.o1
    · have hj' : j < 2 := hj
      obtain rfl : i = 0 := by omega
      obtain rfl : j = 1 := by omega
      show some b0 ≠ some b1
      intro e; cases e; exact h.ne rfl
  exact ((hF.setLow (by show w.heap.size < _; omega) _).setLow (by show w.heap.size < _; omega) _).mono (by omega) (by simp) (Nat.le_refl _)

end Go.Proofs.Ytfjpnennbdefiaa
