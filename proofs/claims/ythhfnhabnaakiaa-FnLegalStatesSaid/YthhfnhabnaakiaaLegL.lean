/-
  LegL. By a program (wip/tools/mk.py) out of snippets.
-/
import Derived.Test.YthhfnhabnaakiaaLegIt
import Derived.Test.YthhfnhabnaakiaaO2
namespace Go.Proofs.Ythhfnhabnaakiaa
open Go.RowKit

theorem cells_ne {A : World} {b j r : Nat} {v : Value} {o : Obj} (hc : A.cell? ⟨b, j, none⟩ = some v) (hr : A.heap[r]? = some o) (ho : o.isCells = false) : b ≠ r := by
  intro e
  subst e
  unfold World.cell? at hc
  rw [hr] at hc
  cases o <;> simp_all [Obj.isCells]
theorem O2.kept {w w' : World} {B L : Nat} {A : Option Addr} {a c r : Nat} {vs : List Value} {rows : List (List Int)} (h : O2 w B L A a c vs rows) (hg : w.grownBy w' (some r)) (h1 : (Value.slice A a c).ownBlock ≠ some r) (h2 : ∀ j, j < a → blk (vat vs j) ≠ some r) : O2 w' B L A a c vs rows :=
  ⟨h.own.kept hg (by cases hv : (Value.slice A a c).ownBlock with
    | none => exact .inl rfl
    | some k => exact .inr (by intro e; rw [hv] at h1; exact h1 e)), (h.rf.same fun b h3 h4 ⟨i, hi, e⟩ => hg.block b h4 (fun e2 => by
      rw [h.len] at hi
      exact h2 i hi (by rw [e]; exact e2))).top hg.size, h.ob, h.bl, Nat.le_trans h.le hg.size, h.len⟩
/-- Between two rounds: the box bx holds the list of the legal states among the first i. -/
def LI (w V : World) (K N bx kb nb S i : Nat) (W : World) : Prop := ∃ (a : Nat) (A : Option Addr) (c : Nat) (vs : List Value),
  W.cell? ⟨bx, 0, none⟩ = some (.slice A a c) ∧ W.frozen? ⟨bx, 0, none⟩ = false ∧ O2 W w.heap.size V.heap.size A a c vs (legTo K N i) ∧ (∀ b, (Value.slice A a c).ownBlock = some b → b ≠ bx ∧ b ≠ S ∧ b ≠ kb ∧ b ≠ nb) ∧
  (∀ j, j < a → blk (vat vs j) ≠ some S) ∧ (∀ b ∈ [nb, kb], W.heap[b]? = V.heap[b]?) ∧ Below w.heap.size w W ∧ V.heap.size ≤ S ∧ (bx < V.heap.size ∧ kb < V.heap.size ∧ nb < V.heap.size ∧ bx ≠ kb ∧ bx ≠ nb ∧ w.heap.size ≤ bx ∧ w.heap.size ≤ V.heap.size)
theorem legTo_rat {K N x j : Nat} (h : j < (legTo K N x).length) : (rat (legTo K N x) j).length = N := (legTo_row (rat_mem h)).1
theorem LI.abide {w V : World} {K N bx kb nb : Nat} {xk xn : Value} (hN : 0 < N) (hk : V.cell? ⟨kb, 0, none⟩ = some xk) (hn : V.cell? ⟨nb, 0, none⟩ = some xn) (S i : Nat) (A B : World) (r : Nat) (h : LI w V K N bx kb nb S i A) (hg : A.grownBy B (some r)) (hr : V.heap.size ≤ r) (ho : r = S ∨ ∃ o : Obj, A.heap[r]? = some o ∧ o.isCells = false) : LI w V K N bx kb nb S i B := by
  obtain ⟨a, A', c, vs, c0, f0, o2, hh, hrw, hc, hb, hS, hnum⟩ := h
  have hbx : bx ≠ r := by omega
  have h1 : (Value.slice A' a c).ownBlock ≠ some r := by
    intro e
    rcases ho with rfl | ⟨o, h2, h3⟩
    · exact (hh r e).2.1 rfl
    · have hlt := o2.own.2
      rcases hlt with ⟨h4, _⟩ | ⟨g, cap, cur, h4, h5, h6, _⟩
      · rw [h4] at e; cases e
      · rw [h4] at e
        cases e
        rw [h2] at h6
        cases h6
        cases h3
  have h2 : ∀ j, j < a → blk (vat vs j) ≠ some r := by
    intro j hj e
    rcases ho with rfl | ⟨o, h4, h3⟩
    · exact hrw j hj e
    · have hlen : j < (legTo K N i).length := by rw [o2.len]; exact hj
      obtain ⟨b, c', e', _, _, _, h5, _⟩ := o2.rf.ok j hlen
      rw [e'] at e
      cases e
      exact cells_ne (h5 0 (by rw [legTo_rat hlen]; exact hN)) h4 h3 rfl
  have hblk : ∀ b, b < V.heap.size → b < A.heap.size → B.heap[b]? = A.heap[b]? := fun b h3 h4 => hg.block b h4 (fun e => by cases e; omega)
  have hlx := World.block_lt_of_cell? A _ c0
  refine ⟨a, A', c, vs, (World.cell?_of_block (a := ⟨bx, 0, none⟩) (hblk bx hnum.1 hlx)).trans c0, (World.frozen?_of_block (a := ⟨bx, 0, none⟩) (hblk bx hnum.1 hlx)).trans f0, o2.kept hg h1 h2, hh, hrw, fun b hb' => ?_, hb.grown hg hb.size (fun k e => by cases e; omega), hS, hnum⟩
  have hbl : b < V.heap.size := by
    simp at hb'
    rcases hb' with rfl | rfl <;> omega
  have hle := o2.le
  rw [hblk b hbl (by omega), hc b hb']
/-- Behind a round that took nothing. -/
theorem LI.miss {w V : World} {K N bx kb nb S i : Nat} {W0 W2 : World} (h : LI w V K N bx kb nb S i W0) (hm : legTo K N (i + 1) = legTo K N i) (hb : Below W0.heap.size W0 W2) : LI w V K N bx kb nb S (i + 1) W2 := by
  obtain ⟨a, A', c, vs, c0, f0, o2, hh, hrw, hc, hbw, hS, hnum⟩ := h
  have hlx := World.block_lt_of_cell? W0 _ c0
  have hle := o2.le
  exact ⟨a, A', c, vs, (hb.cell (p := ⟨bx, 0, none⟩) hlx).trans c0, (hb.frozen (p := ⟨bx, 0, none⟩) hlx).trans f0, by rw [hm]; exact o2.later hb, hh, hrw, fun b hb' => by
    rw [← hc b hb']
    refine hb.block b ?_
    simp at hb'
    rcases hb' with rfl | rfl <;> omega, bstep hbw hb, hS, hnum⟩
/-- Behind a round that took the row: the append, and the store. -/
theorem LI.hit {w V : World} {K N bx kb nb S i : Nat} {W0 W2 w4 : World} {a : Nat} {A : Option Addr} {c : Nat} {vs : List Value} {row : Value} {zs : List Int} {g c' : Nat} {t : TypeId}
    (c0 : W0.cell? ⟨bx, 0, none⟩ = some (.slice A a c)) (f0 : W0.frozen? ⟨bx, 0, none⟩ = false) (o2 : O2 W0 w.heap.size V.heap.size A a c vs (legTo K N i)) (hh : ∀ b, (Value.slice A a c).ownBlock = some b → b ≠ bx ∧ b ≠ S ∧ b ≠ kb ∧ b ≠ nb)
    (hrw : ∀ j, j < a → blk (vat vs j) ≠ some S) (hc : ∀ b ∈ [nb, kb], W0.heap[b]? = V.heap[b]?) (hbw : Below w.heap.size w W0) (hS : V.heap.size ≤ S) (hS0 : S < W0.heap.size) (hnum : bx < V.heap.size ∧ kb < V.heap.size ∧ nb < V.heap.size ∧ bx ≠ kb ∧ bx ≠ nb ∧ w.heap.size ≤ bx ∧ w.heap.size ≤ V.heap.size)
    (hm : legTo K N (i + 1) = legTo K N i ++ [zs]) (hb : Below W0.heap.size W0 W2) (A1 : Option Addr) (n1 c1 : Nat) (hrow : row = .slice A1 n1 c1) (hv : RowOk W2 W0.heap.size W2.heap.size (.slice A1 n1 c1) zs)
    (hown : w4.ownsRow w.heap.size 23 1 (.slice (some ⟨g, 0, none⟩) (a + 1) c') (a + 1) (vs ++ [.slice A1 n1 c1])) (hg : (W2.alloc (.cells #[.slice A1 n1 c1] t)).grownBy w4 (Value.slice A a c).ownBlock) (hl : (Value.slice A a c).ownBlock = some g ∨ g = W2.heap.size + 1) :
    LI w V K N bx kb nb S (i + 1) (w4.setCell ⟨bx, 0, none⟩ (.slice (some ⟨g, 0, none⟩) (a + 1) c')) ∧ (w4.setCell ⟨bx, 0, none⟩ (.slice (some ⟨g, 0, none⟩) (a + 1) c')).heap[S]? = W0.heap[S]? ∧ w4.cell? ⟨bx, 0, none⟩ = some (.slice A a c) ∧ w4.frozen? ⟨bx, 0, none⟩ = false := by
  obtain ⟨o4, b4⟩ := o2.push hb hv hown hg hl
  have hle := o2.le
  have hsz2 := hb.size
  have hsz4 : W2.heap.size + 1 ≤ w4.heap.size := by have := hg.size; simpa using this
  have hkeep : ∀ b, b < W0.heap.size → (Value.slice A a c).ownBlock ≠ some b → w4.heap[b]? = W0.heap[b]? := fun b h1 h2 => by
    rw [hg.block b (by simp; omega) (fun e => h2 e.symm), ((Below.refl W2.heap.size W2).alloc (Nat.le_refl _) _).block b (by omega)]
    exact hb.block b h1
  have hlx : bx < W0.heap.size := by omega
  have kx := hkeep bx hlx (fun e => (hh bx e).1 rfl)
  have d0 := (World.cell?_of_block (a := ⟨bx, 0, none⟩) kx).trans c0
  have e0 := (World.frozen?_of_block (a := ⟨bx, 0, none⟩) kx).trans f0
  have hgne : g ≠ bx ∧ g ≠ S ∧ g ≠ kb ∧ g ≠ nb := by
    rcases hl with h3 | h3
    · exact hh g h3
    · omega
  obtain ⟨bv, ebv, hv1, hv2⟩ := hv.blk
  have hvl := o2.rf.len
  refine ⟨⟨a + 1, some ⟨g, 0, none⟩, c', vs ++ [.slice A1 n1 c1], World.cell?_setCell_same _ _ _ d0, by rw [World.frozen?_setCell]; exact e0, ?_, fun b e => by injection e with e; subst e; exact hgne, fun j hj => ?_, fun b hb' => ?_, ?_, hS, hnum⟩, ?_, d0, e0⟩
  · rw [hm]
    exact o4.set (p := ⟨bx, 0, none⟩) hnum.1 (fun b e => by injection e with e; subst e; exact hgne.1) _
  · by_cases e : j < a
    · rw [vat_lt (by have := o2.len; omega)]
      exact hrw j e
    · have hj2 : j = vs.length := by have := o2.len; omega
      rw [hj2, vat_eq, ebv]
      intro e2
      injection e2 with e2
      omega
  · have hb2 : b < V.heap.size ∧ b ≠ bx ∧ (Value.slice A a c).ownBlock ≠ some b := by
      simp at hb'
      rcases hb' with rfl | rfl
      · exact ⟨hnum.2.2.1, fun e => hnum.2.2.2.2.1 e.symm, fun e => (hh _ e).2.2.2 rfl⟩
      · exact ⟨hnum.2.1, fun e => hnum.2.2.2.1 e.symm, fun e => (hh _ e).2.2.1 rfl⟩
    rw [Below.heap_setCell _ _ _ _ (by simpa using hb2.2.1), hkeep b (by omega) hb2.2.2, hc b hb']
  · exact (hbw.trans b4).setCell (p := ⟨bx, 0, none⟩) hnum.2.2.2.2.2.1 _
  · rw [Below.heap_setCell _ _ _ _ (by show S ≠ bx; omega)]
    exact hkeep S hS0 (fun e => (hh S e).2.1 rfl)
/-- At the end: the list is the call's own. -/
theorem LI.fr {w V : World} {K N i : Nat} {W : World} {a : Nat} {A : Option Addr} {c : Nat} {vs : List Value} (o2 : O2 W w.heap.size V.heap.size A a c vs (legTo K N i)) (hv : w.heap.size ≤ V.heap.size) (hw : w.heap.size ≤ W.heap.size) : FR W w.heap.size W.heap.size A a (legTo K N i) :=
  ⟨o2.len, hw, Nat.le_refl _, fun ha => by
    obtain ⟨b, rfl, h1, h2⟩ := own_form o2.own ha
    have f := o2.fh
    exact ⟨b, vs, rfl, h1, h2, f.cell, f.ob, f.rf.len, fun j hj => (f.rf.ok j hj).mono hv (Nat.le_refl _), f.rf.ap⟩⟩

end Go.Proofs.Ythhfnhabnaakiaa
