/-
  RingG. By a program (wip/tools/mk.py) out of snippets.
-/
import Derived.Test.YtblaaeanbhgokaaO2
import Derived.Test.YtblaaeanbhgokaaRingDef
import Derived.Test.YtblaaeanbhgokaaNetS2
namespace Go.Proofs.Ytblaaeanbhgokaa
open Go.RowKit

def ringOk (n : Nat) (zs : List Int) : Bool := inR n 3 6 && zs.all (fun z => inR z 0 20)
/-- A net in the block s5: the list of its rows, the rows, and the marks; the result's block is s2. -/
structure RG (w V : World) (s2 s5 B L : Nat) (AM : Option Addr) (m cM : Nat) (zs : List Int) (wx : World) (A : Option Addr) (i c : Nat) (vs : List Value) (rows : List (List Int)) : Prop where
  c0 : wx.cell? ⟨s5, 0, none⟩ = some (.slice A i c)
  c1 : wx.cell? ⟨s5, 1, none⟩ = some (.slice AM m cM)
  f0 : wx.frozen? ⟨s5, 0, none⟩ = false
  f1 : wx.frozen? ⟨s5, 1, none⟩ = false
  ov : O2 wx B L A i c vs rows
  nh : ∀ b, (Value.slice A i c).ownBlock = some b → b ≠ s5
  nw : NewI wx (s2 + 1) AM m zs
  mb : ∀ b o, AM = some ⟨b, o, none⟩ → (b < L ∧ b ≠ s5) ∧ (Value.slice A i c).ownBlock ≠ some b
  tb : wx.heap[s2]? = V.heap[s2]?
  tl : s2 < B ∧ B ≤ L ∧ s2 < s5 ∧ s5 < L
  wb : w.heap.size ≤ s2
  bl : Below w.heap.size w wx
theorem RG.lt {w V : World} {s2 s5 B L : Nat} {AM : Option Addr} {m cM : Nat} {zs : List Int} {wx : World} {A : Option Addr} {i c : Nat} {vs : List Value} {rows : List (List Int)} (h : RG w V s2 s5 B L AM m cM zs wx A i c vs rows) : s5 < wx.heap.size := World.block_lt_of_cell? wx _ h.c0
theorem RG.later {w V : World} {s2 s5 B L : Nat} {AM : Option Addr} {m cM : Nat} {zs : List Int} {wx w' : World} {A : Option Addr} {i c : Nat} {vs : List Value} {rows : List (List Int)} (h : RG w V s2 s5 B L AM m cM zs wx A i c vs rows) (hb : Below wx.heap.size wx w') : RG w V s2 s5 B L AM m cM zs w' A i c vs rows :=
  ⟨(hb.cell (p := ⟨s5, 0, none⟩) h.lt).trans h.c0, (hb.cell (p := ⟨s5, 1, none⟩) h.lt).trans h.c1, (hb.frozen (p := ⟨s5, 0, none⟩) h.lt).trans h.f0, (hb.frozen (p := ⟨s5, 1, none⟩) h.lt).trans h.f1,
    h.ov.later hb, h.nh, h.nw.below hb (Nat.le_refl _), h.mb, (hb.block s2 (by have := h.tl; have := h.lt; omega)).trans h.tb, h.tl, h.wb, bstep h.bl hb⟩
theorem NewI.lowN {w : World} {base : Nat} {A : Option Addr} {n : Nat} {zs : List Int} (h : NewI w base A n zs) {R i : Nat} {v : Value} (hR : R < base) : NewI (w.setCell ⟨R, i, none⟩ v) base A n zs :=
  ⟨h.1, fun hn => by
    obtain ⟨b, off, e, h1, h2, hc, hf⟩ := h.2 hn
    exact ⟨b, off, e, h1, by simpa using h2, fun j hj => (World.cell?_setCell_other _ _ _ _ (fun e' => by injection e'; omega)).trans (hc j hj), fun j hj => by rw [World.frozen?_setCell]; exact hf j hj⟩⟩
theorem RowOk.lit2 (w : World) (x y : Int) : RowOk (w.alloc (.cells #[.int .i64 x, .int .i64 y] 3)) w.heap.size (w.alloc (.cells #[.int .i64 x, .int .i64 y] 3)).heap.size (.slice (some ⟨w.heap.size, 0, none⟩) 2 2) [x, y] := by
  refine ⟨w.heap.size, 2, rfl, by simp, Nat.le_refl _, by simp, fun j hj => ?_, fun j _ => by go_simp⟩
  rw [World.cell?_alloc_at _ _ _ _ rfl]
  rcases (by simpa using hj : j < 2) with _
  rcases j with _ | _ | j
  · rfl
  · rfl
  · simp at hj; omega
/-- Behind the append of a row, and the store. -/
theorem RG.push {w V : World} {s2 s5 B L : Nat} {AM : Option Addr} {m cM : Nat} {zs : List Int} {wx w4 : World} {A : Option Addr} {i c : Nat} {vs : List Value} {rows : List (List Int)} (h : RG w V s2 s5 B L AM m cM zs wx A i c vs rows) {x y : Int} {g c' : Nat} {t : TypeId}
    (hown : w4.ownsRow B 22 1 (.slice (some ⟨g, 0, none⟩) (i + 1) c') (i + 1) (vs ++ [.slice (some ⟨wx.heap.size, 0, none⟩) 2 2])) (hg : ((wx.alloc (.cells #[.int .i64 x, .int .i64 y] 3)).alloc (.cells #[.slice (some ⟨wx.heap.size, 0, none⟩) 2 2] t)).grownBy w4 (Value.slice A i c).ownBlock) (hl : (Value.slice A i c).ownBlock = some g ∨ g = wx.heap.size + 1 + 1) :
    RG w V s2 s5 B L AM m cM zs (w4.setCell ⟨s5, 0, none⟩ (.slice (some ⟨g, 0, none⟩) (i + 1) c')) (some ⟨g, 0, none⟩) (i + 1) c' (vs ++ [.slice (some ⟨wx.heap.size, 0, none⟩) 2 2]) (rows ++ [[x, y]]) ∧ w4.frozen? ⟨s5, 0, none⟩ = false ∧ ∃ u, w4.cell? ⟨s5, 0, none⟩ = some u := by
  have hb1 : Below wx.heap.size wx (wx.alloc (.cells #[.int .i64 x, .int .i64 y] 3)) := (Below.refl _ _).alloc (Nat.le_refl _) _
  have hb2 : Below wx.heap.size wx ((wx.alloc (.cells #[.int .i64 x, .int .i64 y] 3)).alloc (.cells #[.slice (some ⟨wx.heap.size, 0, none⟩) 2 2] t)) := hb1.alloc (by simp) _
  have h2 := h.later hb2
  have hs5 := h2.lt
  have hlt5 := h.lt
  obtain ⟨o4, b4⟩ := h.ov.push hb1 (RowOk.lit2 wx x y) hown hg (by simpa using hl)
  have hkeep : ∀ b, b < wx.heap.size → (Value.slice A i c).ownBlock ≠ some b → w4.heap[b]? = wx.heap[b]? := fun b h1 h3 => by
    rw [hg.block b (by simp; omega) (fun e => h3 e.symm), hb2.block b h1]
  have k5 := hkeep s5 hlt5 (fun e => h.nh s5 e rfl)
  have c0 := (World.cell?_of_block (a := ⟨s5, 0, none⟩) k5).trans h.c0
  have c1 := (World.cell?_of_block (a := ⟨s5, 1, none⟩) k5).trans h.c1
  have f0 := (World.frozen?_of_block (a := ⟨s5, 0, none⟩) k5).trans h.f0
  have f1 := (World.frozen?_of_block (a := ⟨s5, 1, none⟩) k5).trans h.f1
  have hgne : g ≠ s5 := by
    rcases hl with h3 | h3
    · exact h.nh g h3
    · omega
  refine ⟨⟨World.cell?_setCell_same _ _ _ c0, (World.cell?_setCell_other _ _ _ _ (by simp)).trans c1, by rw [World.frozen?_setCell]; exact f0, by rw [World.frozen?_setCell]; exact f1, o4.set (p := ⟨s5, 0, none⟩) h.tl.2.2.2 (fun b e => by injection e with e; subst e; exact hgne) _, fun b e => by injection e with e; subst e; exact hgne, ?_, fun b o e => ⟨(h.mb b o e).1, fun e2 => ?_⟩, ?_, h.tl, h.wb, ?_⟩, f0, _, c0⟩
  · refine ⟨h.nw.1, fun hm => ?_⟩
    obtain ⟨b, off, e, h1, h3, h4, h5⟩ := h.nw.2 hm
    obtain ⟨⟨h6, h8⟩, h7⟩ := h.mb b off e
    have hk := hkeep b h3 h7
    refine ⟨b, off, e, h1, by have := hg.size; simp at this; simp; omega, fun j hj => ?_, fun j hj => ?_⟩
    · rw [World.cell?_setCell_other _ _ _ _ (fun e2 => by injection e2; omega), World.cell?_of_block (a := ⟨b, off + j, none⟩) hk]
      exact h4 j hj
    · rw [World.frozen?_setCell, World.frozen?_of_block (a := ⟨b, off + j, none⟩) hk]
      exact h5 j hj
  · injection e2 with e2
    subst e2
    rcases hl with h3 | h3
    · exact (h.mb g o e).2 h3
    · have := (h.mb g o e).1; have := h.ov.le; omega
  · rw [Below.heap_setCell _ _ _ _ (by have := h.tl; show s2 ≠ s5; omega)]
    exact (hkeep s2 (by have := h.tl; omega) (fun e => by have := (World.ownsRow.lt h.ov.own s2 e).1; have := h.tl; omega)).trans h.tb
  · exact (h.bl.trans (b4.mono (by have := h.tl; have := h.wb; omega))).setCell (p := ⟨s5, 0, none⟩) (by have := h.tl; have := h.wb; show _ ≤ s5; omega) _

end Go.Proofs.Ytblaaeanbhgokaa
