/-
  DV. By a program (wip/tools/mk.py) out of snippets.
-/
import Derived.Test.YtfjpnennbdefiaaMud3
import Derived.Test.YtfjpnennbdefiaaLet
import Derived.Test.YtfjpnennbdefiaaReader
namespace Go.Proofs.Ytfjpnennbdefiaa
open Go.RowKit

theorem OV.off {w w' : World} {B : Nat} {A : Option Addr} {a c : Nat} {vs : List Value} {rows : List (List Int)} (h : OV w B A a c vs rows) {R : Nat} (hg : w.grownBy w' (some R)) (hR : R < B) : OV w' B A a c vs rows :=
  ⟨own_off h.own hg hR, (h.rf.same fun b h1 h2 _ => hg.block b h2 (by simp; omega)).top hg.size, h.ob, Nat.le_trans h.le hg.size, h.len⟩
theorem OV.push2 {w2 w3 : World} {B H : Nat} {A : Option Addr} {a c : Nat} {vs : List Value} {rows : List (List Int)} (h : OV w2 B A a c vs rows) (hBH : B ≤ H) (hHs : H ≤ w2.heap.size) (hlow : ∀ i, i < rows.length → ∀ b, blk (vat vs i) = some b → b < H) (hA : ∀ b, (Value.slice A a c).ownBlock = some b → b < H) {A1 : Option Addr} {n1 c1 : Nat} {zs : List Int} (hv : RowOk w2 H w2.heap.size (.slice A1 n1 c1) zs) {g c' : Nat} {t : TypeId}
    (hown : w3.ownsRow B 41 1 (.slice (some ⟨g, 0, none⟩) (a + 1) c') (a + 1) (vs ++ [.slice A1 n1 c1])) (hg : (w2.alloc (.cells #[.slice A1 n1 c1] t)).grownBy w3 (Value.slice A a c).ownBlock) (hl : (Value.slice A a c).ownBlock = some g ∨ g = w2.heap.size + 1) :
    OV w3 B (some ⟨g, 0, none⟩) (a + 1) c' (vs ++ [.slice A1 n1 c1]) (rows ++ [zs]) ∧ Below B w2 w3 := by
  have hold := World.ownsRow.lt h.own
  have hs3 : w2.heap.size + 1 ≤ w3.heap.size := by have := hg.size; simpa using this
  have hlen := h.len
  have hRFH : RF w2 B H vs rows := ⟨h.rf.len, fun i hi => by
    obtain ⟨b, c2, e, g0, g1, g2, g3⟩ := h.rf.ok i hi
    exact ⟨b, c2, e, g0, g1, hlow i hi b (by rw [e]; rfl), g3⟩, h.rf.ap⟩
  have hRF2 : RF w2 B w2.heap.size (vs ++ [.slice A1 n1 c1]) (rows ++ [zs]) := hRFH.push hv hBH hHs
  obtain ⟨bv, ebv, hv1, hv2⟩ := hv.blk
  have hvl := h.rf.len
  have hob : ∀ i, i < (rows ++ [zs]).length → blk (vat (vs ++ [.slice A1 n1 c1]) i) ≠ (Value.slice A a c).ownBlock ∧ ∃ b, blk (vat (vs ++ [.slice A1 n1 c1]) i) = some b ∧ b < w2.heap.size := fun i hi => by
    rw [List.length_append, List.length_singleton] at hi
    by_cases e : i < rows.length
    · rw [vat_lt (by omega)]
      obtain ⟨b, e1, _, h1⟩ := (h.rf.ok i e).blk
      exact ⟨h.ob i e, b, e1, by omega⟩
    · obtain rfl : i = vs.length := by omega
      rw [vat_eq]
      exact ⟨fun e1 => by rw [ebv] at e1; have := hA bv e1.symm; omega, bv, ebv, hv2⟩
  have hblk : ∀ b, b < w2.heap.size → some b ≠ (Value.slice A a c).ownBlock → w3.heap[b]? = w2.heap[b]? := fun b h1 h2 => by
    rw [hg.block b (by simp; omega) h2, ((Below.refl w2.heap.size w2).alloc (Nat.le_refl _) _).block b h1]
  refine ⟨⟨hown, ⟨by simp [hvl], fun i hi => ?_, hRF2.ap⟩, fun i hi => ?_, by omega, by simp [hlen]⟩, ?_⟩
  · obtain ⟨h1, b, e1, h2⟩ := hob i hi
    refine ((hRF2.ok i hi).same fun b' e' => ?_).mono (Nat.le_refl _) (by omega)
    rw [e1] at e'
    cases e'
    exact hblk b h2 (by rw [← e1]; exact h1)
  · obtain ⟨h1, b, e1, h2⟩ := hob i hi
    rw [e1] at h1 ⊢
    show some b ≠ some g
    intro e
    cases e
    rcases hl with h3 | h3
    · exact h1 h3.symm
    · omega
  · refine ((Below.refl B w2).alloc (by omega) _).grown hg (by simp; omega) fun k hk => (hold k hk).1
/-- What the walk of the views' drawer keeps: the reader in block R, the view in block v. -/
structure GW (w : World) (R N v : Nat) (P : Int) (wr : World) (A : Option Addr) (a c : Nat) (vs : List Value) (rows : List (List Int)) : Prop where
  ov : OV wr (v + 1) A a c vs rows
  c0 : wr.cell? ⟨v, 0, none⟩ = some (.int .i64 P)
  c1 : wr.cell? ⟨v, 1, none⟩ = some (.slice A a c)
  f0 : wr.frozen? ⟨v, 0, none⟩ = false
  f1 : wr.frozen? ⟨v, 1, none⟩ = false
  d0 : wr.cell? ⟨w.heap.size, 0, none⟩ = some (.int .i64 0)
  d1 : wr.cell? ⟨w.heap.size, 1, none⟩ = some (.slice none 0 0)
  g0 : wr.frozen? ⟨w.heap.size, 0, none⟩ = false
  g1 : wr.frozen? ⟨w.heap.size, 1, none⟩ = false
  rd : Rd wr R N
  rs : R < w.heap.size
  sv : w.heap.size < v
  bel : Below R w wr
theorem GW.lt {w : World} {R N v : Nat} {P : Int} {wr : World} {A : Option Addr} {a c : Nat} {vs : List Value} {rows : List (List Int)} (h : GW w R N v P wr A a c vs rows) : v < wr.heap.size := h.ov.le
theorem GW.gby {w : World} {R N v : Nat} {P : Int} {wr : World} {A : Option Addr} {a c : Nat} {vs : List Value} {rows : List (List Int)} (h : GW w R N v P wr A a c vs rows) {w2 : World} {M : Nat} (hg : wr.grownBy w2 (some R)) (hr : Rd w2 R M) : GW w R M v P w2 A a c vs rows := by
  have hlt := h.lt
  have hrs := h.rs
  have hsv := h.sv
  have hv : w2.heap[v]? = wr.heap[v]? := hg.block v hlt (by simp; omega)
  have hs : w2.heap[w.heap.size]? = wr.heap[w.heap.size]? := hg.block _ (by omega) (by simp; omega)
  exact ⟨h.ov.off hg (by omega), (World.cell?_of_block (a := ⟨v, 0, none⟩) hv).trans h.c0, (World.cell?_of_block (a := ⟨v, 1, none⟩) hv).trans h.c1, (World.frozen?_of_block (a := ⟨v, 0, none⟩) hv).trans h.f0, (World.frozen?_of_block (a := ⟨v, 1, none⟩) hv).trans h.f1, (World.cell?_of_block (a := ⟨w.heap.size, 0, none⟩) hs).trans h.d0, (World.cell?_of_block (a := ⟨w.heap.size, 1, none⟩) hs).trans h.d1, (World.frozen?_of_block (a := ⟨w.heap.size, 0, none⟩) hs).trans h.g0, (World.frozen?_of_block (a := ⟨w.heap.size, 1, none⟩) hs).trans h.g1, hr, hrs, hsv, h.bel.trans (gby_belowB hg (Nat.le_refl _) (by omega))⟩
theorem GW.push {w : World} {R N v : Nat} {P : Int} {w2 w3 : World} {A : Option Addr} {a c : Nat} {vs : List Value} {rows : List (List Int)} (h : GW w R N v P w2 A a c vs rows) {H : Nat} (hH : v < H) (hHs : H ≤ w2.heap.size) (hlow : ∀ i, i < rows.length → ∀ b, blk (vat vs i) = some b → b < H) (hA : ∀ b, (Value.slice A a c).ownBlock = some b → b < H) {A1 : Option Addr} {n1 c1 : Nat} {zs : List Int} (hv : RowOk w2 H w2.heap.size (.slice A1 n1 c1) zs) {g c' : Nat} {t : TypeId}
    (hown : w3.ownsRow (v + 1) 41 1 (.slice (some ⟨g, 0, none⟩) (a + 1) c') (a + 1) (vs ++ [.slice A1 n1 c1])) (hg : (w2.alloc (.cells #[.slice A1 n1 c1] t)).grownBy w3 (Value.slice A a c).ownBlock) (hl : (Value.slice A a c).ownBlock = some g ∨ g = w2.heap.size + 1) :
    GW w R N v P (w3.setCell ⟨v, 1, none⟩ (.slice (some ⟨g, 0, none⟩) (a + 1) c')) (some ⟨g, 0, none⟩) (a + 1) c' (vs ++ [.slice A1 n1 c1]) (rows ++ [zs]) ∧ w3.frozen? ⟨v, 1, none⟩ = false ∧ ∃ u, w3.cell? ⟨v, 1, none⟩ = some u := by
  obtain ⟨hov, hB⟩ := h.ov.push2 hH hHs hlow hA hv hown hg hl
  have hrs := h.rs
  have hsv := h.sv
  have k0 := (hB.cell (p := ⟨v, 0, none⟩) (by show v < v + 1; omega)).trans h.c0
  have k1 := (hB.cell (p := ⟨v, 1, none⟩) (by show v < v + 1; omega)).trans h.c1
  have m0 := (hB.frozen (p := ⟨v, 0, none⟩) (by show v < v + 1; omega)).trans h.f0
  have m1 := (hB.frozen (p := ⟨v, 1, none⟩) (by show v < v + 1; omega)).trans h.f1
  have l0 := (hB.cell (p := ⟨w.heap.size, 0, none⟩) (by show w.heap.size < v + 1; omega)).trans h.d0
  have l1 := (hB.cell (p := ⟨w.heap.size, 1, none⟩) (by show w.heap.size < v + 1; omega)).trans h.d1
  have n0 := (hB.frozen (p := ⟨w.heap.size, 0, none⟩) (by show w.heap.size < v + 1; omega)).trans h.g0
  have n1' := (hB.frozen (p := ⟨w.heap.size, 1, none⟩) (by show w.heap.size < v + 1; omega)).trans h.g1
  have hr := (h.rd.below hB (by omega)).below (w' := w3.setCell ⟨v, 1, none⟩ (.slice (some ⟨g, 0, none⟩) (a + 1) c')) ((Below.refl v w3).setCell (p := ⟨v, 1, none⟩) (Nat.le_refl _) _) (by omega)
  refine ⟨⟨hov.set (by show v < v + 1; omega) _, ?_, ?_, by rw [World.frozen?_setCell]; exact m0, by rw [World.frozen?_setCell]; exact m1, ?_, ?_, by rw [World.frozen?_setCell]; exact n0, by rw [World.frozen?_setCell]; exact n1', hr, hrs, hsv, ?_⟩, m1, _, k1⟩
  · rw [World.cell?_setCell_other _ _ _ _ (by simp)]; exact k0
  · exact World.cell?_setCell_same _ _ _ k1
  · rw [World.cell?_setCell_other _ _ _ _ (fun e => by injection e; omega)]; exact l0
  · rw [World.cell?_setCell_other _ _ _ _ (fun e => by injection e; omega)]; exact l1
  · exact (h.bel.trans (hB.mono (by omega))).setCell (by show R ≤ v; omega) _
/-- What stands behind the switch. -/
structure VX (w : World) (R N v : Nat) (P : Int) (wr : World) (A : Option Addr) (k c : Nat) (rows : List (List Int)) : Prop where
  fr : FR wr (v + 1) wr.heap.size A k rows
  c0 : wr.cell? ⟨v, 0, none⟩ = some (.int .i64 P)
  c1 : wr.cell? ⟨v, 1, none⟩ = some (.slice A k c)
  f0 : wr.frozen? ⟨v, 0, none⟩ = false
  f1 : wr.frozen? ⟨v, 1, none⟩ = false
  d0 : wr.cell? ⟨w.heap.size, 0, none⟩ = some (.int .i64 0)
  d1 : wr.cell? ⟨w.heap.size, 1, none⟩ = some (.slice none 0 0)
  g0 : wr.frozen? ⟨w.heap.size, 0, none⟩ = false
  g1 : wr.frozen? ⟨w.heap.size, 1, none⟩ = false
  rd : Rd wr R N
  rs : R < w.heap.size
  sv : w.heap.size < v
  bel : Below R w wr
  vlt : v < wr.heap.size
  k1 : 1 ≤ k
  k2 : k ≤ 4
  p0 : 0 ≤ P
  p1 : P ≤ 17
  len : ∀ i, i < k → 1 ≤ (rat rows i).length ∧ (rat rows i).length ≤ 16
theorem GW.vx {w : World} {R N v : Nat} {P : Int} {wr : World} {A : Option Addr} {a c : Nat} {vs : List Value} {rows : List (List Int)} (h : GW w R N v P wr A a c vs rows) (hk1 : 1 ≤ a) (hk2 : a ≤ 4) (hp0 : 0 ≤ P) (hp1 : P ≤ 17) (hl : ∀ i, i < a → 1 ≤ (rat rows i).length ∧ (rat rows i).length ≤ 16) : VX w R N v P wr A a c rows :=
  ⟨h.ov.fr, h.c0, h.c1, h.f0, h.f1, h.d0, h.d1, h.g0, h.g1, h.rd, h.rs, h.sv, h.bel, h.lt, hk1, hk2, hp0, hp1, hl⟩
/-- A new view is stored into the box. -/
theorem GW.store {w : World} {R N v : Nat} {P : Int} {wr : World} {A0 : Option Addr} {a0 c00 : Nat} {vs0 : List Value} {rows0 : List (List Int)} (h : GW w R N v P wr A0 a0 c00 vs0 rows0) {w2 : World} (hb : Below wr.heap.size wr w2) {A : Option Addr} {k c : Nat} {rows : List (List Int)} {Q : Int} (hf : FR w2 wr.heap.size w2.heap.size A k rows) (hk1 : 1 ≤ k) (hk2 : k ≤ 4) (hp0 : 0 ≤ Q) (hp1 : Q ≤ 17) (hl : ∀ i, i < k → 1 ≤ (rat rows i).length ∧ (rat rows i).length ≤ 16) :
    VX w R N v Q ((w2.setCell ⟨v, 0, none⟩ (.int .i64 Q)).setCell ⟨v, 1, none⟩ (.slice A k c)) A k c rows := by
  have hlt := h.lt
  have hrs := h.rs
  have hsv := h.sv
  have k0 := (hb.cell (p := ⟨v, 0, none⟩) hlt).trans h.c0
  have k1 := (hb.cell (p := ⟨v, 1, none⟩) hlt).trans h.c1
  have m0 := (hb.frozen (p := ⟨v, 0, none⟩) hlt).trans h.f0
  have m1 := (hb.frozen (p := ⟨v, 1, none⟩) hlt).trans h.f1
  have l0 := (hb.cell (p := ⟨w.heap.size, 0, none⟩) (by show w.heap.size < _; omega)).trans h.d0
  have l1 := (hb.cell (p := ⟨w.heap.size, 1, none⟩) (by show w.heap.size < _; omega)).trans h.d1
  have n0 := (hb.frozen (p := ⟨w.heap.size, 0, none⟩) (by show w.heap.size < _; omega)).trans h.g0
  have n1' := (hb.frozen (p := ⟨w.heap.size, 1, none⟩) (by show w.heap.size < _; omega)).trans h.g1
  have hB2 : Below v w2 ((w2.setCell ⟨v, 0, none⟩ (.int .i64 Q)).setCell ⟨v, 1, none⟩ (.slice A k c)) := ((Below.refl v w2).setCell (p := ⟨v, 0, none⟩) (Nat.le_refl _) _).setCell (p := ⟨v, 1, none⟩) (Nat.le_refl _) _
  have hs2 := hb.size
  refine ⟨?_, ?_, ?_, by rw [World.frozen?_setCell, World.frozen?_setCell]; exact m0, by rw [World.frozen?_setCell, World.frozen?_setCell]; exact m1, (hB2.cell (p := ⟨w.heap.size, 0, none⟩) hsv).trans l0, (hB2.cell (p := ⟨w.heap.size, 1, none⟩) hsv).trans l1, (hB2.frozen (p := ⟨w.heap.size, 0, none⟩) hsv).trans n0, (hB2.frozen (p := ⟨w.heap.size, 1, none⟩) hsv).trans n1', (h.rd.below hb (by omega)).below hB2 (by omega), hrs, hsv, (h.bel.trans (hb.mono (by omega))).trans (hB2.mono (by omega)), by simp; omega, hk1, hk2, hp0, hp1, hl⟩
  · exact ((hf.setLow (by show v < _; omega) _).setLow (by show v < _; omega) _).mono (by omega) (by simp) (Nat.le_refl _)
  · rw [World.cell?_setCell_other _ _ _ _ (by simp)]
    exact World.cell?_setCell_same _ _ _ k0
  · exact World.cell?_setCell_same _ _ _ (by rw [World.cell?_setCell_other _ _ _ _ (by simp)]; exact k1)
theorem VX.gby {w : World} {R N v : Nat} {P : Int} {wr : World} {A : Option Addr} {k c : Nat} {rows : List (List Int)} (h : VX w R N v P wr A k c rows) {w2 : World} {M : Nat} (hg : wr.grownBy w2 (some R)) (hr : Rd w2 R M) : VX w R M v P w2 A k c rows := by
  have hlt := h.vlt
  have hrs := h.rs
  have hsv := h.sv
  have hv : w2.heap[v]? = wr.heap[v]? := hg.block v hlt (by simp; omega)
  have hs : w2.heap[w.heap.size]? = wr.heap[w.heap.size]? := hg.block _ (by omega) (by simp; omega)
  have hsz := hg.size
  have hw : Wn R (R + 1) wr w2 := Wn.of_grown hg (fun b e => by cases e; omega)
  exact ⟨(h.fr.wn hw (.inr (by omega))).mono (Nat.le_refl _) hsz (Nat.le_refl _), (World.cell?_of_block (a := ⟨v, 0, none⟩) hv).trans h.c0, (World.cell?_of_block (a := ⟨v, 1, none⟩) hv).trans h.c1, (World.frozen?_of_block (a := ⟨v, 0, none⟩) hv).trans h.f0, (World.frozen?_of_block (a := ⟨v, 1, none⟩) hv).trans h.f1, (World.cell?_of_block (a := ⟨w.heap.size, 0, none⟩) hs).trans h.d0, (World.cell?_of_block (a := ⟨w.heap.size, 1, none⟩) hs).trans h.d1, (World.frozen?_of_block (a := ⟨w.heap.size, 0, none⟩) hs).trans h.g0, (World.frozen?_of_block (a := ⟨w.heap.size, 1, none⟩) hs).trans h.g1, hr, hrs, hsv, h.bel.trans (gby_belowB hg (Nat.le_refl _) (by omega)), by omega, h.k1, h.k2, h.p0, h.p1, h.len⟩
theorem FR.sn {w : World} {lo hi : Nat} {A : Option Addr} {k : Nat} {rows : List (List Int)} (h : FR w lo hi A k rows) : SN w lo A k rows :=
  ⟨h.1, fun hk => by
    obtain ⟨b, vs, e, h1, _, hc, _, hr⟩ := h.2.2.2 hk
    refine ⟨b, 0, e, h1, fun i hi => ?_⟩
    obtain ⟨b', c', e', hs⟩ := (hr.ok i (by rw [h.1]; exact hi)).si
    obtain ⟨b2, e2, g1, _⟩ := (hr.ok i (by rw [h.1]; exact hi)).blk
    exact ⟨_, _, c', by rw [Nat.zero_add, hc i hi, e'], hs, fun _ b3 o3 e3 => by cases e3; rw [e'] at e2; cases e2; exact g1⟩⟩
theorem iat_set0 (zs : List Int) (x : Int) (j : Nat) (hj : j < zs.length) : iat (zs.set 0 x) j = if j = 0 then x else iat zs j := by
  by_cases e : j = 0
  · subst e
    rw [if_pos rfl]
    simp [iat, List.getD_eq_getElem?_getD, hj]
  · rw [if_neg e]
    have e' : ¬ 0 = j := fun h => e h.symm
    simp [iat, List.getD_eq_getElem?_getD, List.getElem?_set, e']
/-- 'v.Sees[0][0] = x' -/
theorem FR.put00 {w : World} {lo hi R : Nat} {A : Option Addr} {k : Nat} {rows : List (List Int)} (h : FR w lo hi A k rows) (hRl : R < lo) (hk : 0 < k) (hl : 0 < (rat rows 0).length) : ∃ b b0 c0, A = some ⟨b, 0, none⟩ ∧ w.cell? ⟨b, 0, none⟩ = some (.slice (some ⟨b0, 0, none⟩) (rat rows 0).length c0) ∧ lo ≤ b ∧ lo ≤ b0 ∧ b < hi ∧ b0 < hi ∧ b ≠ b0 ∧ (∃ y, w.cell? ⟨b0, 0, none⟩ = some y) ∧ w.frozen? ⟨b0, 0, none⟩ = false ∧ ∀ w' x, w.grownBy w' (some R) → SN (w'.setCell ⟨b0, 0, none⟩ (.int .i64 x)) lo A k (rows.set 0 ((rat rows 0).set 0 x)) := by
  have hlen := h.1
  obtain ⟨b, vs, e, h1, h2, hc, hob, hr⟩ := h.2.2.2 hk
  obtain ⟨b0, c0, e0, g0, g1, g2, g3, g4⟩ := hr.ok 0 (by omega)
  have hbb : b ≠ b0 := fun e' => hob 0 hk (by rw [e0, e']; rfl)
  have hc00 := hc 0 hk
  rw [e0] at hc00
  have ht := h.2.2.1
  refine ⟨b, b0, c0, e, hc00, h1, g1, h2, g2, hbb, ⟨_, g3 0 hl⟩, g4 0 hl, fun w' x hg => ?_⟩
  have hr : RF w' lo hi vs rows := hr.same fun b3 h3 h4 _ => hg.block b3 (by omega) (by simp; omega)
  have hc : ∀ i, i < k → w'.cell? ⟨b, i, none⟩ = some (vat vs i) := fun i hi => (World.cell?_of_block (a := ⟨b, i, none⟩) (hg.block b (by omega) (by simp; omega))).trans (hc i hi)
  have g3 : ∀ j, j < (rat rows 0).length → w'.cell? ⟨b0, j, none⟩ = some (.int .i64 (iat (rat rows 0) j)) := fun j hj => (World.cell?_of_block (a := ⟨b0, j, none⟩) (hg.block b0 (by omega) (by simp; omega))).trans (g3 j hj)
  refine ⟨by simp [hlen], fun _ => ⟨b, 0, e, h1, fun i hi => ?_⟩⟩
  rw [Nat.zero_add, World.cell?_setCell_other _ _ _ _ (fun e' => hbb (by injection e' with e1; exact e1.symm)), hc i hi]
  by_cases hi0 : i = 0
  · subst hi0
    refine ⟨_, _, c0, by rw [e0], ⟨?_, fun hp => ⟨b0, 0, rfl, fun j hj => ?_⟩⟩, fun _ b3 o3 e3 => by cases e3; exact g1⟩
    · have : rat (rows.set 0 ((rat rows 0).set 0 x)) 0 = (rat rows 0).set 0 x := by
        have : 0 < rows.length := by omega
        simp [rat, List.getD_eq_getElem?_getD, this]
      rw [this, List.length_set]
    · have : rat (rows.set 0 ((rat rows 0).set 0 x)) 0 = (rat rows 0).set 0 x := by
        have : 0 < rows.length := by omega
        simp [rat, List.getD_eq_getElem?_getD, this]
      rw [this, Nat.zero_add, iat_set0 _ _ _ hj]
      by_cases hj0 : j = 0
      · subst hj0
        rw [if_pos rfl]
        exact World.cell?_setCell_same _ _ _ (g3 0 hl)
      · rw [if_neg hj0, World.cell?_setCell_other _ _ _ _ (fun e' => hj0 (by injection e' with _ e2; exact e2.symm))]
        exact g3 j hj
  · obtain ⟨b', c', e', hs⟩ := (hr.ok i (by omega)).si
    obtain ⟨b2, e2, q1, _⟩ := (hr.ok i (by omega)).blk
    have hne : b2 ≠ b0 := fun e3 => hr.ap 0 i (by omega) (by omega) (by rw [e0, e2, e3]; rfl)
    have hbe : b2 = b' := by rw [e'] at e2; cases e2; rfl
    subst hbe
    have hrat : rat (rows.set 0 ((rat rows 0).set 0 x)) i = rat rows i := by
      have : ¬ 0 = i := fun h => hi0 h.symm
      simp [rat, List.getD_eq_getElem?_getD, List.getElem?_set, this]
    rw [hrat]
    exact ⟨_, _, c', by rw [e'], hs.setOff fun _ b3 o3 e3 => by cases e3; exact hne, fun _ b3 o3 e3 => by cases e3; exact q1⟩
theorem SN.gby {w w' : World} {base : Nat} {A : Option Addr} {n : Nat} {rows : List (List Int)} (h : SN w base A n rows) {R : Nat} (hg : w.grownBy w' (some R)) (hR : R < base) : SN w' base A n rows :=
  ⟨h.1, fun hn => by
    obtain ⟨b, off, e, hb, hc⟩ := h.2 hn
    refine ⟨b, off, e, hb, fun i hi => ?_⟩
    obtain ⟨A', n', c', h1, h2, h3⟩ := hc i hi
    have hlt := World.block_lt_of_cell? w _ h1
    refine ⟨A', n', c', (World.cell?_of_block (a := ⟨b, off + i, none⟩) (hg.block b hlt (by simp; omega))).trans h1, ?_, h3⟩
    by_cases hn' : 0 < n'
    · exact h2.off hg (fun b2 o2 e2 => by have := h3 hn' b2 o2 e2; omega)
    · exact ⟨h2.1, fun h => absurd h hn'⟩⟩
theorem SN.mono {w : World} {base base' : Nat} {A : Option Addr} {n : Nat} {rows : List (List Int)} (h : SN w base A n rows) (hb : base' ≤ base) : SN w base' A n rows :=
  ⟨h.1, fun hn => by
    obtain ⟨b, off, e, hb', hc⟩ := h.2 hn
    refine ⟨b, off, e, by omega, fun i hi => ?_⟩
    obtain ⟨A', n', c', h1, h2, h3⟩ := hc i hi
    exact ⟨A', n', c', h1, h2, fun hp b o e => by have := h3 hp b o e; omega⟩⟩

end Go.Proofs.Ytfjpnennbdefiaa
