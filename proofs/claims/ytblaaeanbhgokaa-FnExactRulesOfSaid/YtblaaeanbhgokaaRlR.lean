/-
  RlR. By a program (wip/tools/mk.py) out of snippets.
-/
import Derived.Test.YtblaaeanbhgokaaOV
import Derived.Test.YtblaaeanbhgokaaRF
import Derived.Test.YtblaaeanbhgokaaRb
namespace Go.Proofs.Ytblaaeanbhgokaa
open Go.RowKit

theorem RF.add {w : World} {lo hi : Nat} {vs : List Value} {rows : List (List Int)} (h : RF w lo hi vs rows) {v : Value} {zs : List Int} (hv : RowOk w lo hi v zs) (hn : ∀ i, i < rows.length → blk (vat vs i) ≠ blk v) : RF w lo hi (vs ++ [v]) (rows ++ [zs]) := by
  have hlen := h.len
  refine ⟨by simp [hlen], fun i hi => ?_, fun i j hij hj => ?_⟩
  · rw [List.length_append, List.length_singleton] at hi
    by_cases e : i < rows.length
    · rw [vat_lt (by omega), rat_lt e]
      exact h.ok i e
    · obtain rfl : i = rows.length := by omega
      rw [rat_last, ← hlen, vat_eq]
      exact hv
  · rw [List.length_append, List.length_singleton] at hj
    by_cases e : j < rows.length
    · rw [vat_lt (by omega), vat_lt (by omega)]
      exact h.ap i j hij e
    · obtain rfl : j = rows.length := by omega
      rw [vat_lt (by omega), ← hlen, vat_eq]
      exact hn i hij

/-- The blocks of a list of rows. -/
def InO (A : Option Addr) (a c : Nat) (vs : List Value) (b : Nat) : Prop := (Value.slice A a c).ownBlock = some b ∨ ∃ j, j < a ∧ blk (vat vs j) = some b
theorem OV.in_lt {w : World} {B : Nat} {A : Option Addr} {a c : Nat} {vs : List Value} {rows : List (List Int)} (h : OV w B A a c vs rows) {b : Nat} (hb : InO A a c vs b) : B ≤ b ∧ b < w.heap.size := by
  rcases hb with e | ⟨j, hj, e⟩
  · exact World.ownsRow.lt h.own b e
  · obtain ⟨b', e', h1, h2⟩ := (h.rf.ok j (by rw [h.len]; exact hj)).blk
    rw [e'] at e
    cases e
    exact ⟨h1, h2⟩
theorem OV.same {w w' : World} {B : Nat} {A : Option Addr} {a c : Nat} {vs : List Value} {rows : List (List Int)} (h : OV w B A a c vs rows) {r : Option Nat} (hg : w.grownBy w' r) (hr : ∀ b, r = some b → ¬ InO A a c vs b) : OV w' B A a c vs rows :=
  ⟨h.own.kept hg (by cases hv : (Value.slice A a c).ownBlock with
    | none => exact .inl rfl
    | some k => exact .inr (fun e => hr k e.symm (.inl hv))), (h.rf.same fun b h3 h4 ⟨i, hi, e⟩ => hg.block b h4 (fun e2 => hr b e2.symm (.inr ⟨i, by rw [← h.len]; exact hi, e⟩))).top hg.size, h.ob, Nat.le_trans h.le hg.size, h.len⟩
theorem OV.push2 {w w3 : World} {B : Nat} {A : Option Addr} {a c : Nat} {vs : List Value} {rows : List (List Int)} (h : OV w B A a c vs rows) {A1 : Option Addr} {n1 c1 r : Nat} {zs : List Int} (hr : blk (.slice A1 n1 c1) = some r) (hv : RowOk w B w.heap.size (.slice A1 n1 c1) zs) (hn : ¬ InO A a c vs r) {g c' : Nat} {t : TypeId}
    (hown : w3.ownsRow B 22 1 (.slice (some ⟨g, 0, none⟩) (a + 1) c') (a + 1) (vs ++ [.slice A1 n1 c1])) (hg : (w.alloc (.cells #[.slice A1 n1 c1] t)).grownBy w3 (Value.slice A a c).ownBlock) (hl : (Value.slice A a c).ownBlock = some g ∨ g = w.heap.size + 1) :
    OV w3 B (some ⟨g, 0, none⟩) (a + 1) c' (vs ++ [.slice A1 n1 c1]) (rows ++ [zs]) ∧ w.grownBy w3 (Value.slice A a c).ownBlock := by
  have hgw : w.grownBy w3 (Value.slice A a c).ownBlock := ⟨hg.os, hg.tape, hg.output, by have := hg.size; simp at this; omega, fun k hk hne => by rw [hg.block k (by simp; omega) hne, ((Below.refl w.heap.size w).alloc (Nat.le_refl _) _).block k hk]⟩
  have hlen := h.len
  have hvl := h.rf.len
  obtain ⟨r', er, hr1, hr2⟩ := hv.blk
  rw [hr] at er
  cases er
  have hRF : RF w B w.heap.size (vs ++ [.slice A1 n1 c1]) (rows ++ [zs]) := h.rf.add hv (fun i hi e => hn (.inr ⟨i, by rw [← h.len]; exact hi, by rw [e]; exact hr⟩))
  have hob : ∀ i, i < (rows ++ [zs]).length → blk (vat (vs ++ [.slice A1 n1 c1]) i) ≠ (Value.slice A a c).ownBlock ∧ ∃ b, blk (vat (vs ++ [.slice A1 n1 c1]) i) = some b ∧ b < w.heap.size := fun i hi => by
    obtain ⟨b, e, _, h2⟩ := (hRF.ok i hi).blk
    refine ⟨?_, b, e, h2⟩
    rw [List.length_append, List.length_singleton] at hi
    by_cases e2 : i < rows.length
    · rw [vat_lt (by omega)]
      exact h.ob i e2
    · obtain rfl : i = vs.length := by omega
      rw [vat_eq, hr]
      exact fun e3 => hn (.inl e3.symm)
  refine ⟨⟨hown, ⟨by simp [hvl], fun i hi => ?_, hRF.ap⟩, fun i hi => ?_, by have := h.le; have := hgw.size; omega, by simp [hlen]⟩, hgw⟩
  · obtain ⟨h1, b, e1, h2⟩ := hob i hi
    refine ((hRF.ok i hi).same fun b' e' => ?_).mono (Nat.le_refl _) hgw.size
    rw [e1] at e'
    cases e'
    exact hgw.block b h2 (by rw [← e1]; exact h1)
  · obtain ⟨h1, b, e1, h2⟩ := hob i hi
    rw [e1] at h1 ⊢
    show some b ≠ some g
    intro e
    cases e
    rcases hl with h3 | h3
    · exact h1 h3.symm
    · omega
theorem InO.push {A : Option Addr} {a c : Nat} {vs : List Value} {row : Value} {g c' b r : Nat} {G : Nat} (hvl : vs.length = a) (hr : blk row = some r) (hl : (Value.slice A a c).ownBlock = some g ∨ g = G) (h : InO (some ⟨g, 0, none⟩) (a + 1) c' (vs ++ [row]) b) : InO A a c vs b ∨ b = r ∨ b = G := by
  rcases h with e | ⟨j, hj, e⟩
  · have e : g = b := by injection e
    subst e
    rcases hl with h | h
    · exact .inl (.inl h)
    · exact .inr (.inr h)
  · by_cases h2 : j < a
    · rw [vat_lt (by omega)] at e
      exact .inl (.inr ⟨j, h2, e⟩)
    · have : j = vs.length := by omega
      rw [this, vat_eq, hr] at e
      cases e
      exact .inr (.inl rfl)

theorem Wn.past {lo hi : Nat} {V W W' : World} (h : Wn lo hi V W) {row : Option Nat} (hg : W.grownBy W' row) (hr : ∀ b, row = some b → V.heap.size ≤ b ∨ (lo ≤ b ∧ b < hi)) : Wn lo hi V W' :=
  ⟨hg.os.trans h.os, hg.tape.trans h.tape, hg.output.trans h.output, Nat.le_trans h.size hg.size, fun i hi' ho => (hg.block i (Nat.lt_of_lt_of_le hi' h.size) (fun e => by have := hr i e.symm; omega)).trans (h.block i hi' ho)⟩
/-- The rules as far as they are made: the box s7 of the struct; both lists of rows. -/
structure RR (V : World) (s7 g n : Nat) (F G : List (List Int)) (W : World) (i : Nat) (A1 : Option Addr) (c1 : Nat) (vs1 : List Value) (j : Nat) (A2 : Option Addr) (c2 : Nat) (vs2 : List Value) : Prop where
  k0 : W.cell? ⟨s7, 0, none⟩ = some (.slice (some ⟨g, 0, none⟩) n n)
  k1 : W.cell? ⟨s7, 1, none⟩ = some (.slice A1 i c1)
  k2 : W.cell? ⟨s7, 2, none⟩ = some (.slice A2 j c2)
  f0 : W.frozen? ⟨s7, 0, none⟩ = false
  f1 : W.frozen? ⟨s7, 1, none⟩ = false
  f2 : W.frozen? ⟨s7, 2, none⟩ = false
  o1 : OV W V.heap.size A1 i c1 vs1 (F.take i)
  o2 : OV W V.heap.size A2 j c2 vs2 (G.take j)
  dj : ∀ b, InO A1 i c1 vs1 b → ¬ InO A2 j c2 vs2 b
  lt : s7 < V.heap.size
  wn : Wn s7 (s7 + 1) V W
theorem RR.later {V : World} {s7 g n : Nat} {F G : List (List Int)} {W W' : World} {i : Nat} {A1 : Option Addr} {c1 : Nat} {vs1 : List Value} {j : Nat} {A2 : Option Addr} {c2 : Nat} {vs2 : List Value} (h : RR V s7 g n F G W i A1 c1 vs1 j A2 c2 vs2) (hb : Below W.heap.size W W') : RR V s7 g n F G W' i A1 c1 vs1 j A2 c2 vs2 :=
  have hlt : s7 < W.heap.size := World.block_lt_of_cell? W _ h.k0
  ⟨(hb.cell (p := ⟨s7, 0, none⟩) hlt).trans h.k0, (hb.cell (p := ⟨s7, 1, none⟩) hlt).trans h.k1, (hb.cell (p := ⟨s7, 2, none⟩) hlt).trans h.k2, (hb.frozen (p := ⟨s7, 0, none⟩) hlt).trans h.f0, (hb.frozen (p := ⟨s7, 1, none⟩) hlt).trans h.f1, (hb.frozen (p := ⟨s7, 2, none⟩) hlt).trans h.f2, h.o1.later hb, h.o2.later hb, h.dj, h.lt, h.wn.past (row := none) ⟨hb.os, hb.tape, hb.output, hb.size, fun k hk _ => hb.block k hk⟩ (fun b e => by cases e)⟩
theorem RR.lt7 {V : World} {s7 g n : Nat} {F G : List (List Int)} {W : World} {i : Nat} {A1 : Option Addr} {c1 : Nat} {vs1 : List Value} {j : Nat} {A2 : Option Addr} {c2 : Nat} {vs2 : List Value} (h : RR V s7 g n F G W i A1 c1 vs1 j A2 c2 vs2) : s7 < W.heap.size := World.block_lt_of_cell? W _ h.k0
/-- Behind the append to the first list, and the store. -/
theorem RR.push1 {V : World} {s7 g n : Nat} {F G : List (List Int)} {W w4 : World} {i : Nat} {A1 : Option Addr} {c1 : Nat} {vs1 : List Value} {j : Nat} {A2 : Option Addr} {c2 : Nat} {vs2 : List Value} (h : RR V s7 g n F G W i A1 c1 vs1 j A2 c2 vs2) {r k e1 : Nat} {row : List Int} (hF : F.take (i + 1) = F.take i ++ [row])
    (hv : RowOk W V.heap.size W.heap.size (.slice (some ⟨r, 0, none⟩) k e1) row) (hn1 : ¬ InO A1 i c1 vs1 r) (hn2 : ¬ InO A2 j c2 vs2 r) {b c' : Nat} {t : TypeId}
    (hown : w4.ownsRow V.heap.size 22 1 (.slice (some ⟨b, 0, none⟩) (i + 1) c') (i + 1) (vs1 ++ [.slice (some ⟨r, 0, none⟩) k e1])) (hg : (W.alloc (.cells #[.slice (some ⟨r, 0, none⟩) k e1] t)).grownBy w4 (Value.slice A1 i c1).ownBlock) (hl : (Value.slice A1 i c1).ownBlock = some b ∨ b = W.heap.size + 1) :
    RR V s7 g n F G (w4.setCell ⟨s7, 1, none⟩ (.slice (some ⟨b, 0, none⟩) (i + 1) c')) (i + 1) (some ⟨b, 0, none⟩) c' (vs1 ++ [.slice (some ⟨r, 0, none⟩) k e1]) j A2 c2 vs2 ∧ w4.cell? ⟨s7, 1, none⟩ = some (.slice A1 i c1) ∧ w4.frozen? ⟨s7, 1, none⟩ = false ∧
      W.grownBy w4 (Value.slice A1 i c1).ownBlock := by
  obtain ⟨o4, hgw⟩ := h.o1.push2 rfl hv hn1 hown hg hl
  have h7 := h.lt7
  have hs7 : (Value.slice A1 i c1).ownBlock ≠ some s7 := fun e => by have := (h.o1.in_lt (.inl e)).1; have := h.lt; omega
  have k7 : w4.heap[s7]? = W.heap[s7]? := hgw.block s7 h7 (fun e => hs7 e.symm)
  have d0 := (World.cell?_of_block (a := ⟨s7, 0, none⟩) k7).trans h.k0
  have d1 := (World.cell?_of_block (a := ⟨s7, 1, none⟩) k7).trans h.k1
  have d2 := (World.cell?_of_block (a := ⟨s7, 2, none⟩) k7).trans h.k2
  have e0 := (World.frozen?_of_block (a := ⟨s7, 0, none⟩) k7).trans h.f0
  have e1' := (World.frozen?_of_block (a := ⟨s7, 1, none⟩) k7).trans h.f1
  have e2 := (World.frozen?_of_block (a := ⟨s7, 2, none⟩) k7).trans h.f2
  have o24 : OV w4 V.heap.size A2 j c2 vs2 (G.take j) := h.o2.same hgw (fun b' e hb' => h.dj b' (.inl e) hb')
  refine ⟨⟨(World.cell?_setCell_other _ _ _ _ (by simp)).trans d0, World.cell?_setCell_same _ _ _ d1, (World.cell?_setCell_other _ _ _ _ (by simp)).trans d2, by rw [World.frozen?_setCell]; exact e0, by rw [World.frozen?_setCell]; exact e1', by rw [World.frozen?_setCell]; exact e2, by rw [hF]; exact o4.set (p := ⟨s7, 1, none⟩) h.lt _, o24.set (p := ⟨s7, 1, none⟩) h.lt _, fun b' hb' hb2 => ?_, h.lt, (h.wn.past hgw (fun b' e => .inl (h.o1.in_lt (.inl e)).1)).past (row := some s7) ⟨rfl, rfl, rfl, by simp, fun k' _ hne => Below.heap_setCell _ _ _ _ (by intro e; exact hne (by rw [e]))⟩ (fun b' e => by cases e; omega)⟩, d1, e1', hgw⟩
  · have hvl : vs1.length = i := by rw [h.o1.rf.len, h.o1.len]
    rcases InO.push hvl rfl hl hb' with h1 | h1 | h1
    · exact h.dj b' h1 hb2
    · subst h1; exact hn2 hb2
    · have := (h.o2.in_lt hb2).2; omega
/-- Behind the append to the second list, and the store. -/
theorem RR.push2 {V : World} {s7 g n : Nat} {F G : List (List Int)} {W w4 : World} {i : Nat} {A1 : Option Addr} {c1 : Nat} {vs1 : List Value} {j : Nat} {A2 : Option Addr} {c2 : Nat} {vs2 : List Value} (h : RR V s7 g n F G W i A1 c1 vs1 j A2 c2 vs2) {r k e1 : Nat} {row : List Int} (hG : G.take (j + 1) = G.take j ++ [row])
    (hv : RowOk W V.heap.size W.heap.size (.slice (some ⟨r, 0, none⟩) k e1) row) (hn1 : ¬ InO A1 i c1 vs1 r) (hn2 : ¬ InO A2 j c2 vs2 r) {b c' : Nat} {t : TypeId}
    (hown : w4.ownsRow V.heap.size 22 1 (.slice (some ⟨b, 0, none⟩) (j + 1) c') (j + 1) (vs2 ++ [.slice (some ⟨r, 0, none⟩) k e1])) (hg : (W.alloc (.cells #[.slice (some ⟨r, 0, none⟩) k e1] t)).grownBy w4 (Value.slice A2 j c2).ownBlock) (hl : (Value.slice A2 j c2).ownBlock = some b ∨ b = W.heap.size + 1) :
    RR V s7 g n F G (w4.setCell ⟨s7, 2, none⟩ (.slice (some ⟨b, 0, none⟩) (j + 1) c')) i A1 c1 vs1 (j + 1) (some ⟨b, 0, none⟩) c' (vs2 ++ [.slice (some ⟨r, 0, none⟩) k e1]) ∧ w4.cell? ⟨s7, 2, none⟩ = some (.slice A2 j c2) ∧ w4.frozen? ⟨s7, 2, none⟩ = false := by
  obtain ⟨o4, hgw⟩ := h.o2.push2 rfl hv hn2 hown hg hl
  have h7 := h.lt7
  have hs7 : (Value.slice A2 j c2).ownBlock ≠ some s7 := fun e => by have := (h.o2.in_lt (.inl e)).1; have := h.lt; omega
  have k7 : w4.heap[s7]? = W.heap[s7]? := hgw.block s7 h7 (fun e => hs7 e.symm)
  have d0 := (World.cell?_of_block (a := ⟨s7, 0, none⟩) k7).trans h.k0
  have d1 := (World.cell?_of_block (a := ⟨s7, 1, none⟩) k7).trans h.k1
  have d2 := (World.cell?_of_block (a := ⟨s7, 2, none⟩) k7).trans h.k2
  have e0 := (World.frozen?_of_block (a := ⟨s7, 0, none⟩) k7).trans h.f0
  have e1' := (World.frozen?_of_block (a := ⟨s7, 1, none⟩) k7).trans h.f1
  have e2 := (World.frozen?_of_block (a := ⟨s7, 2, none⟩) k7).trans h.f2
  have o14 : OV w4 V.heap.size A1 i c1 vs1 (F.take i) := h.o1.same hgw (fun b' e hb' => h.dj b' hb' (.inl e))
  refine ⟨⟨(World.cell?_setCell_other _ _ _ _ (by simp)).trans d0, (World.cell?_setCell_other _ _ _ _ (by simp)).trans d1, World.cell?_setCell_same _ _ _ d2, by rw [World.frozen?_setCell]; exact e0, by rw [World.frozen?_setCell]; exact e1', by rw [World.frozen?_setCell]; exact e2, o14.set (p := ⟨s7, 2, none⟩) h.lt _, by rw [hG]; exact o4.set (p := ⟨s7, 2, none⟩) h.lt _, fun b' hb' hb2 => ?_, h.lt, (h.wn.past hgw (fun b' e => .inl (h.o2.in_lt (.inl e)).1)).past (row := some s7) ⟨rfl, rfl, rfl, by simp, fun k' _ hne => Below.heap_setCell _ _ _ _ (by intro e; exact hne (by rw [e]))⟩ (fun b' e => by cases e; omega)⟩, d2, e2⟩
  have hvl : vs2.length = j := by rw [h.o2.rf.len, h.o2.len]
  rcases InO.push hvl rfl hl hb2 with h1 | h1 | h1
  · exact h.dj b' hb' h1
  · subst h1; exact hn1 hb'
  · have := (h.o1.in_lt hb').2; omega
theorem blk_row {r k e : Nat} {w : World} {lo hi : Nat} {zs : List Int} (h : RowOk w lo hi (.slice (some ⟨r, 0, none⟩) k e) zs) : lo ≤ r ∧ r < hi := by
  obtain ⟨b, e', h1, h2⟩ := h.blk
  cases e'
  exact ⟨h1, h2⟩
/-- The append to the first list and the store, and what the second append wants. -/
theorem RR.mid {V : World} {s7 g n : Nat} {F G : List (List Int)} {W0 W : World} {i : Nat} {A1 : Option Addr} {c1 : Nat} {vs1 : List Value} {j : Nat} {A2 : Option Addr} {c2 : Nat} {vs2 : List Value} (h0 : RR V s7 g n F G W0 i A1 c1 vs1 j A2 c2 vs2) (hb : Below W0.heap.size W0 W) {r1 r2 k e1 k2 e2 : Nat} {row1 row2 : List Int} (hF : F.take (i + 1) = F.take i ++ [row1])
    (hv1 : RowOk W W0.heap.size W.heap.size (.slice (some ⟨r1, 0, none⟩) k e1) row1) (hv2 : RowOk W W0.heap.size W.heap.size (.slice (some ⟨r2, 0, none⟩) k2 e2) row2) (hne : r1 ≠ r2) (w4 : World) (b c' : Nat)
    (hown : w4.ownsRow V.heap.size 22 1 (.slice (some ⟨b, 0, none⟩) (i + 1) c') (i + 1) (vs1 ++ [.slice (some ⟨r1, 0, none⟩) k e1])) (hg : (W.alloc (.cells #[.slice (some ⟨r1, 0, none⟩) k e1] 22)).grownBy w4 (Value.slice A1 i c1).ownBlock) (hl : (Value.slice A1 i c1).ownBlock = some b ∨ b = W.heap.size + 1) :
    RR V s7 g n F G (w4.setCell ⟨s7, 1, none⟩ (.slice (some ⟨b, 0, none⟩) (i + 1) c')) (i + 1) (some ⟨b, 0, none⟩) c' (vs1 ++ [.slice (some ⟨r1, 0, none⟩) k e1]) j A2 c2 vs2 ∧ (w4.cell? ⟨s7, 1, none⟩ = some (.slice A1 i c1) ∧ w4.frozen? ⟨s7, 1, none⟩ = false ∧ w4.cell? ⟨s7, 2, none⟩ = some (.slice A2 j c2)) ∧
      RowOk (w4.setCell ⟨s7, 1, none⟩ (.slice (some ⟨b, 0, none⟩) (i + 1) c')) V.heap.size (w4.setCell ⟨s7, 1, none⟩ (.slice (some ⟨b, 0, none⟩) (i + 1) c')).heap.size (.slice (some ⟨r2, 0, none⟩) k2 e2) row2 ∧ ¬ InO (some ⟨b, 0, none⟩) (i + 1) c' (vs1 ++ [.slice (some ⟨r1, 0, none⟩) k e1]) r2 ∧ ¬ InO A2 j c2 vs2 r2 ∧ V.heap.size ≤ (w4.setCell ⟨s7, 1, none⟩ (.slice (some ⟨b, 0, none⟩) (i + 1) c')).heap.size := by
  have hW := h0.later hb
  have hle := h0.o1.le
  have hr1 := blk_row hv1
  have hr2 := blk_row hv2
  have n11 : ¬ InO A1 i c1 vs1 r1 := fun h => by have := (h0.o1.in_lt h).2; omega
  have n12 : ¬ InO A2 j c2 vs2 r1 := fun h => by have := (h0.o2.in_lt h).2; omega
  have n21 : ¬ InO A1 i c1 vs1 r2 := fun h => by have := (h0.o1.in_lt h).2; omega
  have n22 : ¬ InO A2 j c2 vs2 r2 := fun h => by have := (h0.o2.in_lt h).2; omega
  obtain ⟨hR, d1, e1', hgw⟩ := hW.push1 hF (hv1.mono hle (Nat.le_refl _)) n11 n12 hown hg hl
  have h7 := h0.lt7
  have hvl : vs1.length = i := by rw [h0.o1.rf.len, h0.o1.len]
  refine ⟨hR, ⟨d1, e1', (World.cell?_setCell_other _ _ _ _ (by simp)).symm.trans hR.k2⟩, ?_, fun h => ?_, n22, hR.o1.le⟩
  · have hsz := hgw.size
    refine ((hv2.mono hle (Nat.le_refl _)).same fun b' e => ?_).mono (Nat.le_refl _) (by simpa using hsz)
    have e : r2 = b' := by injection e
    subst e
    rw [Below.heap_setCell _ _ _ _ (by show r2 ≠ s7; omega)]
    exact hgw.block r2 hr2.2 (fun e => n21 (.inl e.symm))
  · rcases InO.push hvl rfl hl h with h1 | h1 | h1
    · exact n21 h1
    · exact hne h1.symm
    · omega
theorem OV.fh2 {w w' : World} {B b a c : Nat} {vs : List Value} {rows : List (List Int)} (h : OV w B (some ⟨b, 0, none⟩) a c vs rows) (hs : w.heap.size ≤ w'.heap.size) (hk : ∀ k, B ≤ k → k < w.heap.size → w'.heap[k]? = w.heap[k]?) : FH w' B w'.heap.size b a vs rows := by
  have hlt := World.ownsRow.lt h.own b rfl
  have hl := h.own.1
  refine ⟨h.len, Nat.le_refl _, Nat.lt_of_lt_of_le hlt.2 hs, fun i hi => ?_, fun i hi => h.ob i (by rw [h.len]; exact hi), (h.rf.same fun k h1 h2 _ => hk k h1 h2).top hs⟩
  rw [World.cell?_of_block (a := ⟨b, i, none⟩) (hk b hlt.1 hlt.2), World.ownsRow.cellAt h.own i (by omega)]
  have : i < vs.length := by omega
  simp [vat, List.getD_eq_getElem?_getD, this]
theorem two_cell {w : World} {s : Nat} {x y z p q : Value} (h0 : w.cell? ⟨s, 0, none⟩ = some x) (h1 : w.cell? ⟨s, 1, none⟩ = some y) (h2 : w.cell? ⟨s, 2, none⟩ = some z) :
    ((w.setCell ⟨s, 1, none⟩ p).setCell ⟨s, 2, none⟩ q).drew.cell? ⟨s, 0, none⟩ = some x ∧ ((w.setCell ⟨s, 1, none⟩ p).setCell ⟨s, 2, none⟩ q).drew.cell? ⟨s, 1, none⟩ = some p ∧ ((w.setCell ⟨s, 1, none⟩ p).setCell ⟨s, 2, none⟩ q).drew.cell? ⟨s, 2, none⟩ = some q ∧ w.grownBy ((w.setCell ⟨s, 1, none⟩ p).setCell ⟨s, 2, none⟩ q).drew (some s) := by
  refine ⟨(World.cell?_setCell_other _ _ _ _ (by simp)).trans ((World.cell?_setCell_other _ _ _ _ (by simp)).trans h0), (World.cell?_setCell_other _ _ _ _ (by simp)).trans (World.cell?_setCell_same _ _ _ h1), World.cell?_setCell_same _ _ _ ((World.cell?_setCell_other _ _ _ _ (by simp)).trans h2), rfl, rfl, rfl, ?_, fun k _ hne => ?_⟩
  · show w.heap.size ≤ ((w.setCell ⟨s, 1, none⟩ p).setCell ⟨s, 2, none⟩ q).heap.size
    simp
  · have hk : k ≠ s := fun e => hne (by rw [e])
    exact (Below.heap_setCell _ _ _ _ hk).trans (Below.heap_setCell _ _ _ _ hk)

end Go.Proofs.Ytblaaeanbhgokaa
