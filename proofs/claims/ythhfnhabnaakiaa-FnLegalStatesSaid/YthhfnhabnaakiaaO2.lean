/-
  O2. By a program (wip/tools/mk.py) out of snippets.
-/
import Derived.Test.YthhfnhabnaakiaaRb
import Derived.Test.YthhfnhabnaakiaaOV
namespace Go.Proofs.Ythhfnhabnaakiaa
open Go.RowKit

/-- Rows of the call's own (from the block L on), and the list of them (from the block B on). -/
structure O2 (w : World) (B L : Nat) (A : Option Addr) (a c : Nat) (vs : List Value) (rows : List (List Int)) : Prop where
  own : w.ownsRow B 23 1 (.slice A a c) a vs
  rf : RF w L w.heap.size vs rows
  ob : ∀ i, i < rows.length → blk (vat vs i) ≠ (Value.slice A a c).ownBlock
  bl : B ≤ L
  le : L ≤ w.heap.size
  len : rows.length = a
theorem O2.nil (w : World) (B L : Nat) (hB : B ≤ L) (hL : L ≤ w.heap.size) : O2 w B L none 0 0 [] [] := ⟨⟨rfl, .inl ⟨rfl, rfl⟩⟩, RF.nil _ _ _, fun i hi => absurd hi (by simp), hB, hL, rfl⟩
theorem O2.made (w : World) (B L g c : Nat) (hB : B ≤ L) (hL : L ≤ w.heap.size) (h : w.ownsRow B 23 1 (.slice (some ⟨g, 0, none⟩) 0 c) 0 []) : O2 w B L (some ⟨g, 0, none⟩) 0 c [] [] := ⟨h, RF.nil _ _ _, fun i hi => absurd hi (by simp), hB, hL, rfl⟩
theorem O2.later {w w' : World} {B L : Nat} {A : Option Addr} {a c : Nat} {vs : List Value} {rows : List (List Int)} (h : O2 w B L A a c vs rows) (hb : Below w.heap.size w w') : O2 w' B L A a c vs rows :=
  ⟨h.own.kept (row := none) ⟨hb.os, hb.tape, hb.output, hb.size, fun i hi _ => hb.block i hi⟩ (by cases hv : (Value.slice A a c).ownBlock with
    | none => exact .inl rfl
    | some k => exact .inr (by simp)), (h.rf.below hb (Nat.le_refl _)).top hb.size, h.ob, h.bl, Nat.le_trans h.le hb.size, h.len⟩
theorem O2.set {w : World} {B L : Nat} {A : Option Addr} {a c : Nat} {vs : List Value} {rows : List (List Int)} (h : O2 w B L A a c vs rows) {p : Addr} (hp : p.block < L) (hn : ∀ b, (Value.slice A a c).ownBlock = some b → b ≠ p.block) (v : Value) : O2 (w.setCell p v) B L A a c vs rows := by
  have hg : w.grownBy (w.setCell p v) (some p.block) := ⟨rfl, rfl, rfl, by simp, fun k _ hne => Below.heap_setCell _ _ _ _ (by simpa using hne)⟩
  refine ⟨h.own.kept hg ?_, ?_, h.ob, h.bl, by simpa using h.le, h.len⟩
  · cases hv : (Value.slice A a c).ownBlock with
    | none => exact .inl rfl
    | some k => right; have := hn k hv; simp; omega
  · have := h.rf.same (w' := w.setCell p v) fun b h1 _ _ => Below.heap_setCell _ _ _ _ (by omega)
    simpa using this
theorem O2.push {w w2 w3 : World} {B L : Nat} {A : Option Addr} {a c : Nat} {vs : List Value} {rows : List (List Int)} (h : O2 w B L A a c vs rows) (hb : Below w.heap.size w w2) {A1 : Option Addr} {n1 c1 : Nat} {zs : List Int} (hv : RowOk w2 w.heap.size w2.heap.size (.slice A1 n1 c1) zs) {g c' : Nat} {t : TypeId}
    (hown : w3.ownsRow B 23 1 (.slice (some ⟨g, 0, none⟩) (a + 1) c') (a + 1) (vs ++ [.slice A1 n1 c1])) (hg : (w2.alloc (.cells #[.slice A1 n1 c1] t)).grownBy w3 (Value.slice A a c).ownBlock) (hl : (Value.slice A a c).ownBlock = some g ∨ g = w2.heap.size + 1) :
    O2 w3 B L (some ⟨g, 0, none⟩) (a + 1) c' (vs ++ [.slice A1 n1 c1]) (rows ++ [zs]) ∧ Below B w w3 := by
  have hold := World.ownsRow.lt h.own
  have hs2 := hb.size
  have hs3 : w2.heap.size + 1 ≤ w3.heap.size := by have := hg.size; simpa using this
  have hlen := h.len
  have hRF2 : RF w2 L w2.heap.size (vs ++ [.slice A1 n1 c1]) (rows ++ [zs]) := (h.rf.below hb (Nat.le_refl _)).push hv h.le hs2
  have hvb : ∀ i, i < rows.length → ∃ b, blk (vat vs i) = some b ∧ b < w.heap.size := fun i hi => by
    obtain ⟨b, e, _, h2⟩ := (h.rf.ok i hi).blk
    exact ⟨b, e, h2⟩
  obtain ⟨bv, ebv, hv1, hv2⟩ := hv.blk
  have hvl := h.rf.len
  have hob : ∀ i, i < (rows ++ [zs]).length → blk (vat (vs ++ [.slice A1 n1 c1]) i) ≠ (Value.slice A a c).ownBlock ∧ ∃ b, blk (vat (vs ++ [.slice A1 n1 c1]) i) = some b ∧ b < w2.heap.size := fun i hi => by
    rw [List.length_append, List.length_singleton] at hi
    by_cases e : i < rows.length
    · rw [vat_lt (by omega)]
      obtain ⟨b, e1, h1⟩ := hvb i e
      exact ⟨h.ob i e, b, e1, by omega⟩
    · obtain rfl : i = vs.length := by omega
      rw [vat_eq]
      exact ⟨fun e1 => by rw [ebv] at e1; have := hold bv e1.symm; omega, bv, ebv, hv2⟩
  have hblk : ∀ b, b < w2.heap.size → some b ≠ (Value.slice A a c).ownBlock → w3.heap[b]? = w2.heap[b]? := fun b h1 h2 => by
    rw [hg.block b (by simp; omega) h2, ((Below.refl w2.heap.size w2).alloc (Nat.le_refl _) _).block b h1]
  refine ⟨⟨hown, ⟨by simp [hvl], fun i hi => ?_, hRF2.ap⟩, fun i hi => ?_, h.bl, by have := h.le; omega, by simp [hlen]⟩, ?_⟩
  · obtain ⟨h1, b, e1, h2⟩ := hob i hi
    refine ((hRF2.ok i hi).same fun b' e' => ?_).mono (Nat.le_refl _) (by omega)
    rw [e1] at e'
    cases e'
    exact hblk b h2 (by rw [← e1]; exact h1)
  · obtain ⟨h1, b, e1, h2⟩ := hob i hi
    rw [e1] at h1 ⊢
    show some b ≠ some g
    intro e
    cases e
    rcases hl with h3 | h3
    · exact h1 h3.symm
    · omega
  · have hbl := h.bl
    refine ((hb.mono (Nat.le_trans h.bl h.le)).trans ((Below.refl B w2).alloc (by have := h.le; omega) _)).grown hg (by have := h.le; simp; omega) fun k hk => (hold k hk).1
theorem O2.fh {w : World} {B L b : Nat} {a c : Nat} {vs : List Value} {rows : List (List Int)} (h : O2 w B L (some ⟨b, 0, none⟩) a c vs rows) : FH w L w.heap.size b a vs rows := by
  have hlt := World.ownsRow.lt h.own b rfl
  have hl := h.own.1
  refine ⟨h.len, Nat.le_refl _, hlt.2, fun i hi => ?_, fun i hi => h.ob i (by rw [h.len]; exact hi), h.rf⟩
  rw [World.ownsRow.cellAt h.own i (by omega)]
  have : i < vs.length := by omega
  simp [vat, List.getD_eq_getElem?_getD, this]

end Go.Proofs.Ythhfnhabnaakiaa
