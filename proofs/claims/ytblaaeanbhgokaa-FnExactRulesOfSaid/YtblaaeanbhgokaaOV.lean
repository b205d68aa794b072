/-
  OV. By a program (wip/tools/mk.py) out of snippets.
-/
import Derived.Test.YtblaaeanbhgokaaRF
namespace Go.Proofs.Ytblaaeanbhgokaa
open Go.RowKit

/-- 'append(rows, row)'. -/
theorem appV {ops : Array Oper} {rest : List Oper} {o : Oper} {a : Act} {Q : Exit → Act → World → Prop} (w : World) (base : Nat) (A : Option Addr) (n c : Nat) (vs : List Value) (A1 : Option Addr) (n1 c1 : Nat) (hgd : o.guard = none) (s y : Operand)
    (ho : o.op = .call { callee := .builtin .append, args := #[s, y], argTypes := #[35, 35] }) (hs : a.eval s = .slice A n c) (hown : w.ownsRow base 22 1 (.slice A n c) n vs)
    (hy : a.eval y = .slice (some ⟨w.heap.size, 0, none⟩) 1 1) (hn : n ≤ 100000000) (hbase : base ≤ w.heap.size)
    (h : ∀ g c' w', w'.ownsRow base 22 1 (.slice (some ⟨g, 0, none⟩) (n + 1) c') (n + 1) (vs ++ [.slice A1 n1 c1]) → (w.alloc (.cells #[.slice A1 n1 c1] 22)).grownBy w' (Value.slice A n c).ownBlock → ((Value.slice A n c).ownBlock = some g ∨ g = w.heap.size + 1) → wpList Try.prog ops Q rest (a.put o.dst (.slice (some ⟨g, 0, none⟩) (n + 1) c')) w') :
    wpList Try.prog ops Q (o :: rest) a (w.alloc (.cells #[.slice A1 n1 c1] 22)) := by
  obtain ⟨i0, hi, hz0, hz1, hz2⟩ := info_parts info22
  refine wpList_append_lies _ hgd s y 35 ho base 22 i0 (.slice none 0 0) 1 24 Try.underlying35 hi hz0 hz1 hz2 rfl (by decide) _ n _ hs (hown.alloc _) ⟨w.heap.size, 0, none⟩ 1 1 [.slice A1 n1 c1] hy rfl (fun j u hu => ?_) (by intro u hu; simp at hu; subst hu; rfl) (by omega) (by unfold maxLen; omega) (by omega) (by simp; omega) (w.heap.size + 1) (by simp) ?_
  · rw [Addr.add_lit, Nat.zero_add, World.cell?_alloc_at _ _ _ _ rfl]
    simpa using hu
  intro g cap w' hown' hg hl _
  exact h _ _ _ hown' hg hl
/-- Rows of the call's own, and the list of them. -/
structure OV (w : World) (B : Nat) (A : Option Addr) (a c : Nat) (vs : List Value) (rows : List (List Int)) : Prop where
  own : w.ownsRow B 22 1 (.slice A a c) a vs
  rf : RF w B w.heap.size vs rows
  ob : ∀ i, i < rows.length → blk (vat vs i) ≠ (Value.slice A a c).ownBlock
  le : B ≤ w.heap.size
  len : rows.length = a
theorem OV.nil (w : World) (B : Nat) (hB : B ≤ w.heap.size) : OV w B none 0 0 [] [] := ⟨⟨rfl, .inl ⟨rfl, rfl⟩⟩, RF.nil _ _ _, fun i hi => absurd hi (by simp), hB, rfl⟩
theorem OV.made (w : World) (B g c : Nat) (hB : B ≤ w.heap.size) (h : w.ownsRow B 22 1 (.slice (some ⟨g, 0, none⟩) 0 c) 0 []) : OV w B (some ⟨g, 0, none⟩) 0 c [] [] := ⟨h, RF.nil _ _ _, fun i hi => absurd hi (by simp), hB, rfl⟩
theorem RF.top {w : World} {lo hi hi' : Nat} {vs : List Value} {rows : List (List Int)} (h : RF w lo hi vs rows) (hh : hi ≤ hi') : RF w lo hi' vs rows := ⟨h.len, fun i hi => (h.ok i hi).mono (Nat.le_refl _) hh, h.ap⟩
theorem OV.later {w w' : World} {B : Nat} {A : Option Addr} {a c : Nat} {vs : List Value} {rows : List (List Int)} (h : OV w B A a c vs rows) (hb : Below w.heap.size w w') : OV w' B A a c vs rows :=
  ⟨h.own.kept (row := none) ⟨hb.os, hb.tape, hb.output, hb.size, fun i hi _ => hb.block i hi⟩ (by cases hv : (Value.slice A a c).ownBlock with
    | none => exact .inl rfl
    | some k => exact .inr (by simp)), (h.rf.below hb (Nat.le_refl _)).top hb.size, h.ob, Nat.le_trans h.le hb.size, h.len⟩
theorem OV.set {w : World} {B : Nat} {A : Option Addr} {a c : Nat} {vs : List Value} {rows : List (List Int)} (h : OV w B A a c vs rows) {p : Addr} (hp : p.block < B) (v : Value) : OV (w.setCell p v) B A a c vs rows := by
  have hg : w.grownBy (w.setCell p v) (some p.block) := ⟨rfl, rfl, rfl, by simp, fun k _ hne => Below.heap_setCell _ _ _ _ (by simpa using hne)⟩
  refine ⟨h.own.kept hg ?_, ?_, h.ob, by simpa using h.le, h.len⟩
  · cases hv : (Value.slice A a c).ownBlock with
    | none => exact .inl rfl
    | some k => right; have := World.ownsRow.lt h.own k hv; simp; omega
  · have := h.rf.same (w' := w.setCell p v) fun b h1 _ _ => Below.heap_setCell _ _ _ _ (by omega)
    simpa using this
theorem OV.push {w w2 w3 : World} {B : Nat} {A : Option Addr} {a c : Nat} {vs : List Value} {rows : List (List Int)} (h : OV w B A a c vs rows) (hb : Below w.heap.size w w2) {A1 : Option Addr} {n1 c1 : Nat} {zs : List Int} (hv : RowOk w2 w.heap.size w2.heap.size (.slice A1 n1 c1) zs) {g c' : Nat} {t : TypeId}
    (hown : w3.ownsRow B 22 1 (.slice (some ⟨g, 0, none⟩) (a + 1) c') (a + 1) (vs ++ [.slice A1 n1 c1])) (hg : (w2.alloc (.cells #[.slice A1 n1 c1] t)).grownBy w3 (Value.slice A a c).ownBlock) (hl : (Value.slice A a c).ownBlock = some g ∨ g = w2.heap.size + 1) :
    OV w3 B (some ⟨g, 0, none⟩) (a + 1) c' (vs ++ [.slice A1 n1 c1]) (rows ++ [zs]) ∧ Below B w w3 := by
  have hold := World.ownsRow.lt h.own
  have hs2 := hb.size
  have hs3 : w2.heap.size + 1 ≤ w3.heap.size := by have := hg.size; simpa using this
  have hlen := h.len
  have hRF2 : RF w2 B w2.heap.size (vs ++ [.slice A1 n1 c1]) (rows ++ [zs]) := (h.rf.below hb (Nat.le_refl _)).push hv h.le hs2
  have hvb : ∀ i, i < rows.length → ∃ b, blk (vat vs i) = some b ∧ b < w.heap.size := fun i hi => by
    obtain ⟨b, e, _, h2⟩ := (h.rf.ok i hi).blk
    exact ⟨b, e, h2⟩
  obtain ⟨bv, ebv, hv1, hv2⟩ := hv.blk
  have hvl := h.rf.len
  have hob : ∀ i, i < (rows ++ [zs]).length → blk (vat (vs ++ [.slice A1 n1 c1]) i) ≠ (Value.slice A a c).ownBlock ∧ ∃ b, blk (vat (vs ++ [.slice A1 n1 c1]) i) = some b ∧ b < w2.heap.size := fun i hi => by
    rw [List.length_append, List.length_singleton] at hi
    by_cases e : i < rows.length
    · rw [vat_lt (by omega)]
      obtain ⟨b, e1, h1⟩ := hvb i e
      exact ⟨h.ob i e, b, e1, by omega⟩
    · obtain rfl : i = vs.length := by omega
      rw [vat_eq]
      exact ⟨fun e1 => by rw [ebv] at e1; have := hold bv e1.symm; omega, bv, ebv, hv2⟩
  have hblk : ∀ b, b < w2.heap.size → some b ≠ (Value.slice A a c).ownBlock → w3.heap[b]? = w2.heap[b]? := fun b h1 h2 => by
    rw [hg.block b (by simp; omega) h2, ((Below.refl w2.heap.size w2).alloc (Nat.le_refl _) _).block b h1]
  refine ⟨⟨hown, ⟨by simp [hvl], fun i hi => ?_, hRF2.ap⟩, fun i hi => ?_, by have := h.le; omega, by simp [hlen]⟩, ?_⟩
  · obtain ⟨h1, b, e1, h2⟩ := hob i hi
    refine ((hRF2.ok i hi).same fun b' e' => ?_).mono (Nat.le_refl _) (by omega)
    rw [e1] at e'
    cases e'
    exact hblk b h2 (by rw [← e1]; exact h1)
  · obtain ⟨h1, b, e1, h2⟩ := hob i hi
    rw [e1] at h1 ⊢
    show some b ≠ some g
    intro e
    cases e
    rcases hl with h3 | h3
    · exact h1 h3.symm
    · omega
  · refine ((hb.mono h.le).trans ((Below.refl B w2).alloc (by have := h.le; omega) _)).grown hg (by have := h.le; simp; omega) fun k hk => (hold k hk).1
theorem OV.fr {w : World} {B : Nat} {A : Option Addr} {a c : Nat} {vs : List Value} {rows : List (List Int)} (h : OV w B A a c vs rows) : FR w B w.heap.size A a rows :=
  ⟨h.len, h.le, Nat.le_refl _, fun ha => by
    obtain ⟨g, e, h1, h2⟩ := own_form h.own ha
    subst e
    have hl := h.own.1
    refine ⟨g, vs, rfl, h1, h2, fun i hi => ?_, fun i hi => h.ob i (by rw [h.len]; exact hi), h.rf⟩
    rw [World.ownsRow.cellAt h.own i (by omega)]
    have : i < vs.length := by omega
    simp [vat, List.getD_eq_getElem?_getD, this]⟩

end Go.Proofs.Ytblaaeanbhgokaa
