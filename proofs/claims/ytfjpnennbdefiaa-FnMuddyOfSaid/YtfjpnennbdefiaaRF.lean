/-
  RF. By a program (wip/tools/mk.py) out of snippets.
-/
import Derived.Test.YtfjpnennbdefiaaSS
namespace Go.Proofs.Ytfjpnennbdefiaa
open Go.RowKit

/-- What differs lies in the blocks from lo on and below hi, or is new. -/
structure Wn (lo hi : Nat) (w w' : World) : Prop where
  os : w'.os = w.os
  tape : w'.tape = w.tape
  output : w'.output = w.output
  size : w.heap.size ≤ w'.heap.size
  block : ∀ i, i < w.heap.size → (i < lo ∨ hi ≤ i) → w'.heap[i]? = w.heap[i]?
theorem Wn.refl (lo hi : Nat) (w : World) : Wn lo hi w w := ⟨rfl, rfl, rfl, Nat.le_refl _, fun _ _ _ => rfl⟩
theorem Wn.trans {lo hi : Nat} {a b c : World} (h : Wn lo hi a b) (k : Wn lo hi b c) : Wn lo hi a c :=
  ⟨k.os.trans h.os, k.tape.trans h.tape, k.output.trans h.output, Nat.le_trans h.size k.size, fun i hi ho => (k.block i (Nat.lt_of_lt_of_le hi h.size) ho).trans (h.block i hi ho)⟩
theorem Wn.of_grown {lo hi : Nat} {w w' : World} {row : Option Nat} (h : w.grownBy w' row) (hr : ∀ b, row = some b → lo ≤ b ∧ b < hi) : Wn lo hi w w' :=
  ⟨h.os, h.tape, h.output, h.size, fun i hi ho => h.block i hi (fun e => by have := hr i e.symm; omega)⟩
theorem Wn.of_below {lo hi B : Nat} {w w' : World} (h : Below B w w') (hB : w.heap.size ≤ B) : Wn lo hi w w' :=
  ⟨h.os, h.tape, h.output, h.size, fun i hi _ => h.block i (by omega)⟩
theorem Wn.below {lo hi : Nat} {w w' : World} (h : Wn lo hi w w') (hl : lo ≤ w.heap.size) : Below lo w w' :=
  ⟨h.os, h.tape, h.output, h.size, fun i hi => h.block i (by omega) (.inl hi)⟩
theorem Wn.cell {lo hi : Nat} {w w' : World} (h : Wn lo hi w w') {p : Addr} (h1 : p.block < w.heap.size) (h2 : p.block < lo ∨ hi ≤ p.block) : w'.cell? p = w.cell? p := World.cell?_of_block (h.block _ h1 h2)
theorem Wn.frozen {lo hi : Nat} {w w' : World} (h : Wn lo hi w w') {p : Addr} (h1 : p.block < w.heap.size) (h2 : p.block < lo ∨ hi ≤ p.block) : w'.frozen? p = w.frozen? p := World.frozen?_of_block (h.block _ h1 h2)

/-- The block of a slice. -/
abbrev blk (v : Value) : Option Nat := v.ownBlock
def vat (vs : List Value) (i : Nat) : Value := vs.getD i (.slice none 0 0)
theorem vat_lt {vs : List Value} {v : Value} {i : Nat} (h : i < vs.length) : vat (vs ++ [v]) i = vat vs i := by simp [vat, List.getD_eq_getElem?_getD, List.getElem?_append, h]
theorem vat_eq {vs : List Value} {v : Value} : vat (vs ++ [v]) vs.length = v := by simp [vat]
theorem rat_lt {rows : List (List Int)} {v : List Int} {i : Nat} (h : i < rows.length) : rat (rows ++ [v]) i = rat rows i := by simp [rat, List.getD_eq_getElem?_getD, List.getElem?_append, h]
theorem rat_last {rows : List (List Int)} {v : List Int} : rat (rows ++ [v]) rows.length = v := by simp [rat]
/-- A row that the call made: it starts its block. -/
def RowOk (w : World) (lo hi : Nat) (v : Value) (zs : List Int) : Prop :=
  ∃ b c, v = .slice (some ⟨b, 0, none⟩) zs.length c ∧ zs.length ≤ c ∧ lo ≤ b ∧ b < hi ∧ (∀ j, j < zs.length → w.cell? ⟨b, j, none⟩ = some (.int .i64 (iat zs j))) ∧ ∀ j, j < zs.length → w.frozen? ⟨b, j, none⟩ = false
theorem RowOk.same {w w' : World} {lo hi : Nat} {v : Value} {zs : List Int} (h : RowOk w lo hi v zs) (hb : ∀ b, blk v = some b → w'.heap[b]? = w.heap[b]?) : RowOk w' lo hi v zs := by
  obtain ⟨b, c, rfl, h0, h1, h2, h3, h4⟩ := h
  have hh := hb b rfl
  exact ⟨b, c, rfl, h0, h1, h2, fun j hj => (World.cell?_of_block (a := ⟨b, j, none⟩) hh).trans (h3 j hj), fun j hj => (World.frozen?_of_block (a := ⟨b, j, none⟩) hh).trans (h4 j hj)⟩
theorem RowOk.mono {w : World} {lo hi lo' hi' : Nat} {v : Value} {zs : List Int} (h : RowOk w lo hi v zs) (h1 : lo' ≤ lo) (h2 : hi ≤ hi') : RowOk w lo' hi' v zs := by
  obtain ⟨b, c, rfl, h0, h3, h4, h5⟩ := h
  exact ⟨b, c, rfl, h0, by omega, by omega, h5⟩
theorem RowOk.blk {w : World} {lo hi : Nat} {v : Value} {zs : List Int} (h : RowOk w lo hi v zs) : ∃ b, blk v = some b ∧ lo ≤ b ∧ b < hi := by
  obtain ⟨b, c, rfl, h0, h3, h4, h5⟩ := h
  exact ⟨b, rfl, h3, h4⟩
theorem RowOk.new {w : World} {lo hi : Nat} {v : Value} {zs : List Int} (h : RowOk w lo hi v zs) (ht : hi ≤ w.heap.size) : ∃ b c, v = .slice (some ⟨b, 0, none⟩) zs.length c ∧ NewI w lo (some ⟨b, 0, none⟩) zs.length zs := by
  obtain ⟨b, c, rfl, h0, h1, h2, h3, h4⟩ := h
  exact ⟨b, c, rfl, rfl, fun _ => ⟨b, 0, rfl, h1, by omega, fun i hi => by rw [Nat.zero_add]; exact h3 i hi, fun i hi => by rw [Nat.zero_add]; exact h4 i hi⟩⟩
theorem RowOk.si {w : World} {lo hi : Nat} {v : Value} {zs : List Int} (h : RowOk w lo hi v zs) : ∃ b c, v = .slice (some ⟨b, 0, none⟩) zs.length c ∧ SI w (some ⟨b, 0, none⟩) zs.length zs := by
  obtain ⟨b, c, rfl, h0, h1, h2, h3, h4⟩ := h
  exact ⟨b, c, rfl, rfl, fun _ => ⟨b, 0, rfl, fun i hi => by rw [Nat.zero_add]; exact h3 i hi⟩⟩
theorem RowOk.of_own {w : World} {base g n c : Nat} {zs : List Int} (h : w.ownsRow base 3 1 (.slice (some ⟨g, 0, none⟩) n c) n (zs.map (Value.int .i64))) : RowOk w base w.heap.size (.slice (some ⟨g, 0, none⟩) n c) zs := by
  have hl : zs.length = n := by have := h.1; simpa using this
  subst hl
  have hlt := World.ownsRow.lt h g rfl
  refine ⟨g, c, rfl, own_cap h, hlt.1, hlt.2, fun j hj => ?_, fun j _ => World.ownsRow.frozenAt h j⟩
  rw [World.ownsRow.cellAt h j (by omega)]
  simp [iat, hj]
/-- Rows that the call made, each in a block of its own. -/
structure RF (w : World) (lo hi : Nat) (vs : List Value) (rows : List (List Int)) : Prop where
  len : vs.length = rows.length
  ok : ∀ i, i < rows.length → RowOk w lo hi (vat vs i) (rat rows i)
  ap : ∀ i j, i < j → j < rows.length → blk (vat vs i) ≠ blk (vat vs j)
theorem RF.nil (w : World) (lo hi : Nat) : RF w lo hi [] [] := ⟨rfl, fun i hi => absurd hi (by simp), fun i j _ hj => absurd hj (by simp)⟩
theorem RF.same {w w' : World} {lo hi : Nat} {vs : List Value} {rows : List (List Int)} (h : RF w lo hi vs rows) (hb : ∀ b, lo ≤ b → b < hi → (∃ i, i < rows.length ∧ blk (vat vs i) = some b) → w'.heap[b]? = w.heap[b]?) : RF w' lo hi vs rows :=
  ⟨h.len, fun i hi => (h.ok i hi).same fun b e => by
    obtain ⟨b', e', h1, h2⟩ := (h.ok i hi).blk
    rw [e'] at e
    cases e
    exact hb _ h1 h2 ⟨i, hi, e'⟩, h.ap⟩
theorem RF.below {w w' : World} {lo hi : Nat} {vs : List Value} {rows : List (List Int)} (h : RF w lo hi vs rows) {B : Nat} (hb : Below B w w') (hB : hi ≤ B) : RF w' lo hi vs rows := h.same fun b _ h2 _ => hb.block b (by omega)
theorem RF.push {w : World} {lo hi hi' : Nat} {vs : List Value} {rows : List (List Int)} (h : RF w lo hi vs rows) {v : Value} {zs : List Int} (hv : RowOk w hi hi' v zs) (hl : lo ≤ hi) (hh : hi ≤ hi') : RF w lo hi' (vs ++ [v]) (rows ++ [zs]) := by
  have hlen := h.len
  refine ⟨by simp [hlen], fun i hi => ?_, fun i j hij hj => ?_⟩
  · rw [List.length_append, List.length_singleton] at hi
    by_cases e : i < rows.length
    · rw [vat_lt (by omega), rat_lt e]
      exact (h.ok i e).mono (Nat.le_refl _) hh
    · obtain rfl : i = rows.length := by omega
      rw [rat_last, ← hlen, vat_eq]
      exact hv.mono hl (Nat.le_refl _)
  · rw [List.length_append, List.length_singleton] at hj
    by_cases e : j < rows.length
    · rw [vat_lt (by omega), vat_lt (by omega)]
      exact h.ap i j hij e
    · obtain rfl : j = rows.length := by omega
      rw [vat_lt (by omega), ← hlen, vat_eq]
      obtain ⟨b, e1, h1, h2⟩ := (h.ok i hij).blk
      obtain ⟨b', e2, h3, h4⟩ := hv.blk
      rw [e1, e2]
      intro e
      cases e
      omega
/-- Rows and the list of them. -/
def FR (w : World) (lo hi : Nat) (A : Option Addr) (k : Nat) (rows : List (List Int)) : Prop :=
  rows.length = k ∧ lo ≤ hi ∧ hi ≤ w.heap.size ∧ (0 < k → ∃ b vs, A = some ⟨b, 0, none⟩ ∧ lo ≤ b ∧ b < hi ∧ (∀ i, i < k → w.cell? ⟨b, i, none⟩ = some (vat vs i)) ∧ (∀ i, i < k → blk (vat vs i) ≠ some b) ∧ RF w lo hi vs rows)
theorem FR.ss {w : World} {lo hi : Nat} {A : Option Addr} {k : Nat} {rows : List (List Int)} (h : FR w lo hi A k rows) : SS w A k rows :=
  ⟨h.1, fun hk => by
    obtain ⟨b, vs, e, _, _, hc, _, hr⟩ := h.2.2.2 hk
    refine ⟨b, 0, e, fun i hi => ?_⟩
    obtain ⟨b', c', e', hs⟩ := (hr.ok i (by rw [h.1]; exact hi)).si
    exact ⟨_, _, c', by rw [Nat.zero_add, hc i hi, e'], hs⟩⟩
theorem FR.below {w w' : World} {lo hi : Nat} {A : Option Addr} {k : Nat} {rows : List (List Int)} (h : FR w lo hi A k rows) {B : Nat} (hb : Below B w w') (hB : hi ≤ B) : FR w' lo hi A k rows :=
  ⟨h.1, h.2.1, by have := hb.size; have := h.2.2.1; omega, fun hk => by
    obtain ⟨b, vs, e, h1, h2, hc, h3, hr⟩ := h.2.2.2 hk
    exact ⟨b, vs, e, h1, h2, fun i hi => (hb.cell (p := ⟨b, i, none⟩) (by show b < B; omega)).trans (hc i hi), h3, hr.below hb hB⟩⟩
theorem FR.later {w w' : World} {lo hi : Nat} {A : Option Addr} {k : Nat} {rows : List (List Int)} (h : FR w lo hi A k rows) (hb : Below w.heap.size w w') : FR w' lo hi A k rows := h.below hb h.2.2.1
theorem FR.alloc {w : World} {lo hi : Nat} {A : Option Addr} {k : Nat} {rows : List (List Int)} (h : FR w lo hi A k rows) (o : Obj) : FR (w.alloc o) lo hi A k rows := h.later ((Below.refl _ _).alloc (Nat.le_refl _) o)
theorem FR.mono {w : World} {lo hi lo' hi' : Nat} {A : Option Addr} {k : Nat} {rows : List (List Int)} (h : FR w lo hi A k rows) (h1 : lo' ≤ lo) (h2 : hi ≤ hi') (h3 : hi' ≤ w.heap.size) : FR w lo' hi' A k rows :=
  ⟨h.1, by have := h.2.1; omega, h3, fun hk => by
    obtain ⟨b, vs, e, h4, h5, hc, h6, hr⟩ := h.2.2.2 hk
    exact ⟨b, vs, e, by omega, by omega, hc, h6, hr.len, fun i hi => (hr.ok i hi).mono h1 h2, hr.ap⟩⟩
theorem FR.wn {w w' : World} {lo hi lo' hi' : Nat} {A : Option Addr} {k : Nat} {rows : List (List Int)} (h : FR w lo hi A k rows) (hw : Wn lo' hi' w w') (hd : hi ≤ lo' ∨ hi' ≤ lo) : FR w' lo hi A k rows :=
  ⟨h.1, h.2.1, by have := hw.size; have := h.2.2.1; omega, fun hk => by
    have ht := h.2.2.1
    obtain ⟨b, vs, e, h1, h2, hc, h3, hr⟩ := h.2.2.2 hk
    exact ⟨b, vs, e, h1, h2, fun i hi => (hw.cell (p := ⟨b, i, none⟩) (by show b < _; omega) (by show b < lo' ∨ hi' ≤ b; omega)).trans (hc i hi), h3, hr.same fun b h4 h5 _ => hw.block b (by omega) (by omega)⟩⟩
theorem FR.empty (w : World) (lo : Nat) (hl : lo ≤ w.heap.size) : FR w lo w.heap.size none 0 [] := ⟨rfl, hl, Nat.le_refl _, fun h => absurd h (by omega)⟩

def offR (rows : List (List Int)) : Nat → Nat
  | 0 => 0
  | i + 1 => offR rows i + (rat rows i).length
theorem offR_mono {rows : List (List Int)} {i j : Nat} (h : i ≤ j) : offR rows i ≤ offR rows j := by
  induction j with
  | zero => obtain rfl : i = 0 := by omega
            exact Nat.le_refl _
  | succ j ih =>
    by_cases e : i = j + 1
    · subst e; exact Nat.le_refl _
    · have := ih (by omega)
      show _ ≤ offR rows j + _
      omega

end Go.Proofs.Ytfjpnennbdefiaa
