/-
  RF. By a program (wip/tools/mk.py) out of snippets.
-/
import Derived.Test.YtblaaeanbhgokaaSS
namespace Go.Proofs.Ytblaaeanbhgokaa
open Go.RowKit

/-- What differs lies in the blocks from lo on and below hi, or is new. -/
structure Wn (lo hi : Nat) (w w' : World) : Prop where
  os : w'.os = w.os
  tape : w'.tape = w.tape
  output : w'.output = w.output
  size : w.heap.size ≤ w'.heap.size
  block : ∀ i, i < w.heap.size → (i < lo ∨ hi ≤ i) → w'.heap[i]? = w.heap[i]?
theorem Wn.refl (lo hi : Nat) (w : World) : Wn lo hi w w := ⟨rfl, rfl, rfl, Nat.le_refl _, fun _ _ _ => rfl⟩
theorem Wn.trans {lo hi : Nat} {a b c : World} (h : Wn lo hi a b) (k : Wn lo hi b c) : Wn lo hi a c :=
  ⟨k.os.trans h.os, k.tape.trans h.tape, k.output.trans h.output, Nat.le_trans h.size k.size, fun i hi ho => (k.block i (Nat.lt_of_lt_of_le hi h.size) ho).trans (h.block i hi ho)⟩
theorem Wn.of_grown {lo hi : Nat} {w w' : World} {row : Option Nat} (h : w.grownBy w' row) (hr : ∀ b, row = some b → lo ≤ b ∧ b < hi) : Wn lo hi w w' :=
  ⟨h.os, h.tape, h.output, h.size, fun i hi ho => h.block i hi (fun e => by have := hr i e.symm; omega)⟩
theorem Wn.of_below {lo hi B : Nat} {w w' : World} (h : Below B w w') (hB : w.heap.size ≤ B) : Wn lo hi w w' :=
  ⟨h.os, h.tape, h.output, h.size, fun i hi _ => h.block i (by omega)⟩
theorem Wn.below {lo hi : Nat} {w w' : World} (h : Wn lo hi w w') (hl : lo ≤ w.heap.size) : Below lo w w' :=
  ⟨h.os, h.tape, h.output, h.size, fun i hi => h.block i (by omega) (.inl hi)⟩
theorem Wn.cell {lo hi : Nat} {w w' : World} (h : Wn lo hi w w') {p : Addr} (h1 : p.block < w.heap.size) (h2 : p.block < lo ∨ hi ≤ p.block) : w'.cell? p = w.cell? p := World.cell?_of_block (h.block _ h1 h2)
theorem Wn.frozen {lo hi : Nat} {w w' : World} (h : Wn lo hi w w') {p : Addr} (h1 : p.block < w.heap.size) (h2 : p.block < lo ∨ hi ≤ p.block) : w'.frozen? p = w.frozen? p := World.frozen?_of_block (h.block _ h1 h2)

/-- The block of a slice. -/
abbrev blk (v : Value) : Option Nat := v.ownBlock
def vat (vs : List Value) (i : Nat) : Value := vs.getD i (.slice none 0 0)
theorem vat_lt {vs : List Value} {v : Value} {i : Nat} (h : i < vs.length) : vat (vs ++ [v]) i = vat vs i := by simp [vat, List.getD_eq_getElem?_getD, List.getElem?_append, h]
theorem vat_eq {vs : List Value} {v : Value} : vat (vs ++ [v]) vs.length = v := by simp [vat]
theorem rat_lt {rows : List (List Int)} {v : List Int} {i : Nat} (h : i < rows.length) : rat (rows ++ [v]) i = rat rows i := by simp [rat, List.getD_eq_getElem?_getD, List.getElem?_append, h]
theorem rat_last {rows : List (List Int)} {v : List Int} : rat (rows ++ [v]) rows.length = v := by simp [rat]
/-- A row that the call made: it starts its block. -/
def RowOk (w : World) (lo hi : Nat) (v : Value) (zs : List Int) : Prop :=
  ∃ b c, v = .slice (some ⟨b, 0, none⟩) zs.length c ∧ zs.length ≤ c ∧ lo ≤ b ∧ b < hi ∧ (∀ j, j < zs.length → w.cell? ⟨b, j, none⟩ = some (.int .i64 (iat zs j))) ∧ ∀ j, j < zs.length → w.frozen? ⟨b, j, none⟩ = false
theorem RowOk.same {w w' : World} {lo hi : Nat} {v : Value} {zs : List Int} (h : RowOk w lo hi v zs) (hb : ∀ b, blk v = some b → w'.heap[b]? = w.heap[b]?) : RowOk w' lo hi v zs := by
  obtain ⟨b, c, rfl, h0, h1, h2, h3, h4⟩ := h
  have hh := hb b rfl
  exact ⟨b, c, rfl, h0, h1, h2, fun j hj => (World.cell?_of_block (a := ⟨b, j, none⟩) hh).trans (h3 j hj), fun j hj => (World.frozen?_of_block (a := ⟨b, j, none⟩) hh).trans (h4 j hj)⟩
theorem RowOk.mono {w : World} {lo hi lo' hi' : Nat} {v : Value} {zs : List Int} (h : RowOk w lo hi v zs) (h1 : lo' ≤ lo) (h2 : hi ≤ hi') : RowOk w lo' hi' v zs := by
  obtain ⟨b, c, rfl, h0, h3, h4, h5⟩ := h
  exact ⟨b, c, rfl, h0, by omega, by omega, h5⟩
theorem RowOk.blk {w : World} {lo hi : Nat} {v : Value} {zs : List Int} (h : RowOk w lo hi v zs) : ∃ b, blk v = some b ∧ lo ≤ b ∧ b < hi := by
  obtain ⟨b, c, rfl, h0, h3, h4, h5⟩ := h
  exact ⟨b, rfl, h3, h4⟩
theorem RowOk.new {w : World} {lo hi : Nat} {v : Value} {zs : List Int} (h : RowOk w lo hi v zs) (ht : hi ≤ w.heap.size) : ∃ b c, v = .slice (some ⟨b, 0, none⟩) zs.length c ∧ NewI w lo (some ⟨b, 0, none⟩) zs.length zs := by
  obtain ⟨b, c, rfl, h0, h1, h2, h3, h4⟩ := h
  exact ⟨b, c, rfl, rfl, fun _ => ⟨b, 0, rfl, h1, by omega, fun i hi => by rw [Nat.zero_add]; exact h3 i hi, fun i hi => by rw [Nat.zero_add]; exact h4 i hi⟩⟩
theorem RowOk.si {w : World} {lo hi : Nat} {v : Value} {zs : List Int} (h : RowOk w lo hi v zs) : ∃ b c, v = .slice (some ⟨b, 0, none⟩) zs.length c ∧ SI w (some ⟨b, 0, none⟩) zs.length zs := by
  obtain ⟨b, c, rfl, h0, h1, h2, h3, h4⟩ := h
  exact ⟨b, c, rfl, rfl, fun _ => ⟨b, 0, rfl, fun i hi => by rw [Nat.zero_add]; exact h3 i hi⟩⟩
theorem RowOk.of_own {w : World} {base g n c : Nat} {zs : List Int} (h : w.ownsRow base 3 1 (.slice (some ⟨g, 0, none⟩) n c) n (zs.map (Value.int .i64))) : RowOk w base w.heap.size (.slice (some ⟨g, 0, none⟩) n c) zs := by
  have hl : zs.length = n := by have := h.1; simpa using this
  subst hl
  have hlt := World.ownsRow.lt h g rfl
  refine ⟨g, c, rfl, own_cap h, hlt.1, hlt.2, fun j hj => ?_, fun j _ => World.ownsRow.frozenAt h j⟩
  rw [World.ownsRow.cellAt h j (by omega)]
  simp [iat, hj]
/-- Rows that the call made, each in a block of its own. -/
structure RF (w : World) (lo hi : Nat) (vs : List Value) (rows : List (List Int)) : Prop where
  len : vs.length = rows.length
  ok : ∀ i, i < rows.length → RowOk w lo hi (vat vs i) (rat rows i)
  ap : ∀ i j, i < j → j < rows.length → blk (vat vs i) ≠ blk (vat vs j)
theorem RF.nil (w : World) (lo hi : Nat) : RF w lo hi [] [] := ⟨rfl, fun i hi => absurd hi (by simp), fun i j _ hj => absurd hj (by simp)⟩
theorem RF.same {w w' : World} {lo hi : Nat} {vs : List Value} {rows : List (List Int)} (h : RF w lo hi vs rows) (hb : ∀ b, lo ≤ b → b < hi → (∃ i, i < rows.length ∧ blk (vat vs i) = some b) → w'.heap[b]? = w.heap[b]?) : RF w' lo hi vs rows :=
  ⟨h.len, fun i hi => (h.ok i hi).same fun b e => by
    obtain ⟨b', e', h1, h2⟩ := (h.ok i hi).blk
    rw [e'] at e
    cases e
    exact hb _ h1 h2 ⟨i, hi, e'⟩, h.ap⟩
theorem RF.below {w w' : World} {lo hi : Nat} {vs : List Value} {rows : List (List Int)} (h : RF w lo hi vs rows) {B : Nat} (hb : Below B w w') (hB : hi ≤ B) : RF w' lo hi vs rows := h.same fun b _ h2 _ => hb.block b (by omega)
theorem RF.push {w : World} {lo hi hi' : Nat} {vs : List Value} {rows : List (List Int)} (h : RF w lo hi vs rows) {v : Value} {zs : List Int} (hv : RowOk w hi hi' v zs) (hl : lo ≤ hi) (hh : hi ≤ hi') : RF w lo hi' (vs ++ [v]) (rows ++ [zs]) := by
  have hlen := h.len
  refine ⟨by simp [hlen], fun i hi => ?_, fun i j hij hj => ?_⟩
  · rw [List.length_append, List.length_singleton] at hi
    by_cases e : i < rows.length
    · rw [vat_lt (by omega), rat_lt e]
      exact (h.ok i e).mono (Nat.le_refl _) hh
    · obtain rfl : i = rows.length := by omega
      rw [rat_last, ← hlen, vat_eq]
      exact hv.mono hl (Nat.le_refl _)
  · rw [List.length_append, List.length_singleton] at hj
    by_cases e : j < rows.length
    · rw [vat_lt (by omega), vat_lt (by omega)]
      exact h.ap i j hij e
    · obtain rfl : j = rows.length := by omega
      rw [vat_lt (by omega), ← hlen, vat_eq]
      obtain ⟨b, e1, h1, h2⟩ := (h.ok i hij).blk
      obtain ⟨b', e2, h3, h4⟩ := hv.blk
      rw [e1, e2]
      intro e
      cases e
      omega
/-- Rows and the list of them. -/
def FR (w : World) (lo hi : Nat) (A : Option Addr) (k : Nat) (rows : List (List Int)) : Prop :=
  rows.length = k ∧ lo ≤ hi ∧ hi ≤ w.heap.size ∧ (0 < k → ∃ b vs, A = some ⟨b, 0, none⟩ ∧ lo ≤ b ∧ b < hi ∧ (∀ i, i < k → w.cell? ⟨b, i, none⟩ = some (vat vs i)) ∧ (∀ i, i < k → blk (vat vs i) ≠ some b) ∧ RF w lo hi vs rows)
theorem FR.ss {w : World} {lo hi : Nat} {A : Option Addr} {k : Nat} {rows : List (List Int)} (h : FR w lo hi A k rows) : SS w A k rows :=
  ⟨h.1, fun hk => by
    obtain ⟨b, vs, e, _, _, hc, _, hr⟩ := h.2.2.2 hk
    refine ⟨b, 0, e, fun i hi => ?_⟩
    obtain ⟨b', c', e', hs⟩ := (hr.ok i (by rw [h.1]; exact hi)).si
    exact ⟨_, _, c', by rw [Nat.zero_add, hc i hi, e'], hs⟩⟩
theorem FR.below {w w' : World} {lo hi : Nat} {A : Option Addr} {k : Nat} {rows : List (List Int)} (h : FR w lo hi A k rows) {B : Nat} (hb : Below B w w') (hB : hi ≤ B) : FR w' lo hi A k rows :=
  ⟨h.1, h.2.1, by have := hb.size; have := h.2.2.1; omega, fun hk => by
    obtain ⟨b, vs, e, h1, h2, hc, h3, hr⟩ := h.2.2.2 hk
    exact ⟨b, vs, e, h1, h2, fun i hi => (hb.cell (p := ⟨b, i, none⟩) (by show b < B; omega)).trans (hc i hi), h3, hr.below hb hB⟩⟩
theorem FR.later {w w' : World} {lo hi : Nat} {A : Option Addr} {k : Nat} {rows : List (List Int)} (h : FR w lo hi A k rows) (hb : Below w.heap.size w w') : FR w' lo hi A k rows := h.below hb h.2.2.1
theorem FR.alloc {w : World} {lo hi : Nat} {A : Option Addr} {k : Nat} {rows : List (List Int)} (h : FR w lo hi A k rows) (o : Obj) : FR (w.alloc o) lo hi A k rows := h.later ((Below.refl _ _).alloc (Nat.le_refl _) o)
theorem FR.mono {w : World} {lo hi lo' hi' : Nat} {A : Option Addr} {k : Nat} {rows : List (List Int)} (h : FR w lo hi A k rows) (h1 : lo' ≤ lo) (h2 : hi ≤ hi') (h3 : hi' ≤ w.heap.size) : FR w lo' hi' A k rows :=
  ⟨h.1, by have := h.2.1; omega, h3, fun hk => by
    obtain ⟨b, vs, e, h4, h5, hc, h6, hr⟩ := h.2.2.2 hk
    exact ⟨b, vs, e, by omega, by omega, hc, h6, hr.len, fun i hi => (hr.ok i hi).mono h1 h2, hr.ap⟩⟩
theorem FR.wn {w w' : World} {lo hi lo' hi' : Nat} {A : Option Addr} {k : Nat} {rows : List (List Int)} (h : FR w lo hi A k rows) (hw : Wn lo' hi' w w') (hd : hi ≤ lo' ∨ hi' ≤ lo) : FR w' lo hi A k rows :=
  ⟨h.1, h.2.1, by have := hw.size; have := h.2.2.1; omega, fun hk => by
    have ht := h.2.2.1
    obtain ⟨b, vs, e, h1, h2, hc, h3, hr⟩ := h.2.2.2 hk
    exact ⟨b, vs, e, h1, h2, fun i hi => (hw.cell (p := ⟨b, i, none⟩) (by show b < _; omega) (by show b < lo' ∨ hi' ≤ b; omega)).trans (hc i hi), h3, hr.same fun b h4 h5 _ => hw.block b (by omega) (by omega)⟩⟩
theorem FR.empty (w : World) (lo : Nat) (hl : lo ≤ w.heap.size) : FR w lo w.heap.size none 0 [] := ⟨rfl, hl, Nat.le_refl _, fun h => absurd h (by omega)⟩

def offR (rows : List (List Int)) : Nat → Nat
  | 0 => 0
  | i + 1 => offR rows i + (rat rows i).length
theorem offR_mono {rows : List (List Int)} {i j : Nat} (h : i ≤ j) : offR rows i ≤ offR rows j := by
  induction j with
  | zero => obtain rfl : i = 0 := by omega
            exact Nat.le_refl _
  | succ j ih =>
    by_cases e : i = j + 1
    · subst e; exact Nat.le_refl _
    · have := ih (by omega)
      show _ ≤ offR rows j + _
      omega

/- 63 -/
def mkRows (k0 : Int) (rows : List (List Int)) : List (List Int) := (List.range rows.length).map fun i => seqFrom (k0 + (offR rows i : Nat)) (rat rows i).length
theorem mkRows_length (k0 : Int) (rows : List (List Int)) : (mkRows k0 rows).length = rows.length := by simp [mkRows]
theorem mkRows_at {k0 : Int} {rows : List (List Int)} {i : Nat} (h : i < rows.length) : rat (mkRows k0 rows) i = seqFrom (k0 + (offR rows i : Nat)) (rat rows i).length := by simp [mkRows, rat, h, List.getD_eq_getElem?_getD]
structure MK (w : World) (lo hi b : Nat) (vs : List Value) (k : Nat) (k0 : Int) (rows : List (List Int)) (i : Nat) (wr : World) : Prop where
  wn : Wn lo hi w wr
  out : wr.heap[b]? = w.heap[b]?
  ok : ∀ j, j < k → RowOk wr lo hi (vat vs j) (if j < i then rat (mkRows k0 rows) j else rat rows j)
theorem MK.step {w wr w2 : World} {lo hi b : Nat} {vs : List Value} {k : Nat} {k0 : Int} {rows : List (List Int)} {i : Nat} (h : MK w lo hi b vs k k0 rows i wr) (hi' : i < k) (hl : rows.length = k) (ht : hi ≤ wr.heap.size) (hbs : b < wr.heap.size) (hap : ∀ i j, i < j → j < k → blk (vat vs i) ≠ blk (vat vs j)) (hob : ∀ i, i < k → blk (vat vs i) ≠ some b) {b' c' : Nat} (hv : vat vs i = .slice (some ⟨b', 0, none⟩) (rat rows i).length c')
    (hn : NewI w2 lo (some ⟨b', 0, none⟩) (rat rows i).length (seqFrom (k0 + (offR rows i : Nat)) (rat rows i).length)) (hg : wr.grownBy w2 (wBlock (some ⟨b', 0, none⟩) (rat rows i).length)) : MK w lo hi b vs k k0 rows (i + 1) w2 := by
  have hok := h.ok i hi'
  rw [if_neg (by omega)] at hok
  obtain ⟨b1, c1, e1, g0, g1, g2, g3, g4⟩ := hok
  rw [hv] at e1
  have e1' : b' = b1 := by injection e1 with e2 _ _; injection e2 with e3; injection e3
  subst e1'
  have hcc : c' = c1 := by injection e1
  have hrow : ∀ k', wBlock (some ⟨b', 0, none⟩) (rat rows i).length = some k' → k' = b' := by
    intro k' e
    unfold wBlock at e
    split at e
    · cases e
    · cases e; rfl
  refine ⟨h.wn.trans (Wn.of_grown hg fun k' e => by have := hrow k' e; omega), ?_, fun j hj => ?_⟩
  · rw [hg.block b hbs (fun e => ?_)]
    · exact h.out
    · have := hrow b e.symm
      exact hob i hi' (by rw [hv]; show some b' = some b; rw [this])
  · by_cases e : j = i
    · subst e
      rw [if_pos (by omega), mkRows_at (by omega)]
      refine ⟨b', c', by rw [hv, seqFrom_length], by rw [seqFrom_length]; omega, g1, g2, fun m hm => ?_, fun m hm => ?_⟩
      · rw [seqFrom_length] at hm
        obtain ⟨b3, o3, e3, _, _, hc, _⟩ := hn.2 (by omega)
        cases e3
        have := hc m hm
        rw [Nat.zero_add] at this
        exact this
      · rw [seqFrom_length] at hm
        obtain ⟨b3, o3, e3, _, _, _, hf⟩ := hn.2 (by omega)
        cases e3
        have := hf m hm
        rw [Nat.zero_add] at this
        exact this
    · have hj' := h.ok j hj
      have e2 : (if j < i + 1 then rat (mkRows k0 rows) j else rat rows j) = (if j < i then rat (mkRows k0 rows) j else rat rows j) := by
        by_cases e3 : j < i
        · rw [if_pos e3, if_pos (by omega)]
        · rw [if_neg e3, if_neg (by omega)]
      rw [e2]
      refine hj'.same fun bb ebb => ?_
      obtain ⟨b4, e4, _, h5⟩ := hj'.blk
      refine hg.block bb (by rw [e4] at ebb; cases ebb; omega) (fun e5 => ?_)
      have := hrow bb e5.symm
      subst this
      by_cases e6 : j < i
      · exact hap j i e6 hi' (by rw [ebb, hv]; rfl)
      · exact hap i j (by omega) hj (by rw [ebb, hv]; rfl)

set_option maxHeartbeats 800000 in
theorem markIntSS_any (A : Option Addr) (k c lo hi : Nat) (rows : List (List Int)) (k0 : Int) (w : World) (hk : k ≤ 2000000) (hr : ∀ i, i < k → (rat rows i).length ≤ 2000000) (ho : offR rows k ≤ 1000000000) (hk0 : 0 ≤ k0) (hk1 : k0 ≤ 1000000000) (ha : FR w lo hi A k rows) :
    Calls Try.prog 63 #[.slice A k c, .int .i64 k0] w fun e w' => e = .returned (.int .i64 (k0 + (offR rows k : Nat))) ∧ FR w' lo hi A k (mkRows k0 rows) ∧ Wn lo hi w w' := by
  obtain ⟨hl, hlh, ht, hne⟩ := ha
  by_cases h0 : k = 0
  · subst h0
    have hz : ((0 : Nat) : Int) = 0 := rfl
    clear hne
    go_enter Try.func63, Try.ntmps63
    go_wp2
    refine wp_loop_rounds 1 ?_
    rw [rounds_succ]
    go_wp2
    go_ret
    exact ⟨by simp [offR], ⟨by rw [mkRows_length, hl], hlh, ht, fun h => absurd h (by omega)⟩, Wn.refl _ _ _⟩
  · obtain ⟨b, vs, rfl, hb1, hb2, hc, hob, hrf⟩ := hne (by omega)
    have HC := Lib.hid hc
    have HOB := Lib.hid hob
    have HRF := Lib.hid hrf
    have HR := Lib.hid hr
    have HL := Lib.hid hl
    have HM := Lib.hid (fun i j (h : i ≤ j) => offR_mono (rows := rows) h)
    have M0 : MK w lo hi b vs k k0 rows 0 w := ⟨Wn.refl _ _ _, rfl, fun j hj => by rw [if_neg (by omega)]; exact hrf.ok j (by omega)⟩
    clear hne hc hob hrf hr hl
    go_enter Try.func63, Try.ntmps63
    go_wp2
    go_loopg [1, 5] k (fun gg s1 s5 wr => ∃ i : Nat, i ≤ k ∧ k - i ≤ gg ∧ s5 = .int .i64 i ∧ s1 = .int .i64 (k0 + (offR rows i : Nat)) ∧ MK w lo hi b vs k k0 rows i wr)
    case atStart => exact ⟨0, by omega, by omega, rfl, by simp [offR], M0⟩
    case round =>
      clear M0
      obtain ⟨i, hi', hg, rfl, rfl, hM⟩ := hrel
      have hof := HM.out i k hi'
      by_cases hlt : i < k
      · have hok := hM.ok i hlt
        rw [if_neg (by omega)] at hok
        have hsz := hM.wn.size
        obtain ⟨b', c', hv, hnew⟩ := hok.new (by omega)
        have hcell : wr.cell? ⟨b, i, none⟩ = some (.slice (some ⟨b', 0, none⟩) (rat rows i).length c') := by
          rw [World.cell?_of_block (a := ⟨b, i, none⟩) hM.out, HC.out i hlt, hv]
        have hrl := HR.out i hlt
        have CM := Lib.hid (markIntS_any (some ⟨b', 0, none⟩) (rat rows i).length c' lo (rat rows i) (k0 + (offR rows i : Nat)) wr hrl (by omega) (by omega) hnew)
        have HS := Lib.hid (fun w2 hn hg => hM.step (w2 := w2) hlt HL.out (by omega) (by omega) (fun i j h1 h2 => HRF.out.ap i j h1 (by rw [HL.out]; exact h2)) HOB.out hv hn hg)
        have HOF := Lib.hid (show offR rows (i + 1) = offR rows i + (rat rows i).length from rfl)
        clear hok hnew hM hv
        generalize (rat rows i).length = m at *
        generalize offR rows i = o at *
        go_wp2_with fail
        refine CM.out.mono ?_
        rintro e w2 ⟨rfl, hn2, hg2⟩
        have hS := Lib.hid (HS.out w2 hn2 hg2)
        clear hn2 hg2 HS CM hcell
        go_wp2_with fail
        go_roundg (k - (i + 1))
        case measure => omega
        case rel => exact ⟨i + 1, by omega, by omega, by go_num, by rw [HOF.out]; first | (go_num; done) | (congr 1; omega), hS.out⟩
      · obtain rfl : i = k := by omega
        have HMl := Lib.hid hM
        clear hM
        generalize hoo : offR rows i = o at *
        go_wp2_with fail
        go_ret
        refine ⟨by rw [hoo]; rfl, ⟨by rw [mkRows_length, HL.out], hlh, by have := HMl.out.wn.size; omega, fun _ => ⟨b, vs, rfl, hb1, hb2, fun j hj => ?_, HOB.out, ?_⟩⟩, HMl.out.wn⟩
        · rw [World.cell?_of_block (a := ⟨b, j, none⟩) HMl.out.out]
          exact HC.out j hj
        · refine ⟨by rw [mkRows_length]; exact HRF.out.len, fun j hj => ?_, fun j1 j2 h1 h2 => HRF.out.ap j1 j2 h1 (by rw [mkRows_length] at h2; exact h2)⟩
          rw [mkRows_length, HL.out] at hj
          have := HMl.out.ok j hj
          rw [if_pos hj] at this
          exact this

set_option maxHeartbeats 800000 in
theorem heldIntSS_any (A : Option Addr) (k c : Nat) (rows : List (List Int)) (k0 : Int) (w : World) (hk : k ≤ 2000000) (hl : rows.length = k) (hr : ∀ i, i < k → (rat rows i).length ≤ 2000000) (ho : offR rows k ≤ 1000000000) (hk0 : 0 ≤ k0) (hk1 : k0 ≤ 1000000000) (ha : SS w A k (mkRows k0 rows)) :
    Calls Try.prog 64 #[.slice A k c, .int .i64 k0] w fun e w' => Qt w (.int .i64 (k0 + (offR rows k : Nat))) e w' := by
  have HA := Lib.hid ha
  have HR := Lib.hid hr
  have HL := Lib.hid hl
  have HM := Lib.hid (fun i j (h : i ≤ j) => offR_mono (rows := rows) h)
  clear ha hr hl
  go_enter Try.func64, Try.ntmps64
  go_wp2
  go_loopg [1, 5] k (fun gg s1 s5 wr => ∃ i m : Nat, i ≤ k ∧ k - i ≤ gg ∧ s5 = .int .i64 i ∧ s1 = .int .i64 (k0 + (offR rows i : Nat)) ∧ wr = w.drewN m)
  case atStart => exact ⟨0, 0, by omega, by omega, rfl, by simp [offR], rfl⟩
  case round =>
    obtain ⟨i, q, hi', hg, rfl, rfl, rfl⟩ := hrel
    have hof := HM.out i k hi'
    by_cases hlt : i < k
    · obtain ⟨b, off, A', n', c', rfl, h1, h2⟩ := HA.out.at_ hlt
      rw [mkRows_at (by rw [HL.out]; exact hlt)] at h2
      obtain rfl : n' = (rat rows i).length := by rw [← h2.1, seqFrom_length]
      have hrl := HR.out i hlt
      have HOF := Lib.hid (show offR rows (i + 1) = offR rows i + (rat rows i).length from rfl)
      have hof2 := HM.out (i + 1) k (by omega)
      rw [HOF.out] at hof2
      have CH := Lib.hid (fun q => heldIntS_any A' (rat rows i).length c' (k0 + (offR rows i : Nat)) (w.drewN q) hrl (by omega) (by omega) (h2.drewN q))
      clear h2
      generalize (rat rows i).length = m at *
      generalize offR rows i = o at *
      go_wp2_with fail
      refine (CH.out q).mono ?_
      rintro e w2 ⟨rfl, q2, rfl⟩
      go_wp2_with fail
      go_roundg (k - (i + 1))
      case measure => omega
      case rel => exact ⟨i + 1, _, by omega, by omega, by go_num, by rw [HOF.out]; first | (go_num; done) | (congr 1; omega), by first | rfl | trivial⟩
    · obtain rfl : i = k := by omega
      clear HA
      generalize hoo : offR rows i = o at *
      go_wp2_with fail
      go_ret
      exact ⟨by rw [hoo]; rfl, q, rfl⟩

end Go.Proofs.Ytblaaeanbhgokaa
