/-
  Rb. By a program (wip/tools/mk.py) out of snippets.
-/
import Derived.Test.YtblaaeanbhgokaaRF
namespace Go.Proofs.Ytblaaeanbhgokaa
open Go.RowKit

/-- What differs lies in the rows' own blocks, or is new. -/
structure Wb (vs : List Value) (k : Nat) (w w' : World) : Prop where
  os : w'.os = w.os
  tape : w'.tape = w.tape
  output : w'.output = w.output
  size : w.heap.size ≤ w'.heap.size
  block : ∀ i, i < w.heap.size → (∀ j, j < k → blk (vat vs j) ≠ some i) → w'.heap[i]? = w.heap[i]?
theorem Wb.refl (vs : List Value) (k : Nat) (w : World) : Wb vs k w w := ⟨rfl, rfl, rfl, Nat.le_refl _, fun _ _ _ => rfl⟩
theorem Wb.trans {vs : List Value} {k : Nat} {a b c : World} (h : Wb vs k a b) (g : Wb vs k b c) : Wb vs k a c :=
  ⟨g.os.trans h.os, g.tape.trans h.tape, g.output.trans h.output, Nat.le_trans h.size g.size, fun i hi ho => (g.block i (Nat.lt_of_lt_of_le hi h.size) ho).trans (h.block i hi ho)⟩
theorem Wb.of_grown {vs : List Value} {k : Nat} {w w' : World} {row : Option Nat} (h : w.grownBy w' row) (hr : ∀ b, row = some b → ∃ j, j < k ∧ blk (vat vs j) = some b) : Wb vs k w w' :=
  ⟨h.os, h.tape, h.output, h.size, fun i hi ho => h.block i hi (fun e => by obtain ⟨j, hj, e2⟩ := hr i e.symm; exact ho j hj e2)⟩
theorem Wb.wn {vs : List Value} {k lo hi : Nat} {w w' : World} (h : Wb vs k w w') (hv : ∀ j, j < k → ∃ b, blk (vat vs j) = some b ∧ lo ≤ b ∧ b < hi) : Wn lo hi w w' :=
  ⟨h.os, h.tape, h.output, h.size, fun i hi ho => h.block i hi fun j hj e => by
    obtain ⟨b, e1, h1, h2⟩ := hv j hj
    rw [e1] at e
    cases e
    omega⟩
/-- The list of the rows in the block b, wherever that lies. -/
structure FH (w : World) (lo hi b k : Nat) (vs : List Value) (rows : List (List Int)) : Prop where
  len : rows.length = k
  top : hi ≤ w.heap.size
  lt : b < w.heap.size
  cell : ∀ i, i < k → w.cell? ⟨b, i, none⟩ = some (vat vs i)
  ob : ∀ i, i < k → blk (vat vs i) ≠ some b
  rf : RF w lo hi vs rows
theorem FH.ss {w : World} {lo hi b k : Nat} {vs : List Value} {rows : List (List Int)} (h : FH w lo hi b k vs rows) : SS w (some ⟨b, 0, none⟩) k rows :=
  ⟨h.len, fun hk => by
    refine ⟨b, 0, rfl, fun i hi => ?_⟩
    obtain ⟨b', c', e', hs⟩ := (h.rf.ok i (by rw [h.len]; exact hi)).si
    exact ⟨_, _, c', by rw [Nat.zero_add, h.cell i hi, e'], hs⟩⟩
theorem FH.later {w w' : World} {lo hi b k : Nat} {vs : List Value} {rows : List (List Int)} (h : FH w lo hi b k vs rows) (hb : Below w.heap.size w w') : FH w' lo hi b k vs rows :=
  ⟨h.len, Nat.le_trans h.top hb.size, Nat.lt_of_lt_of_le h.lt hb.size, fun i hi => (hb.cell (p := ⟨b, i, none⟩) h.lt).trans (h.cell i hi), h.ob, h.rf.below hb h.top⟩
/-- A world in which the blocks of the rows and of their list are as they were. -/
theorem FH.same {w w' : World} {lo hi b k : Nat} {vs : List Value} {rows : List (List Int)} (h : FH w lo hi b k vs rows) (hs : w.heap.size ≤ w'.heap.size) (hb : w'.heap[b]? = w.heap[b]?) (hr : ∀ i, i < k → ∀ g, blk (vat vs i) = some g → w'.heap[g]? = w.heap[g]?) : FH w' lo hi b k vs rows :=
  ⟨h.len, Nat.le_trans h.top hs, Nat.lt_of_lt_of_le h.lt hs, fun i hi => (World.cell?_of_block (a := ⟨b, i, none⟩) hb).trans (h.cell i hi), h.ob, h.rf.same fun g _ _ ⟨i, hi, e⟩ => hr i (by rw [← h.len]; exact hi) g e⟩

/- 63 -/
structure MB (w : World) (lo hi b : Nat) (vs : List Value) (k : Nat) (k0 : Int) (rows : List (List Int)) (i : Nat) (wr : World) : Prop where
  wn : Wb vs k w wr
  out : wr.heap[b]? = w.heap[b]?
  ok : ∀ j, j < k → RowOk wr lo hi (vat vs j) (if j < i then rat (mkRows k0 rows) j else rat rows j)
theorem MB.step {w wr w2 : World} {lo hi b : Nat} {vs : List Value} {k : Nat} {k0 : Int} {rows : List (List Int)} {i : Nat} (h : MB w lo hi b vs k k0 rows i wr) (hi' : i < k) (hl : rows.length = k) (ht : hi ≤ wr.heap.size) (hbs : b < wr.heap.size) (hap : ∀ i j, i < j → j < k → blk (vat vs i) ≠ blk (vat vs j)) (hob : ∀ i, i < k → blk (vat vs i) ≠ some b) {b' c' : Nat} (hv : vat vs i = .slice (some ⟨b', 0, none⟩) (rat rows i).length c')
    (hn : NewI w2 lo (some ⟨b', 0, none⟩) (rat rows i).length (seqFrom (k0 + (offR rows i : Nat)) (rat rows i).length)) (hg : wr.grownBy w2 (wBlock (some ⟨b', 0, none⟩) (rat rows i).length)) : MB w lo hi b vs k k0 rows (i + 1) w2 := by
  have hok := h.ok i hi'
  rw [if_neg (by omega)] at hok
  obtain ⟨b1, c1, e1, g0, g1, g2, g3, g4⟩ := hok
  rw [hv] at e1
  have e1' : b' = b1 := by injection e1 with e2 _ _; injection e2 with e3; injection e3
  subst e1'
  have hcc : c' = c1 := by injection e1
  have hrow : ∀ k', wBlock (some ⟨b', 0, none⟩) (rat rows i).length = some k' → k' = b' := by
    intro k' e
    unfold wBlock at e
    split at e
    · cases e
    · cases e; rfl
  refine ⟨h.wn.trans (Wb.of_grown hg fun k' e => ⟨i, hi', by rw [hv]; show some b' = some k'; rw [hrow k' e]⟩), ?_, fun j hj => ?_⟩
  · rw [hg.block b hbs (fun e => ?_)]
    · exact h.out
    · have := hrow b e.symm
      exact hob i hi' (by rw [hv]; show some b' = some b; rw [this])
  · by_cases e : j = i
    · subst e
      rw [if_pos (by omega), mkRows_at (by omega)]
      refine ⟨b', c', by rw [hv, seqFrom_length], by rw [seqFrom_length]; omega, g1, g2, fun m hm => ?_, fun m hm => ?_⟩
      · rw [seqFrom_length] at hm
        obtain ⟨b3, o3, e3, _, _, hc, _⟩ := hn.2 (by omega)
        cases e3
        have := hc m hm
        rw [Nat.zero_add] at this
        exact this
      · rw [seqFrom_length] at hm
        obtain ⟨b3, o3, e3, _, _, _, hf⟩ := hn.2 (by omega)
        cases e3
        have := hf m hm
        rw [Nat.zero_add] at this
        exact this
    · have hj' := h.ok j hj
      have e2 : (if j < i + 1 then rat (mkRows k0 rows) j else rat rows j) = (if j < i then rat (mkRows k0 rows) j else rat rows j) := by
        by_cases e3 : j < i
        · rw [if_pos e3, if_pos (by omega)]
        · rw [if_neg e3, if_neg (by omega)]
      rw [e2]
      refine hj'.same fun bb ebb => ?_
      obtain ⟨b4, e4, _, h5⟩ := hj'.blk
      refine hg.block bb (by rw [e4] at ebb; cases ebb; omega) (fun e5 => ?_)
      have := hrow bb e5.symm
      subst this
      by_cases e6 : j < i
      · exact hap j i e6 hi' (by rw [ebb, hv]; rfl)
      · exact hap i j (by omega) hj (by rw [ebb, hv]; rfl)

set_option maxHeartbeats 800000 in
theorem markIntSSb_any (b k c lo hi : Nat) (vs : List Value) (rows : List (List Int)) (k0 : Int) (w : World) (hk : k ≤ 2000000) (hr : ∀ i, i < k → (rat rows i).length ≤ 2000000) (ho : offR rows k ≤ 1000000000) (hk0 : 0 ≤ k0) (hk1 : k0 ≤ 1000000000) (ha : FH w lo hi b k vs rows) :
    Calls Try.prog 63 #[.slice (some ⟨b, 0, none⟩) k c, .int .i64 k0] w fun e w' => e = .returned (.int .i64 (k0 + (offR rows k : Nat))) ∧ FH w' lo hi b k vs (mkRows k0 rows) ∧ Wb vs k w w' := by
  obtain ⟨hl, ht, hb2, hc, hob, hrf⟩ := ha
  have HC := Lib.hid hc
  have HOB := Lib.hid hob
  have HRF := Lib.hid hrf
  have HR := Lib.hid hr
  have HL := Lib.hid hl
  have HM := Lib.hid (fun i j (h : i ≤ j) => offR_mono (rows := rows) h)
  have M0 : MB w lo hi b vs k k0 rows 0 w := ⟨Wb.refl _ _ _, rfl, fun j hj => by rw [if_neg (by omega)]; exact hrf.ok j (by omega)⟩
  clear hc hob hrf hr hl
  go_enter Try.func63, Try.ntmps63
  go_wp2
  go_loopg [1, 5] k (fun gg s1 s5 wr => ∃ i : Nat, i ≤ k ∧ k - i ≤ gg ∧ s5 = .int .i64 i ∧ s1 = .int .i64 (k0 + (offR rows i : Nat)) ∧ MB w lo hi b vs k k0 rows i wr)
  case atStart => exact ⟨0, by omega, by omega, rfl, by simp [offR], M0⟩
  case round =>
    clear M0
    obtain ⟨i, hi', hg, rfl, rfl, hM⟩ := hrel
    have hof := HM.out i k hi'
    by_cases hlt : i < k
    · have hok := hM.ok i hlt
      rw [if_neg (by omega)] at hok
      have hsz := hM.wn.size
      obtain ⟨b', c', hv, hnew⟩ := hok.new (by omega)
      have hcell : wr.cell? ⟨b, i, none⟩ = some (.slice (some ⟨b', 0, none⟩) (rat rows i).length c') := by
        rw [World.cell?_of_block (a := ⟨b, i, none⟩) hM.out, HC.out i hlt, hv]
      have hrl := HR.out i hlt
      have CM := Lib.hid (markIntS_any (some ⟨b', 0, none⟩) (rat rows i).length c' lo (rat rows i) (k0 + (offR rows i : Nat)) wr hrl (by omega) (by omega) hnew)
      have HS := Lib.hid (fun w2 hn hg => hM.step (w2 := w2) hlt HL.out (by omega) (by omega) (fun i j h1 h2 => HRF.out.ap i j h1 (by rw [HL.out]; exact h2)) HOB.out hv hn hg)
      have HOF := Lib.hid (show offR rows (i + 1) = offR rows i + (rat rows i).length from rfl)
      clear hok hnew hM hv
      generalize (rat rows i).length = m at *
      generalize offR rows i = o at *
      go_wp2_with fail
      refine CM.out.mono ?_
      rintro e w2 ⟨rfl, hn2, hg2⟩
      have hS := Lib.hid (HS.out w2 hn2 hg2)
      clear hn2 hg2 HS CM hcell
      go_wp2_with fail
      go_roundg (k - (i + 1))
      case measure => omega
      case rel => exact ⟨i + 1, by omega, by omega, by go_num, by rw [HOF.out]; first | (go_num; done) | (congr 1; omega), hS.out⟩
    · obtain rfl : i = k := by omega
      have HMl := Lib.hid hM
      clear hM
      generalize hoo : offR rows i = o at *
      go_wp2_with fail
      go_ret
      refine ⟨by rw [hoo]; rfl, ⟨by rw [mkRows_length, HL.out], by have := HMl.out.wn.size; omega, by have := HMl.out.wn.size; omega, fun j hj => ?_, HOB.out, ?_⟩, HMl.out.wn⟩
      · rw [World.cell?_of_block (a := ⟨b, j, none⟩) HMl.out.out]
        exact HC.out j hj
      · refine ⟨by rw [mkRows_length]; exact HRF.out.len, fun j hj => ?_, fun j1 j2 h1 h2 => HRF.out.ap j1 j2 h1 (by rw [mkRows_length] at h2; exact h2)⟩
        rw [mkRows_length, HL.out] at hj
        have := HMl.out.ok j hj
        rw [if_pos hj] at this
        exact this

end Go.Proofs.Ytblaaeanbhgokaa
