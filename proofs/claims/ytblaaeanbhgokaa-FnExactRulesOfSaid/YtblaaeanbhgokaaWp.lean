/-
  Wp. By a program (wip/tools/mk.py) out of snippets.
-/
import Derived.Test.YtblaaeanbhgokaaLib
namespace Go.Proofs.Ytblaaeanbhgokaa
open Go.RowKit



theorem bDrewN {B : Nat} {a w : World} (h : Below B a w) (n : Nat) : Below B a (w.drewN n) := h.trans ⟨rfl, rfl, rfl, Nat.le_refl _, fun _ _ => rfl⟩
/-- A call that only reads: it may draw. -/
def Qt (w : World) (v : Value) (e : Ending) (w' : World) : Prop := e = .returned v ∧ ∃ m, w' = w.drewN m
theorem Qt.same (w : World) (v : Value) : Qt w v (.returned v) w := ⟨rfl, 0, rfl⟩
theorem Qt.mk' {w : World} {v : Value} (m : Nat) : Qt w v (.returned v) (w.drewN m) := ⟨rfl, m, rfl⟩

/-- The first k numbers of zs, then zeros up to n. -/
def upto (zs : List Int) (k n : Nat) : List Int := zs.take k ++ List.replicate (n - k) 0
theorem upto_zero (zs : List Int) (n : Nat) : upto zs 0 n = List.replicate n 0 := by simp [upto]
theorem upto_full {zs : List Int} {n : Nat} (h : zs.length = n) : upto zs n n = zs := by simp [upto, ← h]
theorem upto_length {zs : List Int} {k n : Nat} (h : zs.length = n) (hk : k ≤ n) : (upto zs k n).length = n := by simp [upto]; omega
theorem upto_set {zs : List Int} {k n : Nat} (h : zs.length = n) (hk : k < n) : (upto zs k n).set k (iat zs k) = upto zs (k + 1) n := by
  have hl : k < zs.length := by omega
  apply List.ext_getElem?
  intro j
  simp only [upto, iat, List.getElem?_set, List.getElem?_append, List.length_append, List.length_take, List.length_replicate, List.getElem?_take, List.getElem?_replicate]
  rcases Nat.lt_trichotomy j k with h1 | h1 | h1
  · have e1 : j < min k zs.length := by omega
    have e2 : j < min (k + 1) zs.length := by omega
    rw [if_neg (by omega), if_pos e1, if_pos e2, if_pos h1, if_pos (by omega)]
  · subst h1
    have e2 : j < min (j + 1) zs.length := by omega
    rw [if_pos rfl, if_pos (by omega), if_pos e2, if_pos (by omega)]
    simp [hl]
  · have e1 : ¬ j < min k zs.length := by omega
    have e2 : ¬ j < min (k + 1) zs.length := by omega
    rw [if_neg (by omega), if_neg e1, if_neg e2]
    by_cases hj : j < n
    · rw [if_pos (by omega), if_pos (by omega)]
    · rw [if_neg (by omega), if_neg (by omega)]
theorem map_set_int (zs : List Int) (k : Nat) (x : Int) : (zs.map (Value.int .i64)).set k (.int .i64 x) = (zs.set k x).map (Value.int .i64) := by
  rw [List.map_set]

theorem own_stored {w : World} {base e g n cap : Nat} {zs : List Int} (h : w.ownsRow base e 1 (.slice (some ⟨g, 0, none⟩) n cap) n (zs.map (Value.int .i64))) (j : Nat) (x : Int) :
    (w.setCell ⟨g, j, none⟩ (.int .i64 x)).ownsRow base e 1 (.slice (some ⟨g, 0, none⟩) n cap) n ((zs.set j x).map (Value.int .i64)) ∧ w.grownBy (w.setCell ⟨g, j, none⟩ (.int .i64 x)) (some g) := by
  have := World.ownsRow.stored h j (.int .i64 x)
  rwa [map_set_int] at this
theorem own_cell {w : World} {base e g n cap : Nat} {zs : List Int} (h : w.ownsRow base e 1 (.slice (some ⟨g, 0, none⟩) n cap) n (zs.map (Value.int .i64))) {j : Nat} (hj : j < n) :
    w.cell? ⟨g, j, none⟩ = some (.int .i64 (iat zs j)) := by
  have hl : j < zs.length := by have := h.1; simp at this; omega
  rw [World.ownsRow.cellAt h j (by omega)]
  simp [iat, hl]
theorem madeInts (n : Nat) : (madeCells #[Value.int .i64 0] n).toList = (List.replicate n (0 : Int)).map (Value.int .i64) := by
  simp [toList_madeCells_one]

/-- Is n between lo and hi? -/
def inR (n lo hi : Int) : Bool := decide (lo ≤ n) && decide (n ≤ hi)
theorem inR_true {n lo hi : Int} (h : lo ≤ n ∧ n ≤ hi) : inR n lo hi = true := by simp [inR, h.1, h.2]
theorem inR_false {n lo hi : Int} (h : ¬ (lo ≤ n ∧ n ≤ hi)) : inR n lo hi = false := by simp [inR]; omega
theorem inR_iff {n lo hi : Int} : inR n lo hi = true ↔ lo ≤ n ∧ n ≤ hi := by simp [inR]
theorem inR_iff' {n lo hi : Int} : inR n lo hi = false ↔ ¬ (lo ≤ n ∧ n ≤ hi) := by simp [inR]

theorem iat_mem {zs : List Int} {i : Nat} (h : i < zs.length) : iat zs i ∈ zs := by rw [iat_eq h]; exact List.getElem_mem h

/-- The first place at which p holds, -1 if there is none. -/
def fidx (p : Int → Bool) (zs : List Int) : Int := if zs.any p then (zs.findIdx p : Int) else -1
theorem fidx_hit {p : Int → Bool} {zs : List Int} {k : Nat} (hk : k < zs.length) (hp : p (iat zs k) = true) (h : ∀ j, j < k → p (iat zs j) = false) : fidx p zs = (k : Int) := by
  rw [iat_eq hk] at hp
  have h1 : zs.any p = true := List.any_eq_true.2 ⟨zs[k], List.getElem_mem hk, hp⟩
  have h2 : zs.findIdx p = k := by
    rw [List.findIdx_eq hk]
    exact ⟨hp, fun j hj => by have := h j hj; rw [iat_eq (by omega)] at this; simpa using this⟩
  simp [fidx, h1, h2]
theorem fidx_miss {p : Int → Bool} {zs : List Int} (h : ∀ j, j < zs.length → p (iat zs j) = false) : fidx p zs = -1 := by
  have h1 : zs.any p = false := by
    rw [List.any_eq_false]
    intro x hx
    obtain ⟨j, hj, rfl⟩ := List.mem_iff_getElem.1 hx
    have := h j hj
    rw [iat_eq hj] at this
    simp [this]
  simp [fidx, h1]
theorem fidx_bd {p : Int → Bool} {zs : List Int} : -1 ≤ fidx p zs ∧ fidx p zs ≤ zs.length := by
  unfold fidx
  split
  · have := List.findIdx_le_length (xs := zs) (p := p); omega
  · omega
theorem fidx_any (p : Int → Bool) (zs : List Int) : decide (0 ≤ fidx p zs) = zs.any p := by
  unfold fidx
  by_cases h : zs.any p = true
  · rw [if_pos h, h]; simp
  · rw [if_neg h]; simp at h; simp; exact h

/-- Bits of numbers that are not negative, as those of natural numbers. -/
theorem bits_and64 (a b : Nat) (ha : a < 2 ^ 63) (hb : b < 2 ^ 63) : bits .and .i64 (a : Int) (b : Int) = ((a &&& b : Nat) : Int) :=
  (bits_nat .i64 63 (by decide) (fun n h1 h2 => IntWalk.i64_in n (by omega)) a b ha hb).1
theorem bits_or64 (a b : Nat) (ha : a < 2 ^ 63) (hb : b < 2 ^ 63) : bits .or .i64 (a : Int) (b : Int) = ((a ||| b : Nat) : Int) :=
  (bits_nat .i64 63 (by decide) (fun n h1 h2 => IntWalk.i64_in n (by omega)) a b ha hb).2
theorem bits_xor64 (a b : Nat) (ha : a < 2 ^ 63) (hb : b < 2 ^ 63) : bits .xor .i64 (a : Int) (b : Int) = ((a ^^^ b : Nat) : Int) := by
  have hp : (2 : Nat) ^ 63 ≤ 2 ^ IntKind.i64.bits := Nat.pow_le_pow_right (by decide) (by decide)
  have ha' : a % 2 ^ IntKind.i64.bits = a := Nat.mod_eq_of_lt (Nat.lt_of_lt_of_le ha hp)
  have hb' : b % 2 ^ IntKind.i64.bits = b := Nat.mod_eq_of_lt (Nat.lt_of_lt_of_le hb hp)
  have hx := Nat.xor_lt_two_pow ha hb
  simp only [bits, BitVec.ofInt_natCast, BitVec.toNat_xor, BitVec.toNat_ofNat, ha', hb']
  exact IntWalk.i64_in _ (by omega)
theorem bits_xor_nonneg (x y : Int) (hx0 : 0 ≤ x) (hx : x < 9223372036854775808) (hy0 : 0 ≤ y) (hy : y < 9223372036854775808) : 0 ≤ bits .xor .i64 x y := by
  obtain ⟨a, rfl⟩ := Int.eq_ofNat_of_zero_le hx0
  obtain ⟨b, rfl⟩ := Int.eq_ofNat_of_zero_le hy0
  rw [bits_xor64 a b (by omega) (by omega)]
  omega

/-- The block that a slice of n elements lies in, none if it has no element. -/
def wBlock (A : Option Addr) (n : Nat) : Option Nat := if n = 0 then none else A.map (·.block)
theorem wBlock_zero (A : Option Addr) : wBlock A 0 = none := rfl
theorem wBlock_some {n : Nat} (b o : Nat) (h : 0 < n) : wBlock (some ⟨b, o, none⟩) n = some b := by simp [wBlock]; omega
/-- A slice of numbers that the call made: it reads as zs, lies in a block from lo on and below hi, and may be written. -/
def Z (w : World) (lo hi : Nat) (A : Option Addr) (n : Nat) (zs : List Int) : Prop :=
  zs.length = n ∧ hi ≤ w.heap.size ∧ (0 < n → ∃ b off, A = some ⟨b, off, none⟩ ∧ lo ≤ b ∧ b < hi ∧
    (∀ i, i < n → w.cell? ⟨b, off + i, none⟩ = some (.int .i64 (iat zs i))) ∧ ∀ i, i < n → w.frozen? ⟨b, off + i, none⟩ = false)
theorem NewI.z {w base A n zs} (h : NewI w base A n zs) : Z w base w.heap.size A n zs :=
  ⟨h.1, Nat.le_refl _, fun hn => by obtain ⟨b, off, e, h1, h2, hc, hf⟩ := h.2 hn; exact ⟨b, off, e, h1, h2, hc, hf⟩⟩
theorem Z.si {w lo hi A n zs} (h : Z w lo hi A n zs) : SI w A n zs :=
  ⟨h.1, fun hn => by obtain ⟨b, off, e, _, _, hc, _⟩ := h.2.2 hn; exact ⟨b, off, e, hc⟩⟩
theorem Z.new {w lo hi A n zs} (h : Z w lo hi A n zs) : NewI w lo A n zs :=
  ⟨h.1, fun hn => by obtain ⟨b, off, e, h1, h2, hc, hf⟩ := h.2.2 hn; exact ⟨b, off, e, h1, by have := h.2.1; omega, hc, hf⟩⟩
theorem Z.below {w w' : World} {lo hi A n zs} (h : Z w lo hi A n zs) {B : Nat} (hb : Below B w w') (hB : hi ≤ B) : Z w' lo hi A n zs :=
  ⟨h.1, by have := h.2.1; have := hb.size; omega, fun hn => by
    obtain ⟨b, off, e, h1, h2, hc, hf⟩ := h.2.2 hn
    exact ⟨b, off, e, h1, h2, fun i hi => (hb.cell (p := ⟨b, off + i, none⟩) (by show b < B; omega)).trans (hc i hi),
      fun i hi => (hb.frozen (p := ⟨b, off + i, none⟩) (by show b < B; omega)).trans (hf i hi)⟩⟩
theorem Z.later {w w' : World} {lo hi A n zs} (h : Z w lo hi A n zs) (hb : Below w.heap.size w w') : Z w' lo hi A n zs := h.below hb h.2.1
theorem Z.drewN {w : World} {lo hi A n zs} (h : Z w lo hi A n zs) (m : Nat) : Z (w.drewN m) lo hi A n zs := h
theorem Z.row {w : World} {lo hi A n zs} (h : Z w lo hi A n zs) : ∀ k, wBlock A n = some k → lo ≤ k ∧ k < hi := by
  intro k hk
  by_cases h0 : n = 0
  · subst h0; cases hk
  · obtain ⟨b, off, rfl, h1, h2, _⟩ := h.2.2 (by omega)
    rw [wBlock_some b off (by omega)] at hk
    cases hk
    exact ⟨h1, h2⟩
/-- What stands elsewhere stays while a row is written. -/
theorem Z.grown {w w' : World} {lo hi A n zs lo' hi' A' n' zs'} (h : Z w lo hi A n zs) (hg : w.grownBy w' (wBlock A' n')) (h' : Z w lo' hi' A' n' zs') (hd : hi ≤ lo' ∨ hi' ≤ lo) : Z w' lo hi A n zs :=
  ⟨h.1, by have := h.2.1; have := hg.size; omega, fun hn => by
    obtain ⟨b, off, e, h1, h2, hc, hf⟩ := h.2.2 hn
    have hb := hg.block b (by have := h.2.1; omega) (fun e => by have := h'.row b e.symm; omega)
    exact ⟨b, off, e, h1, h2, fun i hi => (World.cell?_of_block (w := w) hb).trans (hc i hi),
      fun i hi => (World.frozen?_of_block (w := w) hb).trans (hf i hi)⟩⟩
/-- A row of the call's own was written: below it all is as it was. -/
theorem Z.wrote {w w' : World} {lo hi A n zs} (h : Z w lo hi A n zs) (hg : w.grownBy w' (wBlock A n)) {B : Nat} (hB : B ≤ lo) (hs : B ≤ w.heap.size) : Below B w w' :=
  (Below.refl B w).grown hg hs (fun k hk => by have := h.row k hk; omega)
theorem bstep {w w1 w2 : World} (h : Below w.heap.size w w1) (h2 : Below w1.heap.size w1 w2) : Below w.heap.size w w2 := h.trans (h2.mono h.size)

/-- A store into a new slice. -/
theorem NewI.set_ {w : World} {base b off n : Nat} {zs : List Int} (h : NewI w base (some ⟨b, off, none⟩) n zs) {j : Nat} (hj : j < n) {x : Int} :
    NewI (w.setCell ⟨b, off + j, none⟩ (.int .i64 x)) base (some ⟨b, off, none⟩) n (zs.set j x) := by
  refine ⟨by simpa using h.1, fun hn => ?_⟩
  obtain ⟨b', off', e, h1, h2, hc, hf⟩ := h.2 hn
  cases e
  refine ⟨b, off, rfl, h1, by simpa using h2, fun i hi => ?_, fun i hi => by rw [World.frozen?_setCell]; exact hf i hi⟩
  by_cases e : i = j
  · subst e
    rw [World.cell?_setCell_same _ _ _ (hc i hi)]
    simp [iat, h.1, hi]
  · rw [World.cell?_setCell_other _ _ _ _ (fun e' => e (by injection e'; omega)), hc i hi]
    simp [iat, Ne.symm e]
theorem NewI.set0 {w : World} {base b off n : Nat} {zs : List Int} (h : NewI w base (some ⟨b, off, none⟩) n zs) (hj : 0 < n) {x : Int} :
    NewI (w.setCell ⟨b, off, none⟩ (.int .i64 x)) base (some ⟨b, off, none⟩) n (zs.set 0 x) := h.set_ (j := 0) hj

/-- A literal list of numbers, just laid. -/
theorem SI_lit (w : World) (t : TypeId) (zs : List Int) : SI (w.alloc (.cells (zs.map (Value.int .i64)).toArray t)) (some ⟨w.heap.size, 0, none⟩) zs.length zs := by
  refine ⟨rfl, fun _ => ⟨w.heap.size, 0, rfl, fun i hi => ?_⟩⟩
  rw [World.cell?_alloc_new]
  simp [iat, hi]
theorem SI.take {w : World} {A n zs} (h : SI w A n zs) {m : Nat} (hm : m ≤ n) : SI w A m (zs.take m) := by
  refine ⟨by rw [List.length_take, h.1]; omega, fun hp => ?_⟩
  obtain ⟨b, off, e, hc⟩ := h.2 (by omega)
  refine ⟨b, off, e, fun i hi => ?_⟩
  rw [hc i (by omega)]
  simp [iat, hi]
theorem gby_belowB {w w' : World} {R B : Nat} (h : w.grownBy w' (some R)) (hB : B ≤ R) (hR : R < w.heap.size) : Below B w w' :=
  (Below.refl B w).grown h (by omega) (fun k hk => by cases hk; exact hB)

end Go.Proofs.Ytblaaeanbhgokaa
