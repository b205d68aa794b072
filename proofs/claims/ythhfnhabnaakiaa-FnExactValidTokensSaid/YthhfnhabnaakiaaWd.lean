/-
  Wd. By a program (wip/tools/mk.py) out of snippets.
-/
import Derived.Test.YthhfnhabnaakiaaLib
import Derived.Test.YthhfnhabnaakiaaProg
namespace Go.Proofs.Ythhfnhabnaakiaa
open Go.RowKit



theorem bDrewN {B : Nat} {a w : World} (h : Below B a w) (n : Nat) : Below B a (w.drewN n) := h.trans ⟨rfl, rfl, rfl, Nat.le_refl _, fun _ _ => rfl⟩
/-- A call that only reads: it may draw. -/
def Qt (w : World) (v : Value) (e : Ending) (w' : World) : Prop := e = .returned v ∧ ∃ m, w' = w.drewN m
theorem Qt.same (w : World) (v : Value) : Qt w v (.returned v) w := ⟨rfl, 0, rfl⟩
theorem Qt.mk' {w : World} {v : Value} (m : Nat) : Qt w v (.returned v) (w.drewN m) := ⟨rfl, m, rfl⟩

/-- The first k numbers of zs, then zeros up to n. -/
def upto (zs : List Int) (k n : Nat) : List Int := zs.take k ++ List.replicate (n - k) 0
theorem upto_zero (zs : List Int) (n : Nat) : upto zs 0 n = List.replicate n 0 := by simp [upto]
theorem upto_full {zs : List Int} {n : Nat} (h : zs.length = n) : upto zs n n = zs := by simp [upto, ← h]
theorem upto_length {zs : List Int} {k n : Nat} (h : zs.length = n) (hk : k ≤ n) : (upto zs k n).length = n := by simp [upto]; omega
theorem upto_set {zs : List Int} {k n : Nat} (h : zs.length = n) (hk : k < n) : (upto zs k n).set k (iat zs k) = upto zs (k + 1) n := by
  have hl : k < zs.length := by omega
  apply List.ext_getElem?
  intro j
  simp only [upto, iat, List.getElem?_set, List.getElem?_append, List.length_append, List.length_take, List.length_replicate, List.getElem?_take, List.getElem?_replicate]
  rcases Nat.lt_trichotomy j k with h1 | h1 | h1
  · have e1 : j < min k zs.length := by omega
    have e2 : j < min (k + 1) zs.length := by omega
    rw [if_neg (by omega), if_pos e1, if_pos e2, if_pos h1, if_pos (by omega)]
  · subst h1
    have e2 : j < min (j + 1) zs.length := by omega
    rw [if_pos rfl, if_pos (by omega), if_pos e2, if_pos (by omega)]
    simp [hl]
  · have e1 : ¬ j < min k zs.length := by omega
    have e2 : ¬ j < min (k + 1) zs.length := by omega
    rw [if_neg (by omega), if_neg e1, if_neg e2]
    by_cases hj : j < n
    · rw [if_pos (by omega), if_pos (by omega)]
    · rw [if_neg (by omega), if_neg (by omega)]
theorem map_set_int (zs : List Int) (k : Nat) (x : Int) : (zs.map (Value.int .i64)).set k (.int .i64 x) = (zs.set k x).map (Value.int .i64) := by
  rw [List.map_set]

theorem own_stored {w : World} {base e g n cap : Nat} {zs : List Int} (h : w.ownsRow base e 1 (.slice (some ⟨g, 0, none⟩) n cap) n (zs.map (Value.int .i64))) (j : Nat) (x : Int) :
    (w.setCell ⟨g, j, none⟩ (.int .i64 x)).ownsRow base e 1 (.slice (some ⟨g, 0, none⟩) n cap) n ((zs.set j x).map (Value.int .i64)) ∧ w.grownBy (w.setCell ⟨g, j, none⟩ (.int .i64 x)) (some g) := by
  have := World.ownsRow.stored h j (.int .i64 x)
  rwa [map_set_int] at this
theorem own_cell {w : World} {base e g n cap : Nat} {zs : List Int} (h : w.ownsRow base e 1 (.slice (some ⟨g, 0, none⟩) n cap) n (zs.map (Value.int .i64))) {j : Nat} (hj : j < n) :
    w.cell? ⟨g, j, none⟩ = some (.int .i64 (iat zs j)) := by
  have hl : j < zs.length := by have := h.1; simp at this; omega
  rw [World.ownsRow.cellAt h j (by omega)]
  simp [iat, hl]
theorem madeInts (n : Nat) : (madeCells #[Value.int .i64 0] n).toList = (List.replicate n (0 : Int)).map (Value.int .i64) := by
  simp [toList_madeCells_one]

/-- Is n between lo and hi? -/
def inR (n lo hi : Int) : Bool := decide (lo ≤ n) && decide (n ≤ hi)
theorem inR_true {n lo hi : Int} (h : lo ≤ n ∧ n ≤ hi) : inR n lo hi = true := by simp [inR, h.1, h.2]
theorem inR_false {n lo hi : Int} (h : ¬ (lo ≤ n ∧ n ≤ hi)) : inR n lo hi = false := by simp [inR]; omega
theorem inR_iff {n lo hi : Int} : inR n lo hi = true ↔ lo ≤ n ∧ n ≤ hi := by simp [inR]
theorem inR_iff' {n lo hi : Int} : inR n lo hi = false ↔ ¬ (lo ≤ n ∧ n ≤ hi) := by simp [inR]

/-- The first place at which p holds, -1 if there is none. -/
def fidx (p : Int → Bool) (zs : List Int) : Int := if zs.any p then (zs.findIdx p : Int) else -1
theorem fidx_hit {p : Int → Bool} {zs : List Int} {k : Nat} (hk : k < zs.length) (hp : p (iat zs k) = true) (h : ∀ j, j < k → p (iat zs j) = false) : fidx p zs = (k : Int) := by
  rw [iat_eq hk] at hp
  have h1 : zs.any p = true := List.any_eq_true.2 ⟨zs[k], List.getElem_mem hk, hp⟩
  have h2 : zs.findIdx p = k := by
    rw [List.findIdx_eq hk]
    exact ⟨hp, fun j hj => by have := h j hj; rw [iat_eq (by omega)] at this; simpa using this⟩
  simp [fidx, h1, h2]
theorem fidx_miss {p : Int → Bool} {zs : List Int} (h : ∀ j, j < zs.length → p (iat zs j) = false) : fidx p zs = -1 := by
  have h1 : zs.any p = false := by
    rw [List.any_eq_false]
    intro x hx
    obtain ⟨j, hj, rfl⟩ := List.mem_iff_getElem.1 hx
    have := h j hj
    rw [iat_eq hj] at this
    simp [this]
  simp [fidx, h1]
theorem fidx_bd {p : Int → Bool} {zs : List Int} : -1 ≤ fidx p zs ∧ fidx p zs ≤ zs.length := by
  unfold fidx
  split
  · have := List.findIdx_le_length (xs := zs) (p := p); omega
  · omega
theorem fidx_any (p : Int → Bool) (zs : List Int) : decide (0 ≤ fidx p zs) = zs.any p := by
  unfold fidx
  by_cases h : zs.any p = true
  · rw [if_pos h, h]; simp
  · rw [if_neg h]; simp at h; simp; exact h

theorem info3 : (Try.prog.info? 3).map (fun i => (i.zero, i.size, i.bytes)) = some (some (.int .i64 0), 1, 8) := by kernel_rfl

end Go.Proofs.Ythhfnhabnaakiaa
