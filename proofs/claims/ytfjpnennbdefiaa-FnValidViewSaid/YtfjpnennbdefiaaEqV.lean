/-
  EqV. By a program (wip/tools/mk.py) out of snippets.
-/
import Derived.Test.YtfjpnennbdefiaaView1
import Derived.Test.YtfjpnennbdefiaaReader
namespace Go.Proofs.Ytfjpnennbdefiaa
open Go.RowKit

/-- A view in a box. -/
structure Bx (w : World) (s : Nat) (V : Int) (A : Option Addr) (k c : Nat) : Prop where
  c0 : w.cell? ⟨s, 0, none⟩ = some (.int .i64 V)
  c1 : w.cell? ⟨s, 1, none⟩ = some (.slice A k c)
  lt : s < w.heap.size
theorem Bx.later {w w' : World} {s : Nat} {V : Int} {A : Option Addr} {k c : Nat} (h : Bx w s V A k c) (hb : Below w.heap.size w w') : Bx w' s V A k c :=
  ⟨(hb.cell (p := ⟨s, 0, none⟩) h.lt).trans h.c0, (hb.cell (p := ⟨s, 1, none⟩) h.lt).trans h.c1, Nat.lt_of_lt_of_le h.lt hb.size⟩
theorem Bx.alloc {w : World} {s : Nat} {V : Int} {A : Option Addr} {k c : Nat} (h : Bx w s V A k c) (o : Obj) : Bx (w.alloc o) s V A k c := h.later ((Below.refl _ _).alloc (Nat.le_refl _) o)
theorem Bx.new (w : World) (V : Int) (A : Option Addr) (k c : Nat) (t : TypeId) : Bx (w.alloc (.cells #[.int .i64 V, .slice A k c] t)) w.heap.size V A k c := ⟨by simp, by simp, by simp⟩
/-- A view just put into a box: the world behind it, by a name of its own. -/
theorem boxed (w : World) (V : Int) (A : Option Addr) (k c : Nat) (t : TypeId) (rows : List (List Int)) (hS : SS w A k rows) (B : Nat) (w0 : World) (hB : Below B w0 w) (hl : B ≤ w0.heap.size) :
    ∃ W s, W = w.alloc (.cells #[.int .i64 V, .slice A k c] t) ∧ s = w.heap.size ∧ Bx W s V A k c ∧ SS W A k rows ∧ Below B w0 W ∧ Below w.heap.size w W :=
  ⟨_, _, rfl, rfl, Bx.new _ _ _ _ _ _, hS.alloc _, hB.alloc (Nat.le_trans hl hB.size) _, (Below.refl _ _).alloc (Nat.le_refl _) _⟩

end Go.Proofs.Ytfjpnennbdefiaa
