/-
  Words on memory and slices of numbers for the walks of this seat: a slice value that reads as a list of ints; what a call leaves ('Below').
-/
import Derived.WalkKit
import Derived.WalkSpells
import Derived.Deep.QuietTactic
import Derived.BigQuiet
import Derived.Maps.AppendAt
import Derived.Deep.LoopGhost
import Derived.Deep.AppendLies
import Derived.KernelRfl
import Derived.Lib.Hide
import Derived.Deep.RegionWith
import Derived.Shelf.Abstract
namespace Go.Proofs.Ytblaaeanbhgokaa
open Go.RowKit

/-- The i-th number of a list, a name that simp does not open. -/
def iat (zs : List Int) (i : Nat) : Int := zs.getD i 0
theorem iat_eq {zs : List Int} {i : Nat} (h : i < zs.length) : iat zs i = zs[i] := by simp [iat, h]
theorem iat_map {α : Type} {f : α → Int} {l : List α} {i : Nat} (h : i < l.length) : iat (l.map f) i = f l[i] := by simp [iat, h]

/-- The slice value '.slice A n c' reads as the numbers zs. -/
def SI (w : World) (A : Option Addr) (n : Nat) (zs : List Int) : Prop :=
  zs.length = n ∧ (0 < n → ∃ b off, A = some ⟨b, off, none⟩ ∧ ∀ i, i < n → w.cell? ⟨b, off + i, none⟩ = some (.int .i64 (iat zs i)))

theorem SI.len {w A n zs} (h : SI w A n zs) : zs.length = n := h.1
theorem SI.nil {w : World} {A} : SI w A 0 [] := ⟨rfl, fun h => absurd h (by omega)⟩
theorem SI.of_cells {w w' : World} {A n zs} (h : SI w A n zs) (hk : ∀ b o v, w.cell? ⟨b, o, none⟩ = some v → w'.cell? ⟨b, o, none⟩ = some v) : SI w' A n zs :=
  ⟨h.1, fun hn => by obtain ⟨b, off, e, hc⟩ := h.2 hn; exact ⟨b, off, e, fun i hi => hk _ _ _ (hc i hi)⟩⟩
theorem SI.below {w w' : World} {A n zs} (h : SI w A n zs) {B : Nat} (hb : Below B w w') (hB : w.heap.size ≤ B) : SI w' A n zs :=
  h.of_cells fun b o v hv => by
    have := World.block_lt_of_cell? w _ hv
    rw [hb.cell (p := ⟨b, o, none⟩) (by simp at this ⊢; omega)]; exact hv
theorem SI.drew {w : World} {A n zs} (h : SI w A n zs) : SI w.drew A n zs := h
theorem SI.alloc {w : World} {A n zs} (h : SI w A n zs) (o : Obj) : SI (w.alloc o) A n zs :=
  h.below (B := w.heap.size) ((Below.refl _ _).alloc (Nat.le_refl _) o) (Nat.le_refl _)
theorem SI.grown {w w' : World} {A n zs} (h : SI w A n zs) {row : Option Nat} (hg : w.grownBy w' row) (hr : ∀ b o, A = some ⟨b, o, none⟩ → some b ≠ row) : SI w' A n zs :=
  ⟨h.1, fun hn => by
    obtain ⟨b, off, e, hc⟩ := h.2 hn
    exact ⟨b, off, e, fun i hi => hg.cell (hc i hi) (by simpa using hr b off e)⟩⟩

theorem SI.at_ {w : World} {A n zs} (h : SI w A n zs) {k : Nat} (hk : k < n) : ∃ b off, A = some ⟨b, off, none⟩ ∧ w.cell? ⟨b, off + k, none⟩ = some (.int .i64 (iat zs k)) := by
  obtain ⟨b, off, e, hc⟩ := h.2 (by omega)
  exact ⟨b, off, e, hc k hk⟩

/-- A new slice of numbers that the call made: it reads as zs, lies from block 'base' on, and may be written. -/
def NewI (w : World) (base : Nat) (A : Option Addr) (n : Nat) (zs : List Int) : Prop :=
  zs.length = n ∧ (0 < n → ∃ b off, A = some ⟨b, off, none⟩ ∧ base ≤ b ∧ b < w.heap.size ∧
    (∀ i, i < n → w.cell? ⟨b, off + i, none⟩ = some (.int .i64 (iat zs i))) ∧ ∀ i, i < n → w.frozen? ⟨b, off + i, none⟩ = false)
theorem NewI.si {w base A n zs} (h : NewI w base A n zs) : SI w A n zs :=
  ⟨h.1, fun hn => by obtain ⟨b, off, e, _, _, hc, _⟩ := h.2 hn; exact ⟨b, off, e, hc⟩⟩
theorem NewI.mono {w base base' A n zs} (h : NewI w base A n zs) (hb : base' ≤ base) : NewI w base' A n zs :=
  ⟨h.1, fun hn => by obtain ⟨b, off, e, h1, h2, hc, hf⟩ := h.2 hn; exact ⟨b, off, e, by omega, h2, hc, hf⟩⟩
theorem NewI.below {w w' : World} {base A n zs} (h : NewI w base A n zs) {B : Nat} (hb : Below B w w') (hB : w.heap.size ≤ B) : NewI w' base A n zs :=
  ⟨h.1, fun hn => by
    obtain ⟨b, off, e, h1, h2, hc, hf⟩ := h.2 hn
    exact ⟨b, off, e, h1, by have := hb.size; omega, fun i hi => (hb.cell (p := ⟨b, off + i, none⟩) (by show b < B; omega)).trans (hc i hi),
      fun i hi => (hb.frozen (p := ⟨b, off + i, none⟩) (by show b < B; omega)).trans (hf i hi)⟩⟩
theorem NewI.grown {w w' : World} {base A n zs} (h : NewI w base A n zs) {row : Option Nat} (hg : w.grownBy w' row) (hr : ∀ b o, A = some ⟨b, o, none⟩ → some b ≠ row) : NewI w' base A n zs :=
  ⟨h.1, fun hn => by
    obtain ⟨b, off, e, h1, h2, hc, hf⟩ := h.2 hn
    have hb := hg.block b h2 (by simpa using hr b off e)
    exact ⟨b, off, e, h1, by have := hg.size; omega, fun i hi => (World.cell?_of_block (w := w) hb).trans (hc i hi),
      fun i hi => (World.frozen?_of_block (w := w) hb).trans (hf i hi)⟩⟩
theorem NewI.of_own {w : World} {base e n c : Nat} {A zs} (h : w.ownsRow base e 1 (.slice A n c) n (zs.map (Value.int .i64))) : NewI w base A n zs := by
  refine ⟨by simpa using h.1, fun hn => ?_⟩
  rcases h.2 with ⟨_, h0⟩ | ⟨g, cap, cur, hv, hb, hh, hc, hm, hs, ht⟩
  · omega
  · injection hv with h1 h2 h3
    subst h1
    refine ⟨g, 0, rfl, hb, (Array.getElem?_eq_some_iff.1 hh).1, fun i hi => ?_, fun i hi => ?_⟩
    · rw [cell_of_row w g _ cur e (0, 0) hh]
      have hl : i < zs.length := by have := h.1; simp at this; omega
      have h2 : (cur.toList.take (n * 1))[i]? = some (.int .i64 (iat zs i)) := by
        rw [ht]; simp [iat, hl]
      rw [List.getElem?_take] at h2
      simp at h2
      simpa using h2.2
    · simp [World.frozen?, hh]

/-- Below a call: what 'Calls' with a return and 'Below' gives. -/
def Ret (w : World) (v : Value) (e : Ending) (w' : World) : Prop := e = .returned v ∧ Below w.heap.size w w'

end Go.Proofs.Ytblaaeanbhgokaa
