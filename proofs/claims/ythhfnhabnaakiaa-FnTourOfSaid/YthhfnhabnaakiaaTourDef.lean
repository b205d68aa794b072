/-
  TourDef. By a program (wip/tools/mk.py) out of snippets.
-/
import Derived.Test.YthhfnhabnaakiaaTokMath
namespace Go.Proofs.Ythhfnhabnaakiaa
open Go.RowKit

/-- The first one that may move. -/
def tk (zs : List Int) : Int := iat (toks zs) 0
def tourN (k : Int) (zs : List Int) : Nat → List Int
  | 0 => zs
  | m + 1 => mv k (tourN k zs m) (tk (tourN k zs m)).toNat
def tourT (k : Int) (zs : List Int) (m : Nat) : List Int := (List.range m).map fun j => tk (tourN k zs j)
def tourOk (k : Int) (zs : List Int) (i : Int) : Bool := vtok k zs && inR i 0 40
def tourL (k : Int) (zs : List Int) (i : Int) : List Int := if tourOk k zs i then tourT k zs i.toNat else []
def tourE (k : Int) (zs : List Int) (i : Int) : List Int := if tourOk k zs i then tourN k zs i.toNat else []
theorem tourT_succ (k : Int) (zs : List Int) (m : Nat) : tourT k zs (m + 1) = tourT k zs m ++ [tk (tourN k zs m)] := by simp [tourT, List.range_succ]
theorem tourT_length (k : Int) (zs : List Int) (m : Nat) : (tourT k zs m).length = m := by simp [tourT]
theorem tk_fine {k : Int} {zs : List Int} (h : vtok k zs = true) : ∃ j : Nat, tk zs = j ∧ j < zs.length ∧ tokAt zs j = true := by
  have h1 := toks_ne h
  have hm : tk zs ∈ toks zs := iat_mem h1
  simp only [toks, toksTo, List.mem_map, List.mem_filter, List.mem_range] at hm
  obtain ⟨j, ⟨h2, h3⟩, h4⟩ := hm
  exact ⟨j, h4.symm, h2, h3⟩
theorem tourN_fine {k : Int} {zs : List Int} (h : vtok k zs = true) : ∀ m, vtok k (tourN k zs m) = true ∧ (tourN k zs m).length = zs.length
  | 0 => ⟨h, rfl⟩
  | m + 1 => by
    have ih := tourN_fine h m
    obtain ⟨j, e, hj, ht⟩ := tk_fine ih.1
    rw [tourN, e, Int.toNat_natCast]
    exact ⟨(move_fine ih.1 hj ht).2.2.1, by rw [mv_length]; exact ih.2⟩
theorem tourL_le (k : Int) (zs : List Int) (i : Int) : (tourL k zs i).length ≤ 40 := by
  unfold tourL
  split
  · next h =>
    simp only [tourOk, Bool.and_eq_true, inR_iff] at h
    rw [tourT_length]; omega
  · simp
theorem tourE_le (k : Int) (zs : List Int) (i : Int) : (tourE k zs i).length ≤ 5 := by
  unfold tourE
  split
  · next h =>
    simp only [tourOk, Bool.and_eq_true] at h
    have := vtok_iff.1 h.1
    rw [(tourN_fine h.1 _).2]; omega
  · simp

theorem NewI.growR {w w' : World} {base : Nat} {A : Option Addr} {n : Nat} {zs : List Int} (h : NewI w base A n zs) {row : Option Nat} (hg : w.grownBy w' row) (hr : ∀ b o, A = some ⟨b, o, none⟩ → some b ≠ row) : NewI w' base A n zs :=
  ⟨h.1, fun hn => by
    obtain ⟨b, off, e, h1, h2, hc, hf⟩ := h.2 hn
    have hb := hg.block b h2 (hr b off e)
    exact ⟨b, off, e, h1, by have := hg.size; omega, fun i hi => (World.cell?_of_block (w := w) hb).trans (hc i hi), fun i hi => (World.frozen?_of_block (w := w) hb).trans (hf i hi)⟩⟩
theorem own_later {w w' : World} {base e size n g c m : Nat} {xs : List Value} (h : w.ownsRow base e size (.slice (some ⟨g, 0, none⟩) n c) m xs) (hb : Below w.heap.size w w') : w'.ownsRow base e size (.slice (some ⟨g, 0, none⟩) n c) m xs :=
  World.ownsRow.kept (row := none) h (w' := w') ⟨hb.os, hb.tape, hb.output, hb.size, fun i hi _ => hb.block i hi⟩ (.inr (by simp [Value.ownBlock]))
theorem NewI.alloc {w : World} {base : Nat} {A : Option Addr} {n : Nat} {zs : List Int} (h : NewI w base A n zs) (o : Obj) : NewI (w.alloc o) base A n zs :=
  h.below ((Below.refl _ _).alloc (Nat.le_refl _) o) (Nat.le_refl _)
/-- Two slices in different blocks. -/
def Apart (A B : Option Addr) : Prop := ∀ b o b' o', A = some ⟨b, o, none⟩ → B = some ⟨b', o', none⟩ → b ≠ b'

end Go.Proofs.Ythhfnhabnaakiaa
