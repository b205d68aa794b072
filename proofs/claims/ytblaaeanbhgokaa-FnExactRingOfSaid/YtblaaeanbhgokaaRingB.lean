/-
  RingB. By a program (wip/tools/mk.py) out of snippets.
-/
import Derived.Test.YtblaaeanbhgokaaRingS
namespace Go.Proofs.Ytblaaeanbhgokaa
open Go.RowKit

theorem boxKeep {X w3 : World} {s : Nat} {x y : Value} {T : TypeId} (hs : X.heap[s]? = some (.cells #[x, y] T)) (b3 : Below X.heap.size X w3) :
    w3.cell? ⟨s, 0, none⟩ = some x ∧ w3.cell? ⟨s, 1, none⟩ = some y ∧ w3.frozen? ⟨s, 0, none⟩ = false ∧ w3.frozen? ⟨s, 1, none⟩ = false := by
  have hlt : s < X.heap.size := (Array.getElem?_eq_some_iff.1 hs).1
  have hb := b3.block s hlt
  rw [hs] at hb
  refine ⟨?_, ?_, ?_, ?_⟩
  · simp [World.cell?, hb]
  · simp [World.cell?, hb]
  · simp [World.frozen?, hb]
  · simp [World.frozen?, hb]
theorem boxA {X w3 : World} {k : Nat} {x y : Value} {T : TypeId} (b3 : Below (X.alloc (.cells #[x, y] T)).drew.heap.size (X.alloc (.cells #[x, y] T)).drew w3) (hk : X.heap.size = k) :
    w3.cell? ⟨k, 0, none⟩ = some x ∧ w3.cell? ⟨k, 1, none⟩ = some y ∧ w3.frozen? ⟨k, 0, none⟩ = false ∧ w3.frozen? ⟨k, 1, none⟩ = false := by
  subst hk
  exact   boxKeep (X := (X.alloc (.cells #[x, y] T)).drew) (heapNew X _) b3
theorem boxB {X w3 : World} {k : Nat} {x y : Value} {T : TypeId} {o : Obj} (b3 : Below ((X.alloc (.cells #[x, y] T)).alloc o).drew.heap.size ((X.alloc (.cells #[x, y] T)).alloc o).drew w3) (hk : X.heap.size = k) :
    w3.cell? ⟨k, 0, none⟩ = some x ∧ w3.cell? ⟨k, 1, none⟩ = some y ∧ w3.frozen? ⟨k, 0, none⟩ = false ∧ w3.frozen? ⟨k, 1, none⟩ = false := by
  subst hk
  exact   boxKeep (X := ((X.alloc (.cells #[x, y] T)).alloc o).drew) ((Below.heap_alloc _ _ _ (by simp)).trans (heapNew X _)) b3
theorem boxC {X w3 : World} {k : Nat} {x y : Value} {T : TypeId} {cs : Array Value} {T2 : TypeId} (b3 : Below ((X.alloc (.cells cs T2)).alloc (.cells #[x, y] T)).drew.heap.size ((X.alloc (.cells cs T2)).alloc (.cells #[x, y] T)).drew w3) (hk : X.heap.size = k) :
    w3.cell? ⟨k + 1, 0, none⟩ = some x ∧ w3.cell? ⟨k + 1, 1, none⟩ = some y ∧ w3.frozen? ⟨k + 1, 0, none⟩ = false ∧ w3.frozen? ⟨k + 1, 1, none⟩ = false := by
  subst hk
  have := boxKeep (X := ((X.alloc (.cells cs T2)).alloc (.cells #[x, y] T)).drew) (heapNew (X.alloc (.cells cs T2)) _) b3
  rw [World.size_alloc] at this
  exact this
theorem NewI.sameB {w w' : World} {base b o n : Nat} {zs : List Int} (h : NewI w base (some ⟨b, o, none⟩) n zs) (hs : w.heap.size ≤ w'.heap.size) (hb : w'.heap[b]? = w.heap[b]?) : NewI w' base (some ⟨b, o, none⟩) n zs :=
  ⟨h.1, fun hn => by
    obtain ⟨b1, o1, e, h1, h2, h3, h4⟩ := h.2 hn
    cases e
    exact ⟨b, o, rfl, h1, Nat.lt_of_lt_of_le h2 hs, fun i hi => (World.cell?_of_block (a := ⟨b, o + i, none⟩) hb).trans (h3 i hi), fun i hi => (World.frozen?_of_block (a := ⟨b, o + i, none⟩) hb).trans (h4 i hi)⟩⟩
theorem RGmake {w W w3 Z : World} {s2 s5 h n b9 o9 X : Nat} {zs : List Int} {cs : Array Value} (hZ0 : W.heap.size = s2 + 1) (hw : w.heap.size ≤ s2) (hB : Below w.heap.size w W) (hcs : cs.size = n * 1) (hn : n ≤ 6) (h0 : 0 < n)
    (N3 : NewI w3 X (some ⟨b9, o9, none⟩) n zs) (hX : W.heap.size ≤ X) (bW : Below W.heap.size W Z) (hsz : w3.heap.size ≤ Z.heap.size) (hh : Z.heap[h]? = some (.cells cs 22))
    (c0 : Z.cell? ⟨s5, 0, none⟩ = some (.slice (some ⟨h, 0, none⟩) 0 n)) (c1 : Z.cell? ⟨s5, 1, none⟩ = some (.slice (some ⟨b9, o9, none⟩) n n)) (f0 : Z.frozen? ⟨s5, 0, none⟩ = false) (f1 : Z.frozen? ⟨s5, 1, none⟩ = false)
    (hb : Z.heap[b9]? = w3.heap[b9]?) (hh2 : W.heap.size ≤ h) (h5 : W.heap.size ≤ s5) (hne : h ≠ s5) (hb1 : b9 ≠ h) (hb2 : b9 ≠ s5) : ∃ (a L h' : Nat) (A2 : Option Addr) (c2 : Nat), Value.pointer (some ⟨s5, 0, none⟩) = .pointer (some ⟨a, 0, none⟩) ∧ RG w W s2 a (s2 + 1) L A2 n c2 zs Z (some ⟨h', 0, none⟩) 0 n [] [] := by
  refine ⟨s5, Z.heap.size, h, some ⟨b9, o9, none⟩, n, rfl, ?_⟩
  have hlt5 : s5 < Z.heap.size := World.block_lt_of_cell? Z _ c0
  have hlth : h < Z.heap.size := (Array.getElem?_eq_some_iff.1 hh).1
  have hb9 : X ≤ b9 ∧ b9 < w3.heap.size := by
    obtain ⟨b1, o1, e, h1, h2, _⟩ := N3.2 h0
    cases e
    exact ⟨h1, h2⟩
  refine ⟨c0, c1, f0, f1, O2.made _ _ _ _ _ (by omega) (Nat.le_refl _) ⟨rfl, .inr ⟨h, n, cs, rfl, by omega, hh, by omega, by unfold maxLen; omega, hcs, by simp⟩⟩, fun b e => by injection e with e; subst e; exact hne, (N3.mono (by omega)).sameB hsz hb, fun b o e => by cases e; exact ⟨⟨by omega, hb2⟩, fun e => by injection e with e; exact hb1 e.symm⟩, bW.block s2 (by omega), ⟨by omega, by omega, by omega, hlt5⟩, hw, hB.trans (bW.mono (by omega))⟩
section
variable {w W w3 : World} {s2 n b9 o9 : Nat} {zs : List Int} {cs : Array Value} {T : TypeId}
theorem setBox {w3 : World} {s : Nat} {T : TypeId} {x y : Value} (hs : w3.heap[s]? = some (.cells #[.slice none 0 0, .slice none 0 0] T)) :
    ((w3.setCell ⟨s, 0, none⟩ x).setCell ⟨s, 1, none⟩ y).cell? ⟨s, 0, none⟩ = some x ∧ ((w3.setCell ⟨s, 0, none⟩ x).setCell ⟨s, 1, none⟩ y).cell? ⟨s, 1, none⟩ = some y ∧ ((w3.setCell ⟨s, 0, none⟩ x).setCell ⟨s, 1, none⟩ y).frozen? ⟨s, 0, none⟩ = false ∧ ((w3.setCell ⟨s, 0, none⟩ x).setCell ⟨s, 1, none⟩ y).frozen? ⟨s, 1, none⟩ = false ∧ (∀ i, i ≠ s → ((w3.setCell ⟨s, 0, none⟩ x).setCell ⟨s, 1, none⟩ y).heap[i]? = w3.heap[i]?) ∧ ((w3.setCell ⟨s, 0, none⟩ x).setCell ⟨s, 1, none⟩ y).heap.size = w3.heap.size := by
  obtain ⟨t0, t1, u0, u1⟩ := boxKeep hs (Below.refl _ _)
  have t1' : (w3.setCell ⟨s, 0, none⟩ x).cell? ⟨s, 1, none⟩ = some (.slice none 0 0) := (World.cell?_setCell_other _ _ _ _ (by simp)).trans t1
  refine ⟨(World.cell?_setCell_other _ _ _ _ (by simp)).trans (World.cell?_setCell_same _ _ _ t0), World.cell?_setCell_same _ _ _ t1', by rw [World.frozen?_setCell, World.frozen?_setCell]; exact u0, by rw [World.frozen?_setCell, World.frozen?_setCell]; exact u1, fun i hi => ?_, by simp⟩
  rw [Below.heap_setCell _ _ _ _ hi, Below.heap_setCell _ _ _ _ hi]
theorem b9of {X : Nat} (N3 : NewI w3 X (some ⟨b9, o9, none⟩) n zs) (h0 : 0 < n) : X ≤ b9 ∧ b9 < w3.heap.size := by
  obtain ⟨b1, o1, e, h1, h2, _⟩ := N3.2 h0
  cases e
  exact ⟨h1, h2⟩
abbrev hdr (h n : Nat) : Value := .slice (some ⟨h, 0, none⟩) 0 n
abbrev mks (b9 o9 n : Nat) : Value := .slice (some ⟨b9, o9, none⟩) n n
def RGx (w W : World) (s2 n : Nat) (zs : List Int) (s5 : Nat) (Z : World) : Prop := ∃ (a L h' : Nat) (A2 : Option Addr) (c2 : Nat), Value.pointer (some ⟨s5, 0, none⟩) = .pointer (some ⟨a, 0, none⟩) ∧ RG w W s2 a (s2 + 1) L A2 n c2 zs Z (some ⟨h', 0, none⟩) 0 n [] []
variable (hZ0 : W.heap.size = s2 + 1) (hw : w.heap.size ≤ s2) (hB : Below w.heap.size w W) (hcs : cs.size = n * 1) (hn : n ≤ 6) (h0 : 0 < n)
include hZ0 hw hB hcs hn h0
theorem RG1 (N3 : NewI w3 (W.alloc (.cells cs 22)).drew.heap.size (some ⟨b9, o9, none⟩) n zs) (B3 : Below (W.alloc (.cells cs 22)).drew.heap.size (W.alloc (.cells cs 22)).drew w3) :
    RGx w W s2 n zs w3.heap.size (w3.alloc (.cells #[hdr W.heap.size n, mks b9 o9 n] T)) := by
  have hX : (W.alloc (.cells cs 22)).drew.heap.size = W.heap.size + 1 := World.size_alloc _ _
  have hb := b9of N3 h0
  have h3 := B3.size
  rw [hX] at hb h3
  have e1 : w3.heap[W.heap.size]? = some (.cells cs 22) := (B3.block _ (by rw [hX]; omega)).trans (heapNew W _)
  have bX : Below W.heap.size W (W.alloc (.cells cs 22)).drew := bDrewN ((Below.refl _ _).alloc (Nat.le_refl _) _) 1
  refine RGmake hZ0 hw hB hcs hn h0 N3 (by rw [hX]; omega) ((bX.trans (B3.mono (by rw [hX]; omega))).alloc (by omega) _) (by simp) ((Below.heap_alloc _ _ _ (by omega)).trans e1) (by simp) (by simp) (by go_simp) (by go_simp) (Below.heap_alloc _ _ _ (by omega)) (Nat.le_refl _) (by omega) (by omega) (by omega) (by omega)
theorem RG3 (N3 : NewI w3 W.drew.heap.size (some ⟨b9, o9, none⟩) n zs) (B3 : Below W.drew.heap.size W.drew w3) :
    RGx w W s2 n zs (w3.heap.size + 1) ((w3.alloc (.cells cs 22)).alloc (.cells #[hdr w3.heap.size n, mks b9 o9 n] T)) := by
  have hX : W.drew.heap.size = W.heap.size := rfl
  have hb := b9of N3 h0
  have h3 := B3.size
  rw [hX] at hb h3
  have bX : Below W.heap.size W W.drew := bDrewN (Below.refl _ _) 1
  refine RGmake hZ0 hw hB hcs hn h0 N3 (by rw [hX]; omega) (((bX.trans B3).alloc (by omega) _).alloc (by simp; omega) _) (by simp; omega) ((Below.heap_alloc _ _ _ (by simp)).trans (heapNew w3 _)) (by rw [World.cell?_alloc_at _ _ _ _ (by simp)]; rfl) (by rw [World.cell?_alloc_at _ _ _ _ (by simp)]; rfl) (by go_simp) (by go_simp) ((Below.heap_alloc _ _ _ (by simp; omega)).trans (Below.heap_alloc _ _ _ (by omega))) (by omega) (by omega) (by omega) (by omega) (by omega)
theorem RG4 (N3 : NewI w3 W.drew.heap.size (some ⟨b9, o9, none⟩) n zs) (B3 : Below W.drew.heap.size W.drew w3) :
    RGx w W s2 n zs w3.heap.size ((w3.alloc (.cells #[hdr (w3.heap.size + 1) n, mks b9 o9 n] T)).alloc (.cells cs 22)) := by
  have hX : W.drew.heap.size = W.heap.size := rfl
  have hb := b9of N3 h0
  have h3 := B3.size
  rw [hX] at hb h3
  have bX : Below W.heap.size W W.drew := bDrewN (Below.refl _ _) 1
  have hN := heapNew (w3.alloc (.cells #[hdr (w3.heap.size + 1) n, mks b9 o9 n] T)) (.cells cs 22)
  rw [World.size_alloc] at hN
  refine RGmake hZ0 hw hB hcs hn h0 N3 (by rw [hX]; omega) (((bX.trans B3).alloc (by omega) _).alloc (by simp; omega) _) (by simp; omega) hN (by simp) (by simp) (by go_simp) (by go_simp) ((Below.heap_alloc _ _ _ (by simp; omega)).trans (Below.heap_alloc _ _ _ (by omega))) (by omega) (by omega) (by omega) (by omega) (by omega)
theorem RG2 (N3 : NewI w3 ((W.alloc (.cells cs 22)).alloc (.cells #[.slice none 0 0, .slice none 0 0] T)).drew.heap.size (some ⟨b9, o9, none⟩) n zs) (B3 : Below ((W.alloc (.cells cs 22)).alloc (.cells #[.slice none 0 0, .slice none 0 0] T)).drew.heap.size ((W.alloc (.cells cs 22)).alloc (.cells #[.slice none 0 0, .slice none 0 0] T)).drew w3) :
    RGx w W s2 n zs (W.heap.size + 1) ((w3.setCell ⟨W.heap.size + 1, 0, none⟩ (hdr W.heap.size n)).setCell ⟨W.heap.size + 1, 1, none⟩ (mks b9 o9 n)) := by
  have hX : ((W.alloc (.cells cs 22)).alloc (.cells #[.slice none 0 0, .slice none 0 0] T)).drew.heap.size = W.heap.size + 1 + 1 := (World.size_alloc _ _).trans (by rw [World.size_alloc])
  have hb := b9of N3 h0
  have h3 := B3.size
  rw [hX] at hb h3
  have e1 : w3.heap[W.heap.size]? = some (.cells cs 22) := (B3.block _ (by rw [hX]; omega)).trans ((Below.heap_alloc _ _ _ (by simp)).trans (heapNew W _))
  have e0 := heapNew (W.alloc (.cells cs 22)) (.cells #[.slice none 0 0, .slice none 0 0] T)
  rw [World.size_alloc] at e0
  have e2 : w3.heap[W.heap.size + 1]? = some (.cells #[.slice none 0 0, .slice none 0 0] T) := (B3.block _ (by rw [hX]; omega)).trans e0
  have bX : Below W.heap.size W ((W.alloc (.cells cs 22)).alloc (.cells #[.slice none 0 0, .slice none 0 0] T)).drew := bDrewN (((Below.refl _ _).alloc (Nat.le_refl _) _).alloc (by simp) _) 1
  obtain ⟨c0, c1, f0, f1, ho, hs⟩ := setBox (x := hdr W.heap.size n) (y := mks b9 o9 n) e2
  exact RGmake hZ0 hw hB hcs hn h0 N3 (by rw [hX]; omega) (((bX.trans (B3.mono (by rw [hX]; omega))).setCell (p := ⟨W.heap.size + 1, 0, none⟩) (by simp) _).setCell (p := ⟨W.heap.size + 1, 1, none⟩) (by simp) _) (by omega) ((ho _ (by omega)).trans e1) c0 c1 f0 f1 (ho _ (by omega)) (by omega) (by omega) (by omega) (by omega) (by omega)
theorem RG5 (N3 : NewI w3 ((W.alloc (.cells #[.slice none 0 0, .slice none 0 0] T)).alloc (.cells cs 22)).drew.heap.size (some ⟨b9, o9, none⟩) n zs) (B3 : Below ((W.alloc (.cells #[.slice none 0 0, .slice none 0 0] T)).alloc (.cells cs 22)).drew.heap.size ((W.alloc (.cells #[.slice none 0 0, .slice none 0 0] T)).alloc (.cells cs 22)).drew w3) :
    RGx w W s2 n zs W.heap.size ((w3.setCell ⟨W.heap.size, 0, none⟩ (hdr (W.heap.size + 1) n)).setCell ⟨W.heap.size, 1, none⟩ (mks b9 o9 n)) := by
  have hX : ((W.alloc (.cells #[.slice none 0 0, .slice none 0 0] T)).alloc (.cells cs 22)).drew.heap.size = W.heap.size + 1 + 1 := (World.size_alloc _ _).trans (by rw [World.size_alloc])
  have hb := b9of N3 h0
  have h3 := B3.size
  rw [hX] at hb h3
  have e2 : w3.heap[W.heap.size]? = some (.cells #[.slice none 0 0, .slice none 0 0] T) := (B3.block _ (by rw [hX]; omega)).trans ((Below.heap_alloc _ _ _ (by simp)).trans (heapNew W _))
  have e0 := heapNew (W.alloc (.cells #[.slice none 0 0, .slice none 0 0] T)) (.cells cs 22)
  rw [World.size_alloc] at e0
  have e1 : w3.heap[W.heap.size + 1]? = some (.cells cs 22) := (B3.block _ (by rw [hX]; omega)).trans e0
  have bX : Below W.heap.size W ((W.alloc (.cells #[.slice none 0 0, .slice none 0 0] T)).alloc (.cells cs 22)).drew := bDrewN (((Below.refl _ _).alloc (Nat.le_refl _) _).alloc (by simp) _) 1
  obtain ⟨c0, c1, f0, f1, ho, hs⟩ := setBox (x := hdr (W.heap.size + 1) n) (y := mks b9 o9 n) e2
  exact RGmake hZ0 hw hB hcs hn h0 N3 (by rw [hX]; omega) (((bX.trans (B3.mono (by rw [hX]; omega))).setCell (p := ⟨W.heap.size, 0, none⟩) (by simp) _).setCell (p := ⟨W.heap.size, 1, none⟩) (by simp) _) (by omega) ((ho _ (by omega)).trans e1) c0 c1 f0 f1 (ho _ (by omega)) (by omega) (by omega) (by omega) (by omega) (by omega)
theorem RG6 (N3 : NewI w3 (W.alloc (.cells #[.slice none 0 0, .slice none 0 0] T)).drew.heap.size (some ⟨b9, o9, none⟩) n zs) (B3 : Below (W.alloc (.cells #[.slice none 0 0, .slice none 0 0] T)).drew.heap.size (W.alloc (.cells #[.slice none 0 0, .slice none 0 0] T)).drew w3) :
    RGx w W s2 n zs W.heap.size (((w3.setCell ⟨W.heap.size, 0, none⟩ (hdr w3.heap.size n)).setCell ⟨W.heap.size, 1, none⟩ (mks b9 o9 n)).alloc (.cells cs 22)) := by
  have hX : (W.alloc (.cells #[.slice none 0 0, .slice none 0 0] T)).drew.heap.size = W.heap.size + 1 := World.size_alloc _ _
  have hb := b9of N3 h0
  have h3 := B3.size
  rw [hX] at hb h3
  have e2 : w3.heap[W.heap.size]? = some (.cells #[.slice none 0 0, .slice none 0 0] T) := (B3.block _ (by rw [hX]; omega)).trans (heapNew W _)
  have bX : Below W.heap.size W (W.alloc (.cells #[.slice none 0 0, .slice none 0 0] T)).drew := bDrewN ((Below.refl _ _).alloc (Nat.le_refl _) _) 1
  obtain ⟨c0, c1, f0, f1, ho, hs⟩ := setBox (x := hdr w3.heap.size n) (y := mks b9 o9 n) e2
  have hlt : W.heap.size < w3.heap.size := by omega
  have b3' : Below W.heap.size W ((w3.setCell ⟨W.heap.size, 0, none⟩ (hdr w3.heap.size n)).setCell ⟨W.heap.size, 1, none⟩ (mks b9 o9 n)) := ((bX.trans (B3.mono (by rw [hX]; omega))).setCell (p := ⟨W.heap.size, 0, none⟩) (by simp) _).setCell (p := ⟨W.heap.size, 1, none⟩) (by simp) _
  generalize hY : ((w3.setCell ⟨W.heap.size, 0, none⟩ (hdr w3.heap.size n)).setCell ⟨W.heap.size, 1, none⟩ (mks b9 o9 n)) = Y at *
  have hN := heapNew Y (.cells cs 22)
  rw [hs] at hN
  exact RGmake hZ0 hw hB hcs hn h0 N3 (by rw [hX]; omega) (b3'.alloc (by omega) _) (by simp; omega) hN ((World.cell?_alloc_lt _ _ _ (by show W.heap.size < _; omega)).trans c0) ((World.cell?_alloc_lt _ _ _ (by show W.heap.size < _; omega)).trans c1) ((World.frozen?_of_block (Below.heap_alloc _ _ _ (by show W.heap.size < _; omega))).trans f0) ((World.frozen?_of_block (Below.heap_alloc _ _ _ (by show W.heap.size < _; omega))).trans f1) ((Below.heap_alloc _ _ _ (by omega)).trans (ho _ (by omega))) (by omega) (by omega) (by omega) (by omega) (by omega)
end

end Go.Proofs.Ytblaaeanbhgokaa
