/-
  SRun. By a program (wip/tools/mk.py) out of snippets.
-/
import Derived.Test.YtblaaeanbhgokaaTrips
import Derived.Test.YtblaaeanbhgokaaReader
import Derived.Test.YtblaaeanbhgokaaRunS
import Derived.Deep.AppendLies
import Derived.Deep.RegionLaw
import Derived.Deep.DeepCutAuto
import Derived.Deep.CutBlock
namespace Go.Proofs.Ytblaaeanbhgokaa
open Go.RowKit

/-- A run in the block s, two rows of the call's own in it; the reader lies in the block R. -/
structure RB (w V : World) (R t s M : Nat) (wx : World) (A : Option Addr) (j c : Nat) (xs : List Int) (B : Option Addr) (k d : Nat) (ys : List Int) : Prop where
  c0 : wx.cell? ⟨s, 0, none⟩ = some (.slice A j c)
  c1 : wx.cell? ⟨s, 1, none⟩ = some (.slice B k d)
  f0 : wx.frozen? ⟨s, 0, none⟩ = false
  f1 : wx.frozen? ⟨s, 1, none⟩ = false
  o0 : wx.ownsRow (s + 1) 3 1 (.slice A j c) j (xs.map (Value.int .i64))
  o1 : wx.ownsRow (s + 1) 82 3 (.slice B k d) k (ys.map (Value.int .i64))
  ne : ∀ b, (Value.slice A j c).ownBlock = some b → (Value.slice B k d).ownBlock ≠ some b
  rd : Rd wx R M
  rs : R < s
  bl : Below R w wx
  tb : wx.heap[t]? = V.heap[t]?
  tl : R < t ∧ t < s
theorem RB.lt {w V : World} {R t s M : Nat} {wx : World} {A : Option Addr} {j c : Nat} {xs : List Int} {B : Option Addr} {k d : Nat} {ys : List Int} (h : RB w V R t s M wx A j c xs B k d ys) : s < wx.heap.size := World.block_lt_of_cell? wx _ h.c0
theorem kept_none {w w' : World} {base e size n : Nat} {v : Value} {xs : List Value} (h : w.ownsRow base e size v n xs) (hb : Below w.heap.size w w') : w'.ownsRow base e size v n xs :=
  h.kept (row := none) ⟨hb.os, hb.tape, hb.output, hb.size, fun i hi _ => hb.block i hi⟩ (by cases hv : v.ownBlock with
    | none => exact .inl rfl
    | some k => exact .inr (by simp))
theorem gby_block {w w' : World} {R : Nat} (hg : w.grownBy w' (some R)) {b : Nat} (hb : b < w.heap.size) (hne : b ≠ R) : w'.heap[b]? = w.heap[b]? := hg.block b hb (by simpa using hne)
theorem RB.gby {w V : World} {R t s M M' : Nat} {wx w' : World} {A : Option Addr} {j c : Nat} {xs : List Int} {B : Option Addr} {k d : Nat} {ys : List Int} (h : RB w V R t s M wx A j c xs B k d ys) (hg : wx.grownBy w' (some R)) (hR : Rd w' R M') : RB w V R t s M' w' A j c xs B k d ys := by
  have hk := gby_block hg h.lt (by have := h.rs; omega)
  have hb := gby_belowB hg (Nat.le_refl _) (h.rd.1)
  exact ⟨(World.cell?_of_block (a := ⟨s, 0, none⟩) hk).trans h.c0, (World.cell?_of_block (a := ⟨s, 1, none⟩) hk).trans h.c1, (World.frozen?_of_block (a := ⟨s, 0, none⟩) hk).trans h.f0, (World.frozen?_of_block (a := ⟨s, 1, none⟩) hk).trans h.f1,
    own_off h.o0 hg (by have := h.rs; omega), own_off h.o1 hg (by have := h.rs; omega), h.ne, hR, h.rs, h.bl.trans hb, (gby_block hg (by have := h.tl; have := h.lt; omega) (by have := h.tl; omega)).trans h.tb, h.tl⟩
theorem RB.later {w V : World} {R t s M : Nat} {wx w' : World} {A : Option Addr} {j c : Nat} {xs : List Int} {B : Option Addr} {k d : Nat} {ys : List Int} (h : RB w V R t s M wx A j c xs B k d ys) (hb : Below wx.heap.size wx w') : RB w V R t s M w' A j c xs B k d ys :=
  ⟨(hb.cell (p := ⟨s, 0, none⟩) h.lt).trans h.c0, (hb.cell (p := ⟨s, 1, none⟩) h.lt).trans h.c1, (hb.frozen (p := ⟨s, 0, none⟩) h.lt).trans h.f0, (hb.frozen (p := ⟨s, 1, none⟩) h.lt).trans h.f1,
    kept_none h.o0 hb, kept_none h.o1 hb, h.ne, h.rd.below hb h.rd.1, h.rs, h.bl.trans (hb.mono (Nat.le_of_lt h.rd.1)), (hb.block t (by have := h.tl; have := h.lt; omega)).trans h.tb, h.tl⟩
/-- Behind an append to the first row, and the store. -/
theorem RB.app0 {w V : World} {R t s M : Nat} {wx w4 : World} {A : Option Addr} {j c : Nat} {xs : List Int} {B : Option Addr} {k d : Nat} {ys : List Int} (h : RB w V R t s M wx A j c xs B k d ys) {o : Obj} {g j' c' : Nat} {zs : List Int}
    (hown : w4.ownsRow (s + 1) 3 1 (.slice (some ⟨g, 0, none⟩) j' c') j' (zs.map (Value.int .i64))) (hg : (wx.alloc o).grownBy w4 (Value.slice A j c).ownBlock) (hl : (Value.slice A j c).ownBlock = some g ∨ g = wx.heap.size + 1) :
    RB w V R t s M (w4.setCell ⟨s, 0, none⟩ (.slice (some ⟨g, 0, none⟩) j' c')) (some ⟨g, 0, none⟩) j' c' zs B k d ys ∧ w4.frozen? ⟨s, 0, none⟩ = false ∧ ∃ u, w4.cell? ⟨s, 0, none⟩ = some u := by
  have h1 := h.later ((Below.refl wx.heap.size wx).alloc (Nat.le_refl _) o)
  have hA := World.ownsRow.lt h1.o0
  have hB := World.ownsRow.lt h.o1
  have hgl := World.ownsRow.lt hown g rfl
  have hs1 := h1.lt
  have hks : w4.heap[s]? = (wx.alloc o).heap[s]? := hg.block s hs1 (fun e => by have := hA s e.symm; omega)
  have c0 := (World.cell?_of_block (a := ⟨s, 0, none⟩) hks).trans h1.c0
  have c1 := (World.cell?_of_block (a := ⟨s, 1, none⟩) hks).trans h1.c1
  have f0 := (World.frozen?_of_block (a := ⟨s, 0, none⟩) hks).trans h1.f0
  have f1 := (World.frozen?_of_block (a := ⟨s, 1, none⟩) hks).trans h1.f1
  have hb4 : Below (s + 1) (wx.alloc o) w4 := (Below.refl _ _).grown hg (by have := h1.lt; omega) (fun b e => (hA b e).1)
  have hgs : ∀ (x : World) (u : Value), x.grownBy (x.setCell ⟨s, 0, none⟩ u) (some s) := fun x u => ⟨rfl, rfl, rfl, by simp, fun b _ hne => Below.heap_setCell _ _ _ _ (by simpa using hne)⟩
  refine ⟨⟨World.cell?_setCell_same _ _ _ c0, (World.cell?_setCell_other _ _ _ _ (by simp)).trans c1, by rw [World.frozen?_setCell]; exact f0, by rw [World.frozen?_setCell]; exact f1, ?_, ?_, ?_, ?_, h.rs, ?_, ?_, h.tl⟩, f0, _, c0⟩
  · exact hown.kept (hgs _ _) (.inr (by show some g ≠ some s; intro e; injection e with e; omega))
  · have ho := h1.o1.kept hg (by
      cases hv : (Value.slice B k d).ownBlock with
      | none => exact .inl rfl
      | some b => exact .inr (fun e => h.ne b e.symm hv))
    refine ho.kept (hgs _ _) ?_
    cases hv : (Value.slice B k d).ownBlock with
    | none => exact .inl rfl
    | some b => exact .inr (fun e => by cases e; have := (hB _ hv).1; omega)
  · intro b e hv
    have hbg : g = b := by injection e
    subst hbg
    rcases hl with h3 | h3
    · exact h.ne g h3 hv
    · have := (hB _ hv).2; omega
  · exact (h1.rd.below hb4 (by have := h.rs; omega)).below ((Below.refl s w4).setCell (p := ⟨s, 0, none⟩) (Nat.le_refl _) _) h.rs
  · exact (h1.bl.trans (hb4.mono (by have := h.rs; omega))).setCell (p := ⟨s, 0, none⟩) (by have := h.rs; show R ≤ s; omega) _
  · rw [Below.heap_setCell _ _ _ _ (by have := h.tl; show t ≠ s; omega)]
    exact (hg.block t (by have := h.tl; omega) (fun e => by have := hA t e.symm; have := h.tl; omega)).trans h1.tb
theorem RB.app1 {w V : World} {R t s M : Nat} {wx w4 : World} {A : Option Addr} {j c : Nat} {xs : List Int} {B : Option Addr} {k d : Nat} {ys : List Int} (h : RB w V R t s M wx A j c xs B k d ys) {o : Obj} {g k' d' : Nat} {zs : List Int}
    (hown : w4.ownsRow (s + 1) 82 3 (.slice (some ⟨g, 0, none⟩) k' d') k' (zs.map (Value.int .i64))) (hg : (wx.alloc o).grownBy w4 (Value.slice B k d).ownBlock) (hl : (Value.slice B k d).ownBlock = some g ∨ g = wx.heap.size + 1) :
    RB w V R t s M (w4.setCell ⟨s, 1, none⟩ (.slice (some ⟨g, 0, none⟩) k' d')) A j c xs (some ⟨g, 0, none⟩) k' d' zs ∧ w4.frozen? ⟨s, 1, none⟩ = false ∧ ∃ u, w4.cell? ⟨s, 1, none⟩ = some u := by
  have h1 := h.later ((Below.refl wx.heap.size wx).alloc (Nat.le_refl _) o)
  have hA := World.ownsRow.lt h.o0
  have hB := World.ownsRow.lt h1.o1
  have hgl := World.ownsRow.lt hown g rfl
  have hs1 := h1.lt
  have hks : w4.heap[s]? = (wx.alloc o).heap[s]? := hg.block s hs1 (fun e => by have := hB s e.symm; omega)
  have c0 := (World.cell?_of_block (a := ⟨s, 0, none⟩) hks).trans h1.c0
  have c1 := (World.cell?_of_block (a := ⟨s, 1, none⟩) hks).trans h1.c1
  have f0 := (World.frozen?_of_block (a := ⟨s, 0, none⟩) hks).trans h1.f0
  have f1 := (World.frozen?_of_block (a := ⟨s, 1, none⟩) hks).trans h1.f1
  have hb4 : Below (s + 1) (wx.alloc o) w4 := (Below.refl _ _).grown hg (by have := h1.lt; omega) (fun b e => (hB b e).1)
  have hgs : ∀ (x : World) (u : Value), x.grownBy (x.setCell ⟨s, 1, none⟩ u) (some s) := fun x u => ⟨rfl, rfl, rfl, by simp, fun b _ hne => Below.heap_setCell _ _ _ _ (by simpa using hne)⟩
  refine ⟨⟨(World.cell?_setCell_other _ _ _ _ (by simp)).trans c0, World.cell?_setCell_same _ _ _ c1, by rw [World.frozen?_setCell]; exact f0, by rw [World.frozen?_setCell]; exact f1, ?_, ?_, ?_, ?_, h.rs, ?_, ?_, h.tl⟩, f1, _, c1⟩
  · have ho := h1.o0.kept hg (by
      cases hv : (Value.slice A j c).ownBlock with
      | none => exact .inl rfl
      | some b => exact .inr (fun e => h.ne b hv e.symm))
    refine ho.kept (hgs _ _) ?_
    cases hv : (Value.slice A j c).ownBlock with
    | none => exact .inl rfl
    | some b => exact .inr (fun e => by cases e; have := (hA _ hv).1; omega)
  · exact hown.kept (hgs _ _) (.inr (by show some g ≠ some s; intro e; injection e with e; omega))
  · intro b e hv
    have hbg : g = b := by injection hv
    subst hbg
    rcases hl with h3 | h3
    · exact h.ne g e h3
    · have := (hA _ e).2; omega
  · exact (h1.rd.below hb4 (by have := h.rs; omega)).below ((Below.refl s w4).setCell (p := ⟨s, 1, none⟩) (Nat.le_refl _) _) h.rs
  · exact (h1.bl.trans (hb4.mono (by have := h.rs; omega))).setCell (p := ⟨s, 1, none⟩) (by have := h.rs; show R ≤ s; omega) _
  · rw [Below.heap_setCell _ _ _ _ (by have := h.tl; show t ≠ s; omega)]
    exact (hg.block t (by have := h.tl; omega) (fun e => by have := hB t e.symm; have := h.tl; omega)).trans h1.tb
/-- What the drawer of runs leaves. -/
def SrPost (w : World) (R : Nat) (e : Ending) (w' : World) : Prop :=
  ∃ (A : Option Addr) (j c : Nat) (xs : List Int) (B : Option Addr) (k d : Nat) (ys : List Int), e = .returned (.agg #[.slice A j c, .slice B k d]) ∧ NewI w' R A j xs ∧ NewI w' R B (k * 3) ys ∧ j ≤ 100 ∧ k ≤ 100 ∧ k ≤ d ∧ Below R w w'

theorem heap_new (w : World) (o : Obj) : (w.alloc o).heap[w.heap.size]? = some o := by
  show (w.heap.push o)[w.heap.size]? = some o
  simp
/-- A store into the first row. -/
theorem RB.set0 {w V : World} {R t s M : Nat} {wx : World} {A : Option Addr} {j c : Nat} {xs : List Int} {B : Option Addr} {k d : Nat} {ys : List Int} (h : RB w V R t s M wx A j c xs B k d ys) {g i : Nat} (hA : A = some ⟨g, 0, none⟩) (hi : i < j) (x : Int) :
    RB w V R t s M (wx.setCell ⟨g, i, none⟩ (.int .i64 x)) A j c (xs.set i x) B k d ys := by
  subst hA
  have hl := World.ownsRow.lt h.o0 g rfl
  have hlen : xs.length = j := by have := h.o0.1; simpa using this
  have hgs : wx.grownBy (wx.setCell ⟨g, i, none⟩ (.int .i64 x)) (some g) := ⟨rfl, rfl, rfl, by simp, fun b _ hne => Below.heap_setCell _ _ _ _ (by simpa using hne)⟩
  have hst := (own_stored h.o0 i x).1
  refine ⟨(World.cell?_setCell_other _ _ _ _ (fun e => by injection e; omega)).trans h.c0, (World.cell?_setCell_other _ _ _ _ (fun e => by injection e; omega)).trans h.c1, by rw [World.frozen?_setCell]; exact h.f0, by rw [World.frozen?_setCell]; exact h.f1, hst, ?_, h.ne, h.rd.below ((Below.refl g wx).setCell (p := ⟨g, i, none⟩) (Nat.le_refl _) _) (by have := h.rs; omega), h.rs, h.bl.setCell (p := ⟨g, i, none⟩) (by have := h.rs; show R ≤ g; omega) _, ?_, h.tl⟩
  · refine h.o1.kept hgs ?_
    cases hv : (Value.slice B k d).ownBlock with
    | none => exact .inl rfl
    | some b => exact .inr (fun e => by injection e with e; subst e; exact h.ne b rfl hv)
  · rw [Below.heap_setCell _ _ _ _ (by have := h.tl; show t ≠ g; omega)]
    exact h.tb
theorem own_stored3 {w : World} {base e size g n cap : Nat} {zs : List Int} (h : w.ownsRow base e size (.slice (some ⟨g, 0, none⟩) n cap) n (zs.map (Value.int .i64))) (j : Nat) (x : Int) :
    (w.setCell ⟨g, j, none⟩ (.int .i64 x)).ownsRow base e size (.slice (some ⟨g, 0, none⟩) n cap) n ((zs.set j x).map (Value.int .i64)) := by
  have := (World.ownsRow.stored h j (.int .i64 x)).1
  rwa [map_set_int] at this
theorem NewI.of_own3 {w : World} {base n c e : Nat} {A : Option Addr} {zs : List Int} (h : w.ownsRow base e 3 (.slice A n c) n (zs.map (Value.int .i64))) : NewI w base A (n * 3) zs := by
  have hl : zs.length = n * 3 := by have := h.1; simpa using this
  refine ⟨hl, fun hn => ?_⟩
  obtain ⟨g, cap, e, hb, hg⟩ := h.form (by omega)
  cases e
  refine ⟨g, 0, rfl, hb, hg, fun i hi => ?_, fun i _ => by rw [Nat.zero_add]; exact World.ownsRow.frozenAt h i⟩
  rw [Nat.zero_add, World.ownsRow.cellAt h i (by omega)]
  simp [iat, hl, hi]
theorem own_cell3 {w : World} {base e g n cap : Nat} {zs : List Int} (h : w.ownsRow base e 3 (.slice (some ⟨g, 0, none⟩) n cap) n (zs.map (Value.int .i64))) {j : Nat} (hj : j < n * 3) :
    w.cell? ⟨g, j, none⟩ = some (.int .i64 (iat zs j)) := by
  have hl : j < zs.length := by have := h.1; simp at this; omega
  rw [World.ownsRow.cellAt h j (by omega)]
  simp [iat, hl]
theorem own_setS {w : World} {base e size n : Nat} {v : Value} {xs : List Value} (h : w.ownsRow base e size v n xs) {p : Addr} (hp : p.block < base) (u : Value) : (w.setCell p u).ownsRow base e size v n xs :=
  h.kept (row := some p.block) ⟨rfl, rfl, rfl, by simp, fun k _ hne => Below.heap_setCell _ _ _ _ (by simpa using hne)⟩ (by
    cases hv : v.ownBlock with
    | none => exact .inl rfl
    | some b => exact .inr (fun e => by injection e with e; have := (World.ownsRow.lt h b hv).1; omega))
/-- A store into the second row. -/
theorem RB.set1 {w V : World} {R t s M : Nat} {wx : World} {A : Option Addr} {j c : Nat} {xs : List Int} {B : Option Addr} {k d : Nat} {ys : List Int} (h : RB w V R t s M wx A j c xs B k d ys) {g i : Nat} (hB : B = some ⟨g, 0, none⟩) (x : Int) :
    RB w V R t s M (wx.setCell ⟨g, i, none⟩ (.int .i64 x)) A j c xs B k d (ys.set i x) := by
  subst hB
  have hl := World.ownsRow.lt h.o1 g rfl
  have hgs : wx.grownBy (wx.setCell ⟨g, i, none⟩ (.int .i64 x)) (some g) := ⟨rfl, rfl, rfl, by simp, fun b _ hne => Below.heap_setCell _ _ _ _ (by simpa using hne)⟩
  refine ⟨(World.cell?_setCell_other _ _ _ _ (fun e => by injection e; omega)).trans h.c0, (World.cell?_setCell_other _ _ _ _ (fun e => by injection e; omega)).trans h.c1, by rw [World.frozen?_setCell]; exact h.f0, by rw [World.frozen?_setCell]; exact h.f1, ?_, own_stored3 h.o1 i x, h.ne, h.rd.below ((Below.refl g wx).setCell (p := ⟨g, i, none⟩) (Nat.le_refl _) _) (by have := h.rs; omega), h.rs, h.bl.setCell (p := ⟨g, i, none⟩) (by have := h.rs; show R ≤ g; omega) _, ?_, h.tl⟩
  · refine h.o0.kept hgs ?_
    cases hv : (Value.slice A j c).ownBlock with
    | none => exact .inl rfl
    | some b => exact .inr (fun e => by injection e with e; subst e; exact h.ne b hv rfl)
  · rw [Below.heap_setCell _ _ _ _ (by have := h.tl; show t ≠ g; omega)]
    exact h.tb

set_option maxRecDepth 20000 in
set_option maxHeartbeats 6400000 in
theorem someRun_any (R N : Nat) (w : World) (hN : N ≤ 1000) (h : Rd w R N) :
    Calls Try.prog 65 #[.pointer (some ⟨R, 0, none⟩)] w (SrPost w R) := by
  have hR := h.1
  obtain ⟨i0, hi, hz0, hz1, hz2⟩ := info_parts info3
  obtain ⟨j0, ji, jz0, jz1, jz2⟩ := info_parts infoStop
  obtain ⟨s0, hs0⟩ : ∃ s, s = w.heap.size := ⟨_, rfl⟩
  obtain ⟨W, hW⟩ : ∃ W, W = (w.alloc (.cells #[.slice none 0 0, .slice none 0 0] 44)).alloc (.cells #[.slice none 0 0, .slice none 0 0] 44) := ⟨_, rfl⟩
  have hbW : Below w.heap.size w W := by rw [hW]; exact ((Below.refl _ _).alloc (Nat.le_refl _) _).alloc (by simp) _
  have hzW : W.heap.size = s0 + 2 := by rw [hW, hs0]; simp
  have G0 : RB w W R s0 (s0 + 1) N W none 0 0 [] none 0 0 [] := by
    refine ⟨by rw [hW, hs0]; simp [World.cell?_alloc_at, World.cell?_alloc_past], by rw [hW, hs0]; simp [World.cell?_alloc_at, World.cell?_alloc_past], by rw [hW, hs0]; go_simp, by rw [hW, hs0]; go_simp, World.ownsRow_nil _ _ _ _, World.ownsRow_nil _ _ _ _, fun b e => (by cases e), h.below hbW hR, by omega, hbW.mono (by omega), rfl, by omega⟩
  have d0 : W.cell? ⟨s0, 0, none⟩ = some (.slice none 0 0) := by rw [hW, hs0]; simp [World.cell?_alloc_at, World.cell?_alloc_past]
  have d1 : W.cell? ⟨s0, 1, none⟩ = some (.slice none 0 0) := by rw [hW, hs0]; simp [World.cell?_alloc_at, World.cell?_alloc_past]
  have e0 : W.frozen? ⟨s0, 0, none⟩ = false := by rw [hW, hs0]; go_simp
  have e1 : W.frozen? ⟨s0, 1, none⟩ = false := by rw [hW, hs0]; go_simp
  have HG0 := Lib.hid G0
  have D0 := Lib.hid d0
  have D1 := Lib.hid d1
  have E0 := Lib.hid e0
  have E1 := Lib.hid e1
  have HZ := Lib.hid hzW
  have HS0 := Lib.hid hs0
  have hRs : R < s0 := by omega
  obtain ⟨s, hs⟩ : ∃ s, s = s0 + 1 := ⟨_, rfl⟩
  rw [← hs] at HG0
  have HS := Lib.hid hs
  have hss : s0 < s := by omega
  have hres := Lib.hid (show Try.f65.results = #[.cell 2 44] by kernel_rfl)
  clear G0 d0 d1 e0 e1 hzW hbW h
  go_enter Try.func65, Try.ntmps65
  go_wp2_with fail
  rw [← hW, ← hs0, ← hs]
  clear hW hs0 hs
  refine (one_lit R N _ W 3 [3, 4, 3, 2, 1] 5 (by have := HZ.out; have := HS.out; omega) rfl (by omega) (by omega) (by omega) HG0.out.rd).mono ?_
  rintro e w2 ⟨n', rfl, hn, hR2, hg2, hb2⟩
  obtain ⟨n, rfl, hn1, hn2⟩ : ∃ n : Nat, n' = n ∧ 1 ≤ n ∧ n ≤ 4 := ⟨n'.toNat, by simp at hn; omega, by simp at hn; omega, by simp at hn; omega⟩
  have G2 := Lib.hid (HG0.out.gby hg2 hR2)
  clear hn hR2 hg2 hb2 HG0
  have c0 := G2.out.c0
  have c1 := G2.out.c1
  go_wp2_with fail
  go_loopg [] n (fun gg wr => ∃ (A : Option Addr) (j c : Nat) (xs : List Int), j ≤ n ∧ n - j ≤ gg ∧ RB w W R s0 s (N + 1 + j) wr A j c xs none 0 0 [])
  case atStart => exact ⟨none, 0, 0, [], by omega, by omega, G2.out⟩
  case round =>
    clear G2 c0 c1
    obtain ⟨A, j, c, xs, hj, hg, hG⟩ := hrel
    have c0 := hG.c0
    have c1 := hG.c1
    have HG := Lib.hid hG
    have HGD := Lib.hid (hG.later (bDrewN (Below.refl wr.heap.size wr) 1))
    by_cases hlt : j < n
    · clear hG
      go_wp2_with fail
      go_region_law (first
        | (go_simp; go_at_call 89; refine (pick_b R (N + 1 + j) 4 wr.drew (by omega) (by omega) HGD.out.rd).mono ?_; rintro e w3 ⟨r, rfl, hr0, hr1, hr2, hR3, hg3, hb3⟩; have G3 := Lib.hid (HGD.out.gby hg3 hR3); have k0 := G3.out.c0; have k1 := (G3.out.later ((Below.refl _ _).alloc (Nat.le_refl _) (.cells #[.int .i64 r] 3))).c0; clear hr1 hr2 hg3 hb3 hR3)
        | (refine step_append_lies _ rfl _ _ 22 rfl (s + 1) 3 i0 (.int .i64 0) 1 8 Try.underlying22 hi hz0 hz1 hz2 rfl (by decide) _ j _ rfl (kept_none G3.out.o0 ((Below.refl _ _).alloc (Nat.le_refl _) (.cells #[.int .i64 r] 3))) ⟨w3.heap.size, 0, none⟩ 1 1 [.int .i64 r] rfl rfl (World.news_of_block (cs := #[.int .i64 r]) (t := 3) (fr := (0, 0)) (heap_new _ _)) (by intro u hu; simp at hu; subst hu; rfl) (by omega) (by unfold maxLen; omega) (by omega) (by simp; have := G3.out.lt; omega) (w3.heap.size + 1) (by simp) ?_; intro g c' w4 h1 h2 h3 h4; obtain ⟨hG5, hf5, u5, hu5⟩ := G3.out.app0 (zs := xs ++ [r]) (by rw [List.map_append]; exact h1) h2 h3; have G5 := Lib.hid hG5; clear hG5 h1 h2 h3 h4))
      all_goals
        go_wp2_with fail
        go_roundg (n - (j + 1))
        case measure => omega
        case rel => exact ⟨_, j + 1, _, _, by omega, by omega, G5.out⟩
    · obtain rfl : j = n := by omega
      have HJ := Lib.hid hlt
      clear hG hlt
      obtain ⟨pw, hpw⟩ : ∃ p, p = 2 ^ j := ⟨_, rfl⟩
      have HPw := Lib.hid (fun w' => specpower_any j w' (by omega))
      rw [← hpw] at HPw
      have hp16 : pw ≤ 16 := by rw [hpw]; exact Nat.le_trans (Nat.pow_le_pow_right (by omega) hn2) (by decide)
      clear hpw
      go_wp2_with fail
      go_loopg [5] j (fun gg iv wr => ∃ (i : Nat) (B : Option Addr) (k d M : Nat) (ys : List Int), iv = .int .i64 i ∧ i ≤ j ∧ j - i ≤ gg ∧ k ≤ i ∧ M ≤ N + 5 + 3 * i ∧ RB w W R s0 s M wr A j c xs B k d ys)
      case atStart => exact ⟨0, none, 0, 0, N + 1 + j, [], rfl, by omega, by omega, by omega, by omega, HG.out⟩
      case round =>
        clear HG HGD c0 c1
        obtain ⟨i, B, k, d, M, ys, rfl, hi4, hg4, hk, hM, hG⟩ := hrel
        have hwi : IntKind.i64.wrap ((i : Int) + 1) = (i : Int) + 1 := by rw [IntKind.wrap_i64]; omega
        have HG := Lib.hid hG
        clear hG
        by_cases hij : i < j
        · go_wp2_with fail
          go_at_call 89
          refine (pick_b R M 2 wr (by omega) (by omega) HG.out.rd).mono ?_
          rintro e w3 ⟨r, rfl, hr0, hr1, hr2, hR3, hg3, hb3⟩
          have G3 := Lib.hid (HG.out.gby hg3 hR3)
          clear hr1 hr2 hg3 hb3 hR3 HG hr0
          by_cases hr : r = 0
          · have e0 : (r == 0) = true := by simp [hr]
            have e1 : G3 = G3 := rfl
            have c1 := G3.out.c1
            have c1d := (G3.out.later (bDrewN (Below.refl w3.heap.size w3) 1)).c1
            have GD := Lib.hid (G3.out.later (bDrewN (Below.refl w3.heap.size w3) 1))
            clear e1
            subst hr
            go_wp2_with fail
            go_region_law (first
              | (go_simp; go_at_call 89; refine (pick_b R (M + 1) 3 w3.drew (by omega) (by omega) GD.out.rd).mono ?_; rintro e w5 ⟨r, rfl, hr0, hr1, hr2, hR5, hg5, hb5⟩; have G5 := Lib.hid (GD.out.gby hg5 hR5); have HQ := Lib.hid (hr1 (by omega)); have HQ0 := Lib.hid hr0; have hwr : IntKind.i64.wrap (1 + r) = 1 + r := (by rw [IntKind.wrap_i64]; have := hr1 (by omega); omega); have k0 := G5.out.c1; clear hr0 hr1 hr2 hg5 hb5 hR5 GD)
              | (go_simp; go_at_call 89; refine (pick_b R (M + 1 + 1) pw w5 (by omega) (by omega) G5.out.rd).mono ?_; rintro e w6 ⟨r', rfl, hr0, hr1, hr2, hR6, hg6, hb6⟩; have G6 := Lib.hid (G5.out.gby hg6 hR6); have k1 := G6.out.c1; have k2 := (G6.out.later ((Below.refl _ _).alloc (Nat.le_refl _) (.cells #[.int .i64 i, .int .i64 (1 + r), .int .i64 r'] 82))).c1; clear hr0 hr1 hr2 hg6 hb6 hR6)
              | (go_simp; go_at_call 94; refine (HPw.out w5).mono ?_; rintro e w' ⟨rfl, rfl⟩)
              | (refine step_append_lies _ rfl _ _ 42 rfl (s + 1) 82 j0 _ 3 24 Try.underlying42 ji jz0 jz1 jz2 rfl (by decide) _ k _ rfl (kept_none G6.out.o1 ((Below.refl _ _).alloc (Nat.le_refl _) (.cells #[.int .i64 i, .int .i64 (1 + r), .int .i64 r'] 82))) ⟨w6.heap.size, 0, none⟩ 1 1 [.int .i64 i, .int .i64 (1 + r), .int .i64 r'] rfl rfl (World.news_of_block (cs := #[.int .i64 i, .int .i64 (1 + r), .int .i64 r']) (t := 82) (fr := (0, 0)) (heap_new _ _)) (by intro u hu; simp at hu; rcases hu with rfl | rfl | rfl <;> rfl) (by omega) (by unfold maxLen; omega) (by omega) (by simp; have := G6.out.lt; omega) (w6.heap.size + 1) (by simp) ?_; intro g c' w4 h1 h2 h3 h4; obtain ⟨hG7, hf7, u7, hu7⟩ := G6.out.app1 (zs := ys ++ [(i : Int), 1 + r, r']) (by rw [List.map_append]; exact h1) h2 h3; have G7 := Lib.hid hG7; clear hG7 h1 h2 h3 h4))
            all_goals
              go_wp2_with fail
              go_roundg (j - (i + 1))
              case measure => omega
              case rel => exact ⟨i + 1, _, _, _, _, _, rfl, by omega, by omega, by omega, (by omega : M + 1 + 1 + 1 ≤ N + 5 + 3 * (i + 1)), G7.out⟩
          · have e0 : (r == 0) = false := by simp [hr]
            go_wp2_with fail
            go_roundg (j - (i + 1))
            case measure => omega
            case rel => exact ⟨i + 1, _, _, _, M + 1, _, rfl, by omega, by omega, by omega, by omega, G3.out⟩
        · obtain rfl : i = j := by omega
          clear hwi hij
          go_wp2_with fail
          go_at_call 89
          refine (pick_b R M 30 wr (by omega) (by omega) HG.out.rd).mono ?_
          rintro e w3 ⟨r, rfl, hr0, hr1, hr2, hR3, hg3, hb3⟩
          obtain ⟨g, rfl, hgs, hgl⟩ := own_form HG.out.o0 (by omega)
          have hjc := own_cap HG.out.o0
          have hi0 : 0 < i := by omega
          have G3 := Lib.hid (HG.out.gby hg3 hR3)
          clear hr1 hr2 hr0 hg3 hb3 hR3 HG
          go_upto_block 4 with (fail)
          go_cut [] from 46 to 86 (fun wx => ∃ (A : Option Addr) (j c : Nat) (xs : List Int) (B : Option Addr) (k d M : Nat) (ys : List Int), j ≤ 4 ∧ k ≤ 5 ∧ RB w W R s0 s M wx A j c xs B k d ys)
          case first =>
            have c0 := G3.out.c0
            have c1 := G3.out.c1
            have GD := Lib.hid (G3.out.later (bDrewN (Below.refl w3.heap.size w3) 1))
            have k0 := GD.out.c0
            have k1 := GD.out.c1
            have ka := fun o => (G3.out.later ((Below.refl w3.heap.size w3).alloc (Nat.le_refl _) o)).c0
            have kb := fun o => (G3.out.later ((Below.refl w3.heap.size w3).alloc (Nat.le_refl _) o)).c1
            by_cases h0 : r = 0
            · subst h0
              have ka := ka (.cells #[.int .i64 (-1), .int .i64 4] 3)
              clear kb
              go_wp2_with fail
              go_region_law (go_simp; go_at_call 78; refine (one_lit R (M + 1) _ w3.drew 3 [-1, 4] 2 rfl rfl (by omega) (by omega) (by omega) GD.out.rd).mono ?_; rintro e w5 ⟨z, rfl, hz, hR5, hg5, hb5⟩; have G5 := Lib.hid (GD.out.gby hg5 hR5); have m0 := G5.out.c0; have n0 := own_cell G5.out.o0 (j := 0) (by omega); have nf := World.ownsRow.frozenAt G5.out.o0 0; clear hz hR5 hg5 hb5)
              all_goals
                go_wp2_with fail
                go_meet
                exact ⟨_, i, c, _, B, k, d, M + 1 + 1, ys, by omega, by omega, G5.out.set0 rfl (by omega) z⟩
            · have e0 : (r == 0) = false := by simpa using h0
              by_cases h1 : r = 1
              · subst h1
                clear ka kb
                go_wp2_with (at_builtin; refine wpList_append_lies _ rfl _ _ 42 rfl (s + 1) 82 j0 _ 3 24 Try.underlying42 ji jz0 jz1 jz2 rfl (by decide) _ k _ rfl (kept_none G3.out.o1 ((Below.refl _ _).alloc (Nat.le_refl _) (.cells #[.int .i64 0, .int .i64 1, .int .i64 0] 82))) ⟨w3.heap.size, 0, none⟩ 1 1 [.int .i64 0, .int .i64 1, .int .i64 0] rfl rfl (World.news_of_block (cs := #[.int .i64 0, .int .i64 1, .int .i64 0]) (t := 82) (fr := (0, 0)) (heap_new _ _)) (by intro u hu; simp only [List.mem_cons, List.not_mem_nil, or_false] at hu; rcases hu with rfl | rfl | rfl <;> rfl) (by omega) (by unfold maxLen; omega) (by omega) (by simp; have := G3.out.lt; omega) (w3.heap.size + 1) (by simp) ?_; intro g2 c' w4 h1 h2 h3 h4; obtain ⟨hG7, hf7, u7, hu7⟩ := G3.out.app1 (zs := ys ++ [(0 : Int), 1, 0]) (by rw [List.map_append]; exact h1) h2 h3; have G7 := Lib.hid hG7; clear hG7 h1 h2 h3 h4)
                go_meet
                exact ⟨_, i, c, _, _, _, _, M + 1, _, by omega, by omega, G7.out⟩
              · have e1 : (r == 1) = false := by simpa using h1
                by_cases hk0 : k = 0
                · subst hk0
                  clear ka kb
                  by_cases h2 : r = 2
                  · subst h2
                    go_wp2_with fail
                    go_meet
                    exact ⟨_, i, c, _, B, 0, d, M + 1, ys, by omega, by omega, G3.out⟩
                  · have e2 : (r == 2) = false := by simpa using h2
                    by_cases h3 : r = 3
                    · subst h3
                      go_wp2_with fail
                      go_meet
                      exact ⟨_, i, c, _, B, 0, d, M + 1, ys, by omega, by omega, G3.out⟩
                    · have e3 : (r == 3) = false := by simpa using h3
                      go_wp2_with fail
                      go_meet
                      exact ⟨_, i, c, _, B, 0, d, M + 1, ys, by omega, by omega, G3.out⟩
                · obtain ⟨g2, rfl, hgs2, hgl2⟩ := own_form G3.out.o1 (by omega)
                  have hkd := own_cap G3.out.o1
                  have hk0 : 0 < k := by omega
                  by_cases h2 : r = 2
                  · subst h2
                    have kb := kb (.cells #[.int .i64 0, .int .i64 5] 3)
                    clear ka
                    go_wp2_with fail
                    go_region_law (go_simp; go_at_call 78; refine (one_lit R (M + 1) _ w3.drew 3 [0, 5] 2 rfl rfl (by omega) (by omega) (by omega) GD.out.rd).mono ?_; rintro e w5 ⟨z, rfl, hz, hR5, hg5, hb5⟩; have G5 := Lib.hid (GD.out.gby hg5 hR5); have m0 := G5.out.c1; have n0 := own_cell3 G5.out.o1 (j := 1) (by omega); have nf := World.ownsRow.frozenAt G5.out.o1 1; clear hz hR5 hg5 hb5)
                    all_goals
                      go_wp2_with fail
                      go_meet
                      exact ⟨_, i, c, _, _, k, d, M + 1 + 1, _, by omega, by omega, G5.out.set1 (i := 1) rfl z⟩
                  · have e2 : (r == 2) = false := by simpa using h2
                    by_cases h3 : r = 3
                    · subst h3
                      clear ka kb
                      go_wp2_with fail
                      have n0 := own_cell3 G3.out.o1 (j := 2) (by omega)
                      have nf := World.ownsRow.frozenAt G3.out.o1 2
                      go_region_law (go_simp; go_at_call 94; refine (HPw.out w3.drew).mono ?_; rintro e w' ⟨rfl, rfl⟩)
                      all_goals
                        go_wp2_with fail
                        go_meet
                        exact ⟨_, i, c, _, _, k, d, M + 1, _, by omega, by omega, GD.out.set1 (i := 2) rfl pw⟩
                    · have e3 : (r == 3) = false := by simpa using h3
                      clear ka kb
                      go_wp2_with fail
                      go_meet
                      exact ⟨_, i, c, _, _, k, d, M + 1, ys, by omega, by omega, G3.out⟩
          case rest =>
            clear G3
            obtain ⟨A, j', c', xs', B, k', d', M', ys', hj', hk', hG⟩ := hcut
            have c0 := hG.c0
            have c1 := hG.c1
            have T0 := (World.cell?_of_block (a := ⟨s0, 0, none⟩) hG.tb).trans D0.out
            have T1 := (World.cell?_of_block (a := ⟨s0, 1, none⟩) hG.tb).trans D1.out
            have F0 := (World.frozen?_of_block (a := ⟨s0, 0, none⟩) hG.tb).trans E0.out
            have F1 := (World.frozen?_of_block (a := ⟨s0, 1, none⟩) hG.tb).trans E1.out
            have HG := Lib.hid hG
            clear hG D0 D1 E0 E1
            go_wp2_with fail
            have hw0 : ((wc.setCell ⟨s0, 0, none⟩ (.slice A j' c')).setCell ⟨s0, 1, none⟩ (.slice B k' d')).cell? ⟨s0, 0, none⟩ = some (.slice A j' c') := (World.cell?_setCell_other _ _ _ _ (by simp)).trans (World.cell?_setCell_same _ _ _ T0)
            have hw1 : ((wc.setCell ⟨s0, 0, none⟩ (.slice A j' c')).setCell ⟨s0, 1, none⟩ (.slice B k' d')).cell? ⟨s0, 1, none⟩ = some (.slice B k' d') := World.cell?_setCell_same _ _ _ ((World.cell?_setCell_other _ _ _ _ (by simp)).trans T1)
            have G := HG.out
            refine bodyPost_ret (v := .agg #[.slice A j' c', .slice B k' d']) ?_ rfl (show SrPost w R _ _ from ⟨A, j', c', xs', B, k', d', ys', rfl, (NewI.of_own (own_setS (own_setS G.o0 (p := ⟨s0, 0, none⟩) (by show s0 < s + 1; omega) _) (p := ⟨s0, 1, none⟩) (by show s0 < s + 1; omega) _)).mono (by omega), (NewI.of_own3 (own_setS (own_setS G.o1 (p := ⟨s0, 0, none⟩) (by show s0 < s + 1; omega) _) (p := ⟨s0, 1, none⟩) (by show s0 < s + 1; omega) _)).mono (by omega), by omega, by omega, own_cap G.o1, (G.bl.setCell (p := ⟨s0, 0, none⟩) (by show R ≤ s0; omega) _).setCell (p := ⟨s0, 1, none⟩) (by show R ≤ s0; omega) _⟩)
            simp only [results, hres.out]
            go_simp

end Go.Proofs.Ytblaaeanbhgokaa
