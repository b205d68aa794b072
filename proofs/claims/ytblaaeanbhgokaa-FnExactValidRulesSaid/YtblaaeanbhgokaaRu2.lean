/-
  Ru2. By a program (wip/tools/mk.py) out of snippets.
-/
import Derived.Test.YtblaaeanbhgokaaRu
namespace Go.Proofs.Ytblaaeanbhgokaa
open Go.RowKit

/-- The cells of the three blocks from B on that 'toRules' makes. -/
structure FB (V : World) (B : Nat) (x y : Nat → Value) : Prop where
  lt : B + 2 < V.heap.size
  arg : ∀ i, i < 3 → V.cell? ⟨B, i, none⟩ = some (x i)
  res : ∀ i, i < 3 → ∃ v, V.cell? ⟨B + 1, i, none⟩ = some v
  own : ∀ i, i < 3 → V.cell? ⟨B + 1 + 1, i, none⟩ = some (y i)
  fz1 : ∀ i, i < 3 → V.frozen? ⟨B + 1, i, none⟩ = false
  fz2 : ∀ i, i < 3 → V.frozen? ⟨B + 1 + 1, i, none⟩ = false
theorem FB.call {V V' : World} {B : Nat} {x y : Nat → Value} (h : FB V B x y) (hb : Below V.heap.size V V') : FB V' B x y := by
  have hl := h.lt
  refine ⟨by have := hb.size; omega, fun i hi => ?_, fun i hi => ?_, fun i hi => ?_, fun i hi => ?_, fun i hi => ?_⟩
  · exact (hb.cell (p := ⟨B, i, none⟩) (by show B < _; omega)).trans (h.arg i hi)
  · obtain ⟨v, hv⟩ := h.res i hi
    exact ⟨v, (hb.cell (p := ⟨B + 1, i, none⟩) (by show B + 1 < _; omega)).trans hv⟩
  · exact (hb.cell (p := ⟨B + 1 + 1, i, none⟩) (by show B + 1 + 1 < _; omega)).trans (h.own i hi)
  · exact (hb.frozen (p := ⟨B + 1, i, none⟩) (by show B + 1 < _; omega)).trans (h.fz1 i hi)
  · exact (hb.frozen (p := ⟨B + 1 + 1, i, none⟩) (by show B + 1 + 1 < _; omega)).trans (h.fz2 i hi)
theorem FB.put {V : World} {B : Nat} {x y : Nat → Value} (h : FB V B x y) {k : Nat} (hk : k < 3) (v : Value) : FB (V.setCell ⟨B + 1 + 1, k, none⟩ v) B x (fun j => if j = k then v else y j) := by
  refine ⟨by simpa using h.lt, fun i hi => ?_, fun i hi => ?_, fun i hi => ?_, fun i hi => by rw [World.frozen?_setCell]; exact h.fz1 i hi, fun i hi => by rw [World.frozen?_setCell]; exact h.fz2 i hi⟩
  · exact (World.cell?_setCell_other _ _ _ _ (fun e => by injection e; omega)).trans (h.arg i hi)
  · obtain ⟨u, hu⟩ := h.res i hi
    exact ⟨u, (World.cell?_setCell_other _ _ _ _ (fun e => by injection e; omega)).trans hu⟩
  · by_cases e : i = k
    · subst e
      rw [if_pos rfl]
      exact World.cell?_setCell_same _ _ _ (h.own i hi)
    · rw [if_neg e]
      exact (World.cell?_setCell_other _ _ _ _ (fun e' => e (by injection e'; omega))).trans (h.own i hi)

theorem NewI.low {w : World} {base : Nat} {A : Option Addr} {n : Nat} {zs : List Int} (h : NewI w base A n zs) {R i : Nat} {v : Value} (hR : R < base) : NewI (w.setCell ⟨R, i, none⟩ v) base A n zs :=
  ⟨h.1, fun hn => by
    obtain ⟨b, off, e, h1, h2, hc, hf⟩ := h.2 hn
    exact ⟨b, off, e, h1, by simpa using h2, fun j hj => (World.cell?_setCell_other _ _ _ _ (fun e' => by injection e'; omega)).trans (hc j hj), fun j hj => by rw [World.frozen?_setCell]; exact hf j hj⟩⟩
theorem SN.later {w w' : World} {base : Nat} {A : Option Addr} {n : Nat} {rows : List (List Int)} (h : SN w base A n rows) (hb : Below w.heap.size w w') : SN w' base A n rows :=
  ⟨h.1, fun hn => by
    obtain ⟨b, off, e, h1, hc⟩ := h.2 hn
    refine ⟨b, off, e, h1, fun i hi => ?_⟩
    obtain ⟨A', n', c', h2, h3, h4⟩ := hc i hi
    have hlt : b < w.heap.size := World.block_lt_of_cell? w _ h2
    exact ⟨A', n', c', (hb.cell (p := ⟨b, off + i, none⟩) hlt).trans h2, h3.below hb (Nat.le_refl _), h4⟩⟩
theorem SN.mono {w : World} {base base' : Nat} {A : Option Addr} {n : Nat} {rows : List (List Int)} (h : SN w base A n rows) (hb : base' ≤ base) : SN w base' A n rows :=
  ⟨h.1, fun hn => by
    obtain ⟨b, off, e, h1, hc⟩ := h.2 hn
    refine ⟨b, off, e, by omega, fun i hi => ?_⟩
    obtain ⟨A', n', c', h2, h3, h4⟩ := hc i hi
    exact ⟨A', n', c', h2, h3, fun hp b o e => by have := h4 hp b o e; omega⟩⟩

set_option maxHeartbeats 3200000 in
theorem toRules_any (A1 : Option Addr) (n1 c1 : Nat) (A2 : Option Addr) (n2 c2 : Nat) (A3 : Option Addr) (n3 c3 : Nat) (says : List Int) (f s : List (List Int)) (w : World) (h1 : n1 ≤ 2000000) (h2 : n2 ≤ 2000000) (h3 : n3 ≤ 2000000)
    (hr2 : ∀ i, i < n2 → (rat f i).length ≤ 2000000) (hr3 : ∀ i, i < n3 → (rat s i).length ≤ 2000000) (ha1 : SI w A1 n1 says) (ha2 : SS w A2 n2 f) (ha3 : SS w A3 n3 s) :
    Calls Try.prog 43 #[.agg #[.slice A1 n1 c1, .slice A2 n2 c2, .slice A3 n3 c3]] w fun e w' => ∃ B1 e1 B2 e2 B3 e3, e = .returned (.agg #[.slice B1 n1 e1, .slice B2 n2 e2, .slice B3 n3 e3]) ∧ SI w' B1 n1 says ∧ SS w' B2 n2 f ∧ SS w' B3 n3 s ∧ Below w.heap.size w w' := by
  obtain ⟨W, hW⟩ : ∃ W, W = ((w.alloc (.cells #[.slice A1 n1 c1, .slice A2 n2 c2, .slice A3 n3 c3] 59)).alloc (.cells #[.slice none 0 0, .slice none 0 0, .slice none 0 0] 62)).alloc (.cells #[.slice none 0 0, .slice none 0 0, .slice none 0 0] 62) := ⟨_, rfl⟩
  have hB : Below w.heap.size w W := by rw [hW]; exact (((Below.refl _ _).alloc (Nat.le_refl _) _).alloc (by simp) _).alloc (by simp; omega) _
  have hz : W.heap.size = w.heap.size + 3 := by rw [hW]; simp
  have T0 : FB W w.heap.size (fun i => if i = 0 then .slice A1 n1 c1 else if i = 1 then .slice A2 n2 c2 else .slice A3 n3 c3) (fun _ => .slice none 0 0) := by
    refine ⟨by omega, fun i hi => ?_, fun i hi => ?_, fun i hi => ?_, fun i hi => ?_, fun i hi => ?_⟩
    · rw [hW, World.cell?_alloc_past _ _ _ (by simp; omega), World.cell?_alloc_past _ _ _ (by simp), World.cell?_alloc_at _ _ _ _ rfl]
      rcases (show i = 0 ∨ i = 1 ∨ i = 2 by omega) with rfl | rfl | rfl <;> rfl
    · refine ⟨.slice none 0 0, ?_⟩
      rw [hW, World.cell?_alloc_past _ _ _ (by simp), World.cell?_alloc_at _ _ _ _ (by simp)]
      rcases (show i = 0 ∨ i = 1 ∨ i = 2 by omega) with rfl | rfl | rfl <;> rfl
    · rw [hW, World.cell?_alloc_at _ _ _ _ (by simp)]
      rcases (show i = 0 ∨ i = 1 ∨ i = 2 by omega) with rfl | rfl | rfl <;> rfl
    · rw [hW]; go_simp
    · rw [hW]; go_simp
  have HA1 := Lib.hid (fun w' (hb : Below w.heap.size w w') => toIntS_any A1 n1 c1 says w' h1 (ha1.below hb (Nat.le_refl _)))
  have HA2 := Lib.hid (fun w' (hb : Below w.heap.size w w') => toIntSS_any A2 n2 c2 f w' h2 hr2 (ha2.below hb (Nat.le_refl _)))
  have HA3 := Lib.hid (fun w' (hb : Below w.heap.size w w') => toIntSS_any A3 n3 c3 s w' h3 hr3 (ha3.below hb (Nat.le_refl _)))
  have HB := Lib.hid hB
  have HT0 := Lib.hid T0
  have HZ := Lib.hid hz
  have HC1 := Lib.hid (HA1.out W hB)
  have f00 := T0.fz2 0 (by omega)
  have y00 := T0.own 0 (by omega)
  clear ha1 ha2 ha3 hr2 hr3 hB T0 hz f00 y00
  go_enter Try.func43, Try.ntmps43
  go_wp2_with fail
  rw [← hW]
  clear hW
  refine HC1.out.mono ?_
  rintro e v1 ⟨B1, e1, rfl, hN1, hb1⟩
  have T1 := HT0.out.call hb1
  have T1' := Lib.hid (T1.put (k := 0) (by omega) (.slice B1 n1 e1))
  have HN1 := Lib.hid (hN1.low (R := w.heap.size + 1 + 1) (i := 0) (v := .slice B1 n1 e1) (by have := HZ.out; omega))
  have HB1 := Lib.hid (show Below w.heap.size w (v1.setCell ⟨w.heap.size + 1 + 1, 0, none⟩ (.slice B1 n1 e1)) from (bstep HB.out hb1).setCell (by show w.heap.size ≤ w.heap.size + 1 + 1; omega) _)
  have y0 := T1.own 0 (by omega)
  have f0 := T1.fz2 0 (by omega)
  have x1 : (v1.setCell ⟨w.heap.size + 1 + 1, 0, none⟩ (.slice B1 n1 e1)).cell? ⟨w.heap.size, 1, none⟩ = some (.slice A2 n2 c2) := T1'.out.arg 1 (by omega)
  have HC2 := Lib.hid (HA2.out _ HB1.out)
  have HLo1 := Lib.hid (show W.heap.size ≤ (v1.setCell ⟨w.heap.size + 1 + 1, 0, none⟩ (.slice B1 n1 e1)).heap.size by simpa using hb1.size)
  clear T1 hN1 hb1 HC1 HA1
  go_wp2_with fail
  generalize v1.setCell ⟨w.heap.size + 1 + 1, 0, none⟩ (.slice B1 n1 e1) = V1 at *
  refine HC2.out.mono ?_
  rintro e v2 ⟨B2, e2, rfl, hc2', hN2, hb2⟩
  have T2 := T1'.out.call hb2
  have T2' := Lib.hid (T2.put (k := 1) (by omega) (.slice B2 n2 e2))
  have HN2 := Lib.hid ((hN2.mono HLo1.out).setLow (R := w.heap.size + 1 + 1) (i := 1) (v := .slice B2 n2 e2) (by have := HZ.out; omega))
  have HN1b := Lib.hid ((HN1.out.below hb2 (Nat.le_refl _)).low (R := w.heap.size + 1 + 1) (i := 1) (v := .slice B2 n2 e2) (by have := HZ.out; omega))
  have HB2 := Lib.hid (show Below w.heap.size w (v2.setCell ⟨w.heap.size + 1 + 1, 1, none⟩ (.slice B2 n2 e2)) from (bstep HB1.out hb2).setCell (by show w.heap.size ≤ w.heap.size + 1 + 1; omega) _)
  have y1 := T2.own 1 (by omega)
  have f1 := T2.fz2 1 (by omega)
  have x2 : (v2.setCell ⟨w.heap.size + 1 + 1, 1, none⟩ (.slice B2 n2 e2)).cell? ⟨w.heap.size, 2, none⟩ = some (.slice A3 n3 c3) := T2'.out.arg 2 (by omega)
  have HC3 := Lib.hid (HA3.out _ HB2.out)
  have HLo2 := Lib.hid (show W.heap.size ≤ (v2.setCell ⟨w.heap.size + 1 + 1, 1, none⟩ (.slice B2 n2 e2)).heap.size by have := hb2.size; have := HLo1.out; simp; omega)
  clear T2 hN2 hb2 HC2 HA2 x1 y0 f0 T1' HN1
  go_wp2_with fail
  generalize v2.setCell ⟨w.heap.size + 1 + 1, 1, none⟩ (.slice B2 n2 e2) = V2 at *
  refine HC3.out.mono ?_
  rintro e v3 ⟨B3, e3, rfl, hc3', hN3, hb3⟩
  have T3 := T2'.out.call hb3
  have T3' := T3.put (k := 2) (by omega) (.slice B3 n3 e3)
  have HN3 := (hN3.mono HLo2.out).setLow (R := w.heap.size + 1 + 1) (i := 2) (v := .slice B3 n3 e3) (by have := HZ.out; omega)
  have HN2b := (HN2.out.later hb3).setLow (R := w.heap.size + 1 + 1) (i := 2) (v := .slice B3 n3 e3) (by have := HZ.out; omega)
  have HN1c := (HN1b.out.below hb3 (Nat.le_refl _)).low (R := w.heap.size + 1 + 1) (i := 2) (v := .slice B3 n3 e3) (by have := HZ.out; omega)
  have HB3 := (show Below w.heap.size w (v3.setCell ⟨w.heap.size + 1 + 1, 2, none⟩ (.slice B3 n3 e3)) from (bstep HB2.out hb3).setCell (by show w.heap.size ≤ w.heap.size + 1 + 1; omega) _)
  have y2 := T3.own 2 (by omega)
  have f2 := T3.fz2 2 (by omega)
  obtain ⟨V3, hV3⟩ : ∃ V3, V3 = v3.setCell ⟨w.heap.size + 1 + 1, 2, none⟩ (.slice B3 n3 e3) := ⟨_, rfl⟩
  rw [← hV3] at T3' HN3 HN2b HN1c HB3
  have HB3' := Lib.hid HB3
  have HN3' := Lib.hid HN3
  have HN2' := Lib.hid HN2b
  have HN1' := Lib.hid HN1c
  have o0 : V3.cell? ⟨w.heap.size + 1 + 1, 0, none⟩ = some (.slice B1 n1 e1) := T3'.own 0 (by omega)
  have o1 : V3.cell? ⟨w.heap.size + 1 + 1, 1, none⟩ = some (.slice B2 n2 e2) := T3'.own 1 (by omega)
  have o2 : V3.cell? ⟨w.heap.size + 1 + 1, 2, none⟩ = some (.slice B3 n3 e3) := T3'.own 2 (by omega)
  obtain ⟨r0, hr0⟩ := T3'.res 0 (by omega)
  obtain ⟨r1, hr1⟩ := T3'.res 1 (by omega)
  obtain ⟨r2, hr2⟩ := T3'.res 2 (by omega)
  have g0 := T3'.fz1 0 (by omega)
  have g1 := T3'.fz1 1 (by omega)
  have g2 := T3'.fz1 2 (by omega)
  clear T3 T3' hN3 hb3 HC3 HA3 x2 y1 f1 T2' HN2 HN1b HB3 HN3 HN2b HN1c
  rw [hV3] at o0 o1 o2 hr0 hr1 hr2 g0 g1 g2
  go_wp2_with fail
  refine bodyPost_ret (v := .agg #[.slice B1 n1 e1, .slice B2 n2 e2, .slice B3 n3 e3]) ?_ rfl ⟨B1, e1, B2, e2, B3, e3, rfl, ?_, ?_, ?_, ?_⟩
  · have hres : Try.f43.results = #[.cell 2 62] := by kernel_rfl
    simp only [results, hres]
    go_simp
  · rw [← hV3]
    exact (((HN1'.out.low (by have := HZ.out; omega)).low (by have := HZ.out; omega)).low (by have := HZ.out; omega)).si
  · rw [← hV3]
    exact (((HN2'.out.setLow (by have := HZ.out; omega)).setLow (by have := HZ.out; omega)).setLow (by have := HZ.out; omega)).ss
  · rw [← hV3]
    exact (((HN3'.out.setLow (by have := HZ.out; omega)).setLow (by have := HZ.out; omega)).setLow (by have := HZ.out; omega)).ss
  · rw [← hV3]
    exact ((HB3'.out.setCell (by show w.heap.size ≤ w.heap.size + 1; omega) _).setCell (by show w.heap.size ≤ w.heap.size + 1; omega) _).setCell (by show w.heap.size ≤ w.heap.size + 1; omega) _

end Go.Proofs.Ytblaaeanbhgokaa
