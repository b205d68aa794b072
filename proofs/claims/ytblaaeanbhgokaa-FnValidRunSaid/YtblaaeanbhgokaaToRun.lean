/-
  ToRun. By a program (wip/tools/mk.py) out of snippets.
-/
import Derived.Test.YtblaaeanbhgokaaTrips
namespace Go.Proofs.Ytblaaeanbhgokaa
open Go.RowKit

/-- The cells of the three blocks from B on that 'toRun' makes. -/
structure FB2 (V : World) (B : Nat) (x y : Nat → Value) : Prop where
  lt : B + 2 < V.heap.size
  arg : ∀ i, i < 2 → V.cell? ⟨B, i, none⟩ = some (x i)
  res : ∀ i, i < 2 → ∃ v, V.cell? ⟨B + 1, i, none⟩ = some v
  own : ∀ i, i < 2 → V.cell? ⟨B + 1 + 1, i, none⟩ = some (y i)
  fz1 : ∀ i, i < 2 → V.frozen? ⟨B + 1, i, none⟩ = false
  fz2 : ∀ i, i < 2 → V.frozen? ⟨B + 1 + 1, i, none⟩ = false
theorem FB2.call {V V' : World} {B : Nat} {x y : Nat → Value} (h : FB2 V B x y) (hb : Below V.heap.size V V') : FB2 V' B x y := by
  have hl := h.lt
  refine ⟨by have := hb.size; omega, fun i hi => ?_, fun i hi => ?_, fun i hi => ?_, fun i hi => ?_, fun i hi => ?_⟩
  · exact (hb.cell (p := ⟨B, i, none⟩) (by show B < _; omega)).trans (h.arg i hi)
  · obtain ⟨v, hv⟩ := h.res i hi
    exact ⟨v, (hb.cell (p := ⟨B + 1, i, none⟩) (by show B + 1 < _; omega)).trans hv⟩
  · exact (hb.cell (p := ⟨B + 1 + 1, i, none⟩) (by show B + 1 + 1 < _; omega)).trans (h.own i hi)
  · exact (hb.frozen (p := ⟨B + 1, i, none⟩) (by show B + 1 < _; omega)).trans (h.fz1 i hi)
  · exact (hb.frozen (p := ⟨B + 1 + 1, i, none⟩) (by show B + 1 + 1 < _; omega)).trans (h.fz2 i hi)
theorem FB2.put {V : World} {B : Nat} {x y : Nat → Value} (h : FB2 V B x y) {k : Nat} (hk : k < 2) (v : Value) : FB2 (V.setCell ⟨B + 1 + 1, k, none⟩ v) B x (fun j => if j = k then v else y j) := by
  refine ⟨by simpa using h.lt, fun i hi => ?_, fun i hi => ?_, fun i hi => ?_, fun i hi => by rw [World.frozen?_setCell]; exact h.fz1 i hi, fun i hi => by rw [World.frozen?_setCell]; exact h.fz2 i hi⟩
  · exact (World.cell?_setCell_other _ _ _ _ (fun e => by injection e; omega)).trans (h.arg i hi)
  · obtain ⟨u, hu⟩ := h.res i hi
    exact ⟨u, (World.cell?_setCell_other _ _ _ _ (fun e => by injection e; omega)).trans hu⟩
  · by_cases e : i = k
    · subst e
      rw [if_pos rfl]
      exact World.cell?_setCell_same _ _ _ (h.own i hi)
    · rw [if_neg e]
      exact (World.cell?_setCell_other _ _ _ _ (fun e' => e (by injection e'; omega))).trans (h.own i hi)

theorem NewI.low {w : World} {base : Nat} {A : Option Addr} {n : Nat} {zs : List Int} (h : NewI w base A n zs) {R i : Nat} {v : Value} (hR : R < base) : NewI (w.setCell ⟨R, i, none⟩ v) base A n zs :=
  ⟨h.1, fun hn => by
    obtain ⟨b, off, e, h1, h2, hc, hf⟩ := h.2 hn
    exact ⟨b, off, e, h1, by simpa using h2, fun j hj => (World.cell?_setCell_other _ _ _ _ (fun e' => by injection e'; omega)).trans (hc j hj), fun j hj => by rw [World.frozen?_setCell]; exact hf j hj⟩⟩

set_option maxHeartbeats 3200000 in
theorem toRun_any (A1 : Option Addr) (n1 c1 : Nat) (A2 : Option Addr) (n2 c2 : Nat) (ia sb : List Int) (w : World) (h1 : n1 ≤ 2000000) (h2 : n2 ≤ 2000000) (ha1 : SI w A1 n1 ia) (ha2 : SI w A2 (n2 * 3) sb) :
    Calls Try.prog 35 #[.agg #[.slice A1 n1 c1, .slice A2 n2 c2]] w fun e w' => ∃ B1 e1 B2 e2, e = .returned (.agg #[.slice B1 n1 e1, .slice B2 n2 e2]) ∧ SI w' B1 n1 ia ∧ SI w' B2 (n2 * 3) sb ∧ Below w.heap.size w w' := by
  obtain ⟨W, hW⟩ : ∃ W, W = ((w.alloc (.cells #[.slice A1 n1 c1, .slice A2 n2 c2] 49)).alloc (.cells #[.slice none 0 0, .slice none 0 0] 44)).alloc (.cells #[.slice none 0 0, .slice none 0 0] 44) := ⟨_, rfl⟩
  have hB : Below w.heap.size w W := by rw [hW]; exact (((Below.refl _ _).alloc (Nat.le_refl _) _).alloc (by simp) _).alloc (by simp; omega) _
  have hz : W.heap.size = w.heap.size + 3 := by rw [hW]; simp
  have T0 : FB2 W w.heap.size (fun i => if i = 0 then .slice A1 n1 c1 else .slice A2 n2 c2) (fun _ => .slice none 0 0) := by
    refine ⟨by omega, fun i hi => ?_, fun i hi => ?_, fun i hi => ?_, fun i hi => ?_, fun i hi => ?_⟩
    · rw [hW, World.cell?_alloc_past _ _ _ (by simp; omega), World.cell?_alloc_past _ _ _ (by simp), World.cell?_alloc_at _ _ _ _ rfl]
      rcases (show i = 0 ∨ i = 1 by omega) with rfl | rfl <;> rfl
    · refine ⟨.slice none 0 0, ?_⟩
      rw [hW, World.cell?_alloc_past _ _ _ (by simp), World.cell?_alloc_at _ _ _ _ (by simp)]
      rcases (show i = 0 ∨ i = 1 by omega) with rfl | rfl <;> rfl
    · rw [hW, World.cell?_alloc_at _ _ _ _ (by simp)]
      rcases (show i = 0 ∨ i = 1 by omega) with rfl | rfl <;> rfl
    · rw [hW]; go_simp
    · rw [hW]; go_simp
  have HA1 := Lib.hid (fun w' (hb : Below w.heap.size w w') => toIntS_any A1 n1 c1 ia w' h1 (ha1.below hb (Nat.le_refl _)))
  have HA2 := Lib.hid (fun w' (hb : Below w.heap.size w w') => toStopS_any A2 n2 c2 sb w' h2 (ha2.below hb (Nat.le_refl _)))
  have HB := Lib.hid hB
  have HT0 := Lib.hid T0
  have HZ := Lib.hid hz
  have HC1 := Lib.hid (HA1.out W hB)
  clear ha1 ha2 hB T0 hz
  go_enter Try.func35, Try.ntmps35
  go_wp2_with fail
  rw [← hW]
  clear hW
  refine HC1.out.mono ?_
  rintro e v1 ⟨B1, e1, rfl, hN1, hb1⟩
  have T1 := HT0.out.call hb1
  have T1' := Lib.hid (T1.put (k := 0) (by omega) (.slice B1 n1 e1))
  have HN1 := Lib.hid (hN1.low (R := w.heap.size + 1 + 1) (i := 0) (v := .slice B1 n1 e1) (by have := HZ.out; omega))
  have HB1 := Lib.hid (show Below w.heap.size w (v1.setCell ⟨w.heap.size + 1 + 1, 0, none⟩ (.slice B1 n1 e1)) from (bstep HB.out hb1).setCell (by show w.heap.size ≤ w.heap.size + 1 + 1; omega) _)
  have y0 := T1.own 0 (by omega)
  have f0 := T1.fz2 0 (by omega)
  have x1 : (v1.setCell ⟨w.heap.size + 1 + 1, 0, none⟩ (.slice B1 n1 e1)).cell? ⟨w.heap.size, 1, none⟩ = some (.slice A2 n2 c2) := T1'.out.arg 1 (by omega)
  have HC2 := Lib.hid (HA2.out _ HB1.out)
  have HLo1 := Lib.hid (show W.heap.size ≤ (v1.setCell ⟨w.heap.size + 1 + 1, 0, none⟩ (.slice B1 n1 e1)).heap.size by simpa using hb1.size)
  clear T1 hN1 hb1 HC1 HA1
  go_wp2_with fail
  generalize v1.setCell ⟨w.heap.size + 1 + 1, 0, none⟩ (.slice B1 n1 e1) = V1 at *
  refine HC2.out.mono ?_
  rintro e v2 ⟨B2, e2, rfl, hc2', hN2, hb2⟩
  have T2 := T1'.out.call hb2
  have T2' := T2.put (k := 1) (by omega) (.slice B2 n2 e2)
  have HN2 := (hN2.mono HLo1.out).low (R := w.heap.size + 1 + 1) (i := 1) (v := .slice B2 n2 e2) (by have := HZ.out; omega)
  have HN1b := (HN1.out.below hb2 (Nat.le_refl _)).low (R := w.heap.size + 1 + 1) (i := 1) (v := .slice B2 n2 e2) (by have := HZ.out; omega)
  have HB2 := (show Below w.heap.size w (v2.setCell ⟨w.heap.size + 1 + 1, 1, none⟩ (.slice B2 n2 e2)) from (bstep HB1.out hb2).setCell (by show w.heap.size ≤ w.heap.size + 1 + 1; omega) _)
  have y1 := T2.own 1 (by omega)
  have f1 := T2.fz2 1 (by omega)
  obtain ⟨V3, hV3⟩ : ∃ V3, V3 = v2.setCell ⟨w.heap.size + 1 + 1, 1, none⟩ (.slice B2 n2 e2) := ⟨_, rfl⟩
  rw [← hV3] at T2' HN2 HN1b HB2
  have HB3' := Lib.hid HB2
  have HN2' := Lib.hid HN2
  have HN1' := Lib.hid HN1b
  have o0 : V3.cell? ⟨w.heap.size + 1 + 1, 0, none⟩ = some (.slice B1 n1 e1) := T2'.own 0 (by omega)
  have o1 : V3.cell? ⟨w.heap.size + 1 + 1, 1, none⟩ = some (.slice B2 n2 e2) := T2'.own 1 (by omega)
  obtain ⟨r0, hr0⟩ := T2'.res 0 (by omega)
  obtain ⟨r1, hr1⟩ := T2'.res 1 (by omega)
  have g0 := T2'.fz1 0 (by omega)
  have g1 := T2'.fz1 1 (by omega)
  clear T2 T2' hN2 hb2 HC2 HA2 x1 y0 f0 T1' HN1 HB2 HN2 HN1b
  rw [hV3] at o0 o1 hr0 hr1 g0 g1
  go_wp2_with fail
  refine bodyPost_ret (v := .agg #[.slice B1 n1 e1, .slice B2 n2 e2]) ?_ rfl ⟨B1, e1, B2, e2, rfl, ?_, ?_, ?_⟩
  · have hres : Try.f35.results = #[.cell 2 44] := by kernel_rfl
    simp only [results, hres]
    go_simp
  · rw [← hV3]
    exact ((HN1'.out.low (by have := HZ.out; omega)).low (by have := HZ.out; omega)).si
  · rw [← hV3]
    exact ((HN2'.out.low (by have := HZ.out; omega)).low (by have := HZ.out; omega)).si
  · rw [← hV3]
    exact (HB3'.out.setCell (by show w.heap.size ≤ w.heap.size + 1; omega) _).setCell (by show w.heap.size ≤ w.heap.size + 1; omega) _

set_option maxHeartbeats 800000 in
theorem eqRun_true (A1 : Option Addr) (n1 c1 : Nat) (A2 : Option Addr) (n2 c2 : Nat) (B1 : Option Addr) (d1 : Nat) (B2 : Option Addr) (d2 : Nat) (ia sb : List Int) (w : World) (h1 : n1 ≤ 2000000) (h2 : n2 ≤ 2000000) (ha1 : SI w A1 n1 ia) (ha2 : SI w A2 (n2 * 3) sb) (hb1 : SI w B1 n1 ia) (hb2 : SI w B2 (n2 * 3) sb) :
    Calls Try.prog 36 #[.agg #[.slice A1 n1 c1, .slice A2 n2 c2], .agg #[.slice B1 n1 d1, .slice B2 n2 d2]] w fun e w' => e = .returned (.bool true) ∧ Below w.heap.size w w' := by
  obtain ⟨W, hW⟩ : ∃ W, W = (w.alloc (.cells #[.slice A1 n1 c1, .slice A2 n2 c2] 44)).alloc (.cells #[.slice B1 n1 d1, .slice B2 n2 d2] 44) := ⟨_, rfl⟩
  have hB : Below w.heap.size w W := by rw [hW]; exact ((Below.refl _ _).alloc (Nat.le_refl _) _).alloc (by simp) _
  have hz : W.heap.size = w.heap.size + 2 := by rw [hW]; simp
  have p0 : W.cell? ⟨w.heap.size, 0, none⟩ = some (.slice A1 n1 c1) := by rw [hW]; simp [World.cell?_alloc_at, World.cell?_alloc_past]
  have p1 : W.cell? ⟨w.heap.size, 1, none⟩ = some (.slice A2 n2 c2) := by rw [hW]; simp [World.cell?_alloc_at, World.cell?_alloc_past]
  have q0 : W.cell? ⟨w.heap.size + 1, 0, none⟩ = some (.slice B1 n1 d1) := by rw [hW]; simp [World.cell?_alloc_at, World.cell?_alloc_past]
  have q1 : W.cell? ⟨w.heap.size + 1, 1, none⟩ = some (.slice B2 n2 d2) := by rw [hW]; simp [World.cell?_alloc_at, World.cell?_alloc_past]
  have C1 := Lib.hid (eqIntS_true A1 B1 n1 c1 d1 ia W (by omega) (ha1.below hB (Nat.le_refl _)) (hb1.below hB (Nat.le_refl _)))
  have C2 := Lib.hid (fun w' (hb : Below W.heap.size W w') => eqStopS_true A2 B2 n2 c2 d2 sb w' (by omega) ((ha2.below hB (Nat.le_refl _)).below hb (Nat.le_refl _)) ((hb2.below hB (Nat.le_refl _)).below hb (Nat.le_refl _)))
  have HB := Lib.hid hB
  clear ha1 ha2 hb1 hb2 hB
  go_enter Try.func36, Try.ntmps36
  go_wp2_with fail
  rw [← hW]
  clear hW
  refine C1.out.mono ?_
  rintro e w1 ⟨rfl, m1, rfl⟩
  have B1' := Lib.hid (bDrewN (Below.refl W.heap.size W) m1)
  have C2' := Lib.hid (C2.out _ B1'.out)
  clear C1 C2
  go_wp2_with fail
  refine C2'.out.mono ?_
  rintro e w2 ⟨rfl, b2⟩
  have B2' := Lib.hid (HB.out.trans ((bstep B1'.out b2).mono HB.out.size))
  clear b2
  go_wp2_with fail
  go_ret
  exact ⟨rfl, B2'.out⟩

set_option maxHeartbeats 800000 in
theorem szRun_any (A1 : Option Addr) (n1 c1 : Nat) (A2 : Option Addr) (n2 c2 : Nat) (w : World) (h1 : n1 ≤ 9223372036854775807) (h2 : n2 ≤ 9223372036854775807) :
    Calls Try.prog 34 #[.agg #[.slice A1 n1 c1, .slice A2 n2 c2], .int .i64 1048576] w fun e w' => ∃ z : Int, e = .returned (.int .i64 z) ∧ Below w.heap.size w w' ∧ (0 ≤ z → n1 ≤ 2000000 ∧ n2 ≤ 2000000) := by
  have C1 := Lib.hid (fun w' => szIntS_any A1 n1 c1 1048576 w' (by omega) (by omega) h1)
  have C2 := Lib.hid (fun (l : Int) w' (h0 : 0 ≤ l) (hl : l ≤ 1048576) => szStopS_any A2 n2 c2 l w' h0 hl h2)
  have hB := Lib.hid (show Below w.heap.size w (w.alloc (.cells #[.slice A1 n1 c1, .slice A2 n2 c2] 49)) from (Below.refl _ _).alloc (Nat.le_refl _) _)
  by_cases hb : (1048576 : Int) < n1
  · rw [if_pos hb] at C1
    clear hb C2
    go_enter Try.func34, Try.ntmps34
    go_wp2_with fail
    refine (C1.out _).mono ?_
    rintro e w1 ⟨rfl, rfl⟩
    go_wp2_with fail
    go_ret
    exact ⟨-1, rfl, hB.out, fun h => absurd h (by omega)⟩
  · rw [if_neg hb] at C1
    have C2' := Lib.hid (fun w' => C2.out (1048576 - (n1 : Int)) w' (by omega) (by omega))
    have hneg : ¬ (1048576 - (n1 : Int) < 0) := by omega
    by_cases hb2 : 1048576 - (n1 : Int) < n2
    · rw [if_pos hb2] at C2'
      clear hb2 C2
      go_enter Try.func34, Try.ntmps34
      go_wp2_with fail
      refine (C1.out _).mono ?_
      rintro e w1 ⟨rfl, rfl⟩
      go_wp2_with fail
      refine (C2'.out _).mono ?_
      rintro e w1 ⟨rfl, rfl⟩
      go_wp2_with fail
      go_ret
      exact ⟨-1, rfl, hB.out, fun h => absurd h (by omega)⟩
    · rw [if_neg hb2] at C2'
      have hneg2 : ¬ (1048576 - (n1 : Int) - (n2 : Int) < 0) := by omega
      have HN : n1 ≤ 2000000 ∧ n2 ≤ 2000000 := by omega
      have HNN := Lib.hid HN
      clear C2 HN
      go_enter Try.func34, Try.ntmps34
      go_wp2_with fail
      refine (C1.out _).mono ?_
      rintro e w1 ⟨rfl, rfl⟩
      go_wp2_with fail
      refine (C2'.out _).mono ?_
      rintro e w1 ⟨rfl, rfl⟩
      go_wp2_with fail
      go_ret
      exact ⟨_, rfl, hB.out, fun _ => HNN.out⟩

end Go.Proofs.Ytblaaeanbhgokaa
