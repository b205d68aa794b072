/-
  DV2. By a program (wip/tools/mk.py) out of snippets.
-/
import Derived.Test.YtfjpnennbdefiaaDV
import Derived.Test.YtfjpnennbdefiaaLet2
import Derived.Deep.RegionHeld3
import Derived.Deep.DeepCutAuto
import Derived.Deep.CutBlock
namespace Go.Proofs.Ytfjpnennbdefiaa
open Go.RowKit

theorem OV.offG {w w' : World} {B : Nat} {A : Option Addr} {a c : Nat} {vs : List Value} {rows : List (List Int)} (h : OV w B A a c vs rows) {g : Nat} (hg : w.grownBy w' (some g)) (hA : (Value.slice A a c).ownBlock ≠ some g) (hvs : ∀ i, i < rows.length → blk (vat vs i) ≠ some g) : OV w' B A a c vs rows :=
  ⟨h.own.kept hg (.inr hA), (h.rf.same fun b _ h2 h3 => by
    obtain ⟨i, hi, e⟩ := h3
    exact hg.block b h2 (fun e' => hvs i hi (by rw [e, e']))).top hg.size, h.ob, Nat.le_trans h.le hg.size, h.len⟩
theorem GW.offG {w : World} {R N v : Nat} {P : Int} {wr : World} {A : Option Addr} {a c : Nat} {vs : List Value} {rows : List (List Int)} (h : GW w R N v P wr A a c vs rows) {w2 : World} {g : Nat} (hg : wr.grownBy w2 (some g)) (hgv : v < g) (hgs : g < wr.heap.size) (hA : (Value.slice A a c).ownBlock ≠ some g) (hvs : ∀ i, i < rows.length → blk (vat vs i) ≠ some g) : GW w R N v P w2 A a c vs rows := by
  have hlt := h.lt
  have hrs := h.rs
  have hsv := h.sv
  have hB : Below (v + 1) wr w2 := gby_belowB hg (by omega) hgs
  exact ⟨h.ov.offG hg hA hvs, (hB.cell (p := ⟨v, 0, none⟩) (by show v < v + 1; omega)).trans h.c0, (hB.cell (p := ⟨v, 1, none⟩) (by show v < v + 1; omega)).trans h.c1, (hB.frozen (p := ⟨v, 0, none⟩) (by show v < v + 1; omega)).trans h.f0, (hB.frozen (p := ⟨v, 1, none⟩) (by show v < v + 1; omega)).trans h.f1, (hB.cell (p := ⟨w.heap.size, 0, none⟩) (by show w.heap.size < v + 1; omega)).trans h.d0, (hB.cell (p := ⟨w.heap.size, 1, none⟩) (by show w.heap.size < v + 1; omega)).trans h.d1, (hB.frozen (p := ⟨w.heap.size, 0, none⟩) (by show w.heap.size < v + 1; omega)).trans h.g0, (hB.frozen (p := ⟨w.heap.size, 1, none⟩) (by show w.heap.size < v + 1; omega)).trans h.g1, h.rd.below hB (by omega), hrs, hsv, h.bel.trans (hB.mono (by omega))⟩
theorem GW.low {w : World} {R N v : Nat} {P : Int} {wr : World} {A : Option Addr} {a c : Nat} {vs : List Value} {rows : List (List Int)} (h : GW w R N v P wr A a c vs rows) : (∀ i, i < rows.length → ∀ b, blk (vat vs i) = some b → b < wr.heap.size) ∧ ∀ b, (Value.slice A a c).ownBlock = some b → b < wr.heap.size :=
  ⟨fun i hi b e => by
    obtain ⟨b', e', _, h2⟩ := (h.ov.rf.ok i hi).blk
    rw [e'] at e; cases e; exact h2, fun b e => (World.ownsRow.lt h.ov.own b e).2⟩
theorem GW.start {w : World} {R N : Nat} {P : Int} {w1 : World} {t t2 : TypeId} (hR : R < w.heap.size) (hr : Rd w1 R N) (hg : (w.alloc (.cells #[.int .i64 0, .slice none 0 0] t)).grownBy w1 (some R)) : GW w R N w1.heap.size P (w1.alloc (.cells #[.int .i64 P, .slice none 0 0] t2)) none 0 0 [] [] := by
  have hsz : w.heap.size + 1 ≤ w1.heap.size := by have := hg.size; simpa using this
  have hs : w1.heap[w.heap.size]? = (w.alloc (.cells #[.int .i64 0, .slice none 0 0] t)).heap[w.heap.size]? := hg.block _ (by simp) (by simp; omega)
  have hb : Below w1.heap.size w1 (w1.alloc (.cells #[.int .i64 P, .slice none 0 0] t2)) := (Below.refl _ _).alloc (Nat.le_refl _) _
  refine ⟨OV.nil _ _ (by simp), by simp, by simp, by go_simp, by go_simp, ?_, ?_, ?_, ?_, hr.alloc _, hR, by omega, ?_⟩
  · exact (hb.cell (p := ⟨w.heap.size, 0, none⟩) (by show w.heap.size < _; omega)).trans ((World.cell?_of_block (a := ⟨w.heap.size, 0, none⟩) hs).trans (by simp))
  · exact (hb.cell (p := ⟨w.heap.size, 1, none⟩) (by show w.heap.size < _; omega)).trans ((World.cell?_of_block (a := ⟨w.heap.size, 1, none⟩) hs).trans (by simp))
  · exact (hb.frozen (p := ⟨w.heap.size, 0, none⟩) (by show w.heap.size < _; omega)).trans ((World.frozen?_of_block (a := ⟨w.heap.size, 0, none⟩) hs).trans (by go_simp))
  · exact (hb.frozen (p := ⟨w.heap.size, 1, none⟩) (by show w.heap.size < _; omega)).trans ((World.frozen?_of_block (a := ⟨w.heap.size, 1, none⟩) hs).trans (by go_simp))
  · exact (((Below.refl R w).alloc (by omega) _).trans (gby_belowB hg (Nat.le_refl _) (by simp; omega))).trans (hb.mono (by omega))

theorem fin2 {w W : World} {R M v s : Nat} {A : Option Addr} {k : Nat} {rows : List (List Int)} (hS : SN W (v + 1) A k rows) (hr : Rd W R M) (hb : Below R w W) (hRs : R < s) (hsv : s < v) (x y : Value) :
    SN ((W.setCell ⟨s, 0, none⟩ x).setCell ⟨s, 1, none⟩ y) (R + 1) A k rows ∧ Rd ((W.setCell ⟨s, 0, none⟩ x).setCell ⟨s, 1, none⟩ y) R M ∧ Below R w ((W.setCell ⟨s, 0, none⟩ x).setCell ⟨s, 1, none⟩ y) :=
  ⟨((hS.setLow (by omega)).setLow (by omega)).mono (by omega), hr.below (((Below.refl s W).setCell (p := ⟨s, 0, none⟩) (Nat.le_refl _) _).setCell (p := ⟨s, 1, none⟩) (Nat.le_refl _) _) hRs, (hb.setCell (p := ⟨s, 0, none⟩) (by show R ≤ s; omega) _).setCell (p := ⟨s, 1, none⟩) (by show R ≤ s; omega) _⟩

def SvPost (w : World) (R N : Nat) (e : Ending) (w' : World) : Prop :=
  ∃ (P : Int) (A : Option Addr) (k c : Nat) (rows : List (List Int)), e = .returned (.agg #[.int .i64 P, .slice A k c]) ∧ SN w' (R + 1) A k rows ∧ k ≤ 4 ∧ (∀ i, i < k → (rat rows i).length ≤ 2000000) ∧ 0 ≤ P ∧ P ≤ 17 ∧ Rd w' R (N + 1000) ∧ Below R w w'

set_option maxRecDepth 20000 in
set_option maxHeartbeats 6400000 in
theorem someView_any (R N : Nat) (w : World) (hN : N ≤ 1000) (h : Rd w R N) :
    Calls Try.prog 16 #[.pointer (some ⟨R, 0, none⟩)] w (SvPost w R N) := by
  have hR := h.1
  obtain ⟨W0, hW0⟩ : ∃ W, W = w.alloc (.cells #[.int .i64 0, .slice none 0 0] 25) := ⟨_, rfl⟩
  have hR0 : Rd W0 R N := by rw [hW0]; exact h.alloc _
  have hz0 := Lib.hid (show w.heap.size + 1 = W0.heap.size by rw [hW0]; simp)
  go_enter Try.func16, Try.ntmps16
  go_wp2_with fail
  rw [← hW0]
  refine (one_lit R N (w.heap.size + 1) W0 3 [4, 6, 8, 3, 2, 1, 12] 7 hz0.out rfl (by omega) (by omega) (by omega) hR0).mono ?_
  rintro e w1 ⟨z, rfl, hz, hR1, hg1, hb1⟩
  rw [hW0] at hg1
  obtain ⟨p, rfl, hp1, hp2⟩ : ∃ p : Nat, z = p ∧ 1 ≤ p ∧ p ≤ 12 := ⟨z.toNat, by simp at hz; omega, by simp at hz; omega, by simp at hz; omega⟩
  have G0 := GW.start (P := (p : Int)) (t2 := 25) hR hR1 hg1
  clear hz hg1 hb1 hR1 hz0 hR0 hW0 h
  go_wp2_with fail
  obtain ⟨v, hv⟩ : ∃ v, v = w1.heap.size := ⟨_, rfl⟩
  obtain ⟨w2, hw2⟩ : ∃ x, x = w1.alloc (.cells #[.int .i64 p, .slice none 0 0] 25) := ⟨_, rfl⟩
  rw [← hv, ← hw2] at G0
  rw [← hw2, ← hv]
  clear hw2 hv
  refine (pick_b R (N + 1) 6 w2 (by omega) (by omega) G0.rd).mono ?_
  rintro e w3 ⟨r, rfl, hr0, hr1, _, hR3, hg3, hb3⟩
  have G1 := Lib.hid (G0.gby hg3 hR3)
  clear G0 hg3 hb3 hR3
  go_upto_block 0 with (fail)
  go_cut [] from 4 to 57 (fun wx => ∃ (P : Int) (A : Option Addr) (k c M : Nat) (rows : List (List Int)), M ≤ N + 200 ∧ VX w R M v P wx A k c rows)
  case first =>
    by_cases hr : r = 0
    · subst hr
      have hs3 := G1.out.rd
      go_wp2_with fail
      refine (pick_b R (N + 2) 3 w3 (by omega) (by omega) hs3).mono ?_
      rintro e w4 ⟨q, rfl, hq0, hq1, _, hR4, hg4, hb4⟩
      have G2 := Lib.hid (G1.out.gby hg4 hR4)
      obtain ⟨q, rfl⟩ := Int.eq_ofNat_of_zero_le hq0
      have hq2 : q ≤ 2 := by have := hq1 (by omega); omega
      have HM := Lib.hid (fun w => (show Calls Try.prog 31 #[.int .i64 (1 + (q : Int))] w _ from by have := specmuddy_any (q + 1) w (by omega) (by omega); rwa [show ((q + 1 : Nat) : Int) = 1 + (q : Int) by omega] at this))
      clear hs3 hq1 hR4 hg4 hb4 G1
      go_wp2_with fail
      refine (HM.out _).mono ?_
      rintro e w5 ⟨A, c, rfl, hF, hB⟩
      have hp : 2 ^ (q + 1) ≤ 16 := Nat.pow_le_pow_right (n := 2) (by omega) (by omega : q + 1 ≤ 4)
      have hp0 := Nat.two_pow_pos (q + 1)
      have X := Lib.hid (G2.out.store hB hF (by omega) (by omega) (c := c) (Q := ((2 ^ (q + 1) : Nat) : Int)) (by omega) (by omega) (fun i hi => by
        rw [show rat ((List.range (q + 1)).map (muRow (q + 1))) i = muRow (q + 1) i by simp [rat, List.getD_eq_getElem?_getD, hi]]
        simp only [muRow, List.length_map, List.length_range]
        omega))
      have k0 := (hB.cell (p := ⟨v, 0, none⟩) G2.out.lt).trans G2.out.c0
      have k1 := (hB.cell (p := ⟨v, 1, none⟩) G2.out.lt).trans G2.out.c1
      have m0 := (hB.frozen (p := ⟨v, 0, none⟩) G2.out.lt).trans G2.out.f0
      have m1 := (hB.frozen (p := ⟨v, 1, none⟩) G2.out.lt).trans G2.out.f1
      clear hF hB G2 HM
      generalize 2 ^ (q + 1) = P at *
      go_wp2_with fail
      go_meet
      exact ⟨_, A, _, c, _, _, by omega, X.out⟩
    · have e0 : (r == 0) = false := by simpa using hr
      by_cases hr1' : r = 1
      · subst hr1'
        have hs3 := G1.out.rd
        clear e0 hr
        go_wp2_with fail
        refine (pick_b R (N + 2) 9 w3 (by omega) (by omega) hs3).mono ?_
        rintro e w4 ⟨q, rfl, hq0, hq1, _, hR4, hg4, hb4⟩
        have G2 := Lib.hid (G1.out.gby hg4 hR4)
        obtain ⟨q, rfl⟩ := Int.eq_ofNat_of_zero_le hq0
        have hq2 : q ≤ 8 := by have := hq1 (by omega); omega
        have HM := Lib.hid (fun w => (show Calls Try.prog 42 #[.int .i64 (1 + (q : Int))] w _ from by have := speclettersOf_any (q + 1) w (by omega); rwa [show ((q + 1 : Nat) : Int) = 1 + (q : Int) by omega] at this))
        clear hs3 hq1 hR4 hg4 hb4 G1
        go_wp2_with fail
        refine (HM.out _).mono ?_
        rintro e w5 ⟨A, c, rfl, hF, hB⟩
        have X := Lib.hid (G2.out.store hB hF (by omega) (by omega) (c := c) (Q := 1 + (q : Int) + 1) (by omega) (by omega) (fun i hi => by
          rcases (by omega : i = 0 ∨ i = 1) with rfl | rfl
          · show 1 ≤ (lx (q + 1 + 1)).length ∧ (lx (q + 1 + 1)).length ≤ 16
            rw [lx_length]; omega
          · show 1 ≤ (ly (q + 1 + 1)).length ∧ (ly (q + 1 + 1)).length ≤ 16
            rw [ly_length]; omega))
        have k0 := (hB.cell (p := ⟨v, 0, none⟩) G2.out.lt).trans G2.out.c0
        have k1 := (hB.cell (p := ⟨v, 1, none⟩) G2.out.lt).trans G2.out.c1
        have m0 := (hB.frozen (p := ⟨v, 0, none⟩) G2.out.lt).trans G2.out.f0
        have m1 := (hB.frozen (p := ⟨v, 1, none⟩) G2.out.lt).trans G2.out.f1
        clear hF hB G2 HM
        go_wp2_with fail
        go_meet
        exact ⟨_, A, _, c, _, _, by omega, X.out⟩
      · have e1 : (r == 1) = false := by simpa using hr1'
        have hs3 := G1.out.rd
        clear hr hr1' hr0 hr1
        go_wp2_with fail
        refine (one_lit R (N + 2) _ w3 3 [2, 3, 1, 4] 4 rfl rfl (by omega) (by omega) (by omega) hs3).mono ?_
        rintro e w4 ⟨z, rfl, hz, hR4, hg4, hb4⟩
        obtain ⟨n, rfl, hn1, hn2⟩ : ∃ n : Nat, z = n ∧ 1 ≤ n ∧ n ≤ 4 := ⟨z.toNat, by simp at hz; omega, by simp at hz; omega, by simp at hz; omega⟩
        have G2 := Lib.hid (G1.out.gby hg4 hR4)
        clear hs3 hz hR4 hg4 hb4 G1 e0 e1
        go_wp2_with fail
        go_loopg [5] n (fun gg s5 wr => ∃ (a c M : Nat) (A : Option Addr) (vs : List Value) (rows : List (List Int)), a ≤ n ∧ n - a ≤ gg ∧ M ≤ N + 3 + a * 20 ∧ GW w R M v p wr A a c vs rows ∧ Aside (∀ i, i < a → (rat rows i).length = p))
        case atStart => exact ⟨0, 0, N + 3, none, [], [], by omega, by omega, by omega, G2.out, fun i hi => absurd hi (by omega)⟩
        case round =>
          clear G2
          obtain ⟨a, c, M, A, vs, rows, ha, hg, hM, hG, A0⟩ := hrel
          have G3 := Lib.hid hG
          have k0 := hG.c0
          have k1 := hG.c1
          have hvlt := hG.lt
          clear hG
          by_cases hlt : a < n
          · obtain ⟨wo, rfl⟩ : ∃ x, x = wr := ⟨_, rfl⟩
            obtain ⟨hlow, hA⟩ := G3.out.low
            have HLow := Lib.hid hlow
            have HAo := Lib.hid hA
            have hsv := G3.out.sv
            have o0 := own_empty wo wo.heap.size (Nat.le_refl _)
            have G4 := Lib.hid (G3.out.gby (w2 := wo.alloc (.cells #[] 3)) (gby_below ((Below.refl wo.heap.size wo).alloc (Nat.le_refl _) _) (Nat.le_refl _)) (G3.out.rd.alloc _))
            clear hlow hA
            go_wp2_with fail
            refine (pick_b R M p _ (by omega) (by omega) G4.out.rd).mono ?_
            rintro e w5 ⟨q, rfl, hq0, hq1, _, hR5, hg5, hb5⟩
            obtain ⟨q, rfl⟩ := Int.eq_ofNat_of_zero_le hq0
            have hq2 : q ≤ 12 := by have := hq1 (by omega); omega
            have G5 := Lib.hid (G4.out.gby hg5 hR5)
            have o5 := Lib.hid (own_off o0 hg5 (by omega))
            have hz5 : wo.heap.size ≤ w5.heap.size := by have := hg5.size; simp at this; omega
            clear o0 hq1 hR5 hg5 hb5 G4 k0 k1 hq0
            go_wp2_with fail
            go_loopg [5, 7] p (fun g2 s5 s7 w6 => ∃ (j g cc M2 : Nat) (zs : List Int), j ≤ p ∧ p - j ≤ g2 ∧ s7 = .int .i64 j ∧ s5 = .slice (some ⟨g, 0, none⟩) j cc ∧ M2 ≤ M + 1 + j ∧ GW w R M2 v p w6 A a c vs rows ∧ w6.ownsRow wo.heap.size 3 1 (.slice (some ⟨g, 0, none⟩) j cc) j (zs.map (Value.int .i64)) ∧ wo.heap.size ≤ w6.heap.size)
            case atStart => exact ⟨0, wo.heap.size, 0, M + 1, [], by omega, by omega, rfl, rfl, by omega, G5.out, o5.out, hz5⟩
            case round =>
              clear G5 o5 hz5
              obtain ⟨j, g, cc, M2, zs, hj, hg2, rfl, rfl, hM2, hG6, hown, hsz⟩ := hrel
              have G6 := Lib.hid hG6
              have HOwn := Lib.hid hown
              have k0 := hG6.c0
              have k1 := hG6.c1
              obtain ⟨hgl, hgs⟩ := World.ownsRow.lt hown g rfl
              clear hG6
              by_cases hjl : j < p
              · clear hown
                go_wp2_with fail
                refine (pick_b R M2 (1 + (q : Int)) wr (by omega) (by omega) G6.out.rd).mono ?_
                rintro e w7 ⟨x, rfl, hx0, hx1, _, hR7, hg7, hb7⟩
                have G7 := Lib.hid (G6.out.gby hg7 hR7)
                have O7 := Lib.hid (own_off HOwn.out hg7 (by omega))
                have hs7 := hg7.size
                clear hR7 hg7 hb7 hx0 hx1
                go_wp2_with (at_builtin; refine appL w7 wo.heap.size _ _ _ zs x rfl _ _ rfl rfl O7.out rfl (by omega) (by omega) ?_; intro g3 c3 w8 ho8 hb8 hg8 hl8)
                have hg78 : w7.grownBy w8 (some g) := gby_trans (gby_below ((Below.refl w7.heap.size w7).alloc (Nat.le_refl _) _) (Nat.le_refl _)) hg8
                have G8 := Lib.hid (G7.out.offG hg78 (by omega) (by omega) (fun e => by have := HAo.out g e; omega) (fun i hi e => by have := HLow.out i hi g e; omega))
                have hs8 := hb8.size
                go_roundg (p - (j + 1))
                case measure => omega
                case rel => exact ⟨j + 1, g3, c3, M2 + 1, zs ++ [x], by omega, by omega, by go_num, rfl, by omega, G8.out, ho8, by omega⟩
              · obtain rfl : j = p := by omega
                have HV := Lib.hid (RowOk.of_own hown)
                have hzl : zs.length = j := by have := hown.1; simpa using this
                have HZL := Lib.hid hzl
                have hrl := Lib.hid G6.out.ov.len
                have HP := Lib.hid (fun g' c' w3 h1 h2 h3 => G6.out.push (H := wo.heap.size) hvlt hsz HLow.out HAo.out HV.out (w3 := w3) (g := g') (c' := c') (t := 41) h1 h2 h3)
                clear hown hzl
                go_wp2_with (at_builtin; refine appV wr (v + 1) A a c vs (some ⟨g, 0, none⟩) j cc rfl _ _ rfl rfl G6.out.ov.own rfl (by omega) (by omega) ?_; intro g3 c3 w9 ho9 hg9 hl9; obtain ⟨hM9, hf9, u9, hv9⟩ := HP.out g3 c3 w9 ho9 hg9 hl9; have G9 := Lib.hid hM9; clear hM9 ho9 hg9 hl9)
                go_roundg (n - (a + 1))
                case measure => omega
                case rel =>
                  refine ⟨a + 1, c3, M2, _, _, _, by omega, by omega, by omega, G9.out, (show Aside _ from fun i hi => ?_)⟩
                  by_cases e : i < a
                  · rw [rat_lt (by rw [hrl.out]; exact e)]
                    exact A0.out i e
                  · obtain rfl : i = rows.length := by rw [hrl.out]; omega
                    rw [rat_last]
                    exact HZL.out
          · obtain rfl : a = n := by omega
            have X := Lib.hid (G3.out.vx hn1 (by omega) (by omega) (by omega) (fun i hi => by rw [A0.out i hi]; omega))
            clear G3
            go_wp2_with fail
            go_meet
            exact ⟨_, A, _, c, _, _, by omega, X.out⟩
  case rest =>
    clear G1 hr0 hr1
    obtain ⟨P, A, k, c, M, rows, hM, hX⟩ := hcut
    have X := Lib.hid hX
    clear hX
    go_wp2_with fail
    refine (pick_b R M 30 wc (by omega) (by omega) X.out.rd).mono ?_
    rintro e w4 ⟨r2, rfl, hr0, hr1, _, hR4, hg4, hb4⟩
    have X4 := Lib.hid (X.out.gby hg4 hR4)
    clear hR4 hg4 hb4 X hr0 hr1
    have hres := Lib.hid (show Try.f16.results = #[.cell 2 25] by kernel_rfl)
    have k0 := X4.out.c0
    have k1 := X4.out.c1
    have m0 := X4.out.f0
    have m1 := X4.out.f1
    have l0 := X4.out.d0
    have l1 := X4.out.d1
    have n0 := X4.out.g0
    have n1 := X4.out.g1
    have hsv := X4.out.sv
    have hvl := X4.out.vlt
    have hk1 := X4.out.k1
    have hk2 := X4.out.k2
    have hp0 := X4.out.p0
    have hp1 := X4.out.p1
    have hne : ¬ (w.heap.size = v) := by omega
    have hne2 : ¬ (v = w.heap.size) := by omega
    have HL := Lib.hid X4.out.len
    by_cases hr : r2 = 0
    · subst hr
      go_wp2_with fail
      refine (one_lit R (M + 1) _ w4 3 [0, 17, 5] 3 rfl rfl (by omega) (by omega) (by omega) X4.out.rd).mono ?_
      rintro e w5 ⟨z, rfl, hz, hR5, hg5, hb5⟩
      have X5 := Lib.hid (X4.out.gby hg5 hR5)
      have hz2 : 0 ≤ z ∧ z ≤ 17 := by simp at hz; omega
      clear hz hR5 hg5 hb5 k0 k1 m0 m1 l0 l1 n0 n1 X4
      have k0 := X5.out.c0
      have k1 := X5.out.c1
      have m0 := X5.out.f0
      have m1 := X5.out.f1
      have l0 := X5.out.d0
      have l1 := X5.out.d1
      have n0 := X5.out.g0
      have n1 := X5.out.g1
      go_wp2_with fail
      refine bodyPost_ret (v := .agg #[.int .i64 z, .slice A k c]) ?_ rfl (show SvPost w R N _ _ from ⟨z, A, k, c, rows, rfl, ?_⟩)
      · simp only [results, hres.out]
        go_simp
      · obtain ⟨f1, f2, f3⟩ := fin2 (s := w.heap.size) (X5.out.fr.sn.setLow (R := v) (i := 0) (v := .int .i64 z) (by omega)) (X5.out.rd.below ((Below.refl v w5).setCell (p := ⟨v, 0, none⟩) (Nat.le_refl _) _) (by have := X5.out.rs; omega)) (X5.out.bel.setCell (p := ⟨v, 0, none⟩) (by have := X5.out.rs; show R ≤ v; omega) (.int .i64 z)) X5.out.rs hsv (.int .i64 z) (.slice A k c)
        exact ⟨f1, hk2, fun i hi => by have := HL.out i hi; omega, hz2.1, hz2.2, f2.mono (by omega), f3⟩
    · have e0 : (r2 == 0) = false := by simpa using hr
      by_cases hr1 : r2 = 1
      · subst hr1
        clear e0 hr
        obtain ⟨b, b0, c0, hAe, hb00, hlb, hlb0, hbh, hb0h, hbb, ⟨y, hy⟩, hfz, hSN⟩ := X4.out.fr.put00 (R := R) (by have := X4.out.rs; omega) (by omega) (by have := (HL.out 0 (by omega)).1; omega)
        subst hAe
        have hl0 := (HL.out 0 (by omega)).1
        have HSN := Lib.hid hSN
        have HRD := Lib.hid (X4.out.rd.below (bDrewN (Below.refl w4.heap.size w4) 1) (by have := X4.out.rs; omega))
        have HS4 := Lib.hid (fun w5 hg5 (hR5 : Rd w5 R (M + 1 + 1)) => X4.out.gby hg5 hR5)
        clear hSN
        generalize (rat rows 0).length = L at *
        have hs2 := hsv
        have hne4 : ¬ (v = b) := by omega
        have hne5 : ¬ (b0 = v) := by omega
        have hne6 : ¬ (b0 = b) := by omega
        have hne7 : ¬ (b0 = w.heap.size) := by omega
        have hb4 : b < w4.heap.size := by omega
        have hb04 : b0 < w4.heap.size := by omega
        have hki : (0 : Int) < (k : Int) := by omega
        have hLi : (0 : Int) < (L : Int) := by omega
        have hki2 : 0 < k := by omega
        have hLi2 : 0 < L := by omega
        have hRb : b ≠ R ∧ b0 ≠ R := by have := X4.out.rs; omega
        have HRb := Lib.hid hRb
        clear hRb
        go_wp2_with fail
        first
        | go_region_held3 (fun w' => w'.cell? ⟨v, 0, none⟩ = some (.int .i64 P) ∧ w'.cell? ⟨v, 1, none⟩ = some (.slice (some ⟨b, 0, none⟩) k c) ∧ w'.cell? ⟨b, 0, none⟩ = some (.slice (some ⟨b0, 0, none⟩) L c0)) (go_keep) (first
            | (go_simp; go_at_call 40; refine (one_lit R (M + 1) w4.heap.size w4.drew 3 [-1, P] 2 rfl rfl (by omega) (by omega) (by omega) HRD.out).mono ?_; rintro e w5 ⟨x, rfl, hx, hR5, hg5, hb5⟩; have hg45 : w4.grownBy w5 (some R) := gby_trans (gby_drewN w4 (some R) 1) hg5; have X5 := Lib.hid (HS4.out w5 hg45 hR5); have q0 := X5.out.c0; have q1 := X5.out.c1; have q2 := (World.cell?_of_block (a := ⟨b, 0, none⟩) (hg45.block b hb4 (by simp; exact HRb.out.1))).trans hb00; have q3 := (World.frozen?_of_block (a := ⟨b0, 0, none⟩) (hg45.block b0 hb04 (by simp; exact HRb.out.2))).trans hfz; have q4 := (World.cell?_of_block (a := ⟨b0, 0, none⟩) (hg45.block b0 hb04 (by simp; exact HRb.out.2))).trans hy; have HSN5 := Lib.hid (HSN.out w5 x hg45); clear hx hR5 hg5 hb5 hg45; dsimp only))
        | skip
        have l0 := X5.out.d0
        have l1 := X5.out.d1
        have n0 := X5.out.g0
        have n1 := X5.out.g1
        go_wp2_with fail
        refine bodyPost_ret (v := .agg #[.int .i64 P, .slice (some ⟨b, 0, none⟩) k c]) ?_ rfl (show SvPost w R N _ _ from ⟨P, some ⟨b, 0, none⟩, k, c, rows.set 0 ((rat rows 0).set 0 x), rfl, ?_⟩)
        · simp only [results, hres.out]
          go_simp
        · obtain ⟨f1, f2, f3⟩ := fin2 (s := w.heap.size) HSN5.out (X5.out.rd.below ((Below.refl v w5).setCell (p := ⟨b0, 0, none⟩) (by show v ≤ b0; omega) _) (by have := X5.out.rs; omega)) (X5.out.bel.setCell (p := ⟨b0, 0, none⟩) (by have := X5.out.rs; show R ≤ b0; omega) (.int .i64 x)) X5.out.rs hsv (.int .i64 P) (.slice (some ⟨b, 0, none⟩) k c)
          refine ⟨f1, hk2, fun i hi => ?_, hp0, hp1, f2.mono (by omega), f3⟩
          have := HL.out i hi
          by_cases e : i = 0
          · subst e
            have hrl : 0 < rows.length := by have := X5.out.fr.1; omega
            simp only [rat, List.getD_eq_getElem?_getD, List.getElem?_set_self hrl, Option.getD_some, List.length_set]
            simp only [rat, List.getD_eq_getElem?_getD] at this
            omega
          · have e' : ¬ 0 = i := fun h => e h.symm
            simp only [rat, List.getD_eq_getElem?_getD, List.getElem?_set, e', if_false] at this ⊢
            omega
      · have e1 : (r2 == 1) = false := by simpa using hr1
        by_cases hr2 : r2 = 2
        · subst hr2
          clear hr hr1
          go_wp2_with fail
          refine bodyPost_ret (v := .agg #[.int .i64 P, .slice A 0 c]) ?_ rfl (show SvPost w R N _ _ from ⟨P, A, 0, c, [], rfl, ?_⟩)
          · simp only [results, hres.out]
            go_simp
          · obtain ⟨f1, f2, f3⟩ := fin2 (A := A) (k := 0) (rows := []) (s := w.heap.size) (v := v) ⟨rfl, fun h => absurd h (by omega)⟩ (X4.out.rd.below ((Below.refl v w4).setCell (p := ⟨v, 1, none⟩) (Nat.le_refl _) _) (by have := X4.out.rs; omega)) (X4.out.bel.setCell (p := ⟨v, 1, none⟩) (by have := X4.out.rs; show R ≤ v; omega) (.slice A 0 c)) X4.out.rs hsv (.int .i64 P) (.slice A 0 c)
            exact ⟨f1, by omega, fun i hi => absurd hi (by omega), hp0, hp1, f2.mono (by omega), f3⟩
        · have e2 : (r2 == 2) = false := by simpa using hr2
          clear hr hr1 hr2
          go_wp2_with fail
          refine bodyPost_ret (v := .agg #[.int .i64 P, .slice A k c]) ?_ rfl (show SvPost w R N _ _ from ⟨P, A, k, c, rows, rfl, ?_⟩)
          · simp only [results, hres.out]
            go_simp
          · obtain ⟨f1, f2, f3⟩ := fin2 (s := w.heap.size) X4.out.fr.sn X4.out.rd X4.out.bel X4.out.rs hsv (.int .i64 P) (.slice A k c)
            exact ⟨f1, hk2, fun i hi => by have := HL.out i hi; omega, hp0, hp1, f2.mono (by omega), f3⟩

end Go.Proofs.Ytfjpnennbdefiaa
