/-
  Mud. By a program (wip/tools/mk.py) out of snippets.
-/
import Derived.Test.YtfjpnennbdefiaaRF2
import Derived.Test.YtfjpnennbdefiaaOV
import Derived.Test.YtfjpnennbdefiaaBase
namespace Go.Proofs.Ytfjpnennbdefiaa
open Go.RowKit

theorem muRow_take_succ (a p : Nat) : (List.range (p + 1)).map (muF a) = (List.range p).map (muF a) ++ [((p - (if p.testBit a then 2 ^ a else 0) : Nat) : Int)] := by
  simp [List.range_succ, muF]
theorem muBit (p a : Nat) : bitI p a * ((2 ^ a : Nat) : Int) = ((if p.testBit a then 2 ^ a else 0 : Nat) : Int) := by
  unfold bitI
  split <;> simp
theorem muLe (p a : Nat) : (if p.testBit a then 2 ^ a else 0) ≤ p := by
  split
  · rename_i h
    exact Nat.ge_two_pow_of_testBit h
  · omega
theorem muRows_succ (n a : Nat) : (List.range (a + 1)).map (muRow n) = (List.range a).map (muRow n) ++ [muRow n a] := by simp [List.range_succ]
/-- What the walk of 'muddy' keeps. -/
structure MS (w : World) (P : Int) (wr : World) (A : Option Addr) (a c : Nat) (vs : List Value) (rows : List (List Int)) : Prop where
  ov : OV wr (w.heap.size + 2) A a c vs rows
  c0 : wr.cell? ⟨w.heap.size + 1, 0, none⟩ = some (.int .i64 P)
  c1 : wr.cell? ⟨w.heap.size + 1, 1, none⟩ = some (.slice A a c)
  d0 : wr.cell? ⟨w.heap.size, 0, none⟩ = some (.int .i64 0)
  d1 : wr.cell? ⟨w.heap.size, 1, none⟩ = some (.slice none 0 0)
  f1 : wr.frozen? ⟨w.heap.size + 1, 1, none⟩ = false
  g0 : wr.frozen? ⟨w.heap.size, 0, none⟩ = false
  g1 : wr.frozen? ⟨w.heap.size, 1, none⟩ = false
  bel : Below w.heap.size w wr
theorem MS.lt {w wr : World} {P : Int} {A : Option Addr} {a c : Nat} {vs : List Value} {rows : List (List Int)} (h : MS w P wr A a c vs rows) : w.heap.size + 2 ≤ wr.heap.size := h.ov.le
theorem MS.start (w : World) (P : Int) : MS w P ((w.alloc (.cells #[.int .i64 0, .slice none 0 0] 25)).alloc (.cells #[.int .i64 P, .slice none 0 0] 25)) none 0 0 [] [] := by
  refine ⟨OV.nil _ _ (by simp), ?_, ?_, ?_, ?_, by go_simp, by go_simp, by go_simp, ((Below.refl _ _).alloc (Nat.le_refl _) _).alloc (by simp) _⟩ <;> simp [World.cell?_alloc_at, World.cell?_alloc_past]
theorem MS.push {w wr w2 w3 : World} {P : Int} {A : Option Addr} {a c : Nat} {vs : List Value} {rows : List (List Int)} (h : MS w P wr A a c vs rows) (hb : Below wr.heap.size wr w2) {A1 : Option Addr} {n1 c1 : Nat} {zs : List Int} (hv : RowOk w2 wr.heap.size w2.heap.size (.slice A1 n1 c1) zs) {g c' : Nat} {t : TypeId}
    (hown : w3.ownsRow (w.heap.size + 2) 41 1 (.slice (some ⟨g, 0, none⟩) (a + 1) c') (a + 1) (vs ++ [.slice A1 n1 c1])) (hg : (w2.alloc (.cells #[.slice A1 n1 c1] t)).grownBy w3 (Value.slice A a c).ownBlock) (hl : (Value.slice A a c).ownBlock = some g ∨ g = w2.heap.size + 1) :
    MS w P (w3.setCell ⟨w.heap.size + 1, 1, none⟩ (.slice (some ⟨g, 0, none⟩) (a + 1) c')) (some ⟨g, 0, none⟩) (a + 1) c' (vs ++ [.slice A1 n1 c1]) (rows ++ [zs]) ∧ w3.frozen? ⟨w.heap.size + 1, 1, none⟩ = false ∧ ∃ v, w3.cell? ⟨w.heap.size + 1, 1, none⟩ = some v := by
  obtain ⟨hov, hbw⟩ := h.ov.push hb hv hown hg hl
  have k0 := (hbw.cell (p := ⟨w.heap.size + 1, 0, none⟩) (by show w.heap.size + 1 < _; omega)).trans h.c0
  have k1 := (hbw.cell (p := ⟨w.heap.size + 1, 1, none⟩) (by show w.heap.size + 1 < _; omega)).trans h.c1
  have l0 := (hbw.cell (p := ⟨w.heap.size, 0, none⟩) (by show w.heap.size < _; omega)).trans h.d0
  have l1 := (hbw.cell (p := ⟨w.heap.size, 1, none⟩) (by show w.heap.size < _; omega)).trans h.d1
  have m1 := (hbw.frozen (p := ⟨w.heap.size + 1, 1, none⟩) (by show w.heap.size + 1 < _; omega)).trans h.f1
  have n0 := (hbw.frozen (p := ⟨w.heap.size, 0, none⟩) (by show w.heap.size < _; omega)).trans h.g0
  have n1 := (hbw.frozen (p := ⟨w.heap.size, 1, none⟩) (by show w.heap.size < _; omega)).trans h.g1
  refine ⟨⟨hov.set (by show w.heap.size + 1 < _; omega) _, ?_, ?_, ?_, ?_, by rw [World.frozen?_setCell]; exact m1, by rw [World.frozen?_setCell]; exact n0, by rw [World.frozen?_setCell]; exact n1, ?_⟩, m1, _, k1⟩
  · rw [World.cell?_setCell_other _ _ _ _ (by simp)]; exact k0
  · exact World.cell?_setCell_same _ _ _ k1
  · rw [World.cell?_setCell_other _ _ _ _ (by simp)]; exact l0
  · rw [World.cell?_setCell_other _ _ _ _ (by simp)]; exact l1
  · exact (h.bel.trans (hbw.mono (by omega))).setCell (by show w.heap.size ≤ w.heap.size + 1; omega) _
theorem MS.done {w wr : World} {P : Int} {A : Option Addr} {a c : Nat} {vs : List Value} {rows : List (List Int)} (h : MS w P wr A a c vs rows) :
    FR ((wr.setCell ⟨w.heap.size, 0, none⟩ (.int .i64 P)).setCell ⟨w.heap.size, 1, none⟩ (.slice A a c)) w.heap.size ((wr.setCell ⟨w.heap.size, 0, none⟩ (.int .i64 P)).setCell ⟨w.heap.size, 1, none⟩ (.slice A a c)).heap.size A a rows ∧ Below w.heap.size w ((wr.setCell ⟨w.heap.size, 0, none⟩ (.int .i64 P)).setCell ⟨w.heap.size, 1, none⟩ (.slice A a c)) := by
  have h1 := (h.ov.set (p := ⟨w.heap.size, 0, none⟩) (by show w.heap.size < _; omega) (.int .i64 P)).set (p := ⟨w.heap.size, 1, none⟩) (by show w.heap.size < _; omega) (.slice A a c)
  exact ⟨h1.fr.mono (by omega) (Nat.le_refl _) (Nat.le_refl _), (h.bel.setCell (Nat.le_refl _) _).setCell (Nat.le_refl _) _⟩

set_option maxHeartbeats 1600000 in
theorem specmuddy_any (n : Nat) (w : World) (hn1 : 1 ≤ n) (hn : n ≤ 4) :
    Calls Try.prog 31 #[.int .i64 n] w fun e w' => ∃ A c, e = .returned (.agg #[.int .i64 ((2 ^ n : Nat) : Int), .slice A n c]) ∧ FR w' w.heap.size w'.heap.size A n ((List.range n).map (muRow n)) ∧ Below w.heap.size w w' := by
  have HPw := Lib.hid (fun w => specpower_any n w (by omega))
  have hp : 2 ^ n ≤ 16 := Nat.pow_le_pow_right (n := 2) (by omega) hn
  have HRow := Lib.hid (show ∀ a, muRow n a = (List.range (2 ^ n)).map (muF a) from fun a => rfl)
  obtain ⟨P, hP⟩ : ∃ P, P = 2 ^ n := ⟨_, rfl⟩
  rw [← hP] at HPw hp HRow
  rw [← hP]
  have M0 := Lib.hid (MS.start w (P : Int))
  clear hP
  go_enter Try.func31, Try.ntmps31
  go_wp2_with fail
  refine (HPw.out _).mono ?_
  rintro e w' ⟨rfl, rfl⟩
  go_wp2_with fail
  go_loopg [4] n (fun gg s4 wr => ∃ (a : Nat) (A : Option Addr) (c : Nat) (vs : List Value), a ≤ n ∧ n - a ≤ gg ∧ s4 = .int .i64 a ∧ MS w P wr A a c vs ((List.range a).map (muRow n)))
  case atStart => exact ⟨0, none, 0, [], by omega, by omega, rfl, M0.out⟩
  case round =>
    clear M0
    obtain ⟨a, A, c, vs, ha, hg, rfl, hM⟩ := hrel
    have HM := Lib.hid hM
    obtain ⟨w1, rfl⟩ : ∃ x, x = wr := ⟨_, rfl⟩
    by_cases hlt : a < n
    · have o0 := own_empty w1 w1.heap.size (Nat.le_refl _)
      have b0 : Below w1.heap.size w1 (w1.alloc (.cells #[] 3)) := (Below.refl _ _).alloc (Nat.le_refl _) _
      have hsz := hM.lt
      clear hM
      go_wp2_with fail
      go_loopg [5, 6] P (fun g2 s5 s6 w3 => ∃ p g cc : Nat, p ≤ P ∧ P - p ≤ g2 ∧ s6 = .int .i64 p ∧ s5 = .slice (some ⟨g, 0, none⟩) p cc ∧ w3.ownsRow w1.heap.size 3 1 (.slice (some ⟨g, 0, none⟩) p cc) p (((List.range p).map (muF a)).map (Value.int .i64)) ∧ Below w1.heap.size w1 w3)
      case atStart => exact ⟨0, w1.heap.size, 0, by omega, by omega, rfl, rfl, o0, b0⟩
      case round =>
        clear o0 b0
        obtain ⟨p, g, cc, hp', hg2, rfl, rfl, hown, hbw⟩ := hrel
        have HOw := Lib.hid hown
        have HBw := Lib.hid hbw
        have hs3 := hbw.size
        by_cases hpl : p < P
        · have k0 := (hbw.cell (p := ⟨w.heap.size + 1, 0, none⟩) (by show w.heap.size + 1 < _; omega)).trans HM.out.c0
          have HB := Lib.hid (fun w => specbit_any p a w (by omega) (by omega))
          have HPa := Lib.hid (fun w => specpower_any a w (by omega))
          have hpa : 2 ^ a ≤ 16 := Nat.pow_le_pow_right (n := 2) (by omega) (by omega : a ≤ 4)
          have hmb := muBit p a
          have hml := muLe p a
          have HS := Lib.hid (muRow_take_succ a p)
          generalize bitI p a = bz at *
          generalize (if p.testBit a then 2 ^ a else 0) = d at *
          generalize 2 ^ a = q at *
          have hsub : (p : Int) - (d : Int) = ((p - d : Nat) : Int) := by omega
          clear hown hbw
          go_wp2_with fail
          refine (HB.out _).mono ?_
          rintro e w' ⟨rfl, rfl⟩
          go_wp2_with fail
          refine (HPa.out _).mono ?_
          rintro e w' ⟨rfl, rfl⟩
          go_wp2_with (at_builtin; refine appL wr w1.heap.size _ _ _ ((List.range p).map (muF a)) ((p - d : Nat) : Int) rfl _ _ rfl rfl HOw.out rfl (by omega) hs3 ?_; intro g2 c2 w4 ho4 hb4 hg4 hl4)
          go_roundg (P - (p + 1))
          case measure => omega
          case rel => exact ⟨p + 1, g2, c2, by omega, by omega, by go_num, rfl, by rw [HS.out]; exact ho4, HBw.out.trans hb4⟩
        · obtain rfl : p = P := by omega
          have k0 := (hbw.cell (p := ⟨w.heap.size + 1, 0, none⟩) (by show w.heap.size + 1 < _; omega)).trans HM.out.c0
          have k1 := (hbw.cell (p := ⟨w.heap.size + 1, 1, none⟩) (by show w.heap.size + 1 < _; omega)).trans HM.out.c1
          have HV := Lib.hid (RowOk.of_own hown)
          rw [← HRow.out a] at HV
          have HO := Lib.hid (HM.out.ov.own.kept (row := none) (w' := wr) ⟨hbw.os, hbw.tape, hbw.output, hbw.size, fun i hi _ => hbw.block i hi⟩ (by cases hv : (Value.slice A a c).ownBlock with
            | none => exact .inl rfl
            | some k => exact .inr (by simp)))
          have HP := Lib.hid (fun g c' w3 h1 h2 h3 => HM.out.push (w2 := wr) (w3 := w3) (g := g) (c' := c') (t := 41) hbw HV.out h1 h2 h3)
          clear hown hbw HOw HBw
          have HRS := Lib.hid (muRows_succ n a)
          go_wp2_with (at_builtin; refine appV wr (w.heap.size + 2) A a c vs (some ⟨g, 0, none⟩) p cc rfl _ _ rfl rfl HO.out rfl (by omega) (by omega) ?_; intro g2 c2 w4 ho4 hg4 hl4; obtain ⟨hM4, hf4, v4, hv4⟩ := HP.out g2 c2 w4 ho4 hg4 hl4; have HM4 := Lib.hid hM4; clear hM4 ho4 hg4 hl4)
          go_roundg (n - (a + 1))
          case measure => omega
          case rel => exact ⟨a + 1, _, c2, _, by omega, by omega, by go_num, by rw [HRS.out]; exact HM4.out⟩
    · obtain rfl : a = n := by omega
      have k0 := hM.c0
      have k1 := hM.c1
      have l0 := hM.d0
      have l1 := hM.d1
      have m0 := hM.g0
      have m1 := hM.g1
      clear hM
      go_wp2_with fail
      refine bodyPost_ret (v := .agg #[.int .i64 P, .slice A a c]) ?_ rfl ⟨A, c, rfl, HM.out.done⟩
      have hres : Try.f31.results = #[.cell 2 25] := by kernel_rfl
      simp only [results, hres]
      go_simp

end Go.Proofs.Ytfjpnennbdefiaa
