/-
  Ann. By a program (wip/tools/mk.py) out of snippets.
-/
import Derived.Test.YtfjpnennbdefiaaTlM
import Derived.Test.YtfjpnennbdefiaaMud
namespace Go.Proofs.Ytfjpnennbdefiaa
open Go.RowKit

theorem bitI_eq {s u p : Nat} : (bitI s u == bitI s p) = (s.testBit u == s.testBit p) := by
  unfold bitI
  cases s.testBit u <;> cases s.testBit p <;> rfl
set_option maxRecDepth 20000 in
set_option maxHeartbeats 3200000 in
theorem announce_any (n k s c0 : Nat) (A0 : Option Addr) (rows : List (List Int)) (w : World) (hG : GV n k rows) (hs : s < 65536) (ha : SS w A0 k rows) :
    Calls Try.prog 30 #[.agg #[.int .i64 n, .slice A0 k c0], .int .i64 s] w fun e w' => ∃ A c, e = .returned (.agg #[.int .i64 n, .slice A k c]) ∧ FR w' w.heap.size w'.heap.size A k (tlV rows n s) ∧ Below w.heap.size w w' := by
  have hk4 := hG.k2
  have hn16 := hG.n2
  have M0 := MS.start (w.alloc (.cells #[.int .i64 n, .slice A0 k c0] 25)) n
  obtain ⟨W0, hW0⟩ : ∃ W0, W0 = w.alloc (.cells #[.int .i64 n, .slice A0 k c0] 25) := ⟨_, rfl⟩
  obtain ⟨W1, hW1⟩ : ∃ W1, W1 = ((w.alloc (.cells #[.int .i64 n, .slice A0 k c0] 25)).alloc (.cells #[.int .i64 0, .slice none 0 0] 25)).alloc (.cells #[.int .i64 n, .slice none 0 0] 25) := ⟨_, rfl⟩
  rw [← hW1, ← hW0] at M0
  have hz : W0.heap.size = w.heap.size + 1 := by rw [hW0]; simp
  have HBW := Lib.hid (show Below w.heap.size w W0 by rw [hW0]; exact (Below.refl _ _).alloc (Nat.le_refl _) _)
  have B0 := Lib.hid (show W0.cell? ⟨w.heap.size, 0, none⟩ = some (.int .i64 n) by rw [hW0]; simp)
  have B1 := Lib.hid (show W0.cell? ⟨w.heap.size, 1, none⟩ = some (.slice A0 k c0) by rw [hW0]; simp)
  have HA := Lib.hid (ha.below HBW.out (Nat.le_refl _))
  have HLen := Lib.hid hG.len
  have hn1 := hG.n1
  have HS := Lib.hid (fun (u : Nat) (hu : u ≤ 60) w' => specbit_any s u w' hu (by omega))
  have HLt := Lib.hid (show w.heap.size < W0.heap.size by omega)
  have HRL := Lib.hid (ha.1)
  have HTs := Lib.hid (fun a (h : a < k) => tlRows_succ rows n s a (by rw [HRL.out]; exact h))
  have HZ := Lib.hid hz
  have HM0 := Lib.hid M0
  clear ha hG hW0 M0
  go_enter Try.func30, Try.ntmps30
  go_wp2_with fail
  rw [← hW1]
  clear hW1
  go_loopg [6] k (fun gg s6 wr => ∃ (a : Nat) (A : Option Addr) (c : Nat) (vs : List Value), a ≤ k ∧ k - a ≤ gg ∧ s6 = .int .i64 a ∧ MS W0 n wr A a c vs ((rows.take a).map fun row => tlRow row n s))
  case atStart => exact ⟨0, none, 0, [], by omega, by omega, rfl, HM0.out⟩
  case round =>
    clear HM0
    obtain ⟨a, A, c, vs, hak, hg, rfl, hM⟩ := hrel
    have HM := Lib.hid hM
    obtain ⟨w1, rfl⟩ : ∃ x, x = wr := ⟨_, rfl⟩
    have c0 := (hM.bel.cell (p := ⟨w.heap.size, 0, none⟩) HLt.out).trans B0.out
    have c1 := (hM.bel.cell (p := ⟨w.heap.size, 1, none⟩) HLt.out).trans B1.out
    have hsz1 : w.heap.size < w1.heap.size := Nat.lt_of_lt_of_le HLt.out hM.bel.size
    by_cases hlt : a < k
    · have HA1 := Lib.hid (HA.out.below hM.bel (Nat.le_refl _))
      have o0 := own_empty w1 w1.heap.size (Nat.le_refl _)
      have b0 : Below w1.heap.size w1 (w1.alloc (.cells #[] 3)) := (Below.refl _ _).alloc (Nat.le_refl _) _
      have hszl := hM.lt
      have hL := HLen.out a hlt
      have HTR := Lib.hid (show tlRow (rat rows a) n s = (List.range n).map (fun w => ((lstU (rat rows a) n s w : Nat) : Int)) from rfl)
      have HTS := Lib.hid (fun p => tlRow_take_succ (rat rows a) n s p)
      clear hM
      go_wp2_with fail
      go_loopg [7, 8] n (fun g2 s7 s8 w3 => ∃ p g cc : Nat, p ≤ n ∧ n - p ≤ g2 ∧ s8 = .int .i64 p ∧ s7 = .slice (some ⟨g, 0, none⟩) p cc ∧ w3.ownsRow w1.heap.size 3 1 (.slice (some ⟨g, 0, none⟩) p cc) p (((List.range p).map (fun w => ((lstU (rat rows a) n s w : Nat) : Int))).map (Value.int .i64)) ∧ Below w1.heap.size w1 w3)
      case atStart => exact ⟨0, w1.heap.size, 0, by omega, by omega, rfl, rfl, o0, b0⟩
      case round =>
        clear o0 b0 c0 c1
        obtain ⟨p, g, cc, hp', hg2, rfl, rfl, hown, hbw⟩ := hrel
        obtain ⟨w3, rfl⟩ : ∃ x, x = wr := ⟨_, rfl⟩
        have HOw := Lib.hid hown
        have HBw := Lib.hid hbw
        have hs3 := hbw.size
        have c0 := (hbw.cell (p := ⟨w.heap.size, 0, none⟩) hsz1).trans ((HM.out.bel.cell (p := ⟨w.heap.size, 0, none⟩) HLt.out).trans B0.out)
        have c1 := (hbw.cell (p := ⟨w.heap.size, 1, none⟩) hsz1).trans ((HM.out.bel.cell (p := ⟨w.heap.size, 1, none⟩) HLt.out).trans B1.out)
        by_cases hpl : p < n
        · obtain ⟨b', off', A1, n1, c1', hA1, h1, s1⟩ := (HA1.out.below hbw (Nat.le_refl _)).at_ hlt
          subst hA1
          obtain rfl : n1 = n := by rw [← s1.1]; exact hL
          obtain ⟨b1, o1, hA2, h6⟩ := s1.2 (by omega)
          subst hA2
          have H6 := Lib.hid h6
          have x2 := h6 p hpl
          clear hown hbw h6 s1 hL
          go_wp2_with fail
          go_loopg [9, 10] p (fun g3 s9 s10 w4 => ∃ at' u q : Nat, u ≤ p ∧ u ≤ g3 ∧ at' ≤ p ∧ s9 = .int .i64 at' ∧ s10 = .int .i64 ((u : Int) - 1) ∧ w4 = w3.drewN q ∧ Aside (lsC (rat rows a) s p at' = true ∧ ∀ j, u ≤ j → j < at' → lsC (rat rows a) s p j = false))
          case atStart => exact ⟨p, p, 0, by omega, by omega, by omega, rfl, by go_num, rfl, lsC_self _ _ _, fun j h h2 => absurd h2 (by omega)⟩
          case round =>
            obtain ⟨at', u, q, hup, hg3, hap, rfl, hs10, rfl, HX⟩ := hrel
            by_cases hu0 : 0 < u
            · obtain ⟨x, rfl⟩ : ∃ x, u = x + 1 := ⟨u - 1, by omega⟩
              rw [show (((x + 1 : Nat) : Int) - 1) = (x : Int) by omega] at hs10
              subst hs10
              have x1 := H6.out x (by omega)
              have hge : decide ((0 : Int) ≤ (x : Int)) = true := by simp
              by_cases e1 : iat (rat rows a) x = iat (rat rows a) p
              · have E1 := Lib.hid e1
                rw [e1] at x1
                clear e1
                by_cases e2 : s.testBit x = s.testBit p
                · have HLs := Lib.hid (show lsC (rat rows a) s p x = true by unfold lsC; rw [E1.out, e2]; simp)
                  have ht2 : (bitI s x == bitI s p) = true := by rw [bitI_eq, e2]; simp
                  generalize iat (rat rows a) p = y at x1 x2
                  have ht1 : ((y : Int) == (y : Int)) = true := by simp
                  clear e2
                  go_wp2_with fail
                  go_quiet (first | (go_at_call 32; exact quietP (HS.out _ (by omega) _)))
                  go_wp2_with fail
                  go_roundg x
                  case measure => omega
                  case rel => exact ⟨x, x, _, by omega, by omega, by omega, rfl, by go_num, rfl, HLs.out, fun j h h2 => absurd h2 (by omega)⟩
                · have HBf := Lib.hid (show lsC (rat rows a) s p x = false by unfold lsC; rw [Bool.and_eq_false_iff]; exact .inr (by simpa using e2))
                  have ht2 : (bitI s x == bitI s p) = false := by rw [bitI_eq]; simpa using e2
                  generalize iat (rat rows a) p = y at x1 x2
                  have ht1 : ((y : Int) == (y : Int)) = true := by simp
                  clear e2
                  go_wp2_with fail
                  go_quiet (first | (go_at_call 32; exact quietP (HS.out _ (by omega) _)))
                  go_wp2_with fail
                  go_roundg x
                  case measure => omega
                  case rel =>
                    refine ⟨at', x, _, by omega, by omega, by omega, rfl, by go_num, rfl, (show Aside _ from ⟨HX.out.1, fun j h h2 => ?_⟩)⟩
                    by_cases e : j = x
                    · subst e; exact HBf.out
                    · exact HX.out.2 j (by omega) h2
              · have HBf := Lib.hid (show lsC (rat rows a) s p x = false by unfold lsC; rw [Bool.and_eq_false_iff]; exact .inl (by simpa using e1))
                have ht1 : (iat (rat rows a) x == iat (rat rows a) p) = false := by simpa using e1
                generalize iat (rat rows a) p = y at x2 ht1
                generalize iat (rat rows a) x = z at x1 ht1
                clear e1
                go_wp2_with fail
                go_quiet (fail)
                go_wp2_with fail
                go_roundg x
                case measure => omega
                case rel =>
                  refine ⟨at', x, _, by omega, by omega, by omega, rfl, by go_num, rfl, (show Aside _ from ⟨HX.out.1, fun j h h2 => ?_⟩)⟩
                  by_cases e : j = x
                  · subst e; exact HBf.out
                  · exact HX.out.2 j (by omega) h2
            · obtain rfl : u = 0 := by omega
              rw [show (((0 : Nat) : Int) - 1) = -1 by omega] at hs10
              subst hs10
              have hge : decide ((0 : Int) ≤ (-1 : Int)) = false := by decide
              have HL := Lib.hid (lstU_eq (row := rat rows a) (n := n1) (s := s) (w := p) (u := at') (by omega) HX.out.1 (fun j hj => HX.out.2 j (by omega) hj))
              obtain ⟨w4, hw4⟩ : ∃ x, x = w3.drewN q := ⟨_, rfl⟩
              have HO4 := Lib.hid (show w4.ownsRow w1.heap.size 3 1 (.slice (some ⟨g, 0, none⟩) p cc) p (((List.range p).map (fun w => ((lstU (rat rows a) n1 s w : Nat) : Int))).map (Value.int .i64)) by rw [hw4]; exact HOw.out)
              have HB4 := Lib.hid (show Below w1.heap.size w1 w4 by rw [hw4]; exact bDrewN HBw.out q)
              have hs4 := HB4.out.size
              rw [← hw4]
              have HTSp := Lib.hid (HTS.out p)
              rw [HL.out] at HTSp
              clear hw4 x2 c0 c1 HX HBw HOw
              go_wp2_with (at_builtin; refine appL w4 w1.heap.size _ _ _ ((List.range p).map (fun w => ((lstU (rat rows a) n1 s w : Nat) : Int))) (at' : Int) rfl _ _ rfl rfl HO4.out rfl (by omega) hs4 ?_; intro g5 c5 w5 ho5 hb5 hg5 hl5)
              go_roundg (n1 - (p + 1))
              case measure => omega
              case rel => exact ⟨p + 1, g5, c5, by omega, by omega, by go_num, rfl, by rw [HTSp.out]; exact ho5, HB4.out.trans hb5⟩
        · obtain rfl : p = n := by omega
          have k0 := (hbw.cell (p := ⟨W0.heap.size + 1, 0, none⟩) (by show W0.heap.size + 1 < _; omega)).trans HM.out.c0
          have k1 := (hbw.cell (p := ⟨W0.heap.size + 1, 1, none⟩) (by show W0.heap.size + 1 < _; omega)).trans HM.out.c1
          have HV := Lib.hid (RowOk.of_own hown)
          rw [← HTR.out] at HV
          have HO := Lib.hid (HM.out.ov.own.kept (row := none) (w' := w3) ⟨hbw.os, hbw.tape, hbw.output, hbw.size, fun i hi _ => hbw.block i hi⟩ (by cases hv : (Value.slice A a c).ownBlock with
            | none => exact .inl rfl
            | some k => exact .inr (by simp)))
          have HP := Lib.hid (fun g c' w4 h1 h2 h3 => HM.out.push (w2 := w3) (w3 := w4) (g := g) (c' := c') (t := 41) hbw HV.out h1 h2 h3)
          rw [hz] at k0 k1
          clear hown hbw HOw HBw
          have HRS := Lib.hid (HTs.out a hlt)
          go_wp2_with (at_builtin; refine appV w3 (W0.heap.size + 2) A a c vs (some ⟨g, 0, none⟩) p cc rfl _ _ rfl rfl HO.out rfl (by omega) (by omega) ?_; intro g2 c2 w4 ho4 hg4 hl4; obtain ⟨hM4, hf4, v4, hv4⟩ := HP.out g2 c2 w4 ho4 hg4 hl4; rw [hz] at hM4 hf4 hv4; have HM4 := Lib.hid hM4; clear hM4 ho4 hg4 hl4)
          go_roundg (k - (a + 1))
          case measure => omega
          case rel => exact ⟨a + 1, _, c2, _, by omega, by omega, by go_num, by rw [HRS.out]; exact HM4.out⟩
    · obtain rfl : a = k := by omega
      have k0 := hM.c0
      have k1 := hM.c1
      have l0 := hM.d0
      have l1 := hM.d1
      have m0 := hM.g0
      have m1 := hM.g1
      rw [hz] at l0 l1 m0 m1 k0 k1
      have hD := Lib.hid hM.done
      rw [List.take_of_length_le (by rw [HRL.out]; exact Nat.le_refl _)] at hD
      clear hM HM
      rw [hz] at hD
      go_wp2_with fail
      refine bodyPost_ret (v := .agg #[.int .i64 n, .slice A a c]) ?_ rfl ⟨A, c, rfl, hD.out.1.mono (by omega) (Nat.le_refl _) (Nat.le_refl _), HBW.out.trans (hD.out.2.mono (by omega))⟩
      have hres : Try.f30.results = #[.cell 4 25] := by kernel_rfl
      simp only [results, hres]
      go_simp

end Go.Proofs.Ytfjpnennbdefiaa
