/-
  LegS2. By a program (wip/tools/mk.py) out of snippets.
-/
import Derived.Test.YthhfnhabnaakiaaLegS
namespace Go.Proofs.Ythhfnhabnaakiaa
open Go.RowKit

theorem heapNew (w : World) (o : Obj) : (w.alloc o).heap[w.heap.size]? = some o := by
  show (w.heap.push o)[w.heap.size]? = some o
  simp
theorem own_emptyS (w : World) (B : Nat) (hB : B ≤ w.heap.size) : (w.alloc (.cells #[] 23)).ownsRow B 23 1 (.slice (some ⟨w.heap.size, 0, none⟩) 0 0) 0 [] :=
  ⟨rfl, .inr ⟨w.heap.size, 0, #[], rfl, hB, heapNew _ _, by omega, by unfold maxLen; omega, rfl, rfl⟩⟩

set_option maxRecDepth 20000 in
set_option maxHeartbeats 1600000 in
theorem specLegal_any (k n : Int) (w : World) :
    Calls Try.prog 33 #[.int .i64 k, .int .i64 n] w fun e w' => ∃ A c, e = .returned (.slice A (legR k n).length c) ∧ FR w' w.heap.size w'.heap.size A (legR k n).length (legR k n) ∧ Below w.heap.size w w' := by
  have CK := Lib.hid (inRange_any k 2 5 w)
  have CN := Lib.hid (inRange_any n 2 5 w)
  cases hk : inR k 2 5 with
  | false =>
    have hR : legR k n = [] := by unfold legR lgOk; rw [hk]; rfl
    rw [hk] at CK
    rw [hR]
    clear hR hk CN
    go_enter Try.func33, Try.ntmps33
    go_wp2_with fail
    refine CK.out.mono ?_
    rintro e w' ⟨rfl, rfl⟩
    go_wp2_with fail
    go_ret
    exact ⟨none, 0, rfl, FR.empty _ _ (Nat.le_refl _), Below.refl _ _⟩
  | true =>
    cases hn : inR n 2 5 with
    | false =>
      have hR : legR k n = [] := by unfold legR lgOk; rw [hn]; simp
      rw [hk] at CK
      rw [hn] at CN
      rw [hR]
      clear hR hk hn
      go_enter Try.func33, Try.ntmps33
      go_wp2_with fail
      refine CK.out.mono ?_
      rintro e w' ⟨rfl, rfl⟩
      go_wp2_with fail
      refine CN.out.mono ?_
      rintro e w' ⟨rfl, rfl⟩
      go_wp2_with fail
      go_ret
      exact ⟨none, 0, rfl, FR.empty _ _ (Nat.le_refl _), Below.refl _ _⟩
    | true =>
      obtain ⟨K, rfl, hK, hK5⟩ : ∃ K : Nat, k = K ∧ 2 ≤ K ∧ K ≤ 5 := ⟨k.toNat, by have := inR_iff.1 hk; omega, by have := inR_iff.1 hk; omega, by have := inR_iff.1 hk; omega⟩
      obtain ⟨N, rfl, hN, hN5⟩ : ∃ K : Nat, n = K ∧ 2 ≤ K ∧ K ≤ 5 := ⟨n.toNat, by have := inR_iff.1 hn; omega, by have := inR_iff.1 hn; omega, by have := inR_iff.1 hn; omega⟩
      have CT := Lib.hid (fun w => times_any K N w hK hK5 hN5)
      have hM := pow_le_big hK hK5 (Nat.le_refl N) hN5
      have CS := Lib.hid (fun x w (hx : x ≤ 4000) => statesOf_any K N x w hK hK5 (by omega) hN5 hx)
      by_cases h1024 : K ^ N ≤ 1024
      · have hR : legR K N = legTo K N (K ^ N) := by unfold legR lgOk; rw [hk, hn]; simp [h1024]
        rw [hk] at CK
        rw [hn] at CN
        rw [hR]
        obtain ⟨M, hMM⟩ : ∃ M, M = K ^ N := ⟨_, rfl⟩
        rw [← hMM] at CT h1024 hM ⊢
        have HO := Lib.hid (OV.made _ w.heap.size _ _ (by simp) (own_emptyS w w.heap.size (Nat.le_refl _)))
        have HB := Lib.hid (show Below w.heap.size w (w.alloc (.cells #[] 23)) from (Below.refl _ _).alloc (Nat.le_refl _) _)
        have HT := Lib.hid (fun A c w h => spectokens_any A N c (stL K N 0) w (by omega) h)
        have HT := Lib.hid (fun x A c w h => spectokens_any A N c (stL K N x) w (by omega) h)
        clear hR hk hn hMM
        go_enter Try.func33, Try.ntmps33
        go_wp2_with fail
        refine CK.out.mono ?_
        rintro e w' ⟨rfl, rfl⟩
        go_wp2_with fail
        refine CN.out.mono ?_
        rintro e w' ⟨rfl, rfl⟩
        go_wp2_with fail
        refine (CT.out _).mono ?_
        rintro e w' ⟨rfl, rfl⟩
        go_wp2_with fail
        go_loopg [5, 6] M (fun gg s5 s6 wr => ∃ (x a : Nat) (A : Option Addr) (c : Nat) (vs : List Value), x ≤ M ∧ M - x ≤ gg ∧ a ≤ x ∧ s6 = .int .i64 x ∧ s5 = .slice A a c ∧ OV wr w.heap.size A a c vs (legTo K N x) ∧ Below w.heap.size w wr)
        case atStart => exact ⟨0, 0, _, 0, [], by omega, by omega, by omega, rfl, rfl, HO.out, HB.out⟩
        case round =>
          clear HO HB CK CN
          obtain ⟨x, a, A, c, vs, hx, hg, hax, rfl, rfl, hOV, hBw⟩ := hrel
          have OV0 := Lib.hid hOV
          have B0 := Lib.hid hBw
          clear hOV hBw
          by_cases hlt : x < M
          · have CS1 := Lib.hid (CS.out x wr (by omega))
            go_wp2_with fail
            refine (CT.out _).mono ?_
            rintro e w' ⟨rfl, rfl⟩
            go_wp2_with fail
            refine CS1.out.mono ?_
            rintro e w2 ⟨g, rfl, ho, b2⟩
            have HRow := Lib.hid (RowOk.of_own ho)
            have HS2 := Lib.hid (show SI w2 (some ⟨g, 0, none⟩) N (stL K N x) from (NewI.of_own ho).si)
            have B2 := Lib.hid b2
            have hs2 := b2.size
            clear ho b2 CS1
            go_wp2_with fail
            refine (HT.out x _ _ _ HS2.out).mono ?_
            rintro e w3 ⟨A3, c3, rfl, _, b3⟩
            have B3 := Lib.hid (bstep B2.out b3)
            have HRow3 := Lib.hid ((HRow.out.same (w' := w3) (fun b e => b3.block b (by have h := HRow.out.blk; obtain ⟨b', e', _, h2⟩ := h; rw [e'] at e; cases e; exact h2))).mono (Nat.le_refl _) b3.size)
            have hs3 := b3.size
            clear b3 HRow HS2 B2
            cases hl : isLeg (stL K N x) with
            | true =>
              have h1 : ((((toks (stL K N x)).length : Nat) : Int) == 1) = true := by
                unfold isLeg at hl
                simp only [beq_iff_eq] at hl ⊢
                omega
              have HL := Lib.hid (legTo_hit hl)
              have HOV3 := Lib.hid (OV0.out.later B3.out)
              have HBw := Lib.hid (B0.out.trans (B3.out.mono B0.out.size))
              have hws : w.heap.size ≤ w3.heap.size := HBw.out.size
              clear hl
              generalize (toks (stL K N x)).length = m at *
              go_wp2_with (at_builtin; refine appV w3 w.heap.size A a c vs (some ⟨g, 0, none⟩) N N rfl _ _ rfl rfl HOV3.out.own rfl (by omega) hws ?_; intro g2 c2 w4 ho4 hg4 hl4; obtain ⟨h5, b5⟩ := OV0.out.push B3.out HRow3.out ho4 hg4 hl4; have O4 := Lib.hid h5; have B4 := Lib.hid (show Below w.heap.size w w4 from B0.out.trans b5); clear h5 b5 ho4 hg4 hl4)
              go_roundg (M - (x + 1))
              case measure => omega
              case rel => exact ⟨x + 1, a + 1, _, _, _, by omega, by omega, by omega, by go_num, rfl, by rw [HL.out]; exact O4.out, B4.out⟩
            | false =>
              have h1 : ((((toks (stL K N x)).length : Nat) : Int) == 1) = false := by
                unfold isLeg at hl
                simp only [beq_eq_false_iff_ne] at hl ⊢
                omega
              have HL := Lib.hid (legTo_miss hl)
              clear hl
              generalize (toks (stL K N x)).length = m at *
              go_wp2_with fail
              go_roundg (M - (x + 1))
              case measure => omega
              case rel => exact ⟨x + 1, a, _, _, _, by omega, by omega, by omega, by go_num, rfl, by rw [HL.out]; exact OV0.out.later B3.out, B0.out.trans (B3.out.mono B0.out.size)⟩
          · obtain rfl : x = M := by omega
            go_wp2_with fail
            refine (CT.out _).mono ?_
            rintro e w' ⟨rfl, rfl⟩
            go_wp2_with fail
            go_ret
            have hal : a = (legTo K N x).length := OV0.out.len.symm
            refine ⟨A, c, by rw [← hal]; rfl, ?_, B0.out⟩
            rw [← hal]
            exact OV0.out.fr
      · have hR : legR K N = [] := by unfold legR lgOk; rw [hk, hn]; simp [h1024]
        rw [hk] at CK
        rw [hn] at CN
        rw [hR]
        obtain ⟨M, hMM⟩ : ∃ M, M = K ^ N := ⟨_, rfl⟩
        rw [← hMM] at CT h1024 hM
        clear hR hk hn hMM
        go_enter Try.func33, Try.ntmps33
        go_wp2_with fail
        refine CK.out.mono ?_
        rintro e w' ⟨rfl, rfl⟩
        go_wp2_with fail
        refine CN.out.mono ?_
        rintro e w' ⟨rfl, rfl⟩
        go_wp2_with fail
        refine (CT.out _).mono ?_
        rintro e w' ⟨rfl, rfl⟩
        go_wp2_with fail
        go_ret
        exact ⟨none, 0, rfl, FR.empty _ _ (Nat.le_refl _), Below.refl _ _⟩

end Go.Proofs.Ythhfnhabnaakiaa
