/-
  Tok3. By a program (wip/tools/mk.py) out of snippets.
-/
import Derived.Test.YthhfnhabnaakiaaTok2
import Derived.Test.YthhfnhabnaakiaaFn2
namespace Go.Proofs.Ythhfnhabnaakiaa
open Go.RowKit

set_option maxHeartbeats 400000 in
theorem specmove_any (k : Int) (A : Option Addr) (n c i : Nat) (zs : List Int) (w : World) (hn : n ≤ 2000000) (hi : i < n) (hk1 : 2 ≤ k) (hk2 : k ≤ 5) (hz : ∀ z ∈ zs, 0 ≤ z ∧ z ≤ k - 1) (ha : SI w A n zs) :
    Calls Try.prog 50 #[.int .i64 k, .slice A n c, .int .i64 i] w fun e w' => ∃ A' c', e = .returned (.slice A' n c') ∧ NewI w' w.heap.size A' n (mv k zs i) ∧ Below w.heap.size w w' := by
  have hb0 : Below w.heap.size w (w.alloc (.cells #[] 3)) := (Below.refl _ _).alloc (Nat.le_refl _) _
  have HO := Lib.hid (own_empty w w.heap.size (Nat.le_refl _))
  have HS := Lib.hid (ha.alloc (.cells #[] 3))
  have hlen := Lib.hid ha.len
  have hz0 := hz _ (iat_mem (zs := zs) (i := 0) (by rw [ha.len]; omega))
  clear ha hz
  by_cases h0 : i = 0
  · have e0 : ((i : Int) == 0) = true := by simp [h0]
    have E4 := Lib.hid (show zs.set 0 ((iat zs 0 + 1) % k) = mv k zs i by simp [mv, h0])
    clear h0
    go_enter Try.func50, Try.ntmps50
    go_wp2_with (at_builtin; refine appAll _ w.heap.size _ 0 0 [] _ n _ zs rfl _ _ rfl rfl HO.out rfl HS.out (by omega) (by simp) ?_; intro A2 c2 w2 ho2 hb2 hg2; simp only [Nat.zero_add, List.nil_append] at ho2; obtain ⟨g, rfl, hg1, hg3⟩ := own_form ho2 (by omega); have h1 : w2.cell? ⟨g, 0, none⟩ = some (.int .i64 (iat zs 0)) := own_cell ho2 (by omega); have h3 : w2.frozen? ⟨g, 0, none⟩ = false := World.ownsRow.frozenAt ho2 0; have H2 := Lib.hid ho2; clear ho2)
    have hst := (own_stored H2.out 0 ((iat zs 0 + 1) % k)).1
    rw [E4.out] at hst
    go_ret
    exact ⟨_, _, by simp; rfl, NewI.of_own hst, (hb0.trans hb2).setCell (p := ⟨g, 0, none⟩) (show w.heap.size ≤ g from hg1) _⟩
  · have e0 : ((i : Int) == 0) = false := by simp [h0]
    have E4 := Lib.hid (show zs.set i (iat zs (i - 1)) = mv k zs i by simp [mv, h0])
    have e5 : ((i : Int) - 1).toNat = i - 1 := by omega
    have hi0 : 1 ≤ i := by omega
    clear h0
    go_enter Try.func50, Try.ntmps50
    go_wp2_with (at_builtin; refine appAll _ w.heap.size _ 0 0 [] _ n _ zs rfl _ _ rfl rfl HO.out rfl HS.out (by omega) (by simp) ?_; intro A2 c2 w2 ho2 hb2 hg2; simp only [Nat.zero_add, List.nil_append] at ho2; obtain ⟨g, rfl, hg1, hg3⟩ := own_form ho2 (by omega); have h1 : w2.cell? ⟨g, i - 1, none⟩ = some (.int .i64 (iat zs (i - 1))) := own_cell ho2 (by omega); have h2 : w2.cell? ⟨g, i, none⟩ = some (.int .i64 (iat zs i)) := own_cell ho2 (by omega); have h3 : w2.frozen? ⟨g, i, none⟩ = false := World.ownsRow.frozenAt ho2 i; have H2 := Lib.hid ho2; clear ho2)
    have hst := (own_stored H2.out i (iat zs (i - 1))).1
    rw [E4.out] at hst
    go_ret
    exact ⟨_, _, by simp; rfl, NewI.of_own hst, (hb0.trans hb2).setCell (p := ⟨g, i, none⟩) (show w.heap.size ≤ g from hg1) _⟩

set_option maxHeartbeats 400000 in
theorem implmoved_any (k : Int) (A : Option Addr) (n c i : Nat) (zs : List Int) (w : World) (hn : n ≤ 2000000) (hi : i < n) (hk1 : 2 ≤ k) (hk2 : k ≤ 5) (hz : ∀ z ∈ zs, 0 ≤ z ∧ z ≤ k - 1) (ha : SI w A n zs) :
    Calls Try.prog 52 #[.int .i64 k, .slice A n c, .int .i64 i] w fun e w' => ∃ A', e = .returned (.slice A' n n) ∧ NewI w' w.heap.size A' n (mv k zs i) ∧ Below w.heap.size w w' := by
  have HC := Lib.hid (clone_any A n c zs w (by omega) hn ha)
  have hlen := Lib.hid ha.len
  have hz0 := hz _ (iat_mem (zs := zs) (i := 0) (by rw [ha.len]; omega))
  clear hz
  by_cases h0 : i = 0
  · have e0 : ((i : Int) == 0) = true := by simp [h0]
    have E4 := Lib.hid (show zs.set 0 ((iat zs 0 + 1) % k) = mv k zs i by simp [mv, h0])
    clear h0
    go_enter Try.func52, Try.ntmps52
    go_wp2_with (go_at_call 56; refine HC.out.mono ?_; rintro e w2 ⟨A2, c2, rfl, hc2, hN, hB⟩)
    obtain ⟨g, off, rfl, hg1, hg2, hcell, hfr⟩ := hN.2 (by omega)
    obtain ⟨b, off2, rfl, hc⟩ := (ha.below hB (Nat.le_refl _)).2 (by omega)
    have h1 : w2.cell? ⟨b, off2, none⟩ = some (.int .i64 (iat zs 0)) := hc 0 (by omega)
    have h2 : w2.cell? ⟨g, off, none⟩ = some (.int .i64 (iat zs 0)) := hcell 0 (by omega)
    have h3 : w2.frozen? ⟨g, off, none⟩ = false := hfr 0 (by omega)
    clear ha hc hcell hfr
    go_wp2_with (go_at_call 55; refine (clip_any g off n c2 _ (by omega) hc2 (by omega)).mono ?_; rintro e w3 ⟨rfl, rfl⟩)
    go_ret
    exact ⟨_, rfl, by rw [← E4.out]; exact hN.set0 (by omega), hB.setCell (p := ⟨g, off, none⟩) (show w.heap.size ≤ g from hg1) _⟩
  · have e0 : ((i : Int) == 0) = false := by simp [h0]
    have E4 := Lib.hid (show zs.set i (iat zs (i - 1)) = mv k zs i by simp [mv, h0])
    have e5 : ((i : Int) - 1).toNat = i - 1 := by omega
    have hi0 : 1 ≤ i := by omega
    clear h0
    go_enter Try.func52, Try.ntmps52
    go_wp2_with (go_at_call 56; refine HC.out.mono ?_; rintro e w2 ⟨A2, c2, rfl, hc2, hN, hB⟩)
    obtain ⟨g, off, rfl, hg1, hg2, hcell, hfr⟩ := hN.2 (by omega)
    obtain ⟨b, off2, rfl, hc⟩ := (ha.below hB (Nat.le_refl _)).2 (by omega)
    have h1 := hc (i - 1) (by omega)
    have h2 := hcell i hi
    have h3 := hfr i hi
    clear ha hc hcell hfr
    go_wp2_with (go_at_call 55; refine (clip_any g off n c2 _ (by omega) hc2 (by omega)).mono ?_; rintro e w3 ⟨rfl, rfl⟩)
    go_ret
    exact ⟨_, rfl, by rw [← E4.out]; exact hN.set_ (j := i) hi, hB.setCell (p := ⟨g, off + i, none⟩) (show w.heap.size ≤ g from hg1) _⟩

set_option maxHeartbeats 800000 in
theorem specMoveOf_any (k : Int) (A : Option Addr) (n c : Nat) (i : Int) (zs : List Int) (w : World) (hn : n ≤ 2000000) (ha : SI w A n zs) :
    Calls Try.prog 23 #[.int .i64 k, .slice A n c, .int .i64 i] w fun e w' => ∃ A' c', e = .returned (.tuple #[.slice A' (mvOf k zs i).length c', .bool (mvOk k zs i)]) ∧ NewI w' w.heap.size A' (mvOf k zs i).length (mvOf k zs i) ∧ Below w.heap.size w w' := by
  have H := Lib.hid (specvalidTokens_any k A n c zs w hn ha)
  have hlen := Lib.hid ha.len
  have hni : -1 ≤ (n : Int) - 1 := by omega
  cases e1 : vtok k zs with
  | false =>
    have E := Lib.hid (show mvOk k zs i = false by simp [mvOk, e1])
    have E2 := Lib.hid (show mvOf k zs i = [] by simp [mvOf, E.out])
    rw [e1] at H
    clear e1 ha
    go_enter Try.func23, Try.ntmps23
    go_wp2_with (go_at_call 40; refine H.out.mono ?_; rintro e w' ⟨rfl, rfl⟩)
    go_ret2
    rw [E.out, E2.out]
    exact ⟨none, 0, rfl, ⟨rfl, fun h => absurd h (by simp)⟩, Below.refl _ _⟩
  | true =>
    have e1' := Lib.hid e1
    rw [e1] at H
    clear e1
    have H2 := Lib.hid (inRange_any i 0 ((n : Int) - 1) w)
    cases e2 : inR i 0 ((n : Int) - 1) with
    | false =>
      have E := Lib.hid (show mvOk k zs i = false by simp [mvOk, hlen.out, e2])
      have E2 := Lib.hid (show mvOf k zs i = [] by simp [mvOf, E.out])
      rw [e2] at H2
      clear e2 ha
      go_enter Try.func23, Try.ntmps23
      go_wp2_with (first | (go_at_call 40; refine H.out.mono ?_; rintro e w' ⟨rfl, rfl⟩) | (go_at_call 48; refine H2.out.mono ?_; rintro e w' ⟨rfl, rfl⟩))
      go_ret2
      rw [E.out, E2.out]
      exact ⟨none, 0, rfl, ⟨rfl, fun h => absurd h (by simp)⟩, Below.refl _ _⟩
    | true =>
      obtain ⟨hi0, hi1⟩ := inR_iff.1 e2
      have e2' := Lib.hid e2
      rw [e2] at H2
      clear e2
      obtain ⟨j, rfl⟩ := Int.eq_ofNat_of_zero_le hi0
      have hj : j < n := by omega
      have H3 := Lib.hid (hasToken_any A n c j zs w hn hj ha)
      cases e3 : tokAt zs j with
      | false =>
        have E := Lib.hid (show mvOk k zs j = false by simp [mvOk, e3])
        have E2 := Lib.hid (show mvOf k zs j = [] by simp [mvOf, E.out])
        rw [e3] at H3
        clear e3 ha
        go_enter Try.func23, Try.ntmps23
        go_wp2_with (first | (go_at_call 40; refine H.out.mono ?_; rintro e w' ⟨rfl, rfl⟩) | (go_at_call 48; refine H2.out.mono ?_; rintro e w' ⟨rfl, rfl⟩) | (go_at_call 49; refine H3.out.mono ?_; rintro e w' ⟨rfl, m, rfl⟩))
        go_ret2
        rw [E.out, E2.out]
        exact ⟨none, 0, rfl, ⟨rfl, fun h => absurd h (by simp)⟩, bDrewN (Below.refl _ _) _⟩
      | true =>
        have E := Lib.hid (show mvOk k zs j = true by simp [mvOk, e1'.out, hlen.out, e2'.out, e3])
        have E2 := Lib.hid (show mvOf k zs j = mv k zs j by simp [mvOf, E.out])
        have hv := vtok_iff.1 e1'.out
        have H4 := Lib.hid (fun m => specmove_any k A n c j zs (w.drewN m) hn hj hv.1.1 hv.1.2 hv.2.2 ha)
        rw [e3] at H3
        have hml := Lib.hid (show (mv k zs j).length = n by rw [mv_length, hlen.out])
        clear e3 ha hv
        go_enter Try.func23, Try.ntmps23
        go_wp2_with (first | (go_at_call 40; refine H.out.mono ?_; rintro e w' ⟨rfl, rfl⟩) | (go_at_call 48; refine H2.out.mono ?_; rintro e w' ⟨rfl, rfl⟩) | (go_at_call 49; refine H3.out.mono ?_; rintro e w' ⟨rfl, m, rfl⟩) | (go_at_call 50; refine (H4.out _).mono ?_; rintro e w' ⟨A', c', rfl, hN, hB⟩))
        go_ret2
        rw [E.out, E2.out, hml.out]
        exact ⟨A', c', rfl, hN, (bDrewN (Below.refl _ _) _).trans hB⟩

set_option maxHeartbeats 800000 in
theorem implMoveOf_any (k : Int) (A : Option Addr) (n c : Nat) (i : Int) (zs : List Int) (w : World) (hn : n ≤ 2000000) (ha : SI w A n zs) :
    Calls Try.prog 24 #[.int .i64 k, .slice A n c, .int .i64 i] w fun e w' => ∃ A' c', e = .returned (.tuple #[.slice A' (mvOf k zs i).length c', .bool (mvOk k zs i)]) ∧ NewI w' w.heap.size A' (mvOf k zs i).length (mvOf k zs i) ∧ Below w.heap.size w w' := by
  have H := Lib.hid (implValidTokens_any k A n c zs w hn ha)
  have hlen := Lib.hid ha.len
  cases e1 : vtok k zs with
  | false =>
    have E := Lib.hid (show mvOk k zs i = false by simp [mvOk, e1])
    have E2 := Lib.hid (show mvOf k zs i = [] by simp [mvOf, E.out])
    rw [e1] at H
    clear e1 ha
    go_enter Try.func24, Try.ntmps24
    go_wp2_with (go_at_call 16; refine H.out.mono ?_; rintro e w1 ⟨rfl, hB1⟩)
    go_ret2
    rw [E.out, E2.out]
    exact ⟨none, 0, rfl, ⟨rfl, fun h => absurd h (by simp)⟩, hB1⟩
  | true =>
    have e1' := Lib.hid e1
    rw [e1] at H
    clear e1
    have hT := toks_any (zs := zs) (i := i)
    have H2 := Lib.hid (fun w1 (hb : Below w.heap.size w w1) => impltokens_any A n c zs w1 hn (ha.below hb (Nat.le_refl _)))
    have HT := Lib.hid (toksTo_length zs zs.length)
    have hlT : (toks zs).length ≤ n := by rw [← hlen.out]; exact HT.out
    cases e2 : ((toks zs).any fun z => i == z) with
    | false =>
      rw [e2] at hT
      have E := Lib.hid (show mvOk k zs i = false by simp only [mvOk, e1'.out, Bool.true_and]; exact hT.symm)
      have E2 := Lib.hid (show mvOf k zs i = [] by simp [mvOf, E.out])
      have H3 := Lib.hid (fun A' c' w2 (hs : SI w2 A' (toks zs).length (toks zs)) => contains_any A' _ c' (toks zs) i w2 (by omega) hs)
      rw [e2] at H3
      clear e2 hT ha
      generalize toks zs = X at *
      go_enter Try.func24, Try.ntmps24
      go_wp2_with (first | (go_at_call 16; refine H.out.mono ?_; rintro e w1 ⟨rfl, hB1⟩) | (go_at_call 46; refine (H2.out _ hB1).mono ?_; rintro e w2 ⟨A2, c2, rfl, hN2, hB2⟩) | (go_at_call 51; refine (H3.out _ _ _ hN2.si).mono ?_; rintro e w3 ⟨rfl, rfl⟩))
      go_ret2
      rw [E.out, E2.out]
      exact ⟨none, 0, rfl, ⟨rfl, fun h => absurd h (by simp)⟩, bstep hB1 hB2⟩
    | true =>
      rw [e2] at hT
      have hT2 := hT.symm
      rw [Bool.and_eq_true] at hT2
      obtain ⟨h1, h2⟩ := hT2
      obtain ⟨hi0, hi1⟩ := inR_iff.1 h1
      obtain ⟨j, rfl⟩ := Int.eq_ofNat_of_zero_le hi0
      have hj : j < n := by rw [← hlen.out]; omega
      have E := Lib.hid (show mvOk k zs j = true by simp only [mvOk, e1'.out, Bool.true_and]; exact hT.symm)
      have E2 := Lib.hid (show mvOf k zs j = mv k zs j by simp [mvOf, E.out])
      have H3 := Lib.hid (fun A' c' w2 (hs : SI w2 A' (toks zs).length (toks zs)) => contains_any A' _ c' (toks zs) (j : Int) w2 (by omega) hs)
      rw [e2] at H3
      have hv := vtok_iff.1 e1'.out
      have H4 := Lib.hid (fun w2 (hb : Below w.heap.size w w2) => implmoved_any k A n c j zs w2 hn hj hv.1.1 hv.1.2 hv.2.2 (ha.below hb (Nat.le_refl _)))
      have hml := Lib.hid (show (mv k zs j).length = n by rw [mv_length, hlen.out])
      clear e2 hT ha hv h1 h2 hi1
      generalize toks zs = X at *
      go_enter Try.func24, Try.ntmps24
      go_wp2_with (first | (go_at_call 16; refine H.out.mono ?_; rintro e w1 ⟨rfl, hB1⟩) | (go_at_call 46; refine (H2.out _ hB1).mono ?_; rintro e w2 ⟨A2, c2, rfl, hN2, hB2⟩) | (go_at_call 51; refine (H3.out _ _ _ hN2.si).mono ?_; rintro e w3 ⟨rfl, rfl⟩) | (go_at_call 52; refine (H4.out _ (bstep hB1 hB2)).mono ?_; rintro e w4 ⟨A4, rfl, hN4, hB4⟩))
      go_ret2
      rw [E.out, E2.out, hml.out]
      have hB := bstep hB1 hB2
      exact ⟨A4, n, rfl, hN4.mono hB.size, bstep hB hB4⟩

end Go.Proofs.Ythhfnhabnaakiaa
