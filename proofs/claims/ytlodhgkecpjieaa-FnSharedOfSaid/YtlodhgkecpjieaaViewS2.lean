/-
  ViewS2. By a program (wip/tools/mk.py) out of snippets.
-/
import Derived.Test.YtlodhgkecpjieaaViewS
namespace Go.Proofs.Ytlodhgkecpjieaa
open Go.RowKit

set_option maxHeartbeats 800000 in
theorem specall_any (n k c s : Nat) (A : Option Addr) (rows : List (List Int)) (w : World) (hG : GV n k rows) (hs : s < 65536) (ha : SS w A k rows) :
    Calls Try.prog 63 #[.agg #[.int .i64 n, .slice A k c], .int .i64 s] w fun e w' => e = .returned (.int .i64 (alV rows n s : Nat)) ∧ Below w.heap.size w w' := by
  have hL : rows.length = k := ha.1
  have HAL := Lib.hid (show alV rows n s = alTo rows n s k by unfold alV; rw [hL])
  have HL := Lib.hid hL; clear hL
  obtain ⟨W, hW⟩ : ∃ W, W = w.alloc (.cells #[.int .i64 n, .slice A k c] 27) := ⟨_, rfl⟩
  have hB : Below w.heap.size w W := by rw [hW]; exact (Below.refl _ _).alloc (Nat.le_refl _) _
  have hz : W.heap.size = w.heap.size + 1 := by rw [hW]; simp
  have c0 : W.cell? ⟨w.heap.size, 0, none⟩ = some (.int .i64 n) := by rw [hW]; simp
  have c1 : W.cell? ⟨w.heap.size, 1, none⟩ = some (.slice A k c) := by rw [hW]; simp
  have HK := Lib.hid (fun (a : Nat) (haK : a < k) (w' : World) (hw : Below w.heap.size w w') => specknows_any n k c a s A rows w' hG haK hs (ha.below hw (Nat.le_refl _)))
  have hn := hG.n2
  have hk := hG.k2
  have HN := Lib.hid (pow16 hG.n2)
  have HPow := Lib.hid (fun w => specpower_any n w (by omega))
  have hp := Nat.two_pow_pos n
  have hp2 := pow16 hG.n2
  have HB := Lib.hid hB
  have HZ := Lib.hid hz
  have C0 := Lib.hid c0
  have C1 := Lib.hid c1
  have HE : 2 ^ n - 1 = alTo rows n s 0 := (alTo_zero rows n s).symm
  have HE' := Lib.hid (show ((2 ^ n : Nat) : Int) - 1 = (alTo rows n s 0 : Nat) by rw [← HE]; omega)
  clear ha hG hz c0 c1 hB HE
  go_enter Try.func63, Try.ntmps63
  go_wp2_with fail
  refine (HPow.out _).mono ?_
  rintro e w' ⟨rfl, rfl⟩
  generalize 2 ^ n = pn at *
  go_wp2_with fail
  rw [← hW]
  clear hW
  go_loopg [5, 6] k (fun gg s5 s6 wr => ∃ j : Nat, j ≤ k ∧ k - j ≤ gg ∧ s6 = .int .i64 j ∧ s5 = .int .i64 (alTo rows n s j : Nat) ∧ Below W.heap.size W wr)
  case atStart => exact ⟨0, Nat.zero_le _, by omega, rfl, by rw [← HE'.out], Below.refl _ _⟩
  case round =>
    obtain ⟨j, hj, hg, rfl, rfl, hbw⟩ := hrel
    have c0 := (hbw.cell (p := ⟨w.heap.size, 0, none⟩) (by show w.heap.size < _; have := HZ.out; omega)).trans C0.out
    have c1 := (hbw.cell (p := ⟨w.heap.size, 1, none⟩) (by show w.heap.size < _; have := HZ.out; omega)).trans C1.out
    have HBW := Lib.hid hbw
    have HBw := Lib.hid (HB.out.trans (hbw.mono HB.out.size))
    clear hbw
    by_cases hlt : j < k
    · have ht := alTo_lt rows n s j
      have hkl := knV_lt (rat rows j) n s
      have hq := pow16 hn
      have HS := Lib.hid (alTo_succ (n := n) (s := s) (show j < rows.length by rw [HL.out]; exact hlt))
      have hb := bits_and64 (alTo rows n s j) (knV (rat rows j) n s) (by omega) (by omega)
      have HKj := Lib.hid (HK.out j hlt wr HBw.out)
      generalize alTo rows n s j = x at *
      generalize knV (rat rows j) n s = y at *
      clear ht hkl hq
      go_wp2_with fail
      refine HKj.out.mono ?_
      rintro e w2 ⟨rfl, hb2⟩
      have HB2 := Lib.hid (bstep HBW.out hb2)
      clear hb2
      go_wp2_with fail
      go_roundg (k - (j + 1))
      case measure => omega
      case rel => exact ⟨j + 1, by omega, by omega, by go_num, by rw [HS.out], HB2.out⟩
    · obtain rfl : j = k := by omega
      go_wp2
      go_ret
      exact ⟨by rw [HAL.out]; rfl, HBw.out⟩

set_option maxHeartbeats 800000 in
theorem specKnowsOf_any (n a s : Int) (A : Option Addr) (k c : Nat) (rows : List (List Int)) (w : World) (hk : k ≤ 2000000) (hr : ∀ i, i < k → (rat rows i).length ≤ 2000000) (ha : SS w A k rows) :
    Calls Try.prog 26 #[.agg #[.int .i64 n, .slice A k c], .int .i64 a, .int .i64 s] w fun e w' => e = .returned (.int .i64 (knA n rows a s)) ∧ Below w.heap.size w w' := by
  obtain ⟨W, hW⟩ : ∃ W, W = w.alloc (.cells #[.int .i64 n, .slice A k c] 27) := ⟨_, rfl⟩
  have hB : Below w.heap.size w W := by rw [hW]; exact (Below.refl _ _).alloc (Nat.le_refl _) _
  have hz : W.heap.size = w.heap.size + 1 := by rw [hW]; simp
  have c0 : W.cell? ⟨w.heap.size, 0, none⟩ = some (.int .i64 n) := by rw [hW]; simp
  have c1 : W.cell? ⟨w.heap.size, 1, none⟩ = some (.slice A k c) := by rw [hW]; simp
  have hS : SS W A k rows := ha.below hB (Nat.le_refl _)
  have C := Lib.hid (specgood_any n s A k c rows W hk hr hS)
  have HL := Lib.hid ha.1
  have HB := Lib.hid hB
  have HZ := Lib.hid hz
  have C0 := Lib.hid c0
  have C1 := Lib.hid c1
  have HS := Lib.hid hS
  have HR := Lib.hid (fun w => inRange_any a 0 ((k : Int) - 1) w)
  clear ha hr hB hz c0 c1 hS
  cases e : gd n rows s with
  | false =>
    rw [e] at C
    have hv := Lib.hid (show knA n rows a s = -1 by simp [knA, e])
    clear e
    go_enter Try.func26, Try.ntmps26
    go_wp2_with fail
    rw [← hW]
    clear hW
    refine C.out.mono ?_
    rintro e w' ⟨rfl, b1⟩
    have b1' := Lib.hid (bstep HB.out b1)
    clear b1
    go_wp2_with fail
    go_ret
    exact ⟨by rw [hv.out]; rfl, b1'.out⟩
  | true =>
    rw [e] at C
    have E := Lib.hid e
    obtain ⟨N, S, rfl, rfl, hG, hS1, _⟩ := gd_of e HL.out
    have hk2 := hG.k2
    clear e
    cases e2 : inR a 0 ((k : Int) - 1) with
    | false =>
      rw [e2] at HR
      have hv := Lib.hid (show knA N rows a S = -1 by simp [knA, HL.out, e2])
      clear e2
      go_enter Try.func26, Try.ntmps26
      go_wp2_with fail
      rw [← hW]
      clear hW
      refine C.out.mono ?_
      rintro e w' ⟨rfl, b1⟩
      have c1 := (b1.cell (p := ⟨w.heap.size, 1, none⟩) (by show w.heap.size < _; have := HZ.out; omega)).trans C1.out
      have b1' := Lib.hid (bstep HB.out b1)
      clear b1
      go_wp2_with fail
      refine (HR.out _).mono ?_
      rintro e w'' ⟨rfl, rfl⟩
      go_wp2_with fail
      go_ret
      exact ⟨by rw [hv.out]; rfl, b1'.out⟩
    | true =>
      rw [e2] at HR
      obtain ⟨ha0, ha1⟩ := inR_iff.1 e2
      obtain ⟨a, rfl⟩ := Int.eq_ofNat_of_zero_le ha0
      have hv := Lib.hid (show knA N rows a S = (knV (rat rows a) N S : Nat) by simp [knA, HL.out, e2, E.out])
      have HK := Lib.hid (fun (w' : World) (hw : Below W.heap.size W w') => specknows_any N k c a S A rows w' hG (by omega) hS1 (HS.out.below hw (Nat.le_refl _)))
      clear e2 hG
      go_enter Try.func26, Try.ntmps26
      go_wp2_with fail
      rw [← hW]
      clear hW
      refine C.out.mono ?_
      rintro e w' ⟨rfl, b1⟩
      have c0 := (b1.cell (p := ⟨w.heap.size, 0, none⟩) (by show w.heap.size < _; have := HZ.out; omega)).trans C0.out
      have c1 := (b1.cell (p := ⟨w.heap.size, 1, none⟩) (by show w.heap.size < _; have := HZ.out; omega)).trans C1.out
      have HKw := Lib.hid (HK.out _ b1)
      have b1' := Lib.hid (bstep HB.out b1)
      clear b1
      go_wp2_with fail
      refine (HR.out _).mono ?_
      rintro e w'' ⟨rfl, rfl⟩
      go_wp2_with fail
      refine HKw.out.mono ?_
      rintro e w3 ⟨rfl, b3⟩
      have b3' := Lib.hid (bstep b1'.out b3)
      clear b3
      go_wp2_with fail
      go_ret
      exact ⟨by rw [hv.out]; rfl, b3'.out⟩

set_option maxHeartbeats 800000 in
theorem specAllKnow_any (n s : Int) (A : Option Addr) (k c : Nat) (rows : List (List Int)) (w : World) (hk : k ≤ 2000000) (hr : ∀ i, i < k → (rat rows i).length ≤ 2000000) (ha : SS w A k rows) :
    Calls Try.prog 28 #[.agg #[.int .i64 n, .slice A k c], .int .i64 s] w fun e w' => e = .returned (.int .i64 (alA n rows s)) ∧ Below w.heap.size w w' := by
  obtain ⟨W, hW⟩ : ∃ W, W = w.alloc (.cells #[.int .i64 n, .slice A k c] 27) := ⟨_, rfl⟩
  have hB : Below w.heap.size w W := by rw [hW]; exact (Below.refl _ _).alloc (Nat.le_refl _) _
  have hz : W.heap.size = w.heap.size + 1 := by rw [hW]; simp
  have c0 : W.cell? ⟨w.heap.size, 0, none⟩ = some (.int .i64 n) := by rw [hW]; simp
  have c1 : W.cell? ⟨w.heap.size, 1, none⟩ = some (.slice A k c) := by rw [hW]; simp
  have hS : SS W A k rows := ha.below hB (Nat.le_refl _)
  have C := Lib.hid (specgood_any n s A k c rows W hk hr hS)
  have HL := Lib.hid ha.1
  have HB := Lib.hid hB
  have HZ := Lib.hid hz
  have C0 := Lib.hid c0
  have C1 := Lib.hid c1
  have HS := Lib.hid hS
  clear ha hr hB hz c0 c1 hS
  cases e : gd n rows s with
  | false =>
    rw [e] at C
    have hv := Lib.hid (show alA n rows s = -1 by simp [alA, e])
    clear e
    go_enter Try.func28, Try.ntmps28
    go_wp2_with fail
    rw [← hW]
    clear hW
    refine C.out.mono ?_
    rintro e w' ⟨rfl, b1⟩
    have b1' := Lib.hid (bstep HB.out b1)
    clear b1
    go_wp2_with fail
    go_ret
    exact ⟨by rw [hv.out]; rfl, b1'.out⟩
  | true =>
    rw [e] at C
    have E := Lib.hid e
    obtain ⟨N, S, rfl, rfl, hG, hS1, _⟩ := gd_of e HL.out
    have hk2 := hG.k2
    have hv := Lib.hid (show alA N rows S = (alV rows N S : Nat) by simp [alA, E.out])
    have HK := Lib.hid (fun (w' : World) (hw : Below W.heap.size W w') => specall_any N k c S A rows w' hG hS1 (HS.out.below hw (Nat.le_refl _)))
    clear e hG
    go_enter Try.func28, Try.ntmps28
    go_wp2_with fail
    rw [← hW]
    clear hW
    refine C.out.mono ?_
    rintro e w' ⟨rfl, b1⟩
    have c0 := (b1.cell (p := ⟨w.heap.size, 0, none⟩) (by show w.heap.size < _; have := HZ.out; omega)).trans C0.out
    have c1 := (b1.cell (p := ⟨w.heap.size, 1, none⟩) (by show w.heap.size < _; have := HZ.out; omega)).trans C1.out
    have HKw := Lib.hid (HK.out _ b1)
    have b1' := Lib.hid (bstep HB.out b1)
    clear b1
    go_wp2_with fail
    refine HKw.out.mono ?_
    rintro e w3 ⟨rfl, b3⟩
    have b3' := Lib.hid (bstep b1'.out b3)
    clear b3
    go_wp2_with fail
    go_ret
    exact ⟨by rw [hv.out]; rfl, b3'.out⟩

end Go.Proofs.Ytlodhgkecpjieaa
