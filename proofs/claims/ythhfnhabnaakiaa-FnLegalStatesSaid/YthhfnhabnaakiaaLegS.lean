/-
  LegS. By a program (wip/tools/mk.py) out of snippets.
-/
import Derived.Test.YthhfnhabnaakiaaLegDef
import Derived.Test.YthhfnhabnaakiaaBase
import Derived.Test.YthhfnhabnaakiaaOV
namespace Go.Proofs.Ythhfnhabnaakiaa
open Go.RowKit

theorem pow_le_big {K N j : Nat} (hK : 2 ≤ K) (hK5 : K ≤ 5) (hj : j ≤ N) (hN5 : N ≤ 5) : 1 ≤ K ^ j ∧ K ^ j ≤ 3125 := by
  have h1 : K ^ j ≤ 5 ^ j := Nat.pow_le_pow_left hK5 j
  have h2 : 5 ^ j ≤ 5 ^ 5 := Nat.pow_le_pow_right (by omega) (by omega)
  have h3 : 0 < K ^ j := Nat.pow_pos (by omega)
  have h4 : (5 : Nat) ^ 5 = 3125 := rfl
  omega

theorem times_any (K N : Nat) (w : World) (hK : 2 ≤ K) (hK5 : K ≤ 5) (hN5 : N ≤ 5) :
    Calls Try.prog 57 #[.int .i64 K, .int .i64 N] w fun e w' => e = .returned (.int .i64 ((K ^ N : Nat) : Int)) ∧ w = w' := by
  have HP := Lib.hid (fun j (hj : j ≤ N) => pow_le_big hK hK5 hj hN5)
  go_enter Try.func57, Try.ntmps57
  go_wp2
  go_loopw [1, 5] (fun s1 s5 wr => ∃ (j p : Nat), j ≤ N ∧ s1 = .int .i64 ((N : Int) - j) ∧ s5 = .int .i64 p ∧ Hid (p = K ^ j) ∧ w = wr) (fun s1 _ _ => (intOf s1).toNat)
  case atStart => exact ⟨0, 1, by omega, by simp, rfl, Lib.hid rfl, rfl⟩
  case round =>
    obtain ⟨j, p, hj, rfl, rfl, hp, rfl⟩ := hrel
    have hb := HP.out j hj
    rw [← hp.out] at hb
    by_cases hlt : j < N
    · have hb2 := HP.out (j + 1) (by omega)
      have hq : K ^ (j + 1) = p * K := by rw [Nat.pow_succ, hp.out]
      rw [hq] at hb2
      obtain ⟨q, hqq⟩ : ∃ q, q = p * K := ⟨_, rfl⟩
      have hq2 := Lib.hid (show q = K ^ (j + 1) by rw [hqq, hq])
      have hmul : (p : Int) * (K : Int) = (q : Int) := by rw [hqq]; simp
      rw [← hqq] at hb2
      have hw : IntKind.i64.wrap ((p : Int) * (K : Int)) = (q : Int) := by rw [hmul, IntKind.wrap_i64]; omega
      have hw2 : IntKind.i64.wrap (q : Int) = (q : Int) := by rw [IntKind.wrap_i64]; omega
      have hpos : decide (((N : Int) - j) > 0) = true := by simp; omega
      clear hqq hq
      go_wp2
      go_roundw
      case rel => exact ⟨j + 1, q, by omega, by go_num, by first | rfl | go_num, hq2, by first | rfl | trivial⟩
      case measure => simp [intOf]; omega
    · obtain rfl : j = N := by omega
      have hz : ((j : Int) - j) = 0 := by omega
      rw [hz]
      go_wp2
      go_ret
      exact ⟨by rw [hp.out]; rfl, rfl⟩

set_option maxHeartbeats 800000 in
theorem statesOf_any (K N x : Nat) (w : World) (hK : 2 ≤ K) (hK5 : K ≤ 5) (hN : 1 ≤ N) (hN5 : N ≤ 5) (hx : x ≤ 4000) :
    Calls Try.prog 58 #[.int .i64 K, .int .i64 N, .int .i64 x] w fun e w' => ∃ g, e = .returned (.slice (some ⟨g, 0, none⟩) N N) ∧ w'.ownsRow w.heap.size 3 1 (.slice (some ⟨g, 0, none⟩) N N) N ((stL K N x).map (Value.int .i64)) ∧ Below w.heap.size w w' := by
  obtain ⟨i0, hi, hz0, hz1, hz2⟩ := info_parts info3
  go_enter Try.func58, Try.ntmps58
  go_wp2_with (at_make; refine wpList_make_full _ rfl _ _ 23 rfl w.heap.size 3 i0 (.int .i64 0) 1 Try.underlying23 hi hz0 hz1 _ _ _ _ N rfl rfl rfl rfl ?b1 ?b2 (Nat.le_refl _) ?_)
  case b1 => rw [hz2]; omega
  case b2 => unfold maxLen; omega
  intro w1 hown hgrow
  rw [madeInts, ← loL_zero K N x] at hown
  have hb1 : Below w.heap.size w w1 := (Below.refl _ _).grown hgrow (Nat.le_refl _) (fun k h => by cases h)
  clear hgrow
  go_wp2
  go_loopw [2, 8] (fun s2 s8 wr => ∃ j y : Nat, j ≤ N ∧ s8 = .int .i64 ((N : Int) - 1 - j) ∧ s2 = .int .i64 y ∧ y ≤ 4000 ∧ Hid (y = x / K ^ j) ∧ wr.ownsRow w.heap.size 3 1 (.slice (some ⟨w.heap.size, 0, none⟩) N N) N ((loL K N j x).map (Value.int .i64)) ∧ Below w.heap.size w wr) (fun _ s8 _ => ((intOf s8) + 1).toNat)
  case atStart => exact ⟨0, x, by omega, by go_num, rfl, hx, Lib.hid (by simp), hown, hb1⟩
  case round =>
    clear hown hb1
    obtain ⟨j, y, hj, rfl, rfl, hy, hyy, hown, hbw⟩ := hrel
    by_cases hlt : j < N
    · obtain ⟨i, hi'⟩ : ∃ i : Nat, i = N - 1 - j := ⟨_, rfl⟩
      rw [show ((N : Int) - 1 - j) = (i : Int) by omega]
      obtain ⟨d, hd⟩ : ∃ d : Nat, d = y % K := ⟨_, rfl⟩
      obtain ⟨z, hz⟩ : ∃ z : Nat, z = y / K := ⟨_, rfl⟩
      have hz4 : z ≤ 4000 := by have := Nat.div_le_self y K; omega
      have hd5 : d < 5 := by have := Nat.mod_lt y (show 0 < K by omega); omega
      have m1 : (y : Int).tmod K = (d : Int) := by rw [hd]; exact (Int.ofNat_tmod _ _).symm
      have m2 : (y : Int) % K = (d : Int) := by rw [hd]; simp
      have m3 : (y : Int).tdiv K = (z : Int) := by rw [hz]; exact (Int.ofNat_tdiv _ _).symm
      have m4 : (y : Int) / K = (z : Int) := by rw [hz]; simp
      have hwd : IntKind.i64.wrap (d : Int) = (d : Int) := by rw [IntKind.wrap_i64]; omega
      have hwz : IntKind.i64.wrap (z : Int) = (z : Int) := by rw [IntKind.wrap_i64]; omega
      have hK0 : ((K : Int) == 0) = false := by simp; omega
      have HZz := Lib.hid (show z = x / K ^ (j + 1) by rw [hz, hyy.out, Nat.div_div_eq_div_mul, Nat.pow_succ])
      have hcell := own_cell hown (j := i) (by omega)
      have hfz := World.ownsRow.frozenAt hown i
      have hst := own_stored hown i (d : Int)
      rw [hi', show ((d : Nat) : Int) = ((x / K ^ j % K : Nat) : Int) by rw [hd, hyy.out], loL_set hlt, ← hi', show ((x / K ^ j % K : Nat) : Int) = ((d : Nat) : Int) by rw [hd, hyy.out]] at hst
      obtain ⟨hst1, hst2⟩ := hst
      have HST := Lib.hid hst1
      have HB := Lib.hid (show Below w.heap.size w (wr.setCell ⟨w.heap.size, i, none⟩ (.int .i64 d)) from hbw.setCell (Nat.le_refl _) _)
      have hge : decide ((0 : Int) ≤ (i : Int)) = true := by simp
      have HI := Lib.hid hi'
      have hiN : i < N := by omega
      clear hown hbw hst1 hst2 hd hz hi'
      go_wp2
      go_roundw
      case rel => exact ⟨j + 1, z, by omega, by have := HI.out; first | (congr 1; omega; done) | go_num, by first | rfl | go_num, hz4, HZz, HST.out, HB.out⟩
      case measure => have := HI.out; first | (simp [intOf]; done) | (simp [intOf]; omega)
    · obtain rfl : j = N := by omega
      rw [loL_full] at hown
      have HO := Lib.hid hown
      clear hown
      go_wp2
      go_ret
      exact ⟨_, rfl, HO.out, hbw⟩

end Go.Proofs.Ythhfnhabnaakiaa
