/-
  View1. By a program (wip/tools/mk.py) out of snippets.
-/
import Derived.Test.YtlodhgkecpjieaaViewDef
import Derived.Test.YtlodhgkecpjieaaFn2
import Derived.Test.YtlodhgkecpjieaaFnBase
import Derived.Test.YtlodhgkecpjieaaStep
namespace Go.Proofs.Ytlodhgkecpjieaa
open Go.RowKit

/-- What a valid view gives the walks. -/
structure GV (n k : Nat) (rows : List (List Int)) : Prop where
  n1 : 1 ≤ n
  n2 : n ≤ 16
  k1 : 1 ≤ k
  k2 : k ≤ 4
  len : ∀ i, i < k → (rat rows i).length = n
theorem GV.of {n : Int} {rows : List (List Int)} (h : vv n rows = true) : GV n.toNat rows.length rows := by
  obtain ⟨⟨h1, h2⟩, ⟨h3, h4⟩, h5⟩ := vv_iff.1 h
  exact ⟨by omega, by omega, h3, h4, fun i hi => by have := (h5 i hi).1; omega⟩
theorem all_succ (q : Nat → Bool) (u : Nat) : (List.range (u + 1)).all q = ((List.range u).all q && q u) := by
  rw [List.range_succ, List.all_append]; simp
theorem SI.len_eq {w A n zs} (h : SI w A n zs) {m : Nat} (e : zs.length = m) : n = m := by rw [← h.1, e]
theorem pow16 {n : Nat} (h : n ≤ 16) : 2 ^ n ≤ 65536 := Nat.pow_le_pow_right (n := 2) (by omega) h
theorem cellL1 (w : World) (a : Array Value) (t : TypeId) (o1 o2 : Obj) (i : Nat) : (((w.alloc (.cells a t)).alloc o1).alloc o2).cell? ⟨w.heap.size, i, none⟩ = a[i]? := by
  rw [World.cell?_alloc_past _ _ _ (by simp; omega), World.cell?_alloc_past _ _ _ (by simp), World.cell?_alloc_at _ _ _ _ rfl]

theorem gd_iff {n : Int} {rows : List (List Int)} {s : Int} : gd n rows s = true ↔ vv n rows = true ∧ 0 ≤ s ∧ s ≤ 2 ^ n.toNat - 1 := by
  unfold gd
  rw [Bool.and_eq_true, inR_iff]
/-- What a good set gives. -/
theorem gd_of {n : Int} {k : Nat} {rows : List (List Int)} {s : Int} (h : gd n rows s = true) (hl : rows.length = k) : ∃ N S : Nat, n = N ∧ s = S ∧ GV N k rows ∧ S < 65536 ∧ S < 2 ^ N := by
  obtain ⟨h1, h2, h3⟩ := gd_iff.1 h
  have hG := GV.of h1
  rw [hl] at hG
  have h16 := pow16 hG.n2
  have hc : ((2 : Int) ^ n.toNat) = ((2 ^ n.toNat : Nat) : Int) := by simp
  rw [hc] at h3
  obtain ⟨⟨h4, _⟩, _⟩ := vv_iff.1 h1
  exact ⟨n.toNat, s.toNat, by omega, by omega, hG, by omega, by omega⟩

theorem specpower_any (k : Nat) (w : World) (hk : k ≤ 60) :
    Calls Try.prog 68 #[.int .i64 k] w fun e w' => e = .returned (.int .i64 ((2 ^ k : Nat) : Int)) ∧ w = w' := by
  have hp : 2 ^ k ≤ 1152921504606846976 := by
    have := Nat.pow_le_pow_right (n := 2) (by omega) hk
    exact Nat.le_trans this (by decide)
  obtain ⟨p, hP⟩ : ∃ p, p = 2 ^ k := ⟨_, rfl⟩
  rw [← hP] at hp
  have HP := Lib.hid hP
  rw [← hP]
  clear hP
  go_enter Try.func68, Try.ntmps68
  go_wp2
  go_loopg [0, 3] k (fun gg nv av wr => ∃ j a : Nat, j ≤ gg ∧ nv = .int .i64 j ∧ av = .int .i64 a ∧ a ≤ p ∧ Aside (a * 2 ^ j = 2 ^ k) ∧ j ≤ k ∧ w = wr)
  case atStart => exact ⟨k, 1, Nat.le_refl _, rfl, rfl, by rw [HP.out]; exact Nat.one_le_two_pow, Nat.one_mul _, Nat.le_refl _, rfl⟩
  case round =>
    obtain ⟨j, a, hg, rfl, rfl, ha, HA, hj, rfl⟩ := hrel
    by_cases h0 : 0 < j
    · obtain ⟨j, rfl⟩ : ∃ i, j = i + 1 := ⟨j - 1, by omega⟩
      have h2 : 2 * a ≤ p := by
        have h1 := HA.out
        rw [HP.out, ← h1, Nat.pow_succ, ← Nat.mul_assoc, Nat.mul_comm 2 a]
        exact Nat.mul_le_mul_right _ (Nat.le_mul_of_pos_right _ (Nat.two_pow_pos j))
      go_wp2
      go_roundg j
      case measure => omega
      case rel => exact ⟨j, 2 * a, Nat.le_refl _, by go_num, by go_num, h2, by show 2 * a * 2 ^ j = 2 ^ k; have h1 := HA.out; rw [Nat.pow_succ] at h1; rw [← h1, Nat.mul_comm 2 a, Nat.mul_assoc, Nat.mul_comm 2 (2 ^ j)], by omega, rfl⟩
    · obtain rfl : j = 0 := by omega
      have h1 : a = p := by have h1 := HA.out; rw [HP.out, ← h1]; simp
      subst h1
      go_wp2
      go_ret
      exact ⟨rfl, rfl⟩

/-- A bit, 0 or 1. -/
def bitI (x j : Nat) : Int := if x.testBit j then 1 else 0
theorem bitI_of (x j : Nat) : (x : Int) / ((2 ^ j : Nat) : Int) % 2 = bitI x j := by
  rw [← Int.natCast_ediv]
  unfold bitI
  have h := Nat.testBit_eq_decide_div_mod_eq (x := x) (i := j)
  rw [h]
  generalize x / 2 ^ j = q
  by_cases e : q % 2 = 1
  · simp [e]; omega
  · have : q % 2 = 0 := by omega
    simp [this]; omega

theorem specbit_any (x j : Nat) (w : World) (hj : j ≤ 60) (hx : x ≤ 4611686018427387904) :
    Calls Try.prog 66 #[.int .i64 x, .int .i64 j] w fun e w' => e = .returned (.int .i64 (bitI x j)) ∧ w = w' := by
  have H := Lib.hid (specpower_any j w hj)
  have hb := Lib.hid (bitI_of x j)
  have hp : 0 < 2 ^ j := Nat.two_pow_pos j
  have hp2 : 2 ^ j ≤ 1152921504606846976 := Nat.le_trans (Nat.pow_le_pow_right (n := 2) (by omega) hj) (by decide)
  generalize 2 ^ j = p at H hb hp hp2
  have e1 : ((p : Int) == 0) = false := by simp; omega
  have e2 : 0 ≤ (x : Int) / (p : Int) := Int.ediv_nonneg (by omega) (by omega)
  have e3 : (x : Int) / (p : Int) ≤ x := Int.ediv_le_self _ (by omega)
  go_enter Try.func66, Try.ntmps66
  go_wp2_with (go_at_call 68; refine H.out.mono ?_; rintro e w' ⟨rfl, rfl⟩)
  go_ret
  exact ⟨by rw [← hb.out]; rfl, rfl⟩

theorem lawbit_any (x j : Nat) (w : World) (hj : j ≤ 60) (hx : x ≤ 4611686018427387904) :
    Calls Try.prog 40 #[.int .i64 x, .int .i64 j] w fun e w' => e = .returned (.int .i64 (bitI x j)) ∧ w = w' := by
  have H := Lib.hid (power_any j w hj)
  have hb := Lib.hid (bitI_of x j)
  have hp : 0 < 2 ^ j := Nat.two_pow_pos j
  have hp2 : 2 ^ j ≤ 1152921504606846976 := Nat.le_trans (Nat.pow_le_pow_right (n := 2) (by omega) hj) (by decide)
  generalize 2 ^ j = p at H hb hp hp2
  have e1 : ((p : Int) == 0) = false := by simp; omega
  have e2 : 0 ≤ (x : Int) / (p : Int) := Int.ediv_nonneg (by omega) (by omega)
  have e3 : (x : Int) / (p : Int) ≤ x := Int.ediv_le_self _ (by omega)
  go_enter Try.func40, Try.ntmps40
  go_wp2_with (go_at_call 37; refine H.out.mono ?_; rintro e w' ⟨rfl, rfl⟩)
  go_ret
  exact ⟨by rw [← hb.out]; rfl, rfl⟩

set_option maxHeartbeats 800000 in
theorem toView_any (n : Int) (A : Option Addr) (k c : Nat) (rows : List (List Int)) (w : World) (hk : k ≤ 2000000) (hr : ∀ i, i < k → (rat rows i).length ≤ 2000000) (ha : SS w A k rows) :
    Calls Try.prog 17 #[.agg #[.int .i64 n, .slice A k c]] w fun e w' => ∃ A' c', e = .returned (.agg #[.int .i64 n, .slice A' k c']) ∧ k ≤ c' ∧ SS w' A' k rows ∧ Below w.heap.size w w' := by
  have C := Lib.hid (fun w h => toIntSS_any A k c rows w hk hr h)
  have HA := Lib.hid ha; clear ha hr
  go_enter Try.func17, Try.ntmps17
  go_wp2_with fail
  obtain ⟨W, hW⟩ : ∃ W, W = ((w.alloc (.cells #[.int .i64 n, .slice A k c] 24)).alloc (.cells #[.int .i64 0, .slice none 0 0] 27)).alloc (.cells #[.int .i64 n, .slice none 0 0] 27) := ⟨_, rfl⟩
  have hB : Below w.heap.size w W := by rw [hW]; exact (((Below.refl _ _).alloc (Nat.le_refl _) _).alloc (by simp) _).alloc (by simp; omega) _
  have hz : W.heap.size = w.heap.size + 3 := by rw [hW]; simp [World.cell?_alloc_at, World.cell?_alloc_past]
  have c0 : W.cell? ⟨w.heap.size + 1 + 1, 0, none⟩ = some (.int .i64 n) := by rw [hW]; simp [World.cell?_alloc_at, World.cell?_alloc_past]
  have c1 : W.cell? ⟨w.heap.size + 1 + 1, 1, none⟩ = some (.slice none 0 0) := by rw [hW]; simp [World.cell?_alloc_at, World.cell?_alloc_past]
  have d0 : W.cell? ⟨w.heap.size + 1, 0, none⟩ = some (.int .i64 0) := by rw [hW]; simp [World.cell?_alloc_at, World.cell?_alloc_past]
  have d1 : W.cell? ⟨w.heap.size + 1, 1, none⟩ = some (.slice none 0 0) := by rw [hW]; simp [World.cell?_alloc_at, World.cell?_alloc_past]
  have f0 : W.frozen? ⟨w.heap.size + 1 + 1, 1, none⟩ = false := by rw [hW]; go_simp
  have g0 : W.frozen? ⟨w.heap.size + 1, 0, none⟩ = false := by rw [hW]; go_simp
  have g1 : W.frozen? ⟨w.heap.size + 1, 1, none⟩ = false := by rw [hW]; go_simp
  rw [← hW]
  have HS := Lib.hid (HA.out.below hB (Nat.le_refl _))
  have HLt := Lib.hid hz
  clear hW HA
  refine (C.out W HS.out).mono ?_
  rintro e w2 ⟨A2, c2, rfl, hc2, h2, b2⟩
  have lt : ∀ b, b < w.heap.size + 3 → b < W.heap.size := fun b h => by omega
  replace c0 := (b2.cell (p := ⟨w.heap.size + 1 + 1, 0, none⟩) (lt _ (by show w.heap.size + 1 + 1 < _; omega))).trans c0
  replace c1 := (b2.cell (p := ⟨w.heap.size + 1 + 1, 1, none⟩) (lt _ (by show w.heap.size + 1 + 1 < _; omega))).trans c1
  replace d0 := (b2.cell (p := ⟨w.heap.size + 1, 0, none⟩) (lt _ (by show w.heap.size + 1 < _; omega))).trans d0
  replace d1 := (b2.cell (p := ⟨w.heap.size + 1, 1, none⟩) (lt _ (by show w.heap.size + 1 < _; omega))).trans d1
  replace f0 := (b2.frozen (p := ⟨w.heap.size + 1 + 1, 1, none⟩) (lt _ (by show w.heap.size + 1 + 1 < _; omega))).trans f0
  replace g0 := (b2.frozen (p := ⟨w.heap.size + 1, 0, none⟩) (lt _ (by show w.heap.size + 1 < _; omega))).trans g0
  replace g1 := (b2.frozen (p := ⟨w.heap.size + 1, 1, none⟩) (lt _ (by show w.heap.size + 1 < _; omega))).trans g1
  have hB2 := Lib.hid (hB.trans (b2.mono hB.size))
  have H2 := Lib.hid h2
  clear hB b2 h2 HS C lt hz
  go_wp2_with fail
  refine bodyPost_ret (v := .agg #[.int .i64 n, .slice A2 k c2]) ?_ rfl ⟨A2, c2, rfl, hc2, ?_, ?_⟩
  · have hres : Try.f17.results = #[.cell 2 27] := by kernel_rfl
    simp only [results, hres]
    go_simp
  · exact (((H2.out.setLow (by have := HLt.out; omega)).setLow (by have := HLt.out; omega)).setLow (by have := HLt.out; omega)).ss
  · exact ((hB2.out.setCell (by show w.heap.size ≤ w.heap.size + 1 + 1; omega) _).setCell (by show w.heap.size ≤ w.heap.size + 1; omega) _).setCell (by show w.heap.size ≤ w.heap.size + 1; omega) _

set_option maxHeartbeats 800000 in
theorem eqView_true (n : Int) (A B : Option Addr) (k c c' : Nat) (rows : List (List Int)) (w : World) (hk : k ≤ 2000000) (hr : ∀ i, i < k → (rat rows i).length ≤ 2000000) (ha : SS w A k rows) (hb : SS w B k rows) :
    Calls Try.prog 19 #[.agg #[.int .i64 n, .slice A k c], .agg #[.int .i64 n, .slice B k c']] w fun e w' => e = .returned (.bool true) ∧ Below w.heap.size w w' := by
  have C := Lib.hid (fun w h1 h2 => eqIntSS_true A B k c c' rows w (by omega) hr h1 h2)
  have HA := Lib.hid ((ha.alloc (.cells #[.int .i64 n, .slice A k c] 27)).alloc (.cells #[.int .i64 n, .slice B k c'] 27))
  have HB := Lib.hid ((hb.alloc (.cells #[.int .i64 n, .slice A k c] 27)).alloc (.cells #[.int .i64 n, .slice B k c'] 27))
  have hB : Below w.heap.size w ((w.alloc (.cells #[.int .i64 n, .slice A k c] 27)).alloc (.cells #[.int .i64 n, .slice B k c'] 27)) := ((Below.refl _ _).alloc (Nat.le_refl _) _).alloc (by simp) _
  have HBe := Lib.hid hB
  clear ha hb hr hB
  go_enter Try.func19, Try.ntmps19
  go_wp2_with fail
  refine (C.out _ HA.out HB.out).mono ?_
  rintro e w' ⟨rfl, q, rfl⟩
  go_wp2_with fail
  go_ret
  exact ⟨rfl, bDrewN HBe.out q⟩

set_option maxHeartbeats 800000 in
theorem szView_any (n : Int) (A : Option Addr) (k c : Nat) (rows : List (List Int)) (w : World) (hk : k ≤ 9223372036854775807) (hr : ∀ i, i < k → (rat rows i).length ≤ 9223372036854775807) (ha : SS w A k rows) :
    Calls Try.prog 15 #[.agg #[.int .i64 n, .slice A k c], .int .i64 1048576] w fun e w' => ∃ z : Int, e = .returned (.int .i64 z) ∧ Below w.heap.size w w' ∧ (0 ≤ z → k ≤ 2000000 ∧ ∀ i, i < k → (rat rows i).length ≤ 2000000) := by
  have C := Lib.hid (fun w h => szIntSS_any A k c rows 1048576 w (by omega) (by omega) hk hr h)
  have HA := Lib.hid (ha.alloc (.cells #[.int .i64 n, .slice A k c] 24))
  have HB := Lib.hid (show Below w.heap.size w (w.alloc (.cells #[.int .i64 n, .slice A k c] 24)) from (Below.refl _ _).alloc (Nat.le_refl _) _)
  clear ha hr
  go_enter Try.func15, Try.ntmps15
  go_wp2_with fail
  refine (C.out _ HA.out).mono ?_
  rintro e w' ⟨z, rfl, rfl, hz0, hz1, hz⟩
  have HZ := Lib.hid hz; clear hz
  by_cases h : z < 0
  · go_wp2_with fail
    go_ret
    exact ⟨-1, rfl, HB.out, fun h => absurd h (by omega)⟩
  · go_wp2_with fail
    go_ret
    exact ⟨z, rfl, HB.out, fun h => ⟨by have := (HZ.out h).1; omega, fun i hi => by have := (HZ.out h).2 i hi; omega⟩⟩

end Go.Proofs.Ytlodhgkecpjieaa
