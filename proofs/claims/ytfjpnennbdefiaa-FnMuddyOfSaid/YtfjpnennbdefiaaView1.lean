/-
  View1. By a program (wip/tools/mk.py) out of snippets.
-/
import Derived.Test.YtfjpnennbdefiaaViewDef
import Derived.Test.YtfjpnennbdefiaaFn2
import Derived.Test.YtfjpnennbdefiaaFnBase
import Derived.Test.YtfjpnennbdefiaaStep
namespace Go.Proofs.Ytfjpnennbdefiaa
open Go.RowKit

/-- What a valid view gives the walks. -/
structure GV (n k : Nat) (rows : List (List Int)) : Prop where
  n1 : 1 ≤ n
  n2 : n ≤ 16
  k1 : 1 ≤ k
  k2 : k ≤ 4
  len : ∀ i, i < k → (rat rows i).length = n
theorem GV.of {n : Int} {rows : List (List Int)} (h : vv n rows = true) : GV n.toNat rows.length rows := by
  obtain ⟨⟨h1, h2⟩, ⟨h3, h4⟩, h5⟩ := vv_iff.1 h
  exact ⟨by omega, by omega, h3, h4, fun i hi => by have := (h5 i hi).1; omega⟩
theorem all_succ (q : Nat → Bool) (u : Nat) : (List.range (u + 1)).all q = ((List.range u).all q && q u) := by
  rw [List.range_succ, List.all_append]; simp
theorem SI.len_eq {w A n zs} (h : SI w A n zs) {m : Nat} (e : zs.length = m) : n = m := by rw [← h.1, e]
theorem pow16 {n : Nat} (h : n ≤ 16) : 2 ^ n ≤ 65536 := Nat.pow_le_pow_right (n := 2) (by omega) h
theorem cellL1 (w : World) (a : Array Value) (t : TypeId) (o1 o2 : Obj) (i : Nat) : (((w.alloc (.cells a t)).alloc o1).alloc o2).cell? ⟨w.heap.size, i, none⟩ = a[i]? := by
  rw [World.cell?_alloc_past _ _ _ (by simp; omega), World.cell?_alloc_past _ _ _ (by simp), World.cell?_alloc_at _ _ _ _ rfl]

theorem gd_iff {n : Int} {rows : List (List Int)} {s : Int} : gd n rows s = true ↔ vv n rows = true ∧ 0 ≤ s ∧ s ≤ 2 ^ n.toNat - 1 := by
  unfold gd
  rw [Bool.and_eq_true, inR_iff]
/-- What a good set gives. -/
theorem gd_of {n : Int} {k : Nat} {rows : List (List Int)} {s : Int} (h : gd n rows s = true) (hl : rows.length = k) : ∃ N S : Nat, n = N ∧ s = S ∧ GV N k rows ∧ S < 65536 ∧ S < 2 ^ N := by
  obtain ⟨h1, h2, h3⟩ := gd_iff.1 h
  have hG := GV.of h1
  rw [hl] at hG
  have h16 := pow16 hG.n2
  have hc : ((2 : Int) ^ n.toNat) = ((2 ^ n.toNat : Nat) : Int) := by simp
  rw [hc] at h3
  obtain ⟨⟨h4, _⟩, _⟩ := vv_iff.1 h1
  exact ⟨n.toNat, s.toNat, by omega, by omega, hG, by omega, by omega⟩

theorem specpower_any (k : Nat) (w : World) (hk : k ≤ 60) :
    Calls Try.prog 29 #[.int .i64 k] w fun e w' => e = .returned (.int .i64 ((2 ^ k : Nat) : Int)) ∧ w = w' := by
  have hp : 2 ^ k ≤ 1152921504606846976 := by
    have := Nat.pow_le_pow_right (n := 2) (by omega) hk
    exact Nat.le_trans this (by decide)
  obtain ⟨p, hP⟩ : ∃ p, p = 2 ^ k := ⟨_, rfl⟩
  rw [← hP] at hp
  have HP := Lib.hid hP
  rw [← hP]
  clear hP
  go_enter Try.func29, Try.ntmps29
  go_wp2
  go_loopg [0, 3] k (fun gg nv av wr => ∃ j a : Nat, j ≤ gg ∧ nv = .int .i64 j ∧ av = .int .i64 a ∧ a ≤ p ∧ Aside (a * 2 ^ j = 2 ^ k) ∧ j ≤ k ∧ w = wr)
  case atStart => exact ⟨k, 1, Nat.le_refl _, rfl, rfl, by rw [HP.out]; exact Nat.one_le_two_pow, Nat.one_mul _, Nat.le_refl _, rfl⟩
  case round =>
    obtain ⟨j, a, hg, rfl, rfl, ha, HA, hj, rfl⟩ := hrel
    by_cases h0 : 0 < j
    · obtain ⟨j, rfl⟩ : ∃ i, j = i + 1 := ⟨j - 1, by omega⟩
      have h2 : 2 * a ≤ p := by
        have h1 := HA.out
        rw [HP.out, ← h1, Nat.pow_succ, ← Nat.mul_assoc, Nat.mul_comm 2 a]
        exact Nat.mul_le_mul_right _ (Nat.le_mul_of_pos_right _ (Nat.two_pow_pos j))
      go_wp2
      go_roundg j
      case measure => omega
      case rel => exact ⟨j, 2 * a, Nat.le_refl _, by go_num, by go_num, h2, by show 2 * a * 2 ^ j = 2 ^ k; have h1 := HA.out; rw [Nat.pow_succ] at h1; rw [← h1, Nat.mul_comm 2 a, Nat.mul_assoc, Nat.mul_comm 2 (2 ^ j)], by omega, rfl⟩
    · obtain rfl : j = 0 := by omega
      have h1 : a = p := by have h1 := HA.out; rw [HP.out, ← h1]; simp
      subst h1
      go_wp2
      go_ret
      exact ⟨rfl, rfl⟩

/-- A bit, 0 or 1. -/
def bitI (x j : Nat) : Int := if x.testBit j then 1 else 0
theorem bitI_of (x j : Nat) : (x : Int) / ((2 ^ j : Nat) : Int) % 2 = bitI x j := by
  rw [← Int.natCast_ediv]
  unfold bitI
  have h := Nat.testBit_eq_decide_div_mod_eq (x := x) (i := j)
  rw [h]
  generalize x / 2 ^ j = q
  by_cases e : q % 2 = 1
  · simp [e]; omega
  · have : q % 2 = 0 := by omega
    simp [this]; omega

theorem specbit_any (x j : Nat) (w : World) (hj : j ≤ 60) (hx : x ≤ 4611686018427387904) :
    Calls Try.prog 32 #[.int .i64 x, .int .i64 j] w fun e w' => e = .returned (.int .i64 (bitI x j)) ∧ w = w' := by
  have H := Lib.hid (specpower_any j w hj)
  have hb := Lib.hid (bitI_of x j)
  have hp : 0 < 2 ^ j := Nat.two_pow_pos j
  have hp2 : 2 ^ j ≤ 1152921504606846976 := Nat.le_trans (Nat.pow_le_pow_right (n := 2) (by omega) hj) (by decide)
  generalize 2 ^ j = p at H hb hp hp2
  have e1 : ((p : Int) == 0) = false := by simp; omega
  have e2 : 0 ≤ (x : Int) / (p : Int) := Int.ediv_nonneg (by omega) (by omega)
  have e3 : (x : Int) / (p : Int) ≤ x := Int.ediv_le_self _ (by omega)
  go_enter Try.func32, Try.ntmps32
  go_wp2_with (go_at_call 29; refine H.out.mono ?_; rintro e w' ⟨rfl, rfl⟩)
  go_ret
  exact ⟨by rw [← hb.out]; rfl, rfl⟩

end Go.Proofs.Ytfjpnennbdefiaa
