/-
  ViewI3. By a program (wip/tools/mk.py) out of snippets.
-/
import Derived.Test.YtfjpnennbdefiaaViewI2
namespace Go.Proofs.Ytfjpnennbdefiaa
open Go.RowKit

set_option maxHeartbeats 800000 in
theorem implsetOk_any (n s : Int) (A : Option Addr) (k c : Nat) (rows : List (List Int)) (w : World) (hk : k ≤ 2000000) (hr : ∀ i, i < k → (rat rows i).length ≤ 2000000) (ha : SS w A k rows) :
    Calls Try.prog 24 #[.agg #[.int .i64 n, .slice A k c], .int .i64 s] w fun e w' => e = .returned (.bool (gd n rows s)) ∧ Below w.heap.size w w' := by
  have hB := Lib.hid (show Below w.heap.size w (w.alloc (.cells #[.int .i64 n, .slice A k c] 25)) from (Below.refl _ _).alloc (Nat.le_refl _) _)
  have C := Lib.hid (implValidView_any n A k c rows _ hk hr (ha.alloc (.cells #[.int .i64 n, .slice A k c] 25)))
  cases e : vv n rows with
  | false =>
    rw [e] at C
    have hv := Lib.hid (show gd n rows s = false by simp [gd, e])
    clear e ha hr
    go_enter Try.func24, Try.ntmps24
    go_wp2_with fail
    refine C.out.mono ?_
    rintro e w' ⟨rfl, b1⟩
    have b1' := Lib.hid (bstep hB.out b1)
    clear b1
    go_wp2_with fail
    go_ret
    exact ⟨by rw [hv.out]; rfl, b1'.out⟩
  | true =>
    rw [e] at C
    obtain ⟨⟨hn1, hn2⟩, _⟩ := vv_iff.1 e
    obtain ⟨N, rfl⟩ : ∃ N : Nat, n = N := ⟨n.toNat, by omega⟩
    have hv := Lib.hid (show gd (N : Int) rows s = inR s 0 ((2 : Int) ^ N - 1) by simp [gd, e])
    rw [hv.out]
    have ec : ((2 ^ N : Nat) : Int) = (2 : Int) ^ N := by simp
    have hp := pow16 (n := N) (by omega)
    have hp0 := Nat.two_pow_pos N
    have HR := Lib.hid (fun w => within_any s 0 ((2 : Int) ^ N - 1) w)
    have q1 : (2 : Int) ^ N ≤ 65536 := by rw [← ec]; generalize 2 ^ N = p at hp; omega
    have q2 : 0 < (2 : Int) ^ N := by rw [← ec]; generalize 2 ^ N = p at hp0; omega
    have q3 : IntKind.i64.wrap (1 * (2 : Int) ^ (N : Int).toNat) = (2 : Int) ^ N := by rw [Int.one_mul, Int.toNat_natCast]; exact IntWalk.i64_in _ (by omega)
    have q4 : (0 : Int) ≤ (N : Int) := by omega
    clear e ha hr hp hp0 ec
    have c0 : (w.alloc (.cells #[.int .i64 N, .slice A k c] 25)).cell? ⟨w.heap.size, 0, none⟩ = some (.int .i64 N) := by simp
    go_enter Try.func24, Try.ntmps24
    go_wp2_with fail
    refine C.out.mono ?_
    rintro e w' ⟨rfl, b1⟩
    have c0' := (b1.cell (p := ⟨w.heap.size, 0, none⟩) (by simp)).trans c0
    have b1' := Lib.hid (bstep hB.out b1)
    clear b1 c0
    go_wp2_with fail
    refine (HR.out _).mono ?_
    rintro e w'' ⟨rfl, rfl⟩
    go_wp2_with fail
    go_ret
    exact ⟨rfl, b1'.out⟩

set_option maxHeartbeats 800000 in
theorem implAllKnow_any (n s : Int) (A : Option Addr) (k c : Nat) (rows : List (List Int)) (w : World) (hk : k ≤ 2000000) (hr : ∀ i, i < k → (rat rows i).length ≤ 2000000) (ha : SS w A k rows) :
    Calls Try.prog 11 #[.agg #[.int .i64 n, .slice A k c], .int .i64 s] w fun e w' => e = .returned (.int .i64 (alA n rows s)) ∧ Below w.heap.size w w' := by
  obtain ⟨W, hW⟩ : ∃ W, W = w.alloc (.cells #[.int .i64 n, .slice A k c] 25) := ⟨_, rfl⟩
  have hB : Below w.heap.size w W := by rw [hW]; exact (Below.refl _ _).alloc (Nat.le_refl _) _
  have hz : W.heap.size = w.heap.size + 1 := by rw [hW]; simp
  have c0 : W.cell? ⟨w.heap.size, 0, none⟩ = some (.int .i64 n) := by rw [hW]; simp
  have c1 : W.cell? ⟨w.heap.size, 1, none⟩ = some (.slice A k c) := by rw [hW]; simp
  have hS : SS W A k rows := ha.below hB (Nat.le_refl _)
  have C := Lib.hid (implsetOk_any n s A k c rows W hk hr hS)
  have HL := Lib.hid ha.1
  have HB := Lib.hid hB
  have HZ := Lib.hid hz
  have C0 := Lib.hid c0
  have C1 := Lib.hid c1
  have HS := Lib.hid hS
  clear ha hr hB hz c0 c1 hS
  cases e : gd n rows s with
  | false =>
    rw [e] at C
    have hv := Lib.hid (show alA n rows s = -1 by simp [alA, e])
    clear e
    go_enter Try.func11, Try.ntmps11
    go_wp2_with fail
    rw [← hW]
    clear hW
    refine C.out.mono ?_
    rintro e w' ⟨rfl, b1⟩
    have b1' := Lib.hid (bstep HB.out b1)
    clear b1
    go_wp2_with fail
    go_ret
    exact ⟨by rw [hv.out]; rfl, b1'.out⟩
  | true =>
    rw [e] at C
    have E := Lib.hid e
    obtain ⟨N, S, rfl, rfl, hG, hS1, _⟩ := gd_of e HL.out
    have hk2 := hG.k2
    have hv := Lib.hid (show alA N rows S = (alV rows N S : Nat) by simp [alA, E.out])
    have HK := Lib.hid (fun (w' : World) (hw : Below W.heap.size W w') => lookall_any N k c S A rows w' hG hS1 (HS.out.below hw (Nat.le_refl _)))
    clear e hG
    go_enter Try.func11, Try.ntmps11
    go_wp2_with fail
    rw [← hW]
    clear hW
    refine C.out.mono ?_
    rintro e w' ⟨rfl, b1⟩
    have c0 := (b1.cell (p := ⟨w.heap.size, 0, none⟩) (by show w.heap.size < _; have := HZ.out; omega)).trans C0.out
    have c1 := (b1.cell (p := ⟨w.heap.size, 1, none⟩) (by show w.heap.size < _; have := HZ.out; omega)).trans C1.out
    have b1' := Lib.hid (bstep HB.out b1)
    have B1 := Lib.hid b1
    clear b1
    go_wp2_with fail
    refine (lookOf_any N A k c _).mono ?_
    rintro e w2 ⟨rfl, b2⟩
    have HKw := Lib.hid (HK.out _ (bstep B1.out b2))
    have b2' := Lib.hid (bstep b1'.out b2)
    clear b2
    go_wp2_with fail
    refine HKw.out.mono ?_
    rintro e w3 ⟨rfl, b3⟩
    have b3' := Lib.hid (bstep b2'.out b3)
    clear b3
    go_wp2_with fail
    go_ret
    exact ⟨by rw [hv.out]; rfl, b3'.out⟩

end Go.Proofs.Ytfjpnennbdefiaa
