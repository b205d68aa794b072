/-
  ViewS3. By a program (wip/tools/mk.py) out of snippets.
-/
import Derived.Test.YtlodhgkecpjieaaViewS2
namespace Go.Proofs.Ytlodhgkecpjieaa
open Go.RowKit

set_option maxHeartbeats 800000 in
theorem speccommon_any (n k c s : Nat) (A : Option Addr) (rows : List (List Int)) (w : World) (hG : GV n k rows) (hs : s < 65536) (ha : SS w A k rows) :
    Calls Try.prog 65 #[.agg #[.int .i64 n, .slice A k c], .int .i64 s] w fun e w' => e = .returned (.int .i64 (cmV rows n s : Nat)) ∧ Below w.heap.size w w' := by
  obtain ⟨W, hW⟩ : ∃ W, W = w.alloc (.cells #[.int .i64 n, .slice A k c] 27) := ⟨_, rfl⟩
  have hB : Below w.heap.size w W := by rw [hW]; exact (Below.refl _ _).alloc (Nat.le_refl _) _
  have hz : W.heap.size = w.heap.size + 1 := by rw [hW]; simp
  have c0 : W.cell? ⟨w.heap.size, 0, none⟩ = some (.int .i64 n) := by rw [hW]; simp
  have c1 : W.cell? ⟨w.heap.size, 1, none⟩ = some (.slice A k c) := by rw [hW]; simp
  have HK := Lib.hid (fun (s : Nat) (hs : s < 65536) (w' : World) (hw : Below w.heap.size w w') => specall_any n k c s A rows w' hG hs (ha.below hw (Nat.le_refl _)))
  have hn := hG.n2
  have hk := hG.k2
  have HA := Lib.hid (show ∀ s, alV rows n s < 65536 by
    intro s
    have h := alTo_lt rows n s rows.length
    have h2 := pow16 hn
    unfold alV
    omega)
  have HB := Lib.hid hB
  have HZ := Lib.hid hz
  have C0 := Lib.hid c0
  have C1 := Lib.hid c1
  have HG := Lib.hid (cmV_go (rows := rows) (n := n) (s := s))
  have HK0 := Lib.hid (HK.out s hs W HB.out)
  have hA0 := HA.out s
  have hb0 := bits_and64 (alV rows n s) s (by omega) (by omega)
  rw [Nat.and_comm] at hb0
  have hl0 : s &&& alV rows n s ≤ s := Nat.and_le_left
  clear ha hG hz c0 c1 hB
  go_enter Try.func65, Try.ntmps65
  go_wp2_with fail
  rw [← hW]
  clear hW
  generalize alV rows n s = x at *
  generalize s &&& x = s1 at *
  refine HK0.out.mono ?_
  rintro e w1 ⟨rfl, b1⟩
  have c0 := (b1.cell (p := ⟨w.heap.size, 0, none⟩) (by show w.heap.size < _; have := HZ.out; omega)).trans C0.out
  have c1 := (b1.cell (p := ⟨w.heap.size, 1, none⟩) (by show w.heap.size < _; have := HZ.out; omega)).trans C1.out
  have HK1 := Lib.hid (HK.out s1 (by omega) w1 (HB.out.trans (b1.mono HB.out.size)))
  have B1 := Lib.hid b1
  have hA1 := HA.out s1
  have hb1 := bits_and64 (alV rows n s1) s1 (by omega) (by omega)
  rw [Nat.and_comm] at hb1
  obtain ⟨y, hy⟩ : ∃ y, y = alV rows n s1 := ⟨_, rfl⟩
  rw [← hy] at HK1 hA1 hb1
  obtain ⟨t1, ht1⟩ : ∃ t1, t1 = s1 &&& y := ⟨_, rfl⟩
  rw [← ht1] at hb1
  have HT := Lib.hid (show t1 = s1 &&& alV rows n s1 by rw [ht1, hy])
  have hlt : s1 < 65536 := by omega
  clear b1 hy ht1 HK0 hA0
  go_wp2_with fail
  refine HK1.out.mono ?_
  rintro e w2 ⟨rfl, b2⟩
  have B2 := Lib.hid (bstep B1.out b2)
  clear b2 c0 c1 HK1 hA1 hb0
  go_wp2_with fail
  clear hb1
  go_loopg [5, 6] s1 (fun gg s5 s6 wr => ∃ u t : Nat, u ≤ gg ∧ u < 65536 ∧ s5 = .int .i64 u ∧ s6 = .int .i64 t ∧ Aside (t = u &&& alV rows n u) ∧ Aside (cmV rows n u = cmV rows n s) ∧ Below W.heap.size W wr)
  case atStart => exact ⟨s1, t1, Nat.le_refl _, hlt, rfl, rfl, HT.out, HG.out, B2.out⟩
  case round =>
    obtain ⟨u, t, hg, hu, rfl, rfl, A0, A1, hbw⟩ := hrel
    have c0 := (hbw.cell (p := ⟨w.heap.size, 0, none⟩) (by show w.heap.size < _; have := HZ.out; omega)).trans C0.out
    have c1 := (hbw.cell (p := ⟨w.heap.size, 1, none⟩) (by show w.heap.size < _; have := HZ.out; omega)).trans C1.out
    have HBW := Lib.hid hbw
    have HBw := Lib.hid (HB.out.trans (hbw.mono HB.out.size))
    have hle : t ≤ u := by rw [A0.out]; exact Nat.and_le_left
    clear hbw hlt
    by_cases htu : t = u
    · have hne : ((t : Int) == (u : Int)) = true := by rw [beq_iff_eq]; omega
      have HS := Lib.hid (cmV_stop (rows := rows) (n := n) (s := u) (A0.out.symm.trans htu))
      have HR := Lib.hid (A1.out.symm.trans HS.out)
      clear A0 A1
      go_wp2_with fail
      go_ret
      exact ⟨by rw [HR.out]; rfl, HBw.out⟩
    · have hne : ((t : Int) == (u : Int)) = false := by simp; omega
      have HGo := Lib.hid (cmV_go (rows := rows) (n := n) (s := u))
      rw [← A0.out, A1.out] at HGo
      have HK1 := Lib.hid (HK.out t (by omega) wr HBw.out)
      have hA1 := HA.out t
      have hb1 := bits_and64 (alV rows n t) t (by omega) (by omega)
      rw [Nat.and_comm] at hb1
      obtain ⟨y, hy⟩ : ∃ y, y = alV rows n t := ⟨_, rfl⟩
      rw [← hy] at HK1 hA1 hb1
      obtain ⟨t1, ht1⟩ : ∃ t1, t1 = t &&& y := ⟨_, rfl⟩
      rw [← ht1] at hb1
      have HT := Lib.hid (show t1 = t &&& alV rows n t by rw [ht1, hy])
      clear A0 A1 hy ht1
      go_wp2_with fail
      refine HK1.out.mono ?_
      rintro e w2 ⟨rfl, b2⟩
      have B2 := Lib.hid (bstep HBW.out b2)
      clear b2
      go_wp2_with fail
      go_roundg t
      case measure => omega
      case rel => exact ⟨t, t1, Nat.le_refl _, by omega, rfl, rfl, HT.out, HGo.out, B2.out⟩

set_option maxHeartbeats 800000 in
theorem specCommonOf_any (n s : Int) (A : Option Addr) (k c : Nat) (rows : List (List Int)) (w : World) (hk : k ≤ 2000000) (hr : ∀ i, i < k → (rat rows i).length ≤ 2000000) (ha : SS w A k rows) :
    Calls Try.prog 30 #[.agg #[.int .i64 n, .slice A k c], .int .i64 s] w fun e w' => e = .returned (.int .i64 (cmA n rows s)) ∧ Below w.heap.size w w' := by
  obtain ⟨W, hW⟩ : ∃ W, W = w.alloc (.cells #[.int .i64 n, .slice A k c] 27) := ⟨_, rfl⟩
  have hB : Below w.heap.size w W := by rw [hW]; exact (Below.refl _ _).alloc (Nat.le_refl _) _
  have hz : W.heap.size = w.heap.size + 1 := by rw [hW]; simp
  have c0 : W.cell? ⟨w.heap.size, 0, none⟩ = some (.int .i64 n) := by rw [hW]; simp
  have c1 : W.cell? ⟨w.heap.size, 1, none⟩ = some (.slice A k c) := by rw [hW]; simp
  have hS : SS W A k rows := ha.below hB (Nat.le_refl _)
  have C := Lib.hid (specgood_any n s A k c rows W hk hr hS)
  have HL := Lib.hid ha.1
  have HB := Lib.hid hB
  have HZ := Lib.hid hz
  have C0 := Lib.hid c0
  have C1 := Lib.hid c1
  have HS := Lib.hid hS
  clear ha hr hB hz c0 c1 hS
  cases e : gd n rows s with
  | false =>
    rw [e] at C
    have hv := Lib.hid (show cmA n rows s = -1 by simp [cmA, e])
    clear e
    go_enter Try.func30, Try.ntmps30
    go_wp2_with fail
    rw [← hW]
    clear hW
    refine C.out.mono ?_
    rintro e w' ⟨rfl, b1⟩
    have b1' := Lib.hid (bstep HB.out b1)
    clear b1
    go_wp2_with fail
    go_ret
    exact ⟨by rw [hv.out]; rfl, b1'.out⟩
  | true =>
    rw [e] at C
    have E := Lib.hid e
    obtain ⟨N, S, rfl, rfl, hG, hS1, _⟩ := gd_of e HL.out
    have hk2 := hG.k2
    have hv := Lib.hid (show cmA N rows S = (cmV rows N S : Nat) by simp [cmA, E.out])
    have HK := Lib.hid (fun (w' : World) (hw : Below W.heap.size W w') => speccommon_any N k c S A rows w' hG hS1 (HS.out.below hw (Nat.le_refl _)))
    clear e hG
    go_enter Try.func30, Try.ntmps30
    go_wp2_with fail
    rw [← hW]
    clear hW
    refine C.out.mono ?_
    rintro e w' ⟨rfl, b1⟩
    have c0 := (b1.cell (p := ⟨w.heap.size, 0, none⟩) (by show w.heap.size < _; have := HZ.out; omega)).trans C0.out
    have c1 := (b1.cell (p := ⟨w.heap.size, 1, none⟩) (by show w.heap.size < _; have := HZ.out; omega)).trans C1.out
    have HKw := Lib.hid (HK.out _ b1)
    have b1' := Lib.hid (bstep HB.out b1)
    clear b1
    go_wp2_with fail
    refine HKw.out.mono ?_
    rintro e w3 ⟨rfl, b3⟩
    have b3' := Lib.hid (bstep b1'.out b3)
    clear b3
    go_wp2_with fail
    go_ret
    exact ⟨by rw [hv.out]; rfl, b3'.out⟩

end Go.Proofs.Ytlodhgkecpjieaa
