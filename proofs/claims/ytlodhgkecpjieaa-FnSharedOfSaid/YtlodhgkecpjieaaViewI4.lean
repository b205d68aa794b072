/-
  ViewI4. By a program (wip/tools/mk.py) out of snippets.
-/
import Derived.Test.YtlodhgkecpjieaaViewI3
namespace Go.Proofs.Ytlodhgkecpjieaa
open Go.RowKit

set_option maxHeartbeats 1600000 in
theorem implCommonOf_any (n s : Int) (A : Option Addr) (k c : Nat) (rows : List (List Int)) (w : World) (hk : k ≤ 2000000) (hr : ∀ i, i < k → (rat rows i).length ≤ 2000000) (ha : SS w A k rows) :
    Calls Try.prog 31 #[.agg #[.int .i64 n, .slice A k c], .int .i64 s] w fun e w' => e = .returned (.int .i64 (cmA n rows s)) ∧ Below w.heap.size w w' := by
  obtain ⟨W, hW⟩ : ∃ W, W = w.alloc (.cells #[.int .i64 n, .slice A k c] 27) := ⟨_, rfl⟩
  have hB : Below w.heap.size w W := by rw [hW]; exact (Below.refl _ _).alloc (Nat.le_refl _) _
  have hz : W.heap.size = w.heap.size + 1 := by rw [hW]; simp
  have c0 : W.cell? ⟨w.heap.size, 0, none⟩ = some (.int .i64 n) := by rw [hW]; simp
  have c1 : W.cell? ⟨w.heap.size, 1, none⟩ = some (.slice A k c) := by rw [hW]; simp
  have hS : SS W A k rows := ha.below hB (Nat.le_refl _)
  have C := Lib.hid (implsetOk_any n s A k c rows W hk hr hS)
  have HL := Lib.hid ha.1
  have HB := Lib.hid hB
  have HZ := Lib.hid hz
  have C0 := Lib.hid c0
  have C1 := Lib.hid c1
  have HS := Lib.hid hS
  clear ha hr hB hz c0 c1 hS
  cases e : gd n rows s with
  | false =>
    rw [e] at C
    have hv := Lib.hid (show cmA n rows s = -1 by simp [cmA, e])
    clear e
    go_enter Try.func31, Try.ntmps31
    go_wp2_with fail
    rw [← hW]
    clear hW
    refine C.out.mono ?_
    rintro e w' ⟨rfl, b1⟩
    have b1' := Lib.hid (bstep HB.out b1)
    clear b1
    go_wp2_with fail
    go_ret
    exact ⟨by rw [hv.out]; rfl, b1'.out⟩
  | true =>
    rw [e] at C
    have E := Lib.hid e
    obtain ⟨N, S, rfl, rfl, hG, hS1, _⟩ := gd_of e HL.out
    have hk2 := hG.k2
    have hn2 := hG.n2
    have hv := Lib.hid (show cmA N rows S = (cmV rows N S : Nat) by simp [cmA, E.out])
    have HA := Lib.hid (show ∀ s, alV rows N s < 65536 by
      intro s
      have h := alTo_lt rows N s rows.length
      have h2 := pow16 hn2
      unfold alV
      omega)
    have HK := Lib.hid (fun (s : Nat) (hs : s < 65536) (w' : World) (hw : Below W.heap.size W w') => lookall_any N k c s A rows w' hG hs (HS.out.below hw (Nat.le_refl _)))
    clear e hG
    go_enter Try.func31, Try.ntmps31
    go_wp2_with fail
    rw [← hW]
    clear hW
    refine C.out.mono ?_
    rintro e w' ⟨rfl, b1⟩
    have c0 := (b1.cell (p := ⟨w.heap.size, 0, none⟩) (by show w.heap.size < _; have := HZ.out; omega)).trans C0.out
    have c1 := (b1.cell (p := ⟨w.heap.size, 1, none⟩) (by show w.heap.size < _; have := HZ.out; omega)).trans C1.out
    have B1 := Lib.hid b1
    clear b1
    go_wp2_with fail
    refine (lookOf_any N A k c _).mono ?_
    rintro e w2 ⟨rfl, b2⟩
    have B2 := Lib.hid (bstep B1.out b2)
    have B3 := Lib.hid (show Below W.heap.size W (w2.alloc (.cells #[.int .i64 N, .slice A k c] 60)) from B2.out.alloc B2.out.size _)
    have d0 : (w2.alloc (.cells #[.int .i64 N, .slice A k c] 60)).cell? ⟨w2.heap.size, 0, none⟩ = some (.int .i64 N) := by simp
    have d1 : (w2.alloc (.cells #[.int .i64 N, .slice A k c] 60)).cell? ⟨w2.heap.size, 1, none⟩ = some (.slice A k c) := by simp
    have D0 := Lib.hid d0
    have D1 := Lib.hid d1
    have HZ3 := Lib.hid (show w2.heap.size < (w2.alloc (.cells #[.int .i64 N, .slice A k c] 60)).heap.size by simp)
    clear b2 c0 c1 d0 d1
    go_wp2_with fail
    generalize w2.alloc (.cells #[.int .i64 N, .slice A k c] 60) = w3 at *
    go_loopg [1] (S + 1) (fun gg s1 wr => ∃ u : Nat, u < gg ∧ u < 65536 ∧ s1 = .int .i64 u ∧ Aside (cmV rows N u = cmV rows N S) ∧ Below w3.heap.size w3 wr)
    case atStart => exact ⟨S, by omega, hS1, rfl, rfl, Below.refl _ _⟩
    case round =>
      obtain ⟨u, hg, hu, rfl, A1, hbw⟩ := hrel
      have d0 := (hbw.cell (p := ⟨w2.heap.size, 0, none⟩) HZ3.out).trans D0.out
      have d1 := (hbw.cell (p := ⟨w2.heap.size, 1, none⟩) HZ3.out).trans D1.out
      have HBW := Lib.hid hbw
      have HBw := Lib.hid (HB.out.trans ((B3.out.trans (hbw.mono B3.out.size)).mono HB.out.size))
      have HKu := Lib.hid (HK.out u hu wr (B3.out.trans (hbw.mono B3.out.size)))
      have hA := HA.out u
      have hb := bits_and64 u (alV rows N u) (by omega) (by omega)
      have hle : u &&& alV rows N u ≤ u := Nat.and_le_left
      have HGo := Lib.hid (cmV_go (rows := rows) (n := N) (s := u))
      have HSt := Lib.hid (fun h => cmV_stop (rows := rows) (n := N) (s := u) h)
      rw [A1.out] at HGo HSt
      generalize alV rows N u = y at *
      generalize u &&& y = t at *
      clear hbw A1 hA
      by_cases htu : t = u
      · have hne : ((t : Int) == (u : Int)) = true := by rw [beq_iff_eq]; omega
        have HR := Lib.hid (HSt.out htu)
        go_wp2_with fail
        refine HKu.out.mono ?_
        rintro e w4 ⟨rfl, b4⟩
        have B4 := Lib.hid (bstep HBw.out b4)
        clear b4
        go_wp2_with fail
        go_ret
        exact ⟨by rw [hv.out, HR.out]; rfl, B4.out⟩
      · have hne : ((t : Int) == (u : Int)) = false := by simp; omega
        go_wp2_with fail
        refine HKu.out.mono ?_
        rintro e w4 ⟨rfl, b4⟩
        have B4 := Lib.hid (bstep HBW.out b4)
        clear b4
        go_wp2_with fail
        go_roundg u
        case measure => omega
        case rel => exact ⟨t, by omega, by omega, rfl, HGo.out, B4.out⟩

set_option maxHeartbeats 1600000 in
theorem implDepthOf_any (n x s : Int) (A : Option Addr) (k c : Nat) (rows : List (List Int)) (w : World) (hk : k ≤ 2000000) (hr : ∀ i, i < k → (rat rows i).length ≤ 2000000) (ha : SS w A k rows) :
    Calls Try.prog 33 #[.agg #[.int .i64 n, .slice A k c], .int .i64 x, .int .i64 s] w fun e w' => e = .returned (.int .i64 (dpA n rows x s)) ∧ Below w.heap.size w w' := by
  obtain ⟨W, hW⟩ : ∃ W, W = w.alloc (.cells #[.int .i64 n, .slice A k c] 27) := ⟨_, rfl⟩
  have hB : Below w.heap.size w W := by rw [hW]; exact (Below.refl _ _).alloc (Nat.le_refl _) _
  have hz : W.heap.size = w.heap.size + 1 := by rw [hW]; simp
  have c0 : W.cell? ⟨w.heap.size, 0, none⟩ = some (.int .i64 n) := by rw [hW]; simp
  have c1 : W.cell? ⟨w.heap.size, 1, none⟩ = some (.slice A k c) := by rw [hW]; simp
  have hS : SS W A k rows := ha.below hB (Nat.le_refl _)
  have C := Lib.hid (implsetOk_any n s A k c rows W hk hr hS)
  have HL := Lib.hid ha.1
  have HB := Lib.hid hB
  have HZ := Lib.hid hz
  have C0 := Lib.hid c0
  have C1 := Lib.hid c1
  have HS := Lib.hid hS
  clear ha hr hB hz c0 c1 hS
  cases e : gd n rows s with
  | false =>
    rw [e] at C
    have hv := Lib.hid (show dpA n rows x s = -1 by simp [dpA, e])
    clear e
    go_enter Try.func33, Try.ntmps33
    go_wp2_with fail
    rw [← hW]
    clear hW
    refine C.out.mono ?_
    rintro e w' ⟨rfl, b1⟩
    have b1' := Lib.hid (bstep HB.out b1)
    clear b1
    go_wp2_with fail
    go_ret
    exact ⟨by rw [hv.out]; rfl, b1'.out⟩
  | true =>
    rw [e] at C
    have E := Lib.hid e
    obtain ⟨N, S, rfl, rfl, hG, hS1, _⟩ := gd_of e HL.out
    have hk2 := hG.k2
    have hn2 := hG.n2
    have HR := Lib.hid (fun w => within_any x 0 ((N : Int) - 1) w)
    clear e
    cases e2 : inR x 0 ((N : Int) - 1) with
    | false =>
      rw [e2] at HR
      have hv := Lib.hid (show dpA N rows x S = -1 by simp [dpA, e2])
      clear e2 hG
      go_enter Try.func33, Try.ntmps33
      go_wp2_with fail
      rw [← hW]
      clear hW
      refine C.out.mono ?_
      rintro e w' ⟨rfl, b1⟩
      have c0 := (b1.cell (p := ⟨w.heap.size, 0, none⟩) (by show w.heap.size < _; have := HZ.out; omega)).trans C0.out
      have b1' := Lib.hid (bstep HB.out b1)
      clear b1
      go_wp2_with fail
      refine (HR.out _).mono ?_
      rintro e w'' ⟨rfl, rfl⟩
      go_wp2_with fail
      go_ret
      exact ⟨by rw [hv.out]; rfl, b1'.out⟩
    | true =>
      rw [e2] at HR
      obtain ⟨hx0, hx1⟩ := inR_iff.1 e2
      obtain ⟨X, rfl⟩ := Int.eq_ofNat_of_zero_le hx0
      have hv := Lib.hid (show dpA N rows X S = (dpV rows N X 20 S : Nat) by simp [dpA, E.out, e2])
      have HA := Lib.hid (show ∀ s, alV rows N s < 65536 by
        intro s
        have h := alTo_lt rows N s rows.length
        have h2 := pow16 hn2
        unfold alV
        omega)
      have HK := Lib.hid (fun (s : Nat) (hs : s < 65536) (w' : World) (hw : Below W.heap.size W w') => lookall_any N k c s A rows w' hG hs (HS.out.below hw (Nat.le_refl _)))
      clear e2 hG
      go_enter Try.func33, Try.ntmps33
      go_wp2_with fail
      rw [← hW]
      clear hW
      refine C.out.mono ?_
      rintro e w' ⟨rfl, b1⟩
      have c0 := (b1.cell (p := ⟨w.heap.size, 0, none⟩) (by show w.heap.size < _; have := HZ.out; omega)).trans C0.out
      have c1 := (b1.cell (p := ⟨w.heap.size, 1, none⟩) (by show w.heap.size < _; have := HZ.out; omega)).trans C1.out
      have B1 := Lib.hid b1
      clear b1
      go_wp2_with fail
      refine (HR.out _).mono ?_
      rintro e w'' ⟨rfl, rfl⟩
      go_wp2_with fail
      refine (lookOf_any N A k c _).mono ?_
      rintro e w2 ⟨rfl, b2⟩
      have B2 := Lib.hid (bstep B1.out b2)
      have B3 := Lib.hid (show Below W.heap.size W (w2.alloc (.cells #[.int .i64 N, .slice A k c] 60)) from B2.out.alloc B2.out.size _)
      have d0 : (w2.alloc (.cells #[.int .i64 N, .slice A k c] 60)).cell? ⟨w2.heap.size, 0, none⟩ = some (.int .i64 N) := by simp
      have d1 : (w2.alloc (.cells #[.int .i64 N, .slice A k c] 60)).cell? ⟨w2.heap.size, 1, none⟩ = some (.slice A k c) := by simp
      have D0 := Lib.hid d0
      have D1 := Lib.hid d1
      have HZ3 := Lib.hid (show w2.heap.size < (w2.alloc (.cells #[.int .i64 N, .slice A k c] 60)).heap.size by simp)
      clear b2 c0 c1 d0 d1
      go_wp2_with fail
      generalize w2.alloc (.cells #[.int .i64 N, .slice A k c] 60) = w3 at *
      go_loopg [2, 8] 20 (fun gg s2 s8 wr => ∃ u d : Nat, d ≤ 20 ∧ 20 - d ≤ gg ∧ u < 65536 ∧ s2 = .int .i64 u ∧ s8 = .int .i64 d ∧ Aside (d + dpV rows N X (20 - d) u = dpV rows N X 20 S) ∧ Below w3.heap.size w3 wr)
      case atStart => exact ⟨S, 0, by omega, by omega, hS1, rfl, rfl, by show 0 + dpV rows N X 20 S = _; rw [Nat.zero_add], Below.refl _ _⟩
      case round =>
        obtain ⟨u, d, hd, hg, hu, rfl, rfl, A1, hbw⟩ := hrel
        have HBW := Lib.hid hbw
        have HBw := Lib.hid (HB.out.trans ((B3.out.trans (hbw.mono B3.out.size)).mono HB.out.size))
        by_cases hlt : d < 20
        · have d0 := (hbw.cell (p := ⟨w2.heap.size, 0, none⟩) HZ3.out).trans D0.out
          have d1 := (hbw.cell (p := ⟨w2.heap.size, 1, none⟩) HZ3.out).trans D1.out
          have HKu := Lib.hid (HK.out u hu wr (B3.out.trans (hbw.mono B3.out.size)))
          have hA := HA.out u
          obtain ⟨g, hgd⟩ : ∃ g, 20 - d = g + 1 := ⟨19 - d, by omega⟩
          have hg' : 20 - (d + 1) = g := by omega
          have HD := Lib.hid A1.out
          rw [hgd, dpV] at HD
          clear A1 hbw
          generalize alV rows N u = y at *
          have HH := Lib.hid (fun w => sethas_any y X w (by omega) (by omega))
          have Hg' := Lib.hid hg'
          clear hgd hg'
          cases eb : y.testBit X with
          | true =>
            rw [eb] at HH
            rw [eb, if_pos rfl] at HD
            clear eb
            go_wp2_with fail
            refine HKu.out.mono ?_
            rintro e w4 ⟨rfl, b4⟩
            have B4 := Lib.hid (bstep HBW.out b4)
            clear b4
            go_wp2_with fail
            refine (HH.out _).mono ?_
            rintro e w5 ⟨rfl, rfl⟩
            go_wp2_with fail
            go_roundg (20 - (d + 1))
            case measure => omega
            case rel => exact ⟨y, d + 1, by omega, by omega, hA, rfl, by go_num, by show d + 1 + dpV rows N X (20 - (d + 1)) y = _; rw [Hg'.out, ← HD.out]; omega, B4.out⟩
          | false =>
            rw [eb] at HH
            rw [eb, if_neg (by simp)] at HD
            clear eb
            go_wp2_with fail
            refine HKu.out.mono ?_
            rintro e w4 ⟨rfl, b4⟩
            have B4 := Lib.hid (bstep HBw.out b4)
            clear b4
            go_wp2_with fail
            refine (HH.out _).mono ?_
            rintro e w5 ⟨rfl, rfl⟩
            go_wp2_with fail
            go_ret
            exact ⟨by rw [hv.out, ← HD.out, Nat.add_zero]; rfl, B4.out⟩
        · obtain rfl : d = 20 := by omega
          have HD := Lib.hid A1.out
          clear A1 hbw
          go_wp2_with fail
          go_ret
          exact ⟨by rw [hv.out, ← HD.out]; rfl, HBw.out⟩

end Go.Proofs.Ytlodhgkecpjieaa
