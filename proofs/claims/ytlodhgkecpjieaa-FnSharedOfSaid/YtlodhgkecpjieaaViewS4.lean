/-
  ViewS4. By a program (wip/tools/mk.py) out of snippets.
-/
import Derived.Test.YtlodhgkecpjieaaViewS3
namespace Go.Proofs.Ytlodhgkecpjieaa
open Go.RowKit

set_option maxHeartbeats 1600000 in
theorem specDepthOf_any (n x s : Int) (A : Option Addr) (k c : Nat) (rows : List (List Int)) (w : World) (hk : k ≤ 2000000) (hr : ∀ i, i < k → (rat rows i).length ≤ 2000000) (ha : SS w A k rows) :
    Calls Try.prog 32 #[.agg #[.int .i64 n, .slice A k c], .int .i64 x, .int .i64 s] w fun e w' => e = .returned (.int .i64 (dpA n rows x s)) ∧ Below w.heap.size w w' := by
  obtain ⟨W, hW⟩ : ∃ W, W = w.alloc (.cells #[.int .i64 n, .slice A k c] 27) := ⟨_, rfl⟩
  have hB : Below w.heap.size w W := by rw [hW]; exact (Below.refl _ _).alloc (Nat.le_refl _) _
  have hz : W.heap.size = w.heap.size + 1 := by rw [hW]; simp
  have c0 : W.cell? ⟨w.heap.size, 0, none⟩ = some (.int .i64 n) := by rw [hW]; simp
  have c1 : W.cell? ⟨w.heap.size, 1, none⟩ = some (.slice A k c) := by rw [hW]; simp
  have hS : SS W A k rows := ha.below hB (Nat.le_refl _)
  have C := Lib.hid (specgood_any n s A k c rows W hk hr hS)
  have HL := Lib.hid ha.1
  have HB := Lib.hid hB
  have HZ := Lib.hid hz
  have C0 := Lib.hid c0
  have C1 := Lib.hid c1
  have HS := Lib.hid hS
  clear ha hr hB hz c0 c1 hS
  cases e : gd n rows s with
  | false =>
    rw [e] at C
    have hv := Lib.hid (show dpA n rows x s = -1 by simp [dpA, e])
    clear e
    go_enter Try.func32, Try.ntmps32
    go_wp2_with fail
    rw [← hW]
    clear hW
    refine C.out.mono ?_
    rintro e w' ⟨rfl, b1⟩
    have b1' := Lib.hid (bstep HB.out b1)
    clear b1
    go_wp2_with fail
    go_ret
    exact ⟨by rw [hv.out]; rfl, b1'.out⟩
  | true =>
    rw [e] at C
    have E := Lib.hid e
    obtain ⟨N, S, rfl, rfl, hG, hS1, _⟩ := gd_of e HL.out
    have hk2 := hG.k2
    have hn2 := hG.n2
    have HR := Lib.hid (fun w => inRange_any x 0 ((N : Int) - 1) w)
    clear e
    cases e2 : inR x 0 ((N : Int) - 1) with
    | false =>
      rw [e2] at HR
      have hv := Lib.hid (show dpA N rows x S = -1 by simp [dpA, e2])
      clear e2 hG
      go_enter Try.func32, Try.ntmps32
      go_wp2_with fail
      rw [← hW]
      clear hW
      refine C.out.mono ?_
      rintro e w' ⟨rfl, b1⟩
      have c0 := (b1.cell (p := ⟨w.heap.size, 0, none⟩) (by show w.heap.size < _; have := HZ.out; omega)).trans C0.out
      have b1' := Lib.hid (bstep HB.out b1)
      clear b1
      go_wp2_with fail
      refine (HR.out _).mono ?_
      rintro e w'' ⟨rfl, rfl⟩
      go_wp2_with fail
      go_ret
      exact ⟨by rw [hv.out]; rfl, b1'.out⟩
    | true =>
      rw [e2] at HR
      obtain ⟨hx0, hx1⟩ := inR_iff.1 e2
      obtain ⟨X, rfl⟩ := Int.eq_ofNat_of_zero_le hx0
      have hv := Lib.hid (show dpA N rows X S = (dpV rows N X 20 S : Nat) by simp [dpA, E.out, e2])
      have HA := Lib.hid (show ∀ s, alV rows N s < 65536 by
        intro s
        have h := alTo_lt rows N s rows.length
        have h2 := pow16 hn2
        unfold alV
        omega)
      have HK := Lib.hid (fun (s : Nat) (hs : s < 65536) (w' : World) (hw : Below W.heap.size W w') => specall_any N k c s A rows w' hG hs (HS.out.below hw (Nat.le_refl _)))
      clear e2 hG
      go_enter Try.func32, Try.ntmps32
      go_wp2_with fail
      rw [← hW]
      clear hW
      refine C.out.mono ?_
      rintro e w' ⟨rfl, b1⟩
      have c0 := (b1.cell (p := ⟨w.heap.size, 0, none⟩) (by show w.heap.size < _; have := HZ.out; omega)).trans C0.out
      have c1 := (b1.cell (p := ⟨w.heap.size, 1, none⟩) (by show w.heap.size < _; have := HZ.out; omega)).trans C1.out
      have B1 := Lib.hid b1
      have HK1 := Lib.hid (HK.out S hS1 w' b1)
      clear b1
      go_wp2_with fail
      refine (HR.out _).mono ?_
      rintro e w'' ⟨rfl, rfl⟩
      go_wp2_with fail
      refine HK1.out.mono ?_
      rintro e w2 ⟨rfl, b2⟩
      have B2 := Lib.hid (bstep B1.out b2)
      clear b2 c0 c1
      go_wp2_with fail
      go_loopg [7, 8] 20 (fun gg s7 s8 wr => ∃ u d : Nat, d ≤ 20 ∧ 20 - d ≤ gg ∧ u < 65536 ∧ s7 = .int .i64 (alV rows N u : Nat) ∧ s8 = .int .i64 d ∧ Aside (d + dpV rows N X (20 - d) u = dpV rows N X 20 S) ∧ Below W.heap.size W wr)
      case atStart => exact ⟨S, 0, by omega, by omega, hS1, rfl, rfl, by show 0 + dpV rows N X 20 S = _; rw [Nat.zero_add], B2.out⟩
      case round =>
        obtain ⟨u, d, hd, hg, hu, rfl, rfl, A1, hbw⟩ := hrel
        have HBW := Lib.hid hbw
        have HBw := Lib.hid (HB.out.trans (hbw.mono HB.out.size))
        by_cases hlt : d < 20
        · have d0 := (hbw.cell (p := ⟨w.heap.size, 0, none⟩) (by show w.heap.size < _; have := HZ.out; omega)).trans C0.out
          have d1 := (hbw.cell (p := ⟨w.heap.size, 1, none⟩) (by show w.heap.size < _; have := HZ.out; omega)).trans C1.out
          have hA := HA.out u
          have HKu := Lib.hid (HK.out (alV rows N u) hA wr hbw)
          obtain ⟨g, hgd⟩ : ∃ g, 20 - d = g + 1 := ⟨19 - d, by omega⟩
          have hg' : 20 - (d + 1) = g := by omega
          have HD := Lib.hid A1.out
          rw [hgd, dpV] at HD
          clear A1 hbw
          generalize alV rows N u = y at *
          have HH := Lib.hid (fun w => specbit_any y X w (by omega) (by omega))
          have Hg' := Lib.hid hg'
          clear hgd hg'
          cases eb : y.testBit X with
          | true =>
            rw [show bitI y X = 1 by simp [bitI, eb]] at HH
            rw [eb, if_pos rfl] at HD
            clear eb
            go_wp2_with fail
            refine (HH.out _).mono ?_
            rintro e w5 ⟨rfl, rfl⟩
            go_wp2_with fail
            refine HKu.out.mono ?_
            rintro e w4 ⟨rfl, b4⟩
            have B4 := Lib.hid (bstep HBW.out b4)
            clear b4
            go_wp2_with fail
            go_roundg (20 - (d + 1))
            case measure => omega
            case rel => exact ⟨y, d + 1, by omega, by omega, hA, rfl, by go_num, by show d + 1 + dpV rows N X (20 - (d + 1)) y = _; rw [Hg'.out, ← HD.out]; omega, B4.out⟩
          | false =>
            rw [show bitI y X = 0 by simp [bitI, eb]] at HH
            rw [eb, if_neg (by simp)] at HD
            clear eb
            go_wp2_with fail
            refine (HH.out _).mono ?_
            rintro e w5 ⟨rfl, rfl⟩
            go_wp2_with fail
            go_ret
            exact ⟨by rw [hv.out, ← HD.out, Nat.add_zero]; rfl, HBw.out⟩
        · obtain rfl : d = 20 := by omega
          have HD := Lib.hid A1.out
          clear A1 hbw
          go_wp2_with fail
          go_ret
          exact ⟨by rw [hv.out, ← HD.out]; rfl, HBw.out⟩

theorem any_take_succ {rows : List (List Int)} {q : List Int → Bool} {j : Nat} (h : j < rows.length) : (rows.take (j + 1)).any q = ((rows.take j).any q || q (rat rows j)) := by
  rw [List.take_succ_eq_append_getElem h, List.any_append, rat_eq h]; simp
set_option maxHeartbeats 3200000 in
theorem specSharedOf_any (n s : Int) (A : Option Addr) (k c : Nat) (rows : List (List Int)) (w : World) (hk : k ≤ 2000000) (hr : ∀ i, i < k → (rat rows i).length ≤ 2000000) (ha : SS w A k rows) :
    Calls Try.prog 34 #[.agg #[.int .i64 n, .slice A k c], .int .i64 s] w fun e w' => e = .returned (.int .i64 (shA n rows s)) ∧ Below w.heap.size w w' := by
  obtain ⟨W, hW⟩ : ∃ W, W = w.alloc (.cells #[.int .i64 n, .slice A k c] 27) := ⟨_, rfl⟩
  have hB : Below w.heap.size w W := by rw [hW]; exact (Below.refl _ _).alloc (Nat.le_refl _) _
  have hz : W.heap.size = w.heap.size + 1 := by rw [hW]; simp
  have c0 : W.cell? ⟨w.heap.size, 0, none⟩ = some (.int .i64 n) := by rw [hW]; simp
  have c1 : W.cell? ⟨w.heap.size, 1, none⟩ = some (.slice A k c) := by rw [hW]; simp
  have hS : SS W A k rows := ha.below hB (Nat.le_refl _)
  have C := Lib.hid (specgood_any n s A k c rows W hk hr hS)
  have HL := Lib.hid ha.1
  have HB := Lib.hid hB
  have HZ := Lib.hid hz
  have C0 := Lib.hid c0
  have C1 := Lib.hid c1
  have HS := Lib.hid hS
  clear ha hr hB hz c0 c1 hS
  cases e : gd n rows s with
  | false =>
    rw [e] at C
    have hv := Lib.hid (show shA n rows s = -1 by simp [shA, e])
    clear e
    go_enter Try.func34, Try.ntmps34
    go_wp2_with fail
    rw [← hW]
    clear hW
    refine C.out.mono ?_
    rintro e w' ⟨rfl, b1⟩
    have b1' := Lib.hid (bstep HB.out b1)
    clear b1
    go_wp2_with fail
    go_ret
    exact ⟨by rw [hv.out]; rfl, b1'.out⟩
  | true =>
    rw [e] at C
    have E := Lib.hid e
    obtain ⟨N, S, rfl, rfl, hG, hS1, _⟩ := gd_of e HL.out
    have hk2 := hG.k2
    have hn1 := hG.n1
    have hn2 := hG.n2
    have HLen := Lib.hid hG.len
    have hv := Lib.hid (show shA N rows S = (bs (shP rows N S) N : Nat) by simp [shA, E.out, shV])
    clear e hG
    go_enter Try.func34, Try.ntmps34
    go_wp2_with fail
    rw [← hW]
    clear hW
    refine C.out.mono ?_
    rintro e V ⟨rfl, b1⟩
    have c0 := (b1.cell (p := ⟨w.heap.size, 0, none⟩) (by show w.heap.size < _; have := HZ.out; omega)).trans C0.out
    have c1 := (b1.cell (p := ⟨w.heap.size, 1, none⟩) (by show w.heap.size < _; have := HZ.out; omega)).trans C1.out
    have HBV := Lib.hid (bstep HB.out b1)
    have HSV := Lib.hid (HS.out.below b1 (Nat.le_refl _))
    have HK := Lib.hid (show ∀ w0 u, ((List.range (u + 1)).all fun u => (rows.any fun row => iat row u != iat row w0) || S.testBit u) = (((List.range u).all fun u => (rows.any fun row => iat row u != iat row w0) || S.testBit u) && ((rows.any fun row => iat row u != iat row w0) || S.testBit u)) from fun w0 u => all_succ _ u)
    have HP := Lib.hid (show ∀ w0, shP rows N S w0 = ((List.range N).all fun u => (rows.any fun row => iat row u != iat row w0) || S.testBit u) from fun _ => rfl)
    clear b1
    go_wp2_with fail
    go_loopg [5, 6] N (fun gg s5 s6 wr => ∃ v m : Nat, v ≤ N ∧ N - v ≤ gg ∧ s6 = .int .i64 v ∧ s5 = .int .i64 (bs (shP rows N S) v : Nat) ∧ wr = V.drewN m)
    case atStart => exact ⟨0, 0, by omega, by omega, rfl, rfl, rfl⟩
    case round =>
      obtain ⟨v, m, hvn, hg, rfl, rfl, rfl⟩ := hrel
      by_cases hlt : v < N
      · have hbl := bs_lt (shP rows N S) v
        have hpw : 2 ^ v ≤ 65536 := pow16 (by omega)
        have HT := Lib.hid (fun h => bs_succ_true (p := shP rows N S) (n := v) h)
        have HF := Lib.hid (fun h => bs_succ_false (p := shP rows N S) (n := v) h)
        have HPv := Lib.hid (HP.out v)
        have HKv := Lib.hid (HK.out v)
        generalize bs (shP rows N S) v = acc at *
        generalize shP rows N S v = kv at *
        have HW := Lib.hid (fun w => specpower_any v w (by omega))
        generalize 2 ^ v = pv at *
        go_wp2_with fail
        go_loopg [7, 8] N (fun g2 s7 s8 wr => ∃ u q : Nat, ∃ o : Bool, u ≤ N ∧ N - u ≤ g2 ∧ s8 = .int .i64 u ∧ s7 = .bool o ∧ wr = V.drewN q ∧ Aside (o = ((List.range u).all fun u => (rows.any fun row => iat row u != iat row v) || S.testBit u)))
        case atStart => exact ⟨0, _, true, by omega, by omega, rfl, rfl, by first | rfl | exact World.drewN_drewN _ _ _, rfl⟩
        case round =>
          obtain ⟨u, q, o, hu, hg2, rfl, rfl, rfl, A1⟩ := hrel
          by_cases hlu : u < N
          · have HKu := Lib.hid (HKv.out u)
            rw [← A1.out] at HKu
            have HBit := Lib.hid (fun w => specbit_any S u w (by omega) (by omega))
            clear A1
            go_wp2_with fail
            go_loopg [9, 10] k (fun g3 s9 s10 wr => ∃ j q : Nat, ∃ ap : Bool, j ≤ k ∧ k - j ≤ g3 ∧ s10 = .int .i64 j ∧ s9 = .bool ap ∧ wr = V.drewN q ∧ Aside (ap = ((rows.take j).any fun row => iat row u != iat row v)))
            case atStart => exact ⟨0, _, false, by omega, by omega, rfl, rfl, by first | rfl | exact World.drewN_drewN _ _ _, rfl⟩
            case round =>
              obtain ⟨j, q, ap, hj, hg3, rfl, rfl, rfl, A2⟩ := hrel
              by_cases hlj : j < k
              · have HTa := Lib.hid (any_take_succ (q := fun row => iat row u != iat row v) (show j < rows.length by rw [HL.out]; exact hlj))
                rw [← A2.out] at HTa
                obtain ⟨b, off, A', n', c', rfl, h4, h5⟩ := HSV.out.at_ hlj
                obtain rfl : n' = N := h5.len_eq (HLen.out j hlj)
                obtain ⟨b', off', rfl, h6⟩ := h5.2 (by omega)
                have hx0 := h6 u hlu
                have hy0 := h6 v hlt
                clear h5 h6 A2
                cases ap with
                | true =>
                  go_wp2_with fail
                  go_quiet (fail)
                  go_wp2_with fail
                  go_roundg (k - (j + 1))
                  case measure => omega
                  case rel => exact ⟨j + 1, _, true, by omega, by omega, by go_num, rfl, by first | rfl | exact World.drewN_drewN _ _ _, by show _ = _; rw [HTa.out]; rfl⟩
                | false =>
                  obtain ⟨x, hx⟩ : ∃ x, x = iat (rat rows j) u := ⟨_, rfl⟩
                  obtain ⟨y, hy⟩ : ∃ y, y = iat (rat rows j) v := ⟨_, rfl⟩
                  rw [← hx] at hx0
                  rw [← hy] at hy0
                  have HX := Lib.hid (show (iat (rat rows j) u != iat (rat rows j) v) = (x != y) by rw [hx, hy])
                  clear hx hy
                  cases e1 : (x == y) with
                  | false =>
                    have e2 : (x != y) = true := by simp [bne, e1]
                    have HE := Lib.hid e2
                    go_wp2_with fail
                    go_quiet (fail)
                    go_wp2_with fail
                    go_roundg (k - (j + 1))
                    case measure => omega
                    case rel => exact ⟨j + 1, _, true, by omega, by omega, by go_num, rfl, by first | rfl | exact World.drewN_drewN _ _ _, by show _ = _; rw [HTa.out, HX.out, HE.out]; rfl⟩
                  | true =>
                    have e2 : (x != y) = false := by simp [bne, e1]
                    have HE := Lib.hid e2
                    go_wp2_with fail
                    go_quiet (fail)
                    go_wp2_with fail
                    go_roundg (k - (j + 1))
                    case measure => omega
                    case rel => exact ⟨j + 1, _, false, by omega, by omega, by go_num, rfl, by first | rfl | exact World.drewN_drewN _ _ _, by show _ = _; rw [HTa.out, HX.out, HE.out]; rfl⟩
              · obtain rfl : j = k := by omega
                have HAp := Lib.hid A2.out
                rw [← HL.out, List.take_length] at HAp
                rw [← HAp.out] at HKu
                clear A2
                cases o with
                | false =>
                  go_wp2_with fail
                  go_roundg (N - (u + 1))
                  case measure => omega
                  case rel => exact ⟨u + 1, _, false, by omega, by omega, by go_num, rfl, by first | rfl | exact World.drewN_drewN _ _ _, by show _ = _; rw [HKu.out]; rfl⟩
                | true =>
                  cases ap with
                  | true =>
                    go_wp2_with fail
                    go_roundg (N - (u + 1))
                    case measure => omega
                    case rel => exact ⟨u + 1, _, true, by omega, by omega, by go_num, rfl, by first | rfl | exact World.drewN_drewN _ _ _, by show _ = _; rw [HKu.out]; rfl⟩
                  | false =>
                    cases e3 : S.testBit u with
                    | false =>
                      have E3 := Lib.hid e3
                      rw [show bitI S u = 0 by simp [bitI, e3]] at HBit
                      clear e3
                      go_wp2_with fail
                      refine (HBit.out _).mono ?_
                      rintro e w' ⟨rfl, rfl⟩
                      go_wp2_with fail
                      go_roundg (N - (u + 1))
                      case measure => omega
                      case rel => exact ⟨u + 1, _, false, by omega, by omega, by go_num, rfl, by first | rfl | exact World.drewN_drewN _ _ _, by show _ = _; rw [HKu.out, E3.out]; rfl⟩
                    | true =>
                      have E3 := Lib.hid e3
                      rw [show bitI S u = 1 by simp [bitI, e3]] at HBit
                      clear e3
                      go_wp2_with fail
                      refine (HBit.out _).mono ?_
                      rintro e w' ⟨rfl, rfl⟩
                      go_wp2_with fail
                      go_roundg (N - (u + 1))
                      case measure => omega
                      case rel => exact ⟨u + 1, _, true, by omega, by omega, by go_num, rfl, by first | rfl | exact World.drewN_drewN _ _ _, by show _ = _; rw [HKu.out, E3.out]; rfl⟩
          · obtain rfl : u = N := by omega
            have HO := Lib.hid (A1.out.trans HPv.out.symm)
            clear A1
            cases o with
            | false =>
              have HA := Lib.hid (HF.out HO.out.symm)
              go_wp2_with fail
              go_roundg (u - (v + 1))
              case measure => omega
              case rel => exact ⟨v + 1, _, by omega, by omega, by go_num, by rw [HA.out], by first | rfl | exact World.drewN_drewN _ _ _⟩
            | true =>
              have HA := Lib.hid (HT.out HO.out.symm)
              go_wp2_with fail
              refine (HW.out _).mono ?_
              rintro e w' ⟨rfl, rfl⟩
              go_wp2_with fail
              go_roundg (u - (v + 1))
              case measure => omega
              case rel => exact ⟨v + 1, _, by omega, by omega, by go_num, by rw [HA.out]; first | rfl | simp, by first | rfl | exact World.drewN_drewN _ _ _⟩
      · obtain rfl : v = N := by omega
        go_wp2_with fail
        go_ret
        exact ⟨by rw [hv.out]; rfl, by first | exact bDrewN HBV.out _ | exact bDrewN (bDrewN HBV.out _) _⟩

end Go.Proofs.Ytlodhgkecpjieaa
