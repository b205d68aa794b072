/-
  ViewS. By a program (wip/tools/mk.py) out of snippets.
-/
import Derived.Test.YtfjpnennbdefiaaView1
namespace Go.Proofs.Ytfjpnennbdefiaa
open Go.RowKit

theorem rowOk_of {n : Nat} {row : List Int} (hl : row.length = n) (h : ∀ t, t < n → inR (iat row t) 0 ((n : Int) - 1) = true) : rowOk n row = true := by
  subst hl
  unfold rowOk
  rw [Bool.and_eq_true]
  refine ⟨by simp, ?_⟩
  rw [List.all_eq_true]
  intro x hx
  obtain ⟨j, hj, rfl⟩ := List.mem_iff_getElem.1 hx
  have := h j hj
  rwa [iat_eq hj] at this
theorem rowOk_not {n : Nat} {row : List Int} {t : Nat} (ht : t < row.length) (h : inR (iat row t) 0 ((n : Int) - 1) = false) : rowOk n row = false := by
  unfold rowOk
  rw [Bool.and_eq_false_iff]
  right
  rw [List.all_eq_false]
  exact ⟨row[t], List.getElem_mem ht, by rw [iat_eq ht] at h; simp [h]⟩
theorem rowOk_len {n : Nat} {row : List Int} (h : row.length ≠ n) : rowOk n row = false := by
  unfold rowOk
  rw [Bool.and_eq_false_iff]
  left
  simp; omega
theorem vv_not {n : Int} {rows : List (List Int)} {i : Nat} (hi : i < rows.length) (h : rowOk n (rat rows i) = false) : vv n rows = false := by
  unfold vv
  rw [Bool.and_eq_false_iff]
  right
  rw [List.all_eq_false]
  exact ⟨_, rat_mem hi, by simp [h]⟩
theorem vv_of {n : Int} {rows : List (List Int)} (h1 : inR n 1 16 = true) (h2 : inR rows.length 1 4 = true) (h : ∀ i, i < rows.length → rowOk n (rat rows i) = true) : vv n rows = true := by
  unfold vv
  rw [h1, h2]
  simp only [Bool.true_and]
  rw [List.all_eq_true]
  intro x hx
  obtain ⟨j, hj, rfl⟩ := List.mem_iff_getElem.1 hx
  have := h j hj
  rwa [rat_eq hj] at this
set_option maxHeartbeats 1600000 in
theorem specvalidView_any (n : Int) (A : Option Addr) (k c : Nat) (rows : List (List Int)) (w : World) (hk : k ≤ 2000000) (hr : ∀ i, i < k → (rat rows i).length ≤ 2000000) (ha : SS w A k rows) :
    Calls Try.prog 23 #[.agg #[.int .i64 n, .slice A k c]] w fun e w' => e = .returned (.bool (vv n rows)) ∧ Below w.heap.size w w' := by
  have hL := ha.1
  have HB := Lib.hid (show Below w.heap.size w (w.alloc (.cells #[.int .i64 n, .slice A k c] 25)) from (Below.refl _ _).alloc (Nat.le_refl _) _)
  have h2 := Lib.hid (inRange_any n 1 16)
  have h3 := Lib.hid (inRange_any k 1 4)
  cases e1 : inR n 1 16 with
  | false =>
    have hv := Lib.hid (show vv n rows = false by simp [vv, e1])
    rw [e1] at h2
    clear e1 ha hL hr
    go_enter Try.func23, Try.ntmps23
    go_wp2_with (go_at_call 28; refine (h2.out _).mono ?_; rintro e w' ⟨rfl, rfl⟩)
    go_ret
    exact ⟨by rw [hv.out]; rfl, HB.out⟩
  | true =>
    have hn := inR_iff.1 e1
    have e1' := Lib.hid e1
    rw [e1] at h2
    clear e1
    cases e2 : inR k 1 4 with
    | false =>
      have hv := Lib.hid (show vv n rows = false by simp [vv, hL, e2])
      rw [e2] at h3
      clear e2 ha hL hr
      go_enter Try.func23, Try.ntmps23
      go_wp2_with (first | (go_at_call_of 28 (Value.int .i64 n); refine (h2.out _).mono ?_; rintro e w' ⟨rfl, rfl⟩) | (go_at_call_of 28 (Value.int .i64 (k : Int)); refine (h3.out _).mono ?_; rintro e w' ⟨rfl, rfl⟩))
      go_ret
      exact ⟨by rw [hv.out]; rfl, HB.out⟩
    | true =>
      have hk4 := (inR_iff.1 e2).2
      have e2' := Lib.hid e2
      rw [e2] at h3
      clear e2
      obtain ⟨N, rfl⟩ : ∃ N : Nat, n = N := ⟨n.toNat, by omega⟩
      have HR := Lib.hid hr
      have HL := Lib.hid hL
      have HV := Lib.hid (fun i (hi : i < k) (h : rowOk (N : Int) (rat rows i) = false) => vv_not (n := (N : Int)) (rows := rows) (by rw [hL]; exact hi) h)
      clear hL hr
      go_enter Try.func23, Try.ntmps23
      go_wp2_with (first | (go_at_call_of 28 (Value.int .i64 (N : Int)); refine (h2.out _).mono ?_; rintro e w' ⟨rfl, rfl⟩) | (go_at_call_of 28 (Value.int .i64 (k : Int)); refine (h3.out _).mono ?_; rintro e w' ⟨rfl, rfl⟩))
      have ha' := ha.alloc (.cells #[.int .i64 N, .slice A k c] 25)
      have c0 : (w.alloc (.cells #[.int .i64 N, .slice A k c] 25)).cell? ⟨w.heap.size, 0, none⟩ = some (.int .i64 N) := by simp
      have c1 : (w.alloc (.cells #[.int .i64 N, .slice A k c] 25)).cell? ⟨w.heap.size, 1, none⟩ = some (.slice A k c) := by simp
      clear ha h2 h3
      generalize w.alloc (.cells #[.int .i64 N, .slice A k c] 25) = W at *
      go_loopg [3] k (fun gg s3 wr => ∃ i m : Nat, i ≤ k ∧ k - i ≤ gg ∧ s3 = .int .i64 i ∧ wr = W.drewN m ∧ Aside (∀ j, j < i → rowOk (N : Int) (rat rows j) = true))
      case atStart => exact ⟨0, 0, by omega, by omega, rfl, rfl, fun j hj => absurd hj (by omega)⟩
      case round =>
        obtain ⟨i, m, hi, hg, rfl, rfl, A0⟩ := hrel
        by_cases hlt : i < k
        · obtain ⟨b, off, A', n', c', rfl, h4, h5⟩ := ha'.at_ hlt
          have hn' : n' ≤ 2000000 := by have := HR.out i hlt; rw [h5.1] at this; exact this
          by_cases hnn : n' = N
          · subst hnn
            obtain ⟨b', off', rfl, h6⟩ := h5.2 (by omega)
            have H5 := Lib.hid h5
            have H6 := Lib.hid h6
            have hnn' : ((n' : Int) == (n' : Int)) = true := by simp
            have hwn : IntKind.i64.wrap ((n' : Int) - 1) = (n' : Int) - 1 := IntWalk.i64_in _ (by omega)
            clear ha' h5 h6
            go_wp2_with fail
            go_quiet (fail)
            go_wp2_with fail
            go_loopg [4] n' (fun g2 s4 wr => ∃ u q : Nat, u ≤ n' ∧ n' - u ≤ g2 ∧ s4 = .int .i64 u ∧ wr = W.drewN q ∧ Aside (∀ t, t < u → inR (iat (rat rows i) t) 0 ((n' : Int) - 1) = true))
            case atStart => exact ⟨0, _, by omega, by omega, rfl, by first | rfl | exact World.drewN_drewN _ _ _, fun j hj => absurd hj (by omega)⟩
            case round =>
              obtain ⟨u, q, hu, hg2, rfl, rfl, A1⟩ := hrel
              by_cases hlu : u < n'
              · have h7 := H6.out u hlu
                have H8 := Lib.hid (fun w => inRange_any (iat (rat rows i) u) 0 ((n' : Int) - 1) w)
                cases e3 : inR (iat (rat rows i) u) 0 ((n' : Int) - 1) with
                | true =>
                  have E3 := Lib.hid e3
                  rw [e3] at H8
                  clear e3
                  obtain ⟨x, hx⟩ : ∃ x, x = iat (rat rows i) u := ⟨_, rfl⟩
                  rw [← hx] at h7 H8 E3
                  have HX := Lib.hid hx; clear hx
                  go_wp2_with fail
                  go_quiet (first | (go_at_call 28; exact quietP (H8.out _)))
                  go_wp2_with fail
                  go_roundg (n' - (u + 1))
                  case measure => omega
                  case rel =>
                    refine ⟨u + 1, _, by omega, by omega, by go_num, by first | rfl | exact World.drewN_drewN _ _ _, (show Aside _ from fun t ht => ?_)⟩
                    by_cases e : t = u
                    · subst e; rw [← HX.out]; exact E3.out
                    · exact A1.out t (by omega)
                | false =>
                  have E3 := Lib.hid (HV.out i hlt (rowOk_not (t := u) (by rw [H5.out.1]; exact hlu) e3))
                  rw [e3] at H8
                  clear e3
                  generalize iat (rat rows i) u = x at *
                  go_wp2_with fail
                  go_quiet (first | (go_at_call 28; exact quietP (H8.out _)))
                  go_wp2_with fail
                  go_ret
                  exact ⟨by rw [E3.out]; rfl, by first | exact bDrewN HB.out _ | exact bDrewN (bDrewN HB.out _) _⟩
              · obtain rfl : u = n' := by omega
                have E4 := Lib.hid (rowOk_of H5.out.1 A1.out)
                clear A1
                go_wp2_with fail
                go_roundg (k - (i + 1))
                case measure => omega
                case rel =>
                  refine ⟨i + 1, q, by omega, by omega, by go_num, rfl, (show Aside _ from fun t ht => ?_)⟩
                  by_cases e : t = i
                  · subst e; exact E4.out
                  · exact A0.out t (by omega)
          · have hnn' : ((n' : Int) == (N : Int)) = false := by simp; omega
            have E3 := Lib.hid (HV.out i hlt (rowOk_len (by rw [h5.1]; exact hnn)))
            clear ha' h5
            go_wp2_with fail
            go_quiet (fail)
            go_wp2_with fail
            go_ret
            exact ⟨by rw [E3.out]; rfl, by first | exact bDrewN HB.out _ | exact bDrewN (bDrewN HB.out _) _⟩
        · obtain rfl : i = k := by omega
          have E5 := Lib.hid (vv_of (n := (N : Int)) (rows := rows) e1'.out (by rw [HL.out]; exact e2'.out) (by rw [HL.out]; exact A0.out))
          clear A0 ha'
          go_wp2_with fail
          go_ret
          exact ⟨by rw [E5.out]; rfl, bDrewN HB.out _⟩

theorem specValidView_any (n : Int) (A : Option Addr) (k c : Nat) (rows : List (List Int)) (w : World) (hk : k ≤ 2000000) (hr : ∀ i, i < k → (rat rows i).length ≤ 2000000) (ha : SS w A k rows) :
    Calls Try.prog 8 #[.agg #[.int .i64 n, .slice A k c]] w fun e w' => e = .returned (.bool (vv n rows)) ∧ Below w.heap.size w w' := by
  have hB := Lib.hid (show Below w.heap.size w (w.alloc (.cells #[.int .i64 n, .slice A k c] 25)) from (Below.refl _ _).alloc (Nat.le_refl _) _)
  have C := Lib.hid (specvalidView_any n A k c rows _ hk hr (ha.alloc (.cells #[.int .i64 n, .slice A k c] 25)))
  clear ha hr
  go_enter Try.func8, Try.ntmps8
  go_wp2_with fail
  refine C.out.mono ?_
  rintro e w' ⟨rfl, b1⟩
  have b1' := Lib.hid (bstep hB.out b1)
  clear b1
  go_wp2_with fail
  go_ret
  exact ⟨rfl, b1'.out⟩

set_option maxHeartbeats 3200000 in
theorem specknows_any (n k c a s : Nat) (A : Option Addr) (rows : List (List Int)) (w : World) (hG : GV n k rows) (haK : a < k) (hs : s < 65536) (ha : SS w A k rows) :
    Calls Try.prog 33 #[.agg #[.int .i64 n, .slice A k c], .int .i64 a, .int .i64 s] w fun e w' => e = .returned (.int .i64 (knV (rat rows a) n s : Nat)) ∧ Below w.heap.size w w' := by
  have HB := Lib.hid (show Below w.heap.size w (w.alloc (.cells #[.int .i64 n, .slice A k c] 25)) from (Below.refl _ _).alloc (Nat.le_refl _) _)
  have ha' := ha.alloc (.cells #[.int .i64 n, .slice A k c] 25)
  have c0 : (w.alloc (.cells #[.int .i64 n, .slice A k c] 25)).cell? ⟨w.heap.size, 0, none⟩ = some (.int .i64 n) := by simp
  have c1 : (w.alloc (.cells #[.int .i64 n, .slice A k c] 25)).cell? ⟨w.heap.size, 1, none⟩ = some (.slice A k c) := by simp
  obtain ⟨b, off, A', n', c', rfl, h4, h5⟩ := ha'.at_ haK
  obtain rfl : n' = n := h5.len_eq (hG.len a haK)
  have hn1 := hG.n1
  have hn2 := hG.n2
  have hk2 := hG.k2
  obtain ⟨b', off', rfl, h6⟩ := h5.2 (by omega)
  have H6 := Lib.hid h6
  clear ha ha' h5 h6 hG
  unfold knV
  have HK := Lib.hid (show ∀ w0 u, ((List.range (u + 1)).all fun u => iat (rat rows a) u != iat (rat rows a) w0 || s.testBit u) = (((List.range u).all fun u => iat (rat rows a) u != iat (rat rows a) w0 || s.testBit u) && (iat (rat rows a) u != iat (rat rows a) w0 || s.testBit u)) from fun w0 u => all_succ _ u)
  have HP := Lib.hid (show ∀ w0, knP (rat rows a) n' s w0 = ((List.range n').all fun u => iat (rat rows a) u != iat (rat rows a) w0 || s.testBit u) from fun _ => rfl)
  go_enter Try.func33, Try.ntmps33
  go_wp2_with fail
  generalize w.alloc (.cells #[.int .i64 n', .slice (some ⟨b, off, none⟩) k c] 25) = W at *
  go_loopg [7, 8] n' (fun gg s7 s8 wr => ∃ v m : Nat, v ≤ n' ∧ n' - v ≤ gg ∧ s8 = .int .i64 v ∧ s7 = .int .i64 (bs (knP (rat rows a) n' s) v : Nat) ∧ wr = W.drewN m)
  case atStart => exact ⟨0, 0, by omega, by omega, rfl, rfl, rfl⟩
  case round =>
    obtain ⟨v, m, hv, hg, rfl, rfl, rfl⟩ := hrel
    by_cases hlt : v < n'
    · have hbl := bs_lt (knP (rat rows a) n' s) v
      have hpw : 2 ^ v ≤ 65536 := pow16 (by omega)
      have hw0 := H6.out v hlt
      have HT := Lib.hid (fun h => bs_succ_true (p := knP (rat rows a) n' s) (n := v) h)
      have HF := Lib.hid (fun h => bs_succ_false (p := knP (rat rows a) n' s) (n := v) h)
      have HPv := Lib.hid (HP.out v)
      have HKv := Lib.hid (HK.out v)
      generalize bs (knP (rat rows a) n' s) v = acc at *
      generalize knP (rat rows a) n' s v = kv at *
      have HW := Lib.hid (fun w => specpower_any v w (by omega))
      generalize 2 ^ v = pv at *
      obtain ⟨y, hy⟩ : ∃ y, y = iat (rat rows a) v := ⟨_, rfl⟩
      rw [← hy] at hw0 HPv HKv
      clear hy
      go_wp2_with fail
      go_loopg [9, 10] n' (fun g2 s9 s10 wr => ∃ u q : Nat, ∃ o : Bool, u ≤ n' ∧ n' - u ≤ g2 ∧ s10 = .int .i64 u ∧ s9 = .bool o ∧ wr = W.drewN q ∧ Aside (o = ((List.range u).all fun u => iat (rat rows a) u != y || s.testBit u)))
      case atStart => exact ⟨0, _, true, by omega, by omega, rfl, rfl, by first | rfl | exact World.drewN_drewN _ _ _, rfl⟩
      case round =>
        obtain ⟨u, q, o, hu, hg2, rfl, rfl, rfl, A1⟩ := hrel
        by_cases hlu : u < n'
        · have hx0 := H6.out u hlu
          have HKu := Lib.hid (HKv.out u)
          rw [← A1.out] at HKu
          obtain ⟨x, hx⟩ : ∃ x, x = iat (rat rows a) u := ⟨_, rfl⟩
          rw [← hx] at hx0 HKu
          have HBit := Lib.hid (fun w => specbit_any s u w (by omega) (by omega))
          clear A1 hx
          cases o with
          | false =>
            go_wp2_with fail
            go_quiet (fail)
            go_wp2_with fail
            go_roundg (n' - (u + 1))
            case measure => omega
            case rel => exact ⟨u + 1, _, false, by omega, by omega, by go_num, rfl, by first | rfl | exact World.drewN_drewN _ _ _, by show _ = _; rw [HKu.out]; rfl⟩
          | true =>
            cases e1 : (x == y) with
            | false =>
              have e2 : (x != y) = true := by simp [bne, e1]
              have HE := Lib.hid e2
              go_wp2_with fail
              go_quiet (fail)
              go_wp2_with fail
              go_roundg (n' - (u + 1))
              case measure => omega
              case rel => exact ⟨u + 1, _, true, by omega, by omega, by go_num, rfl, by first | rfl | exact World.drewN_drewN _ _ _, by show _ = _; rw [HKu.out, HE.out]; rfl⟩
            | true =>
              have e2 : (x != y) = false := by simp [bne, e1]
              have HE := Lib.hid e2
              cases e3 : s.testBit u with
              | false =>
                have E3 := Lib.hid e3
                rw [show bitI s u = 0 by simp [bitI, e3]] at HBit
                clear e3
                go_wp2_with fail
                go_quiet (first | (go_at_call 32; exact quietP (HBit.out _)))
                go_wp2_with fail
                go_roundg (n' - (u + 1))
                case measure => omega
                case rel => exact ⟨u + 1, _, false, by omega, by omega, by go_num, rfl, by first | rfl | exact World.drewN_drewN _ _ _, by show _ = _; rw [HKu.out, HE.out, E3.out]; rfl⟩
              | true =>
                have E3 := Lib.hid e3
                rw [show bitI s u = 1 by simp [bitI, e3]] at HBit
                clear e3
                go_wp2_with fail
                go_quiet (first | (go_at_call 32; exact quietP (HBit.out _)))
                go_wp2_with fail
                go_roundg (n' - (u + 1))
                case measure => omega
                case rel => exact ⟨u + 1, _, true, by omega, by omega, by go_num, rfl, by first | rfl | exact World.drewN_drewN _ _ _, by show _ = _; rw [HKu.out, HE.out, E3.out]; rfl⟩
        · obtain rfl : u = n' := by omega
          have HO := Lib.hid (A1.out.trans HPv.out.symm)
          clear A1
          cases o with
          | false =>
            have HA := Lib.hid (HF.out HO.out.symm)
            go_wp2_with fail
            go_roundg (u - (v + 1))
            case measure => omega
            case rel => exact ⟨v + 1, _, by omega, by omega, by go_num, by rw [HA.out], by first | rfl | exact World.drewN_drewN _ _ _⟩
          | true =>
            have HA := Lib.hid (HT.out HO.out.symm)
            go_wp2_with fail
            refine (HW.out _).mono ?_
            rintro e w' ⟨rfl, rfl⟩
            go_wp2_with fail
            go_roundg (u - (v + 1))
            case measure => omega
            case rel => exact ⟨v + 1, _, by omega, by omega, by go_num, by rw [HA.out]; first | rfl | simp, by first | rfl | exact World.drewN_drewN _ _ _⟩
    · obtain rfl : v = n' := by omega
      go_wp2_with fail
      go_ret
      exact ⟨rfl, by first | exact bDrewN HB.out _ | exact bDrewN (bDrewN HB.out _) _⟩

end Go.Proofs.Ytfjpnennbdefiaa
