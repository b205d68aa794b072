/-
  Elect. By a program (wip/tools/mk.py) out of snippets.
-/
import Derived.Test.YtblaaeanbhgokaaMarks1
namespace Go.Proofs.Ytblaaeanbhgokaa
open Go.RowKit

set_option maxHeartbeats 1600000 in
theorem implElectOf_any (A : Option Addr) (n c : Nat) (zs : List Int) (w : World) (hn : n ≤ 2000000) (hcap : n ≤ c) (ha : SI w A n zs) :
    Calls Try.prog 16 #[.slice A n c] w fun e w' => e = .returned (.tuple #[.int .i64 (electAt zs), .int .i64 (electN zs)]) ∧ w = w' := by
  have hlen := Lib.hid ha.len
  have H := Lib.hid (ringMarks_any A n c zs w hn hcap ha)
  cases hv : vmarks zs with
  | false =>
    have E1 := Lib.hid (show electAt zs = -1 by simp [electAt, hv])
    have E2 := Lib.hid (show electN zs = -1 by simp [electN, hv])
    rw [hv] at H
    clear hv ha
    go_enter Try.func16, Try.ntmps16
    go_wp2_with (go_at_call 51; refine H.out.mono ?_; rintro e w' ⟨rfl, rfl⟩)
    go_ret2
    rw [E1.out, E2.out]
    exact ⟨rfl, rfl⟩
  | true =>
    have hvv := vmarks_iff.1 hv
    rw [hlen.out] at hvv
    have hn1 : 1 ≤ n := hvv.1.1
    have hn6 : n ≤ 6 := hvv.1.2
    have E1 := Lib.hid (show electAt zs = (amax zs n : Int) by simp [electAt, hv, hlen.out])
    have E2 := Lib.hid (show electN zs = (hops zs n : Int) by simp [electN, hv, hlen.out])
    have HM := Lib.hid (max_any A n c zs w (by omega) hn ha)
    have HI := Lib.hid (index_any A n c zs (iat zs (amax zs n)) w (by omega) ha)
    have HF := Lib.hid (show fidx (fun z => iat zs (amax zs n) == z) zs = (amax zs n : Int) by have := fidx_amax (zs := zs) (by rw [hlen.out]; omega); rwa [hlen.out] at this)
    rw [HF.out] at HI
    have HB := Lib.hid (show ∀ j, j ≤ n → hops zs j ≤ 36 by
      intro j hj
      have := hops_le zs j (by rw [hlen.out]; exact hj)
      rw [hlen.out] at this
      have h2 : j * n ≤ 6 * 6 := Nat.mul_le_mul (by omega) (by omega)
      omega)
    obtain ⟨b, off, rfl, hc⟩ := ha.2 (by omega)
    have HC := Lib.hid hc
    rw [hv] at H
    clear hv hvv hc ha
    go_enter Try.func16, Try.ntmps16
    go_wp2_with (go_at_call 51; refine H.out.mono ?_; rintro e w' ⟨rfl, rfl⟩)
    go_loopg [4, 13] n (fun gg v i wr => ∃ j : Nat, j ≤ n ∧ n - j ≤ gg ∧ i = .int .i64 j ∧ v = .int .i64 (hops zs j) ∧ w = wr)
    case atStart => exact ⟨0, by omega, by omega, rfl, by simp [hops], rfl⟩
    case round =>
      obtain ⟨j, hj, hg, rfl, rfl, rfl⟩ := hrel
      by_cases hlt : j < n
      · have h1 := HC.out j hlt
        have hbj := HB.out j hj
        have hbj1 := HB.out (j + 1) (by omega)
        have HS := Lib.hid (hops_succ zs j)
        have hl1 : j < zs.length := by rw [hlen.out]; exact hlt
        have HL := Lib.hid (hop_le hl1)
        have hp := hop_pos zs j
        have HLT := Lib.hid (fun t (h : t + 1 < hop zs j) => hop_lt h hl1)
        have HAT := Lib.hid (fun t (h : t + 1 = hop zs j) => hop_at h hl1)
        have hsum : hops zs j + hop zs j ≤ 36 := by rw [← HS.out]; exact hbj1
        clear hbj1 hl1
        generalize hH : hop zs j = h at *
        generalize hO : hops zs j = o at *
        have HH := Lib.hid hH; clear hH
        have HOo := Lib.hid hO; clear hO
        go_wp2_with fail
        go_loopg [4, 7] h (fun g2 v kk wr => ∃ t : Nat, t + 1 ≤ h ∧ h - t ≤ g2 ∧ v = .int .i64 ((o : Int) + 1 + t) ∧ kk = .int .i64 (((j + t + 1) % n : Nat) : Int) ∧ w = wr)
        case atStart => exact ⟨0, by omega, by omega, by simp, by simp, rfl⟩
        case round =>
          obtain ⟨t, ht, hg2, rfl, rfl, rfl⟩ := hrel
          have hq : (j + t + 1) % n < n := Nat.mod_lt _ (by omega)
          have h2 := HC.out _ hq
          have HQ := Lib.hid (show (((j + t + 1) % n : Nat) + 1) % n = (j + (t + 1) + 1) % n by rw [Nat.mod_add_mod]; rfl)
          by_cases hlt2 : t + 1 < h
          · have h3 := HLT.out t hlt2
            rw [hlen.out] at h3
            generalize (j + t + 1) % n = q at *
            generalize iat zs q = x at *
            go_wp2_with fail
            go_roundg (h - (t + 1))
            case measure => omega
            case rel => exact ⟨t + 1, by omega, by omega, by go_num, by rw [← HQ.out]; simp, by first | rfl | trivial⟩
          · have h3 := HAT.out t (by omega)
            rw [hlen.out] at h3
            generalize (j + t + 1) % n = q at *
            generalize iat zs q = x at *
            go_wp2_with fail
            go_roundg (n - (j + 1))
            case measure => omega
            case rel => exact ⟨j + 1, by omega, by omega, by go_num, by rw [HS.out]; exact congrArg (Value.int .i64) (by omega), by first | rfl | trivial⟩
      · obtain rfl : j = n := by omega
        go_wp2_with (first | (go_at_call 53; refine HM.out.mono ?_; rintro e w' ⟨rfl, rfl⟩) | (go_at_call 52; refine HI.out.mono ?_; rintro e w' ⟨rfl, rfl⟩))
        go_ret2
        rw [E1.out, E2.out]
        exact ⟨rfl, rfl⟩

set_option maxHeartbeats 1600000 in
theorem specElectOf_any (A : Option Addr) (n c : Nat) (zs : List Int) (w : World) (hn : n ≤ 2000000) (ha : SI w A n zs) :
    Calls Try.prog 14 #[.slice A n c] w fun e w' => Qt w (.tuple #[.int .i64 (electAt zs), .int .i64 (electN zs)]) e w' := by
  have hlen := Lib.hid ha.len
  have H := Lib.hid (specvalidMarks_any A n c zs w hn ha)
  cases hv : vmarks zs with
  | false =>
    have E1 := Lib.hid (show electAt zs = -1 by simp [electAt, hv])
    have E2 := Lib.hid (show electN zs = -1 by simp [electN, hv])
    rw [hv] at H
    clear hv ha
    go_enter Try.func14, Try.ntmps14
    go_wp2_with (go_at_call 50; refine H.out.mono ?_; rintro e w' ⟨rfl, m, rfl⟩)
    go_ret2
    rw [E1.out, E2.out]
    exact ⟨rfl, m, rfl⟩
  | true =>
    have hvv := vmarks_iff.1 hv
    rw [hlen.out] at hvv
    have hn1 : 1 ≤ n := hvv.1.1
    have hn6 : n ≤ 6 := hvv.1.2
    have E1 := Lib.hid (show electAt zs = (amax zs n : Int) by simp [electAt, hv, hlen.out])
    have E2 := Lib.hid (show electN zs = (hops zs n : Int) by simp [electN, hv, hlen.out])
    have HB := Lib.hid (show ∀ j, j ≤ n → hops zs j ≤ 36 by
      intro j hj
      have := hops_le zs j (by rw [hlen.out]; exact hj)
      rw [hlen.out] at this
      have h2 : j * n ≤ 6 * 6 := Nat.mul_le_mul (by omega) (by omega)
      omega)
    obtain ⟨b, off, rfl, hc⟩ := ha.2 (by omega)
    have HC := Lib.hid hc
    rw [hv] at H
    clear hv hvv hc ha
    go_enter Try.func14, Try.ntmps14
    go_wp2_with (go_at_call 50; refine H.out.mono ?_; rintro e w' ⟨rfl, m, rfl⟩)
    go_loopg [5, 6, 7] n (fun gg at_ v i wr => ∃ j a m : Nat, j ≤ n ∧ n - j ≤ gg ∧ i = .int .i64 j ∧ v = .int .i64 (hops zs j) ∧ at_ = .int .i64 a ∧ Aside (a = amax zs j) ∧ a < n ∧ wr = w.drewN m)
    case atStart => exact ⟨0, 0, m, by omega, by omega, rfl, by simp [hops], rfl, rfl, by omega, rfl⟩
    case round =>
      obtain ⟨j, a, m, hj, hg, rfl, rfl, rfl, HA, ha, rfl⟩ := hrel
      by_cases hlt : j < n
      · have h1 := HC.out j hlt
        have h1a := HC.out a ha
        have hbj := HB.out j hj
        have hbj1 := HB.out (j + 1) (by omega)
        have HS := Lib.hid (hops_succ zs j)
        have hl1 : j < zs.length := by rw [hlen.out]; exact hlt
        have hp := hop_pos zs j
        have HLT := Lib.hid (fun t (h : t + 1 < hop zs j) => hop_lt h hl1)
        have HAT := Lib.hid (fun t (h : t + 1 = hop zs j) => hop_at h hl1)
        have hsum : hops zs j + hop zs j ≤ 36 := by rw [← HS.out]; exact hbj1
        have HA2 := Lib.hid (show amax zs (j + 1) = if iat zs a < iat zs j then j else a by rw [HA.out]; rfl)
        clear hbj1 hl1
        generalize hH : hop zs j = h at *
        generalize hO : hops zs j = o at *
        have HH := Lib.hid hH; clear hH
        have HOo := Lib.hid hO; clear hO
        obtain ⟨a', hA'⟩ : ∃ a', a' = amax zs (j + 1) := ⟨_, rfl⟩
        rw [← hA'] at HA2
        have ha' : a' < n := by rw [HA2.out]; split <;> omega
        have HA3 := Lib.hid hA'; clear hA'
        go_wp2_with fail
        by_cases hgt : iat zs a < iat zs j
        all_goals
          go_quiet (fail)
          go_wp2_with fail
          go_loopg [8] h (fun g2 kk wr => ∃ t m : Nat, t + 1 ≤ h ∧ h - t ≤ g2 ∧ kk = .int .i64 ((t : Int) + 1) ∧ wr = w.drewN m)
          case atStart => exact ⟨0, _, by omega, by omega, by simp, by first | rfl | exact World.drewN_drewN _ _ _⟩
          case round =>
            obtain ⟨t, m2, ht, hg2, rfl, rfl⟩ := hrel
            have hq : (j + t + 1) % n < n := Nat.mod_lt _ (by omega)
            have h2 := HC.out _ hq
            have e0 : IntKind.i64.wrap ((j : Int) + ((t : Int) + 1)) = (j : Int) + ((t : Int) + 1) := IntWalk.i64_in _ (by omega)
            have e1 : ((j : Int) + ((t : Int) + 1)).tmod n = (((j + t + 1) % n : Nat) : Int) := by
              rw [Int.tmod_eq_emod_of_nonneg (by omega)]; push_cast; rw [Int.add_assoc]
            have e3 : ((((j + t + 1) % n : Nat) : Int)).toNat = (j + t + 1) % n := by omega
            by_cases hlt2 : t + 1 < h
            · have h3 := HLT.out t hlt2
              rw [hlen.out] at h3
              generalize (j + t + 1) % n = q at *
              generalize iat zs q = x at *
              go_wp2_with fail
              go_quiet (fail)
              go_wp2_with fail
              go_roundg (h - (t + 1))
              case measure => omega
              case rel => exact ⟨t + 1, _, by omega, by omega, by go_num, by first | rfl | exact World.drewN_drewN _ _ _⟩
            · have h3 := HAT.out t (by omega)
              rw [hlen.out] at h3
              generalize (j + t + 1) % n = q at *
              generalize iat zs q = x at *
              go_wp2_with fail
              go_quiet (fail)
              go_wp2_with fail
              go_roundg (n - (j + 1))
              case measure => omega
              case rel => exact ⟨j + 1, a', _, by omega, by omega, by go_num, by rw [HS.out]; exact congrArg (Value.int .i64) (by omega), by rw [HA2.out]; first | rw [if_pos hgt] | rw [if_neg (by omega)], HA3.out, ha', by first | rfl | exact World.drewN_drewN _ _ _⟩
      · obtain rfl : j = n := by omega
        go_wp2_with fail
        go_ret2
        rw [E1.out, E2.out, ← HA.out]
        exact ⟨rfl, m, rfl⟩

end Go.Proofs.Ytblaaeanbhgokaa
