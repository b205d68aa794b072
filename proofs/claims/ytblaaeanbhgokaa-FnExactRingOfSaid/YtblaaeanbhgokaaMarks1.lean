/-
  Marks1. By a program (wip/tools/mk.py) out of snippets.
-/
import Derived.Test.YtblaaeanbhgokaaFn2
import Derived.Test.YtblaaeanbhgokaaMarksDef
namespace Go.Proofs.Ytblaaeanbhgokaa
open Go.RowKit

set_option maxHeartbeats 800000 in
theorem specvalidMarks_any (A : Option Addr) (n c : Nat) (zs : List Int) (w : World) (hn : n ≤ 2000000) (ha : SI w A n zs) :
    Calls Try.prog 50 #[.slice A n c] w fun e w' => Qt w (.bool (vmarks zs)) e w' := by
  have hlen := Lib.hid ha.len
  go_enter Try.func50, Try.ntmps50
  go_wp2
  go_loopg [3] n (fun gg i wr => ∃ j : Nat, j ≤ n ∧ n - j ≤ gg ∧ i = .int .i64 j ∧ (∃ m, wr = w.drewN m) ∧ Aside (∀ t, t < j → inR (iat zs t) 0 20 = true ∧ ∀ s, s < t → iat zs s ≠ iat zs t))
  case atStart => exact ⟨0, by omega, by omega, rfl, ⟨0, rfl⟩, fun t ht => absurd ht (by omega)⟩
  case round =>
    obtain ⟨j, hj, hg, rfl, ⟨m, rfl⟩, A0⟩ := hrel
    by_cases hlt : j < n
    · obtain ⟨b, off, rfl, hc⟩ := ha.2 (by omega)
      have h1 := hc j hlt
      have HC := Lib.hid hc; clear hc ha
      have H := Lib.hid (inRange_any (iat zs j) 0 20)
      cases e1 : inR (iat zs j) 0 20 with
      | false =>
        have E1 := Lib.hid e1
        rw [e1] at H
        clear e1
        go_wp2_with (go_at_call 58; refine (H.out _).mono ?_; rintro e w' ⟨rfl, rfl⟩)
        go_ret
        have hv : vmarks zs = false := by
          cases h : vmarks zs with
          | false => rfl
          | true =>
            have h2 := (vmarks_iff.1 h).2.1 _ (iat_mem (by rw [hlen.out]; exact hlt))
            rw [inR_true h2] at E1
            exact absurd E1.out (by simp)
        exact ⟨by rw [hv]; rfl, m, rfl⟩
      | true =>
        have E1 := Lib.hid e1
        rw [e1] at H
        clear e1
        go_wp2_with (go_at_call 58; refine (H.out _).mono ?_; rintro e w' ⟨rfl, rfl⟩)
        go_loopg [4] j (fun g2 i wr => ∃ s m2 : Nat, s ≤ j ∧ j - s ≤ g2 ∧ i = .int .i64 s ∧ wr = w.drewN m2 ∧ Aside (∀ t, t < s → iat zs t ≠ iat zs j))
        case atStart => exact ⟨0, m, by omega, by omega, rfl, rfl, fun t ht => absurd ht (by omega)⟩
        case round =>
          obtain ⟨s, m2, hs, hg2, rfl, rfl, A1⟩ := hrel
          by_cases hlt2 : s < j
          · have h2 := HC.out s (by omega)
            cases e2 : (iat zs s == iat zs j) with
            | true =>
              have E2 := Lib.hid e2
              go_wp2_with fail
              go_quiet (fail)
              go_wp2_with fail
              go_ret
              have hv : vmarks zs = false := by
                cases h : vmarks zs with
                | false => rfl
                | true => exact absurd (vmarks_iff.1 h).2.2 (not_nodup (by rw [hlen.out]; exact hlt) hlt2 (by simpa using E2.out))
              exact ⟨by rw [hv]; rfl, _, World.drewN_drewN _ _ _⟩
            | false =>
              have E2 := Lib.hid e2
              go_wp2_with fail
              go_quiet (fail)
              go_wp2_with fail
              go_roundg (j - (s + 1))
              case measure => omega
              case rel =>
                refine ⟨s + 1, _, by omega, by omega, by go_num, rfl, (show Aside _ from fun t ht => ?_)⟩
                by_cases e : t = s
                · subst e; simpa using E2.out
                · exact A1.out t (by omega)
          · obtain rfl : s = j := by omega
            go_wp2_with fail
            go_roundg (n - (s + 1))
            case measure => omega
            case rel =>
              refine ⟨s + 1, by omega, by omega, by go_num, ⟨_, rfl⟩, (show Aside _ from fun t ht => ?_)⟩
              by_cases e : t = s
              · subst e; exact ⟨E1.out, A1.out⟩
              · exact A0.out t (by omega)
    · obtain rfl : j = n := by omega
      clear ha
      have hv : vmarks zs = inR j 1 6 := by
        have h1 : zs.all (fun z => inR z 0 20) = true := by
          rw [List.all_eq_true]
          intro x hx
          obtain ⟨i, hi, rfl⟩ := List.mem_iff_getElem.1 hx
          have := (A0.out i (by rw [← hlen.out]; exact hi)).1
          rwa [iat_eq hi] at this
        have h2 : zs.Nodup := nodup_of fun t ht => (A0.out t (by rw [← hlen.out]; exact ht)).2
        simp [vmarks, h1, h2, hlen.out]
      have HV := Lib.hid hv; clear hv
      go_wp2_with (go_at_call 58; refine (inRange_any _ _ _ _).mono ?_; rintro e w' ⟨rfl, rfl⟩)
      go_ret
      exact ⟨by rw [HV.out]; rfl, m, rfl⟩

theorem marksOk1_any (z : Int) (w : World) : Calls Try.prog 93 #[.int .i64 z] w fun e w' => e = .returned (.bool (!inR z 0 20)) ∧ w = w' := by
  go_enter Try.func93, Try.ntmps93
  go_wp2_with (go_at_call 60; refine (within_any _ _ _ _).mono ?_; rintro e w' ⟨rfl, rfl⟩)
  go_ret
  exact ⟨rfl, rfl⟩
theorem marksOk_any (A : Option Addr) (n c : Nat) (zs : List Int) (w : World) (hn : n ≤ 2000000) (ha : SI w A n zs) :
    Calls Try.prog 61 #[.slice A n c] w fun e w' => e = .returned (.bool (zs.all (fun z => inR z 0 20))) ∧ w = w' := by
  have H := Lib.hid (containsFunc_any 93 #[] (fun z => !inR z 0 20) A n c zs (fun W => W = w) w (by omega) rfl (enters_of Try.func93 (by kernel_rfl) rfl) (fun W hW => by subst hW; exact ha)
    (fun k hk W hW => by subst hW; exact (marksOk1_any _ _).mono fun e w' ⟨he, hw⟩ => ⟨he, hw.symm⟩))
  have HE := Lib.hid (show (!(zs.any fun z => !inR z 0 20)) = zs.all (fun z => inR z 0 20) by rw [List.all_eq_not_any_not])
  clear ha
  generalize (zs.any fun z => !inR z 0 20) = r at H HE
  go_enter Try.func61, Try.ntmps61
  go_wp2_with (go_at_call 66; refine H.out.mono ?_; rintro e w' ⟨rfl, rfl⟩)
  go_ret
  exact ⟨by rw [← HE.out]; rfl, rfl⟩

set_option maxHeartbeats 800000 in
theorem ringMarks_any (A : Option Addr) (n c : Nat) (zs : List Int) (w : World) (hn : n ≤ 2000000) (hcap : n ≤ c) (ha : SI w A n zs) :
    Calls Try.prog 51 #[.slice A n c] w fun e w' => e = .returned (.bool (vmarks zs)) ∧ w = w' := by
  have hlen := Lib.hid ha.len
  go_enter Try.func51, Try.ntmps51
  go_wp2
  go_loopg [7] n (fun gg i wr => ∃ j : Nat, j ≤ n ∧ n - j ≤ gg ∧ i = .int .i64 j ∧ w = wr ∧ Aside (∀ t, t < j → ∀ s, s < t → iat zs s ≠ iat zs t))
  case atStart => exact ⟨0, by omega, by omega, rfl, rfl, fun t ht => absurd ht (by omega)⟩
  case round =>
    obtain ⟨j, hj, hg, rfl, rfl, A0⟩ := hrel
    by_cases hlt : j < n
    · have hs := ha.take (m := j) (by omega)
      obtain ⟨b, off, rfl, h1⟩ := ha.at_ hlt
      have H := Lib.hid (contains_any (some ⟨b, off, none⟩) j c (zs.take j) (iat zs j) w (by omega) hs)
      clear ha hs
      cases e1 : ((zs.take j).any fun z => iat zs j == z) with
      | true =>
        have E1 := Lib.hid e1
        rw [e1] at H
        clear e1
        go_wp2_with (go_at_call 88; refine H.out.mono ?_; rintro e w' ⟨rfl, rfl⟩)
        go_ret
        have hv : vmarks zs = false := by
          cases h : vmarks zs with
          | false => rfl
          | true =>
            obtain ⟨x, hx, hx2⟩ := List.any_eq_true.1 E1.out
            obtain ⟨s, hs, rfl⟩ := List.mem_iff_getElem.1 hx
            have hs2 := hs
            rw [List.length_take] at hs2
            have hx3 := beq_iff_eq.1 hx2
            rw [List.getElem_take] at hx3
            exact absurd (vmarks_iff.1 h).2.2 (not_nodup (t := j) (s := s) (by rw [hlen.out]; exact hlt) (by omega) (by rw [iat_eq (by omega), hx3]))
        exact ⟨by rw [hv]; rfl, rfl⟩
      | false =>
        have E1 := Lib.hid e1
        rw [e1] at H
        clear e1
        go_wp2_with (go_at_call 88; refine H.out.mono ?_; rintro e w' ⟨rfl, rfl⟩)
        go_roundg (n - (j + 1))
        case measure => omega
        case rel =>
          refine ⟨j + 1, by omega, by omega, by go_num, by first | rfl | trivial, (show Aside _ from fun t ht => ?_)⟩
          by_cases e : t = j
          · subst e
            intro s hs he
            have := List.any_eq_false.1 E1.out (iat zs s) (by
              have hl : s < zs.length := by rw [hlen.out]; omega
              rw [iat_eq hl]
              exact List.mem_take_iff_getElem.2 ⟨s, by omega, rfl⟩)
            exact absurd (beq_iff_eq.2 he.symm) this
          · exact A0.out t (by omega)
    · obtain rfl : j = n := by omega
      have H2 := Lib.hid (marksOk_any A j c zs w hn ha)
      have h2 : zs.Nodup := nodup_of fun t ht => A0.out t (by rw [← hlen.out]; exact ht)
      have HV := Lib.hid (show vmarks zs = (inR j 1 6 && zs.all (fun z => inR z 0 20)) by simp [vmarks, h2, hlen.out])
      have H3 := Lib.hid (within_any j 1 6)
      clear ha h2
      generalize zs.all (fun z => inR z 0 20) = r at *
      cases e1 : inR j 1 6 with
      | true =>
        rw [e1] at H3 HV
        clear e1
        go_wp2_with (first | (go_at_call 60; refine (H3.out _).mono ?_; rintro e w' ⟨rfl, rfl⟩) | (go_at_call 61; refine H2.out.mono ?_; rintro e w' ⟨rfl, rfl⟩))
        go_ret
        exact ⟨by rw [HV.out]; rfl, rfl⟩
      | false =>
        rw [e1] at H3 HV
        clear e1
        go_wp2_with (go_at_call 60; refine (H3.out _).mono ?_; rintro e w' ⟨rfl, rfl⟩)
        go_ret
        exact ⟨by rw [HV.out]; rfl, rfl⟩

set_option maxHeartbeats 800000 in
theorem max_any (A : Option Addr) (n c : Nat) (zs : List Int) (w : World) (hn0 : 0 < n) (hn : n ≤ 2000000) (ha : SI w A n zs) :
    Calls Try.prog 53 #[.slice A n c] w fun e w' => e = .returned (.int .i64 (iat zs (amax zs n))) ∧ w = w' := by
  have hlen := Lib.hid ha.len
  obtain ⟨b, off, rfl, hc⟩ := ha.2 hn0
  have h0 : w.cell? ⟨b, off, none⟩ = some (.int .i64 (iat zs 0)) := hc 0 hn0
  have HC := Lib.hid hc; clear hc ha
  have hd : decide ((n : Int) < 1) = false := by simp; omega
  go_enter Try.func53, Try.ntmps53
  go_wp2
  go_loopg [3, 4] n (fun gg v i wr => ∃ j : Nat, 1 ≤ j ∧ j ≤ n ∧ n - j ≤ gg ∧ i = .int .i64 j ∧ w = wr ∧ v = .int .i64 (iat zs (amax zs j)))
  case atStart => exact ⟨1, by omega, by omega, by omega, rfl, rfl, by rw [amax_zero]⟩
  case round =>
    obtain ⟨j, hj1, hj, hg, rfl, rfl, rfl⟩ := hrel
    by_cases hlt : j < n
    · have h1 := HC.out j hlt
      have HE := Lib.hid (show iat zs (amax zs (j + 1)) = max (iat zs (amax zs j)) (iat zs j) by simp only [amax]; split <;> omega)
      generalize iat zs (amax zs j) = x at *
      generalize iat zs j = y at *
      go_wp2_with fail
      all_goals
        go_roundg (n - (j + 1))
        case measure => omega
        case rel => exact ⟨j + 1, by omega, by omega, by omega, by go_num, by first | rfl | trivial, by rw [HE.out]; exact congrArg (Value.int .i64) (by omega)⟩
    · obtain rfl : j = n := by omega
      go_wp2_with fail
      go_ret
      exact ⟨rfl, rfl⟩

end Go.Proofs.Ytblaaeanbhgokaa
