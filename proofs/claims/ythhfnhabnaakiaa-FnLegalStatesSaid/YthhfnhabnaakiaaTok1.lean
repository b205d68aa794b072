/-
  Tok1. By a program (wip/tools/mk.py) out of snippets.
-/
import Derived.Test.YthhfnhabnaakiaaFn1
import Derived.Test.YthhfnhabnaakiaaTokDef
namespace Go.Proofs.Ythhfnhabnaakiaa
open Go.RowKit

theorem validTokens1_any (x k : Int) (B : Nat) (w : World) (hk1 : 2 ≤ k) (hk2 : k ≤ 5) (hc : w.cell? ⟨B, 0, none⟩ = some (.int .i64 k)) :
    Calls Try.prog 43 #[.int .i64 x, .pointer (some ⟨B, 0, none⟩)] w fun e w' => e = .returned (.bool (!inR x 0 (k - 1))) ∧ w = w' := by
  have H := Lib.hid (within_any x 0 (k - 1) w)
  go_enter Try.func43, Try.ntmps43
  go_wp2_with (go_at_call 41; refine H.out.mono ?_; rintro e w' ⟨rfl, rfl⟩)
  go_ret
  exact ⟨rfl, rfl⟩

set_option maxHeartbeats 400000 in
theorem implValidTokens_any (k : Int) (A : Option Addr) (n c : Nat) (zs : List Int) (w : World) (hn : n ≤ 2000000) (ha : SI w A n zs) :
    Calls Try.prog 16 #[.int .i64 k, .slice A n c] w fun e w' => e = .returned (.bool (vtok k zs)) ∧ Below w.heap.size w w' := by
  have hmf : ∀ (fn : Fn) (first cap : Array Value) (w : World), (Instr.makeFunc fn first cap).run Try.prog w = .ok (.func fn first cap) w := fun _ _ _ _ => rfl
  have hlen := Lib.hid ha.len
  have hb : Below w.heap.size w (w.alloc (.cells #[.int .i64 k] 3)) := (Below.refl _ _).alloc (Nat.le_refl _) _
  have h2 := Lib.hid (within_any k 2 5)
  have h3 := Lib.hid (within_any n 2 5)
  cases e1 : inR k 2 5 with
  | false =>
    have hv := Lib.hid (show vtok k zs = false by simp [vtok, e1])
    rw [e1] at h2
    clear e1 ha
    go_enter Try.func16, Try.ntmps16
    go_wp2_with (go_at_call 41; refine (h2.out _).mono ?_; rintro e w' ⟨rfl, rfl⟩)
    go_ret
    exact ⟨by rw [hv.out]; rfl, hb⟩
  | true =>
    have hk := inR_iff.1 e1
    have e1' := Lib.hid e1
    rw [e1] at h2
    clear e1
    cases e2 : inR n 2 5 with
    | false =>
      have hv := Lib.hid (show vtok k zs = false by simp [vtok, hlen.out, e2])
      rw [e2] at h3
      clear e2 ha
      go_enter Try.func16, Try.ntmps16
      go_wp2_with (first | (go_at_call_of 41 (Value.int .i64 k); refine (h2.out _).mono ?_; rintro e w' ⟨rfl, rfl⟩) | (go_at_call_of 41 (Value.int .i64 (n : Int)); refine (h3.out _).mono ?_; rintro e w' ⟨rfl, rfl⟩))
      go_ret
      exact ⟨by rw [hv.out]; rfl, hb⟩
    | true =>
      have hv := Lib.hid (show vtok k zs = !(zs.any fun z => !inR z 0 (k - 1)) by simp [vtok, e1'.out, hlen.out, e2, List.all_eq_not_any_not])
      rw [e2] at h3
      clear e2
      have hcell : (w.alloc (.cells #[.int .i64 k] 3)).cell? ⟨w.heap.size, 0, none⟩ = some (.int .i64 k) := by simp
      have H4 := Lib.hid (containsFunc_any 43 #[.pointer (some ⟨w.heap.size, 0, none⟩)] (fun z => !inR z 0 (k - 1)) A n c zs (fun W => W = w.alloc (.cells #[.int .i64 k] 3)) _ (by omega) rfl
        (enters_of Try.func43 (by kernel_rfl) rfl) (fun W hW => by subst hW; exact ha.alloc _)
        (fun j hj W hW => by subst hW; exact (validTokens1_any (iat zs j) k w.heap.size _ hk.1 hk.2 hcell).mono fun e w' ⟨he, hw⟩ => ⟨he, hw.symm⟩))
      generalize (zs.any fun z => !inR z 0 (k - 1)) = r at H4 hv
      clear ha hcell
      go_enter Try.func16, Try.ntmps16
      go_wp2_with (first | (go_at_call_of 41 (Value.int .i64 k); refine (h2.out _).mono ?_; rintro e w' ⟨rfl, rfl⟩) | (go_at_call_of 41 (Value.int .i64 (n : Int)); refine (h3.out _).mono ?_; rintro e w' ⟨rfl, rfl⟩) | (go_at_call 42; refine H4.out.mono ?_; rintro e w' ⟨rfl, rfl⟩))
      go_ret
      exact ⟨by rw [hv.out]; rfl, hb⟩

theorem vtok_of {k : Int} {zs : List Int} {n : Nat} (hlen : zs.length = n) (h : ∀ t, t < n → inR (iat zs t) 0 (wrap64 (k - 1)) = true) : vtok k zs = (inR k 2 5 && inR n 2 5) := by
  subst hlen
  by_cases hk : 2 ≤ k ∧ k ≤ 5
  · have e : wrap64 (k - 1) = k - 1 := IntWalk.wrap64_in _ (by omega)
    have ha : zs.all (fun z => inR z 0 (k - 1)) = true := by
      rw [List.all_eq_true]
      intro x hx
      obtain ⟨j, hj, rfl⟩ := List.mem_iff_getElem.1 hx
      have := h j hj
      rwa [iat_eq hj, e] at this
    simp [vtok, ha]
  · simp [vtok, inR_false hk]
theorem vtok_not {k : Int} {zs : List Int} {t : Nat} (ht : t < zs.length) (h : inR (iat zs t) 0 (wrap64 (k - 1)) = false) : vtok k zs = false := by
  by_cases hk : 2 ≤ k ∧ k ≤ 5
  · have e : wrap64 (k - 1) = k - 1 := IntWalk.wrap64_in _ (by omega)
    have ha : zs.all (fun z => inR z 0 (k - 1)) = false := by
      rw [List.all_eq_false]
      exact ⟨zs[t], List.getElem_mem ht, by rw [iat_eq ht, e] at h; simp [h]⟩
    simp [vtok, ha]
  · simp [vtok, inR_false hk]
set_option maxHeartbeats 400000 in
theorem specvalidTokens_any (k : Int) (A : Option Addr) (n c : Nat) (zs : List Int) (w : World) (hn : n ≤ 2000000) (ha : SI w A n zs) :
    Calls Try.prog 40 #[.int .i64 k, .slice A n c] w fun e w' => e = .returned (.bool (vtok k zs)) ∧ w = w' := by
  have hlen := Lib.hid ha.len
  go_enter Try.func40, Try.ntmps40
  go_wp2
  go_loop [5] (fun i => ∃ j : Nat, j ≤ n ∧ i = .int .i64 j ∧ Aside (∀ t, t < j → inR (iat zs t) 0 (wrap64 (k - 1)) = true)) (fun i => n - (intOf i).toNat)
  case atStart => exact ⟨0, by omega, rfl, fun t ht => absurd ht (by omega)⟩
  case round =>
    obtain ⟨j, hj, rfl, A0⟩ := hrel
    by_cases hlt : j < n
    · obtain ⟨b, off, rfl, h1⟩ := ha.at_ hlt
      clear ha
      have H := Lib.hid (inRange_any (iat zs j) 0 (wrap64 (k - 1)) w)
      cases e1 : inR (iat zs j) 0 (wrap64 (k - 1)) with
      | true =>
        have E1 := Lib.hid e1
        rw [e1] at H
        clear e1
        go_wp2_with (go_at_call 48; refine H.out.mono ?_; rintro e w' ⟨rfl, rfl⟩)
        go_round
        case rel =>
          refine ⟨j + 1, by omega, by go_num, (show Aside _ from fun t ht => ?_)⟩
          by_cases e : t = j
          · subst e; exact E1.out
          · exact A0.out t (by omega)
        case measure => simp [intOf]; omega
      | false =>
        have E1 := Lib.hid e1
        rw [e1] at H
        clear e1
        go_wp2_with (go_at_call 48; refine H.out.mono ?_; rintro e w' ⟨rfl, rfl⟩)
        go_ret
        exact ⟨by rw [vtok_not (by rw [hlen.out]; exact hlt) E1.out]; rfl, rfl⟩
    · obtain rfl : j = n := by omega
      have hv := Lib.hid (vtok_of hlen.out A0.out)
      clear ha A0
      have h2 := Lib.hid (inRange_any k 2 5)
      have h3 := Lib.hid (inRange_any j 2 5)
      cases e1 : inR k 2 5 <;> cases e2 : inR j 2 5
      all_goals
        rw [e1] at h2
        rw [e2] at h3
        rw [e1, e2] at hv
        clear e1 e2
        go_wp2_with (first | (go_at_call_of 48 (Value.int .i64 k); refine (h2.out _).mono ?_; rintro e w' ⟨rfl, rfl⟩) | (go_at_call_of 48 (Value.int .i64 (j : Int)); refine (h3.out _).mono ?_; rintro e w' ⟨rfl, rfl⟩))
        go_ret
        exact ⟨by rw [hv.out]; rfl, rfl⟩

theorem specValidTokens_any (k : Int) (A : Option Addr) (n c : Nat) (zs : List Int) (w : World) (hn : n ≤ 2000000) (ha : SI w A n zs) :
    Calls Try.prog 14 #[.int .i64 k, .slice A n c] w fun e w' => e = .returned (.bool (vtok k zs)) ∧ w = w' := by
  have H := Lib.hid (specvalidTokens_any k A n c zs w hn ha)
  clear ha
  go_enter Try.func14, Try.ntmps14
  go_wp2_with (go_at_call 40; refine H.out.mono ?_; rintro e w' ⟨rfl, rfl⟩)
  go_ret
  exact ⟨rfl, rfl⟩

end Go.Proofs.Ythhfnhabnaakiaa
