/-
  LegI. By a program (wip/tools/mk.py) out of snippets.
-/
import Derived.Test.YthhfnhabnaakiaaLegS2
import Derived.Test.YthhfnhabnaakiaaRLaw
import Derived.Test.YthhfnhabnaakiaaTok2
namespace Go.Proofs.Ythhfnhabnaakiaa
open Go.RowKit

theorem implpower_any (K N : Nat) (w : World) (hK : 2 ≤ K) (hK5 : K ≤ 5) (hN5 : N ≤ 5) :
    Calls Try.prog 65 #[.int .i64 K, .int .i64 N] w fun e w' => e = .returned (.int .i64 ((K ^ N : Nat) : Int)) ∧ w = w' := by
  have HP := Lib.hid (fun j (hj : j ≤ N) => pow_le_big hK hK5 hj hN5)
  go_enter Try.func65, Try.ntmps65
  go_wp2
  go_loopw [5, 7] (fun s5 s7 wr => ∃ (j p : Nat), j ≤ N ∧ s7 = .int .i64 j ∧ s5 = .int .i64 p ∧ Hid (p = K ^ j) ∧ w = wr) (fun _ s7 _ => N - (intOf s7).toNat)
  case atStart => exact ⟨0, 1, by omega, rfl, rfl, Lib.hid rfl, rfl⟩
  case round =>
    obtain ⟨j, p, hj, rfl, rfl, hp, rfl⟩ := hrel
    have hb := HP.out j hj
    rw [← hp.out] at hb
    by_cases hlt : j < N
    · have hb2 := HP.out (j + 1) (by omega)
      have hq : K ^ (j + 1) = p * K := by rw [Nat.pow_succ, hp.out]
      rw [hq] at hb2
      obtain ⟨q, hqq⟩ : ∃ q, q = p * K := ⟨_, rfl⟩
      have hq2 := Lib.hid (show q = K ^ (j + 1) by rw [hqq, hq])
      have hmul : (p : Int) * (K : Int) = (q : Int) := by rw [hqq]; simp
      rw [← hqq] at hb2
      have hw : IntKind.i64.wrap ((p : Int) * (K : Int)) = (q : Int) := by rw [hmul, IntKind.wrap_i64]; omega
      have hw2 : IntKind.i64.wrap (q : Int) = (q : Int) := by rw [IntKind.wrap_i64]; omega
      clear hqq hq
      go_wp2
      go_roundw
      case rel => exact ⟨j + 1, q, by omega, by go_num, by first | rfl | go_num, hq2, by first | rfl | trivial⟩
      case measure => simp [intOf]; omega
    · obtain rfl : j = N := by omega
      go_wp2
      go_ret
      exact ⟨by rw [hp.out]; rfl, rfl⟩

theorem implringOk_any (k n : Int) (w : World) :
    Calls Try.prog 59 #[.int .i64 k, .int .i64 n] w fun e w' => e = .returned (.bool (lgOk k n)) ∧ w = w' := by
  have CK := Lib.hid (within_any k 2 5 w)
  have CN := Lib.hid (within_any n 2 5 w)
  cases hn : inR n 2 5 with
  | false =>
    have hR : lgOk k n = false := by unfold lgOk; rw [hn]; simp
    rw [hn] at CN
    rw [hR]
    clear hR hn CK
    go_enter Try.func59, Try.ntmps59
    go_wp2_with fail
    refine CN.out.mono ?_
    rintro e w' ⟨rfl, rfl⟩
    go_wp2_with fail
    go_ret
    exact ⟨rfl, rfl⟩
  | true =>
    cases hk : inR k 2 5 with
    | false =>
      have hR : lgOk k n = false := by unfold lgOk; rw [hk]; simp
      rw [hn] at CN
      rw [hk] at CK
      rw [hR]
      clear hR hn hk
      go_enter Try.func59, Try.ntmps59
      go_wp2_with fail
      refine CN.out.mono ?_
      rintro e w' ⟨rfl, rfl⟩
      go_wp2_with fail
      refine CK.out.mono ?_
      rintro e w' ⟨rfl, rfl⟩
      go_wp2_with fail
      go_ret
      exact ⟨rfl, rfl⟩
    | true =>
      obtain ⟨K, rfl, hK, hK5⟩ : ∃ K : Nat, k = K ∧ 2 ≤ K ∧ K ≤ 5 := ⟨k.toNat, by have := inR_iff.1 hk; omega, by have := inR_iff.1 hk; omega, by have := inR_iff.1 hk; omega⟩
      obtain ⟨N, rfl, hN, hN5⟩ : ∃ K : Nat, n = K ∧ 2 ≤ K ∧ K ≤ 5 := ⟨n.toNat, by have := inR_iff.1 hn; omega, by have := inR_iff.1 hn; omega, by have := inR_iff.1 hn; omega⟩
      have CT := Lib.hid (implpower_any K N w hK hK5 hN5)
      have hM := pow_le_big hK hK5 (Nat.le_refl N) hN5
      have hR : lgOk K N = decide (K ^ N ≤ 1024) := by unfold lgOk; rw [hk, hn]; simp
      rw [hn] at CN
      rw [hk] at CK
      rw [hR]
      obtain ⟨M, hMM⟩ : ∃ M, M = K ^ N := ⟨_, rfl⟩
      rw [← hMM] at CT hM ⊢
      clear hR hn hk hMM
      have hd := Lib.hid (show decide ((M : Int) ≤ 1024) = decide (M ≤ 1024) by rw [decide_eq_decide]; omega)
      go_enter Try.func59, Try.ntmps59
      go_wp2_with fail
      refine CN.out.mono ?_
      rintro e w' ⟨rfl, rfl⟩
      go_wp2_with fail
      refine CK.out.mono ?_
      rintro e w' ⟨rfl, rfl⟩
      go_wp2_with fail
      refine CT.out.mono ?_
      rintro e w' ⟨rfl, rfl⟩
      go_wp2_with fail
      go_ret
      exact ⟨by rw [← hd.out]; rfl, rfl⟩

theorem implstates_any (k n : Int) (w : World) :
    Calls Try.prog 60 #[.int .i64 k, .int .i64 n] w fun e w' => e = .returned (.func (.func 66) #[] #[.pointer (some ⟨w.heap.size + 1, 0, none⟩), .pointer (some ⟨w.heap.size, 0, none⟩)]) ∧ w' = (w.alloc (.cells #[.int .i64 k] 3)).alloc (.cells #[.int .i64 n] 3) := by
  go_enter Try.func60, Try.ntmps60
  go_wp2
  go_ret
  exact ⟨rfl, rfl⟩

theorem cloneR_any (A : Option Addr) (n c : Nat) (zs : List Int) (w : World) (hn0 : 0 < n) (hn : n ≤ 2000000) (ha : SI w A n zs) :
    Calls Try.prog 56 #[.slice A n c] w fun e w' => ∃ g c', e = .returned (.slice (some ⟨g, 0, none⟩) n c') ∧ RowOk w' w.heap.size w'.heap.size (.slice (some ⟨g, 0, none⟩) n c') zs ∧ Below w.heap.size w w' := by
  obtain ⟨b, off, rfl, hc⟩ := ha.2 hn0
  have hb0 : Below w.heap.size w (w.alloc (.cells #[] 3)) := (Below.refl _ _).alloc (Nat.le_refl _) _
  have HO := Lib.hid (own_empty w w.heap.size (Nat.le_refl _))
  have HS := Lib.hid (ha.alloc (.cells #[] 3))
  have hneq := fun (W : World) a l c => Lib.run_eql_slice_nil (P := Try.prog) W 23 3 a l c 0 0 Try.underlying23
  clear ha hc
  go_enter Try.func56, Try.ntmps56
  go_wp2_with (at_builtin; refine appAll _ w.heap.size _ 0 0 [] _ n _ zs rfl _ _ rfl rfl HO.out rfl HS.out (by omega) (by simp) ?_; intro A2 c2 w2 ho2 hb2 hg2)
  go_ret
  simp only [Nat.zero_add, List.nil_append] at ho2
  obtain ⟨g, rfl, _, _⟩ := own_form ho2 hn0
  exact ⟨g, c2, by simp, RowOk.of_own ho2, hb0.trans hb2⟩

theorem clipSS_any (b off n c : Nat) (w : World) (hn : 0 < n) (hc : n ≤ c) (hm : n ≤ 9000000000000000000) :
    Calls Try.prog 61 #[.slice (some ⟨b, off, none⟩) n c] w fun e w' => e = .returned (.slice (some ⟨b, off, none⟩) n n) ∧ w = w' := by
  go_enter Try.func61, Try.ntmps61
  go_wp2
  go_ret
  exact ⟨rfl, rfl⟩

end Go.Proofs.Ythhfnhabnaakiaa
