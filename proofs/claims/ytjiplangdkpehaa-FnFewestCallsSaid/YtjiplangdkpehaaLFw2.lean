/-
  LFw2. By a program (wip/tools/mk.py) out of snippets.
-/
import Derived.Test.YtjiplangdkpehaaFcDef
import Derived.Test.YtjiplangdkpehaaEqP
import Derived.Test.YtjiplangdkpehaaLFull2
namespace Go.Proofs.Ytjiplangdkpehaa
open Go.RowKit

set_option maxRecDepth 20000 in
set_option maxHeartbeats 3200000 in
theorem lawFewestCalls (A : Option Addr) (n c : Nat) (bs : List Int) (w : World) (hb : bs.length = n ∧ (0 < n → ∃ b off, A = some ⟨b, off, none⟩ ∧ ∀ i, i < n → w.cell? ⟨b, off + i, none⟩ = some (.int .u8 (iat bs i)))) (hwf : ∀ z ∈ bs, (Lit.int .u8 z).wf = true) (hcap : n ≤ c) :
    Calls Try.prog 12 #[.slice A n c] w fun e w' => e = .returned (.bool true) ∧ Below w.heap.size w w' := by
  by_cases hbig : 1048576 < n
  · clear hb
    go_enter Try.func12, Try.ntmps12
    go_wp2_with fail
    go_ret
    exact ⟨rfl, Below.refl _ _⟩
  · have H := Lib.hid (drawFewestCalls_any A n c bs w hcap (by omega) (SB.of hb hwf))
    clear hb hwf
    go_enter Try.func12, Try.ntmps12
    go_wp2_with fail
    refine H.out.mono ?_
    rintro e w1 ⟨z, rfl, hz, B1⟩
    have KEY : (z < 1 ∨ 4 < z) ∨ ∃ m : Nat, z = m ∧ 1 ≤ m ∧ m ≤ 4 ∧ ifA z (fcL z) (fcN z) = true ∧ fcN z = fewN m := by
      by_cases hin : 1 ≤ z ∧ z ≤ 4
      · refine .inr ⟨z.toNat, by omega, by omega, by omega, ?_⟩
        obtain ⟨m, rfl⟩ : ∃ m : Nat, z = m := ⟨z.toNat, by omega⟩
        have hm : m ∈ [1, 2, 3, 4] := by simp; omega
        exact fcLaw hm
      · exact .inl (by omega)
    have hz2 : 0 ≤ z ∧ z ≤ 7 := by
      simp only [List.mem_cons, List.not_mem_nil, or_false] at hz
      omega
    have CS := Lib.hid (fun w => specFewestCalls_any z w)
    have CI := Lib.hid (fun w => implFewestCalls_any z w)
    have hm := fcN_le z
    have CF := Lib.hid (fun A c w' h => implIsFull_any z A (fcN z) c (fcL z) w' (by omega) h)
    clear hz H
    generalize ifA z (fcL z) (fcN z) = full at *
    generalize fcN z = m at *
    generalize fcL z = zs at *
    go_wp2_with fail
    refine (CI.out _).mono ?_
    rintro e w2 ⟨A2, c2, rfl, hc2, N2, b2⟩
    have S2 := N2.si
    have B2 := bstep B1 b2
    clear N2 b2 B1
    go_wp2_with fail
    refine (CS.out _).mono ?_
    rintro e w3 ⟨A3, c3, rfl, S3, b3⟩
    have B3 := bstep B2 b3
    replace S2 := S2.below b3 (Nat.le_refl _)
    clear b3 B2
    go_wp2_with fail
    refine (equalPairs_true A2 A3 m c2 c3 zs _ (by omega) S2 S3).mono ?_
    rintro e w4 ⟨rfl, q4, rfl⟩
    have B4 := bDrewN B3 q4
    replace S2 := S2.below (bDrewN (Below.refl _ _) q4) (Nat.le_refl _)
    clear S3 B3
    rcases KEY with hout | ⟨k, rfl, hk1, hk6, rfl, hfew⟩
    · rcases hout with ho | ho
      · have hd : decide (z < 1) = true := by simpa using ho
        go_wp2_with fail
        refine (CS.out _).mono ?_
        rintro e w5 ⟨A5, c5, rfl, S5, b5⟩
        have B5 := bstep B4 b5
        replace S2 := S2.below b5 (Nat.le_refl _)
        clear b5 B4
        go_wp2_with fail
        refine (equalPairs_true A2 A5 m c2 c5 zs _ (by omega) S2 S5).mono ?_
        rintro e w6 ⟨rfl, q6, rfl⟩
        go_wp2_with fail
        go_ret
        exact ⟨rfl, bDrewN B5 q6⟩
      · have hd : decide (z < 1) = false := by simp; omega
        have hd2 : decide (4 < z) = true := by simpa using ho
        go_wp2_with fail
        refine (CS.out _).mono ?_
        rintro e w5 ⟨A5, c5, rfl, S5, b5⟩
        have B5 := bstep B4 b5
        replace S2 := S2.below b5 (Nat.le_refl _)
        clear b5 B4
        go_wp2_with fail
        refine (equalPairs_true A2 A5 m c2 c5 zs _ (by omega) S2 S5).mono ?_
        rintro e w6 ⟨rfl, q6, rfl⟩
        go_wp2_with fail
        go_ret
        exact ⟨rfl, bDrewN B5 q6⟩
    · have hd : decide ((k : Int) < 1) = false := by simp; omega
      have hd2 : decide (4 < (k : Int)) = false := by simp; omega
      have HFe := Lib.hid (fun w' => fewest_any k w' hk1 (by omega))
      rw [← hfew] at HFe
      clear hfew
      have hmm : ((m : Int) == (m : Int)) = true := by simp
      go_wp2_with fail
      refine (CF.out _ _ _ S2).mono ?_
      rintro e w5 ⟨rfl, b5⟩
      have B5 := bstep B4 b5
      clear b5 B4
      go_wp2_with fail
      refine (HFe.out _).mono ?_
      rintro e w6 ⟨rfl, rfl⟩
      go_wp2_with fail
      go_ret
      exact ⟨rfl, B5⟩

end Go.Proofs.Ytjiplangdkpehaa
