/-
  LCalls2. By a program (wip/tools/mk.py) out of snippets.
-/
import Derived.Test.YtjiplangdkpehaaDGos
import Derived.Test.YtjiplangdkpehaaCalls
import Derived.Test.YtjiplangdkpehaaKnDef
import Derived.Test.YtjiplangdkpehaaFnBase
namespace Go.Proofs.Ytjiplangdkpehaa
open Go.RowKit

theorem cOk_less {m : Int} {zs ys : List Int} {k : Nat} (h : cOk m zs k = true) (j : Nat) (hj : j ≤ k) (he : ∀ i, i < j * 2 → iat ys i = iat zs i) : cOk m ys j = true := by
  refine cOk_of fun i hi => ?_
  have := cOk_at (zs := zs) h (i := i) (by omega)
  rw [he _ (by omega), he _ (by omega)]
  unfold cOk at h
  rw [List.all_eq_true] at h
  exact h i (List.mem_range.2 (by omega))
theorem vcl_less {n : Int} {zs : List Int} {k : Nat} (h : vcl n zs k = true) (j : Nat) (hj : j ≤ k) (hz : zs.length = k * 2) : vcl n (zs.take (j * 2)) j = true := by
  obtain ⟨h1, h2, h3⟩ := vcl_iff h
  unfold vcl
  simp only [Bool.and_eq_true, decide_eq_true_eq]
  refine ⟨inR_iff.2 h1, by omega, cOk_less h3 j hj fun i hi => ?_⟩
  simp [iat, List.getD_eq_getElem?_getD, List.getElem?_take, hi]
set_option maxHeartbeats 1600000 in
theorem lawValidCalls (A : Option Addr) (n c : Nat) (bs : List Int) (w : World) (hb : bs.length = n ∧ (0 < n → ∃ b off, A = some ⟨b, off, none⟩ ∧ ∀ i, i < n → w.cell? ⟨b, off + i, none⟩ = some (.int .u8 (iat bs i)))) (hwf : ∀ z ∈ bs, (Lit.int .u8 z).wf = true) (hcap : n ≤ c) :
    Calls Try.prog 4 #[.slice A n c] w fun e w' => e = .returned (.bool true) ∧ Below w.heap.size w w' := by
  by_cases hbig : 1048576 < n
  · clear hb
    go_enter Try.func4, Try.ntmps4
    go_wp2_with fail
    go_ret
    exact ⟨rfl, Below.refl _ _⟩
  · have H := Lib.hid (drawValidCalls_any A n c bs w hcap (by omega) (SB.of hb hwf))
    clear hb hwf
    go_enter Try.func4, Try.ntmps4
    go_wp2_with fail
    refine H.out.mono ?_
    rintro e w1 ⟨k, A1, n1, c1, zs, rfl, hsi, h1, h2, h3, B1⟩
    have hn1 : n1 ≤ 2000000 := by omega
    have CS := Lib.hid (fun w' h => specValidCalls_any k A1 n1 c1 zs w' hn1 h)
    have CI := Lib.hid (fun w' h => implValidCalls_any k A1 n1 c1 zs w' hn1 h)
    have HL := Lib.hid (fun (h : vcl k zs n1 = true) (h0 : 0 < n1) => vcl_less h (n1 - 1) (by omega) hsi.1)
    have HT := Lib.hid (fun w' (h : SI w' A1 (n1 * 2) zs) (h0 : 0 < n1) => implValidCalls_any k A1 (n1 - 1) c1 (zs.take ((n1 - 1) * 2)) w' (by omega) (h.take (m := (n1 - 1) * 2) (by omega)))
    have hzl := Lib.hid hsi.1
    clear H h3
    cases hv : vcl k zs n1 with
    | false =>
      rw [hv] at CS CI
      clear HL hv
      go_wp2_with fail
      refine (CI.out _ hsi).mono ?_
      rintro e w2 ⟨rfl, b2⟩
      have S2 := Lib.hid (hsi.below b2 (Nat.le_refl _))
      have B2 := Lib.hid (bstep B1 b2)
      clear hsi b2 B1
      go_wp2_with fail
      refine (CS.out _ S2.out).mono ?_
      rintro e w3 ⟨rfl, q3, rfl⟩
      have B3 := Lib.hid (bDrewN B2.out q3)
      have S3 := Lib.hid (S2.out.below (bDrewN (Below.refl w2.heap.size _) q3) (Nat.le_refl _))
      generalize w2.drewN q3 = w3 at *
      go_wp2_with fail
      refine (CS.out _ S3.out).mono ?_
      rintro e w4 ⟨rfl, q4, rfl⟩
      have B4 := Lib.hid (bDrewN B3.out q4)
      go_wp2_with fail
      go_ret
      exact ⟨rfl, B4.out⟩
    | true =>
      rw [hv] at CS CI
      go_wp2_with fail
      refine (CI.out _ hsi).mono ?_
      rintro e w2 ⟨rfl, b2⟩
      have S2 := Lib.hid (hsi.below b2 (Nat.le_refl _))
      have B2 := Lib.hid (bstep B1 b2)
      clear hsi b2 B1
      go_wp2_with fail
      refine (CS.out _ S2.out).mono ?_
      rintro e w3 ⟨rfl, q3, rfl⟩
      have B3 := Lib.hid (bDrewN B2.out q3)
      have S3 := Lib.hid (S2.out.below (bDrewN (Below.refl w2.heap.size _) q3) (Nat.le_refl _))
      generalize w2.drewN q3 = w3 at *
      by_cases h0 : n1 = 0
      · have e0 : ((n1 : Int) == 0) = true := by simp; omega
        go_wp2_with fail
        go_ret
        exact ⟨rfl, B3.out⟩
      · have e0 : ((n1 : Int) == 0) = false := by simp; omega
        have hpos : 0 < n1 := by omega
        have e1 : ((n1 : Int) - 1) = ((n1 - 1 : Nat) : Int) := by omega
        have HT' := Lib.hid (HT.out w3 S3.out hpos)
        rw [HL.out hv hpos] at HT'
        clear hv HL HT CS CI
        go_wp2_with fail
        refine HT'.out.mono ?_
        rintro e w4 ⟨rfl, b4⟩
        have B4 := Lib.hid (bstep B3.out b4)
        go_wp2_with fail
        go_ret
        exact ⟨rfl, B4.out⟩

end Go.Proofs.Ytjiplangdkpehaa
