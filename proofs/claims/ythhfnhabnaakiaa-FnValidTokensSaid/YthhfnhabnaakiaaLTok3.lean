/-
  LTok3. By a program (wip/tools/mk.py) out of snippets.
-/
import Derived.Test.YthhfnhabnaakiaaDTok
import Derived.Test.YthhfnhabnaakiaaFnBase
import Derived.Test.YthhfnhabnaakiaaTokMath
import Derived.Test.YthhfnhabnaakiaaTok3
namespace Go.Proofs.Ythhfnhabnaakiaa
open Go.RowKit

set_option maxHeartbeats 1600000 in
theorem lawValidTokens (A : Option Addr) (n c : Nat) (bs : List Int) (w : World) (hb : bs.length = n ∧ (0 < n → ∃ b off, A = some ⟨b, off, none⟩ ∧ ∀ i, i < n → w.cell? ⟨b, off + i, none⟩ = some (.int .u8 (iat bs i)))) (hwf : ∀ z ∈ bs, (Lit.int .u8 z).wf = true) (hcap : n ≤ c) :
    Calls Try.prog 5 #[.slice A n c] w fun e w' => e = .returned (.bool true) ∧ Below w.heap.size w w' := by
  by_cases hbig : 1048576 < n
  · clear hb
    go_enter Try.func5, Try.ntmps5
    go_wp2_with fail
    go_ret
    exact ⟨rfl, Below.refl _ _⟩
  · have H := Lib.hid (drawValidTokens_any A n c bs w hcap (by omega) (SB.of hb hwf))
    clear hb hwf
    go_enter Try.func5, Try.ntmps5
    go_wp2_with fail
    refine H.out.mono ?_
    rintro e w1 ⟨k, A1, n1, c1, zs, rfl, hsi, h1, h2, h3, h4, B1⟩
    have hn1 : n1 ≤ 2000000 := by omega
    have hlen := Lib.hid hsi.len
    go_wp2_with fail
    refine (implValidTokens_any k A1 n1 c1 zs _ hn1 hsi).mono ?_
    rintro e w2 ⟨rfl, b2⟩
    have B2 := bstep B1 b2
    have hsi2 := hsi.below b2 (Nat.le_refl _)
    clear hsi B1 b2
    have H2 := Lib.hid (specValidTokens_any k A1 n1 c1 zs w2 hn1 hsi2)
    cases hv : vtok k zs with
    | false =>
      rw [hv] at H2
      clear hv
      go_wp2_with fail
      refine H2.out.mono ?_
      rintro e w' ⟨rfl, rfl⟩
      go_wp2_with fail
      refine H2.out.mono ?_
      rintro e w' ⟨rfl, rfl⟩
      go_wp2_with fail
      go_ret
      exact ⟨rfl, B2⟩
    | true =>
      rw [hv] at H2
      have hne := toks_ne hv
      have hle := toksTo_length zs zs.length
      have hkk := vtok_iff.1 hv
      have hk5b := hkk.1.2
      have HT := Lib.hid (fun w3 (hb : Below w2.heap.size w2 w3) => implTokensOf_any k A1 n1 c1 zs w3 hn1 (hsi2.below hb (Nat.le_refl _)))
      have e2 : toksOf k zs = toks zs := by simp [toksOf, hv]
      rw [e2] at HT
      have HV := Lib.hid (show k < 5 → vtok (k + 1) zs = true by
        intro h
        rw [vtok_iff]
        exact ⟨by omega, hkk.2.1, fun z hz => by have := hkk.2.2 z hz; omega⟩)
      have HI := Lib.hid (implValidTokens_any (k + 1) A1 n1 c1 zs w2 hn1 hsi2)
      generalize hX : (toks zs).length = m at *
      have HX := Lib.hid hX
      clear hv e2 hle hkk hX hsi2
      go_wp2_with fail
      refine H2.out.mono ?_
      rintro e w' ⟨rfl, rfl⟩
      by_cases hk5 : k = 5
      · have hk5' : (k == 5) = true := by simp [hk5]
        clear hk5
        go_wp2_with fail
        refine (HT.out _ (Below.refl _ _)).mono ?_
        rintro e w3 ⟨A3, c3, rfl, hN, b3⟩
        go_wp2_with fail
        go_ret
        exact ⟨by first | rfl | (simp; omega), bstep B2 b3⟩
      · have hk5' : (k == 5) = false := by simp [hk5]
        have hv2 := HV.out (by omega)
        rw [hv2] at HI
        clear hk5 hv2
        go_wp2_with fail
        refine HI.out.mono ?_
        rintro e w3 ⟨rfl, b3⟩
        go_wp2_with fail
        refine (HT.out _ b3).mono ?_
        rintro e w4 ⟨A4, c4, rfl, hN, b4⟩
        go_wp2_with fail
        go_ret
        exact ⟨by first | rfl | (simp; omega), bstep (bstep B2 b3) b4⟩

end Go.Proofs.Ythhfnhabnaakiaa
