/-
  LFull2. By a program (wip/tools/mk.py) out of snippets.
-/
import Derived.Test.YtjiplangdkpehaaGTab
import Derived.Test.YtjiplangdkpehaaDGos
import Derived.Test.YtjiplangdkpehaaKnI
import Derived.Test.YtjiplangdkpehaaFnBase
namespace Go.Proofs.Ytjiplangdkpehaa
open Go.RowKit

theorem fewest_any (n : Nat) (w : World) (hn1 : 1 ≤ n) (hn : n ≤ 6) :
    Calls Try.prog 26 #[.int .i64 n] w fun e w' => e = .returned (.int .i64 ((fewN n : Nat) : Int)) ∧ w = w' := by
  have h : n = 1 ∨ n = 2 ∨ n = 3 ∨ n = 4 ∨ n = 5 ∨ n = 6 := by omega
  rcases h with rfl | rfl | rfl | rfl | rfl | rfl
  all_goals
    clear hn1 hn
    go_enter Try.func26, Try.ntmps26
    go_wp2
    go_ret
    exact ⟨rfl, rfl⟩

def allTo (n : Nat) (ks : List Nat) (p : Nat) : Bool := (List.range p).all fun i => ks.getD i 0 == 2 ^ n - 1
theorem allTo_succ (n : Nat) (ks : List Nat) (p : Nat) : allTo n ks (p + 1) = (allTo n ks p && (ks.getD p 0 == 2 ^ n - 1)) := by
  unfold allTo
  rw [List.range_succ, List.all_append]
  simp
theorem allTo_full {n : Nat} {ks : List Nat} (h : ks.length = n) : allTo n ks n = fullK n ks := by
  unfold allTo fullK
  rw [Bool.eq_iff_iff, List.all_eq_true, List.all_eq_true]
  constructor
  · intro h1 x hx
    obtain ⟨i, hi, rfl⟩ := List.mem_iff_getElem.1 hx
    have := h1 i (List.mem_range.2 (by omega))
    rwa [List.getD_eq_getElem?_getD, List.getElem?_eq_getElem hi] at this
  · intro h1 i hi
    have hi' : i < ks.length := by rw [h]; exact List.mem_range.1 hi
    rw [List.getD_eq_getElem?_getD, List.getElem?_eq_getElem hi']
    exact h1 _ (List.getElem_mem hi')

set_option maxHeartbeats 3200000 in
theorem lawIsFull (A : Option Addr) (n c : Nat) (bs : List Int) (w : World) (hb : bs.length = n ∧ (0 < n → ∃ b off, A = some ⟨b, off, none⟩ ∧ ∀ i, i < n → w.cell? ⟨b, off + i, none⟩ = some (.int .u8 (iat bs i)))) (hwf : ∀ z ∈ bs, (Lit.int .u8 z).wf = true) (hcap : n ≤ c) :
    Calls Try.prog 10 #[.slice A n c] w fun e w' => e = .returned (.bool true) ∧ Below w.heap.size w w' := by
  by_cases hbig : 1048576 < n
  · clear hb
    go_enter Try.func10, Try.ntmps10
    go_wp2_with fail
    go_ret
    exact ⟨rfl, Below.refl _ _⟩
  · have H := Lib.hid (drawIsFull_any A n c bs w hcap (by omega) (SB.of hb hwf))
    clear hb hwf
    go_enter Try.func10, Try.ntmps10
    go_wp2_with fail
    refine H.out.mono ?_
    rintro e w1 ⟨k, A1, m, c1, zs, rfl, hsi, hm, hcc, h3, B1⟩
    have hm2 : m ≤ 2000000 := by omega
    have CS := Lib.hid (fun w' h => specIsFull_any k A1 m c1 zs w' hm2 h)
    have CI := Lib.hid (fun w' h => implIsFull_any k A1 m c1 zs w' hm2 h)
    have CV := Lib.hid (fun w' h => implValidCalls_any k A1 m c1 zs w' hm2 h)
    have CK := Lib.hid (fun w' h => implKnownAfter_any k A1 m c1 zs w' hm2 h)
    clear H
    cases hv : vcl k zs m with
    | false =>
      rw [show ifA k zs m = false by simp [ifA, hv]] at CS CI
      rw [hv] at CV
      clear hv h3 CK
      go_wp2_with fail
      refine (CI.out _ hsi).mono ?_
      rintro e w2 ⟨rfl, b2⟩
      have S2 := Lib.hid (hsi.below b2 (Nat.le_refl _))
      have B2 := Lib.hid (bstep B1 b2)
      clear hsi b2 B1
      go_wp2_with fail
      refine (CS.out _ S2.out).mono ?_
      rintro e w3 ⟨rfl, b3⟩
      have S3 := Lib.hid (S2.out.below b3 (Nat.le_refl _))
      have B3 := Lib.hid (bstep B2.out b3)
      clear b3 S2 B2
      go_wp2_with fail
      refine (CV.out _ S3.out).mono ?_
      rintro e w4 ⟨rfl, b4⟩
      have S4 := Lib.hid (S3.out.below b4 (Nat.le_refl _))
      have B4 := Lib.hid (bstep B3.out b4)
      clear b4 S3 B3
      go_wp2_with fail
      refine (CS.out _ S4.out).mono ?_
      rintro e w5 ⟨rfl, b5⟩
      have B5 := Lib.hid (bstep B4.out b5)
      clear b5
      go_wp2_with fail
      go_ret
      exact ⟨rfl, B5.out⟩
    | true =>
      obtain ⟨⟨hk1, hk2⟩, _, hcok⟩ := vcl_iff hv
      obtain ⟨N, rfl⟩ : ∃ N : Nat, k = N := ⟨k.toNat, by omega⟩
      have HFew := Lib.hid (fun h => few_le (n := N) (k := m) (zs := zs) (by omega) (by omega) hcok h)
      rw [show ifA N zs m = fullK N (knTo N zs m) by simp [ifA, hv]] at CS CI
      rw [show knA N zs m = toI (knTo N zs m) by simp [knA, hv], toI_length, knTo_length] at CK
      rw [hv] at CV
      have hsm : ∀ p, (knTo N zs m).getD p 0 < 2 ^ N := fun p => knTo_small hcok m (Nat.le_refl _) p
      have HAF := Lib.hid (allTo_full (knTo_length N zs m))
      have HAS := Lib.hid (fun p => allTo_succ N (knTo N zs m) p)
      have HA0 := Lib.hid (show allTo N (knTo N zs m) 0 = true from rfl)
      have hp6 : 2 ^ N ≤ 64 := Nat.pow_le_pow_right (n := 2) (by omega) (by omega : N ≤ 6)
      have HP := Lib.hid (fun w' => power_any N w' (by omega))
      have HFe := Lib.hid (fun w' => fewest_any N w' (by omega) (by omega))
      have hfb : fewN N ≤ 8 := by unfold fewN; split <;> rename_i h9
                                  · have : N = 1 ∨ N = 2 ∨ N = 3 := by omega
                                    rcases this with rfl | rfl | rfl <;> decide
                                  · omega
      have hp1 : 1 ≤ 2 ^ N := Nat.two_pow_pos N
      have HSm := Lib.hid hsm
      clear hcok hv h3 hsm
      generalize knTo N zs m = ks at *
      generalize fewN N = fw at *
      generalize 2 ^ N = P at *
      go_wp2_with fail
      refine (CI.out _ hsi).mono ?_
      rintro e w2 ⟨rfl, b2⟩
      have S2 := Lib.hid (hsi.below b2 (Nat.le_refl _))
      have B2 := Lib.hid (bstep B1 b2)
      clear hsi b2 B1
      go_wp2_with fail
      refine (CS.out _ S2.out).mono ?_
      rintro e w3 ⟨rfl, b3⟩
      have S3 := Lib.hid (S2.out.below b3 (Nat.le_refl _))
      have B3 := Lib.hid (bstep B2.out b3)
      have hne : (fullK N ks != fullK N ks) = false := by simp
      clear b3 S2 B2
      go_wp2_with fail
      refine (CV.out _ S3.out).mono ?_
      rintro e w4 ⟨rfl, b4⟩
      have S4 := Lib.hid (S3.out.below b4 (Nat.le_refl _))
      have B4 := Lib.hid (bstep B3.out b4)
      clear b4 S3 B3
      go_wp2_with fail
      refine (CK.out _ S4.out).mono ?_
      rintro e w5 ⟨A5, c5, rfl, N5, b5⟩
      have B5 := Lib.hid (bstep B4.out b5)
      obtain ⟨d5, o5, rfl, hc5⟩ := N5.si.2 (by omega)
      have HC5 := Lib.hid hc5
      clear b5 S4 B4 N5 hc5 CK CV CS CI
      go_wp2_with fail
      go_loopg [7, 8] N (fun gg va v wr => ∃ p q : Nat, p ≤ N ∧ N - p ≤ gg ∧ v = .int .i64 p ∧ va = .bool (allTo N ks p) ∧ wr = w5.drewN q)
      case atStart => exact ⟨0, 0, by omega, by omega, rfl, by rw [HA0.out], rfl⟩
      case round =>
        obtain ⟨p, q, hp, hg, rfl, rfl, rfl⟩ := hrel
        by_cases hlt : p < N
        · have hx := HC5.out p hlt
          rw [toI_at] at hx
          have hs1 := HSm.out p
          have hS := Lib.hid (HAS.out p)
          generalize ks.getD p 0 = x at *
          have hw : IntKind.i64.wrap ((P : Int) - 1) = (P : Int) - 1 := IntWalk.i64_in _ (by omega)
          cases ha : allTo N ks p with
          | false =>
            rw [ha] at hS
            have HB1 := Lib.hid (show allTo N ks (p + 1) = false by rw [hS.out]; rfl)
            clear ha
            go_wp2_with fail
            go_quiet (first | (go_at_call 37; exact quietP (HP.out _)))
            go_wp2_with fail
            go_roundg (N - (p + 1))
            case measure => omega
            case rel => exact ⟨p + 1, _, by omega, by omega, by go_num, by rw [HB1.out], rfl⟩
          | true =>
            rw [ha] at hS
            by_cases hxp : x = P - 1
            · have HB1 := Lib.hid (show allTo N ks (p + 1) = true by rw [hS.out]; simpa using hxp)
              have ht : ((x : Int) == (P : Int) - 1) = true := by simp; omega
              clear ha hxp
              go_wp2_with fail
              go_quiet (first | (go_at_call 37; exact quietP (HP.out _)))
              go_wp2_with fail
              go_roundg (N - (p + 1))
              case measure => omega
              case rel => exact ⟨p + 1, _, by omega, by omega, by go_num, by rw [HB1.out], rfl⟩
            · have HB1 := Lib.hid (show allTo N ks (p + 1) = false by rw [hS.out]; simpa using hxp)
              have ht : ((x : Int) == (P : Int) - 1) = false := by simp; omega
              clear ha hxp
              go_wp2_with fail
              go_quiet (first | (go_at_call 37; exact quietP (HP.out _)))
              go_wp2_with fail
              go_roundg (N - (p + 1))
              case measure => omega
              case rel => exact ⟨p + 1, _, by omega, by omega, by go_num, by rw [HB1.out], rfl⟩
        · obtain rfl : p = N := by omega
          rw [HAF.out]
          cases hf : fullK p ks with
          | false =>
            go_wp2_with fail
            go_ret
            exact ⟨rfl, bDrewN B5.out _⟩
          | true =>
            have hle := HFew.out hf
            have hd : decide ((fw : Int) ≤ (m : Int)) = true := by simpa using hle
            go_wp2_with fail
            refine (HFe.out _).mono ?_
            rintro e w6 ⟨rfl, rfl⟩
            go_wp2_with fail
            go_ret
            exact ⟨rfl, bDrewN B5.out _⟩

end Go.Proofs.Ytjiplangdkpehaa
