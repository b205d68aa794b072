/-
  DGos. By a program (wip/tools/mk.py) out of snippets.
-/
import Derived.Test.YtjiplangdkpehaaPlan
import Derived.Test.YtjiplangdkpehaaReader
namespace Go.Proofs.Ytjiplangdkpehaa
open Go.RowKit

theorem planN_le (n : Nat) (hn : n ≤ 6) : planN n ≤ 13 := by
  unfold planN
  split <;> try split <;> try split
  all_goals omega

set_option maxHeartbeats 6400000 in
theorem someCalls_any (R N : Nat) (w : World) (hN : N ≤ 1000) (h : Rd w R N) :
    Calls Try.prog 47 #[.pointer (some ⟨R, 0, none⟩)] w fun e w' => ∃ (k : Int) (A : Option Addr) (n c : Nat) (zs : List Int), e = .returned (.tuple #[.int .i64 k, .slice A n c]) ∧ SI w' A (n * 2) zs ∧ n ≤ 13 ∧ n ≤ c ∧ (0 ≤ k ∧ k ≤ 7) ∧ Below R w w' := by
  have hR := h.1
  go_enter Try.func47, Try.ntmps47
  go_wp2_with fail
  refine (one_lit R N _ w 3 [4, 5, 3, 6, 2, 1] 6 rfl rfl (by omega) (by omega) (by omega) h).mono ?_
  rintro e w1 ⟨n', rfl, hn, hR1, hg1, hb1⟩
  obtain ⟨n, rfl, hn1, hn2⟩ : ∃ n : Nat, n' = n ∧ 1 ≤ n ∧ n ≤ 6 := ⟨n'.toNat, by simp at hn; omega, by simp at hn; omega, by simp at hn; omega⟩
  clear hn hg1 h
  have hs1 := hR1.1
  have ho := own_emptyP w1 (R + 1) (by omega)
  have hb0 : Below R w (w1.alloc (.cells #[] 44)) := hb1.trans ((Below.refl _ _).alloc (by omega) _)
  have HRe := Lib.hid (hR1.alloc (.cells #[] 44))
  clear hb1 hR1
  go_wp2_with fail
  refine (one_lit R (N + 1) _ (w1.alloc (.cells #[] 44)) 3 [4, 6, 3, 8, 12, 1, 0] 7 (by simp) rfl (by omega) (by omega) (by omega) HRe.out).mono ?_
  rintro e w2 ⟨m', rfl, hm, hR2, hg2, hb2⟩
  obtain ⟨m, rfl, hm2⟩ : ∃ m : Nat, m' = m ∧ m ≤ 12 := ⟨m'.toNat, by simp at hm; omega, by simp at hm; omega⟩
  have hB2 : Below R w w2 := hb0.trans hb2
  have ho2 := own_off ho hg2 (by omega)
  clear hm hb0 hb2 hg2 ho HRe
  go_wp2_with fail
  go_loopg [5] m (fun gg v wr => ∃ (xs : List Int) (j : Nat) (A' : Option Addr) (c' : Nat), j ≤ m ∧ m - j ≤ gg ∧ v = .slice A' j c' ∧ wr.ownsRow (R + 1) 44 2 (.slice A' j c') j (xs.map (Value.int .i64)) ∧ Rd wr R (N + 2 + 2 * j) ∧ Below R w wr)
  case atStart => exact ⟨[], 0, _, 0, by omega, by omega, rfl, ho2, hR2.mono (by omega), hB2⟩
  case round =>
    clear ho2 hR2 hB2 hs1
    obtain ⟨xs, j, A', c', hx, hg, rfl, hown, hRd, hbw⟩ := hrel
    have hsz := hRd.1
    have HO := Lib.hid hown; clear hown
    by_cases hlt : j < m ∧ 1 < n
    · obtain ⟨hlt, hn3⟩ := hlt
      have g1 : decide ((j : Int) < (m : Int)) = true := by simp; omega
      have g2 : decide ((1 : Int) < (n : Int)) = true := by simp; omega
      go_wp2_with fail
      refine (pick_b R _ n _ (by omega) (by omega) hRd).mono ?_
      rintro e w3 ⟨r, rfl, hr0, hr1, hr2, hR3, hg3, hb3⟩
      have hr3 := hr1 (by omega)
      obtain ⟨x, rfl⟩ := Int.eq_ofNat_of_zero_le hr0
      have HO3 := Lib.hid (own_off HO.out hg3 (by omega)); clear HO
      have hB3 := hbw.trans hb3
      clear hr1 hr2 hg3 hr0 hb3 hRd hbw
      go_wp2_with fail
      refine (pick_b R _ ((n : Int) - 1) _ (by omega) (by omega) hR3).mono ?_
      rintro e w4 ⟨r, rfl, hr0, hr1, hr2, hR4, hg4, hb4⟩
      have hr4 := hr1 (by omega)
      obtain ⟨y, rfl⟩ := Int.eq_ofNat_of_zero_le hr0
      have HO4 := Lib.hid (own_off HO3.out hg4 (by omega)); clear HO3
      have hB4 := hB3.trans hb4
      have hs4 := hR4.1
      clear hr1 hr2 hg4 hr0 hb4 hB3 hR3
      have ht : ((x : Int) + 1 + (y : Int)).tmod n = (((x + 1 + y) % n : Nat) : Int) := by rw [Int.tmod_eq_emod_of_nonneg (by omega)]; push_cast; rfl
      have htl : (x + 1 + y) % n < n := Nat.mod_lt _ (by omega)
      generalize (x + 1 + y) % n = z at ht htl
      go_wp2_with (at_builtin; refine appLP w4 (R + 1) _ j _ xs [(x : Int), (z : Int)] 1 _ rfl rfl (by omega) rfl _ _ rfl rfl HO4.out rfl (by omega) (by omega) ?_; intro g2 c2 w5 ho5 hb5)
      go_roundg (m - (j + 1))
      case measure => omega
      case rel => exact ⟨xs ++ [(x : Int), (z : Int)], j + 1, some ⟨g2, 0, none⟩, c2, by omega, by omega, rfl, ho5, (hR4.below hb5 (by omega)).mono (by omega), hB4.trans (hb5.mono (by omega))⟩
    · have hfin : (j < m ∧ ¬ ((1 : Int) < (n : Int)) ∧ ¬ (1 < n)) ∨ ¬ (j < m) := by omega
      have hj13 : j ≤ 12 := by omega
      clear hlt
      rcases hfin with ⟨hb, hb2, hb3⟩ | hb
      all_goals
        go_wp2_with fail
        refine (pick_b R _ 24 _ (by omega) (by omega) hRd).mono ?_
        rintro e w3 ⟨r, rfl, hr0, hr1, hr2, hR3, hg3, hb3⟩
        have HO3 := Lib.hid (own_off HO.out hg3 (by omega)); clear HO
        have hB3 := Lib.hid (hbw.trans hb3)
        have hs3 := hR3.1
        have hcap := own_cap HO3.out
        clear hr1 hr2 hr0 hg3 hb3 hbw hRd
        by_cases hr : r = 0
        · subst hr
          go_wp2_with fail
          refine (one_lit R _ _ w3 3 [0, 7] 2 rfl rfl (by omega) (by omega) (by omega) hR3).mono ?_
          rintro e w4 ⟨z, rfl, hz, hR4, hg4, hb4⟩
          have hz2 : 0 ≤ z ∧ z ≤ 7 := by simp at hz; omega
          have HO4 := Lib.hid (NewI.si (NewI.of_ownP (own_off HO3.out hg4 (by omega))))
          have hB4 := Lib.hid (hB3.out.trans hb4)
          clear HO3 hg4 hb4 hB3 hz
          go_wp2_with fail
          go_ret2
          exact ⟨z, A', j, c', xs, rfl, HO4.out, by omega, hcap, hz2, hB4.out⟩
        · by_cases hr' : r = 1
          · subst hr'
            go_wp2_with fail
            refine (one_lit R _ _ w3 3 [0, n, -1] 3 rfl rfl (by omega) (by omega) (by omega) hR3).mono ?_
            rintro e w4 ⟨z, rfl, hz, hR4, hg4, hb4⟩
            have HO4 := Lib.hid (own_off HO3.out hg4 (by omega))
            have hB4 := Lib.hid (hB3.out.trans hb4)
            have hs4 := hR4.1
            have hzb : -1 ≤ z ∧ z ≤ 7 := by simp at hz; omega
            clear HO3 hg4 hb4 hB3 hz hR3
            go_wp2_with (at_builtin; refine appLP w4 (R + 1) _ j _ xs [0, z] 1 _ rfl rfl (by omega) rfl _ _ rfl rfl HO4.out rfl (by omega) (by omega) ?_; intro g2 c2 w5 ho5 hb5)
            have HN5 := Lib.hid (NewI.si (NewI.of_ownP ho5))
            have hB5 := Lib.hid (hB4.out.trans (hb5.mono (by omega)))
            have hc5 := own_cap ho5
            go_ret2
            exact ⟨n, some ⟨g2, 0, none⟩, j + 1, c2, _, rfl, HN5.out, by omega, hc5, by omega, hB5.out⟩
          · by_cases hr2 : r = 2
            · subst hr2
              have HP := Lib.hid (specPlanOf_in n w3 hn1 hn2)
              have hpl := planN_le n hn2
              go_wp2_with fail
              refine HP.out.mono ?_
              rintro e w4 ⟨A4, c4, rfl, hc4, hN4, hb4⟩
              have HN4 := Lib.hid (NewI.si hN4)
              have hB4 := Lib.hid (hB3.out.trans (hb4.mono (by omega)))
              clear hN4 hb4
              go_wp2_with fail
              go_ret2
              exact ⟨n, A4, planN n, c4, _, rfl, HN4.out, by omega, hc4, by omega, hB4.out⟩
            · have HN3 := Lib.hid (NewI.si (NewI.of_ownP HO3.out))
              have e0 : (r == 0) = false := by simp; omega
              have e1 : (r == 1) = false := by simp; omega
              have e2 : (r == 2) = false := by simp; omega
              go_wp2_with fail
              go_ret2
              exact ⟨n, A', j, c', xs, rfl, HN3.out, by omega, hcap, by omega, hB3.out⟩

set_option maxHeartbeats 800000 in
theorem drawValidCalls_any (A : Option Addr) (n c : Nat) (bs : List Int) (w : World) (hc : n ≤ c) (hn : n ≤ 2000000) (hs : SB w A n bs) :
    Calls Try.prog 18 #[.slice A n c] w fun e w' => ∃ (k : Int) (A : Option Addr) (n c : Nat) (zs : List Int), e = .returned (.tuple #[.int .i64 k, .slice A n c]) ∧ SI w' A (n * 2) zs ∧ n ≤ 13 ∧ n ≤ c ∧ (0 ≤ k ∧ k ≤ 7) ∧ Below w.heap.size w w' := by
  have H := Lib.hid (newReader_any A n c bs w hc hn hs)
  clear hs
  go_enter Try.func18, Try.ntmps18
  go_wp2_with fail
  refine H.out.mono ?_
  rintro e w1 ⟨rfl, hR, hb1⟩
  go_wp2_with fail
  refine (someCalls_any _ 0 _ (by omega) hR).mono ?_
  rintro e w2 ⟨k, A2, n2, c2, zs, rfl, hsi, h1, h2, h3, hb2⟩
  have hB := hb1.trans hb2
  clear hR hb1 hb2
  go_wp2_with fail
  go_ret2
  exact ⟨k, A2, n2, c2, zs, rfl, hsi, h1, h2, h3, hB⟩

set_option maxHeartbeats 800000 in
theorem drawKnownAfter_any (A : Option Addr) (n c : Nat) (bs : List Int) (w : World) (hc : n ≤ c) (hn : n ≤ 2000000) (hs : SB w A n bs) :
    Calls Try.prog 32 #[.slice A n c] w fun e w' => ∃ (k : Int) (A : Option Addr) (n c : Nat) (zs : List Int), e = .returned (.tuple #[.int .i64 k, .slice A n c]) ∧ SI w' A (n * 2) zs ∧ n ≤ 13 ∧ n ≤ c ∧ (0 ≤ k ∧ k ≤ 7) ∧ Below w.heap.size w w' := by
  have H := Lib.hid (newReader_any A n c bs w hc hn hs)
  clear hs
  go_enter Try.func32, Try.ntmps32
  go_wp2_with fail
  refine H.out.mono ?_
  rintro e w1 ⟨rfl, hR, hb1⟩
  go_wp2_with fail
  refine (someCalls_any _ 0 _ (by omega) hR).mono ?_
  rintro e w2 ⟨k, A2, n2, c2, zs, rfl, hsi, h1, h2, h3, hb2⟩
  have hB := hb1.trans hb2
  clear hR hb1 hb2
  go_wp2_with fail
  go_ret2
  exact ⟨k, A2, n2, c2, zs, rfl, hsi, h1, h2, h3, hB⟩

set_option maxHeartbeats 800000 in
theorem drawIsFull_any (A : Option Addr) (n c : Nat) (bs : List Int) (w : World) (hc : n ≤ c) (hn : n ≤ 2000000) (hs : SB w A n bs) :
    Calls Try.prog 36 #[.slice A n c] w fun e w' => ∃ (k : Int) (A : Option Addr) (n c : Nat) (zs : List Int), e = .returned (.tuple #[.int .i64 k, .slice A n c]) ∧ SI w' A (n * 2) zs ∧ n ≤ 13 ∧ n ≤ c ∧ (0 ≤ k ∧ k ≤ 7) ∧ Below w.heap.size w w' := by
  have H := Lib.hid (newReader_any A n c bs w hc hn hs)
  clear hs
  go_enter Try.func36, Try.ntmps36
  go_wp2_with fail
  refine H.out.mono ?_
  rintro e w1 ⟨rfl, hR, hb1⟩
  go_wp2_with fail
  refine (someCalls_any _ 0 _ (by omega) hR).mono ?_
  rintro e w2 ⟨k, A2, n2, c2, zs, rfl, hsi, h1, h2, h3, hb2⟩
  have hB := hb1.trans hb2
  clear hR hb1 hb2
  go_wp2_with fail
  go_ret2
  exact ⟨k, A2, n2, c2, zs, rfl, hsi, h1, h2, h3, hB⟩

end Go.Proofs.Ytjiplangdkpehaa
