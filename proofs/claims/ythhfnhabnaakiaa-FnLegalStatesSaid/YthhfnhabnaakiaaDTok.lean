/-
  DTok. By a program (wip/tools/mk.py) out of snippets.
-/
import Derived.Test.YthhfnhabnaakiaaReader
namespace Go.Proofs.Ythhfnhabnaakiaa
open Go.RowKit

set_option maxHeartbeats 3200000 in
/-- Whatever 'someTokens' draws: a number of states and a slice of at most five numbers. -/
theorem someTokens_any (R N : Nat) (w : World) (hN : N ≤ 1000) (h : Rd w R N) :
    Calls Try.prog 44 #[.pointer (some ⟨R, 0, none⟩)] w fun e w' => ∃ (k : Int) (A : Option Addr) (n c : Nat) (zs : List Int), e = .returned (.tuple #[.int .i64 k, .slice A n c]) ∧ SI w' A n zs ∧ (∀ b o, A = some ⟨b, o, none⟩ → R < b) ∧ 1 ≤ n ∧ n ≤ 5 ∧ -10 ≤ k ∧ k ≤ 10 ∧ Rd w' R (N + 20) ∧ Below R w w' := by
  have hR := h.1
  go_enter Try.func44, Try.ntmps44
  go_wp2_with fail
  refine (one_lit R N _ w 3 [3, 4, 5, 2, 3] 5 rfl rfl (by omega) (by omega) (by omega) h).mono ?_
  rintro e w1 ⟨k, rfl, hk, hR1, hg1, hb1⟩
  have hkb : 2 ≤ k ∧ k ≤ 5 := by simp at hk; omega
  obtain ⟨hk1, hk2⟩ := hkb
  clear hk hg1 h
  have hs1 := hR1.1
  have ho := own_empty w1 (R + 1) (by omega)
  have HRe := Lib.hid (hR1.alloc (.cells #[] 3))
  go_wp2_with fail
  refine (one_lit R (N + 1) _ (w1.alloc (.cells #[] 3)) 3 [3, 4, 2, 5, 3] 5 (by simp) rfl (by omega) (by omega) (by omega) HRe.out).mono ?_
  rintro e w2 ⟨n', rfl, hn, hR2, hg2, hb2⟩
  obtain ⟨n, rfl, hn1, hn2⟩ : ∃ n : Nat, n' = n ∧ 2 ≤ n ∧ n ≤ 5 := ⟨n'.toNat, by simp at hn; omega, by simp at hn; omega, by simp at hn; omega⟩
  have hB2 : Below R w w2 := (hb1.trans ((Below.refl _ _).alloc (by omega) _)).trans hb2
  have ho2 := own_off ho hg2 (by omega)
  clear hn hb1 hb2 hg2 ho HRe hR1
  go_wp2_with fail
  go_loopg [5] n (fun gg v wr => ∃ (xs : List Int) (A' : Option Addr) (c' : Nat), xs.length ≤ n ∧ n - xs.length ≤ gg ∧ v = .slice A' xs.length c' ∧ wr.ownsRow (R + 1) 3 1 (.slice A' xs.length c') xs.length (xs.map (Value.int .i64)) ∧ Rd wr R (N + 2 + xs.length) ∧ Below R w wr)
  case atStart => exact ⟨[], _, 0, by simp, by simp, rfl, ho2, hR2, hB2⟩
  case round =>
    clear ho2 hR2 hB2
    obtain ⟨xs, A', c', hx, hg, rfl, hown, hRd, hbw⟩ := hrel
    have hsz := hRd.1
    have HO := Lib.hid hown; clear hown
    obtain ⟨j, hj⟩ : ∃ j, j = xs.length := ⟨_, rfl⟩
    rw [← hj] at hx hg HO hRd
    rw [← hj]
    have HJ := Lib.hid hj; clear hj
    by_cases hlt : j < n
    · go_wp2_with fail
      refine (pick_b R _ k _ (by omega) (by omega) hRd).mono ?_
      rintro e w3 ⟨r, rfl, hr0, hr1, hr2, hR3, hg3, hb3⟩
      have HO3 := Lib.hid (own_off HO.out hg3 (by omega)); clear HO
      have hs3 := hR3.1
      clear hr1 hr2 hg3
      go_wp2_with (at_builtin; refine app1 w3 (R + 1) _ _ _ xs r rfl _ _ rfl rfl HO3.out rfl (by omega) (by omega) ?_; intro A2 c2 w4 ho4 hb4 hg4 hs4)
      go_roundg (n - (j + 1))
      case measure => omega
      case rel =>
        have hl : (xs ++ [r]).length = j + 1 := by simp [HJ.out]
        refine ⟨xs ++ [r], A2, c2, by omega, by omega, by rw [hl], by rw [hl]; exact ho4, ?_, (hbw.trans hb3).trans (hb4.mono (by omega))⟩
        rw [hl]
        exact (hR3.below hb4 (by omega)).mono (by omega)
    · obtain rfl : j = n := by omega
      clear hlt
      have hN2 : N + 2 + j ≤ N + 7 := by omega
      have hsi := NewI.si (NewI.of_own HO.out)
      have hcap := own_cap HO.out
      obtain ⟨g, rfl, hg1, hg3⟩ := own_form HO.out (by omega)
      have h0 := own_cell HO.out (j := 0) (by omega)
      have hf0 := World.ownsRow.frozenAt HO.out 0
      go_wp2_with fail
      refine (pick_b R _ 30 _ (by omega) (by omega) hRd).mono ?_
      rintro e w3 ⟨r, rfl, hr0, hr1, hr2, hR3, hg3', hb3⟩
      have HO3 := Lib.hid (own_off HO.out hg3' (by omega)); clear HO
      have hsi3 := NewI.si (NewI.of_own HO3.out)
      have hs3 := hR3.1
      have hB3 := hbw.trans hb3
      clear hr1 hr2 hr0 hsi h0 hf0 hb3
      by_cases e0 : r = 0
      · subst e0
        go_wp2_with fail
        refine (one_lit R _ _ w3 3 [1, 6, 0] 3 rfl rfl (by omega) (by omega) (by omega) hR3).mono ?_
        rintro e w4 ⟨z, rfl, hz, hR4, hg4, hb4⟩
        have hsi4 := hsi3.off hg4 (fun b o e => by cases e; omega)
        have hzb : 0 ≤ z ∧ z ≤ 6 := by simp at hz; omega
        go_wp2_with fail
        go_ret2
        exact ⟨z, _, j, _, xs, rfl, hsi4, (fun b o e => by cases e; omega), by omega, by omega, by omega, by omega, hR4.mono (by omega), hB3.trans hb4⟩
      · by_cases e1 : r = 1
        · subst e1
          go_wp2_with fail
          refine (one_lit R _ _ w3 3 [-1, k] 2 rfl rfl (by omega) (by omega) (by omega) hR3).mono ?_
          rintro e w4 ⟨z, rfl, hz, hR4, hg4, hb4⟩
          have HO4 := Lib.hid (own_off HO3.out hg4 (by omega))
          have hc4 := own_cell HO4.out (j := 0) (by omega)
          have hf4 := World.ownsRow.frozenAt HO4.out 0
          have hst := (own_stored HO4.out 0 z).1
          have HT := Lib.hid (NewI.si (NewI.of_own hst)); clear hst
          have hb5 := (hB3.trans hb4).setCell (p := ⟨g, 0, none⟩) (show R ≤ g by omega) (.int .i64 z)
          have hR5 := hR4.below ((Below.refl (R + 1) w4).setCell (p := ⟨g, 0, none⟩) (show R + 1 ≤ g by omega) (.int .i64 z)) (by omega)
          go_wp2_with fail
          go_ret2
          exact ⟨k, _, j, _, _, rfl, HT.out, (fun b o e => by cases e; omega), by omega, by omega, by omega, by omega, hR5.mono (by omega), hb5⟩
        · have d0 : (r == 0) = false := by simpa using e0
          have d1 : (r == 1) = false := by simpa using e1
          by_cases e2 : r = 2
          · subst e2
            clear d0 d1 e0 e1
            have hj1 : (1 : Nat) ≤ j := by omega
            go_wp2_with fail
            go_quiet (fail)
            go_wp2_with fail
            go_ret2
            exact ⟨k, _, 1, _, xs.take 1, rfl, hsi3.take (by omega), (fun b o e => by cases e; omega), by omega, by omega, by omega, by omega, hR3.mono (by omega), bDrewN hB3 _⟩
          · have d2 : (r == 2) = false := by simpa using e2
            clear e0 e1 e2
            go_wp2_with fail
            go_ret2
            exact ⟨k, _, j, _, xs, rfl, hsi3, (fun b o e => by cases e; omega), by omega, by omega, by omega, by omega, hR3.mono (by omega), hB3⟩

set_option maxHeartbeats 800000 in
theorem drawValidTokens_any (A : Option Addr) (n c : Nat) (bs : List Int) (w : World) (hc : n ≤ c) (hn : n ≤ 2000000) (hs : SB w A n bs) :
    Calls Try.prog 18 #[.slice A n c] w fun e w' => ∃ (k : Int) (A : Option Addr) (n c : Nat) (zs : List Int), e = .returned (.tuple #[.int .i64 k, .slice A n c]) ∧ SI w' A n zs ∧ 1 ≤ n ∧ n ≤ 5 ∧ -10 ≤ k ∧ k ≤ 10 ∧ Below w.heap.size w w' := by
  have H := Lib.hid (newReader_any A n c bs w hc hn hs)
  clear hs
  go_enter Try.func18, Try.ntmps18
  go_wp2_with fail
  refine H.out.mono ?_
  rintro e w1 ⟨rfl, hR, hb1⟩
  go_wp2_with fail
  refine (someTokens_any _ 0 _ (by omega) hR).mono ?_
  rintro e w2 ⟨k, A2, n2, c2, zs, rfl, hsi, hrow, h1, h2, h3, h4, hR2, hb2⟩
  have hB := hb1.trans hb2
  clear hR hR2 hb1 hb2
  go_wp2_with fail
  go_ret2
  exact ⟨k, A2, n2, c2, zs, rfl, hsi, h1, h2, h3, h4, hB⟩

set_option maxHeartbeats 800000 in
theorem drawTokensOf_any (A : Option Addr) (n c : Nat) (bs : List Int) (w : World) (hc : n ≤ c) (hn : n ≤ 2000000) (hs : SB w A n bs) :
    Calls Try.prog 28 #[.slice A n c] w fun e w' => ∃ (k : Int) (A : Option Addr) (n c : Nat) (zs : List Int), e = .returned (.tuple #[.int .i64 k, .slice A n c]) ∧ SI w' A n zs ∧ 1 ≤ n ∧ n ≤ 5 ∧ -10 ≤ k ∧ k ≤ 10 ∧ Below w.heap.size w w' := by
  have H := Lib.hid (newReader_any A n c bs w hc hn hs)
  clear hs
  go_enter Try.func28, Try.ntmps28
  go_wp2_with fail
  refine H.out.mono ?_
  rintro e w1 ⟨rfl, hR, hb1⟩
  go_wp2_with fail
  refine (someTokens_any _ 0 _ (by omega) hR).mono ?_
  rintro e w2 ⟨k, A2, n2, c2, zs, rfl, hsi, hrow, h1, h2, h3, h4, hR2, hb2⟩
  have hB := hb1.trans hb2
  clear hR hR2 hb1 hb2
  go_wp2_with fail
  go_ret2
  exact ⟨k, A2, n2, c2, zs, rfl, hsi, h1, h2, h3, h4, hB⟩

set_option maxHeartbeats 1600000 in
theorem drawMoveOf_any (A : Option Addr) (n c : Nat) (bs : List Int) (w : World) (hc : n ≤ c) (hn : n ≤ 2000000) (hs : SB w A n bs) :
    Calls Try.prog 25 #[.slice A n c] w fun e w' => ∃ (k i : Int) (A : Option Addr) (n c : Nat) (zs : List Int), e = .returned (.tuple #[.int .i64 k, .slice A n c, .int .i64 i]) ∧ SI w' A n zs ∧ 1 ≤ n ∧ n ≤ 5 ∧ -10 ≤ k ∧ k ≤ 10 ∧ -10 ≤ i ∧ i ≤ 10 ∧ Below w.heap.size w w' := by
  have H := Lib.hid (newReader_any A n c bs w hc hn hs)
  clear hs
  go_enter Try.func25, Try.ntmps25
  go_wp2_with fail
  refine H.out.mono ?_
  rintro e w1 ⟨rfl, hR, hb1⟩
  have hs1 := hR.1
  go_wp2_with fail
  refine (someTokens_any _ 0 _ (by omega) hR).mono ?_
  rintro e w2 ⟨k, A2, n2, c2, zs, rfl, hsi, hrow, h1, h2, h3, h4, hR2, hb2⟩
  have hB := hb1.trans hb2
  clear hR hb1 hb2
  have hs2 := hR2.1
  have hSI := hsi.2
  go_wp2_with fail
  refine (pick_b _ _ n2 _ (by omega) (by omega) hR2).mono ?_
  rintro e w3 ⟨r, rfl, hr0, hr1, hr2, hR3, hg3, hb3⟩
  have hr3 := hr1 (by omega)
  have hsi3 := hsi.off hg3 (fun b o e => by have := hrow b o e; omega)
  have hB3 := hB.trans hb3
  clear hr1 hr2 hsi hSI hR2 hg3 hb3
  go_wp2_with fail
  refine (one_lit _ _ _ w3 3 [0, 1, 2, r, n2, -1] 6 rfl rfl (by omega) (by omega) (by omega) hR3).mono ?_
  rintro e w4 ⟨z, rfl, hz, hR4, hg4, hb4⟩
  have hsi4 := hsi3.off hg4 (fun b o e => by have := hrow b o e; omega)
  have hzb : -10 ≤ z ∧ z ≤ 10 := by simp at hz; omega
  have hB4 := hB3.trans hb4
  clear hz hrow hsi3
  go_wp2_with fail
  go_ret3
  exact ⟨k, z, A2, n2, c2, zs, rfl, hsi4, h1, h2, h3, h4, hzb.1, hzb.2, hB4⟩

set_option maxHeartbeats 1600000 in
theorem drawTourOf_any (A : Option Addr) (n c : Nat) (bs : List Int) (w : World) (hc : n ≤ c) (hn : n ≤ 2000000) (hs : SB w A n bs) :
    Calls Try.prog 32 #[.slice A n c] w fun e w' => ∃ (k i : Int) (A : Option Addr) (n c : Nat) (zs : List Int), e = .returned (.tuple #[.int .i64 k, .slice A n c, .int .i64 i]) ∧ SI w' A n zs ∧ 1 ≤ n ∧ n ≤ 5 ∧ -10 ≤ k ∧ k ≤ 10 ∧ -10 ≤ i ∧ i ≤ 50 ∧ Below w.heap.size w w' := by
  have H := Lib.hid (newReader_any A n c bs w hc hn hs)
  clear hs
  go_enter Try.func32, Try.ntmps32
  go_wp2_with fail
  refine H.out.mono ?_
  rintro e w1 ⟨rfl, hR, hb1⟩
  have hs1 := hR.1
  go_wp2_with fail
  refine (someTokens_any _ 0 _ (by omega) hR).mono ?_
  rintro e w2 ⟨k, A2, n2, c2, zs, rfl, hsi, hrow, h1, h2, h3, h4, hR2, hb2⟩
  have hB := hb1.trans hb2
  clear hR hb1 hb2
  have hs2 := hR2.1
  go_wp2_with fail
  refine (one_lit _ _ _ w2 3 [5, 10, 1, 0, 20, 40, 41, -1] 8 rfl rfl (by omega) (by omega) (by omega) hR2).mono ?_
  rintro e w4 ⟨z, rfl, hz, hR4, hg4, hb4⟩
  have hsi4 := hsi.off hg4 (fun b o e => by have := hrow b o e; omega)
  have hzb : -10 ≤ z ∧ z ≤ 50 := by simp at hz; omega
  have hB4 := hB.trans hb4
  clear hz hrow hsi
  go_wp2_with fail
  go_ret3
  exact ⟨k, z, A2, n2, c2, zs, rfl, hsi4, h1, h2, h3, h4, hzb.1, hzb.2, hB4⟩

set_option maxHeartbeats 1600000 in
theorem drawDoesMend_any (A : Option Addr) (n c : Nat) (bs : List Int) (w : World) (hc : n ≤ c) (hn : n ≤ 2000000) (hs : SB w A n bs) :
    Calls Try.prog 62 #[.slice A n c] w fun e w' => ∃ (k m : Int), e = .returned (.tuple #[.int .i64 k, .int .i64 m]) ∧ 1 ≤ k ∧ k ≤ 6 ∧ 1 ≤ m ∧ m ≤ 6 ∧ Below w.heap.size w w' := by
  have H := Lib.hid (newReader_any A n c bs w hc hn hs)
  clear hs
  go_enter Try.func62, Try.ntmps62
  go_wp2_with fail
  refine H.out.mono ?_
  rintro e w1 ⟨rfl, hR, hb1⟩
  have hs1 := hR.1
  go_wp2_with fail
  refine (one_lit _ _ _ w1 3 [3, 2, 4, 5, 1, 6] 6 rfl rfl (by omega) (by omega) (by omega) hR).mono ?_
  rintro e w2 ⟨k, rfl, hk, hR2, hg2, hb2⟩
  have hB := hb1.trans hb2
  have hkb : 1 ≤ k ∧ k ≤ 6 := by simp at hk; omega
  clear hR hb1 hb2 hk hg2
  go_wp2_with fail
  refine (one_lit _ _ _ w2 3 [3, 2, 4, 5, 1, 6] 6 rfl rfl (by omega) (by omega) (by omega) hR2).mono ?_
  rintro e w4 ⟨m, rfl, hm, hR4, hg4, hb4⟩
  have hB4 := hB.trans hb4
  have hmb : 1 ≤ m ∧ m ≤ 6 := by simp at hm; omega
  clear hm
  go_wp2_with fail
  go_ret2
  exact ⟨k, m, rfl, hkb.1, hkb.2, hmb.1, hmb.2, hB4⟩

theorem drawLegalStates_any (A : Option Addr) (n c : Nat) (bs : List Int) (w : World) (hc : n ≤ c) (hn : n ≤ 2000000) (hs : SB w A n bs) :
    Calls Try.prog 38 #[.slice A n c] w fun e w' => ∃ (k m : Int), e = .returned (.tuple #[.int .i64 k, .int .i64 m]) ∧ 1 ≤ k ∧ k ≤ 6 ∧ 1 ≤ m ∧ m ≤ 6 ∧ Below w.heap.size w w' := by
  have H := Lib.hid (drawDoesMend_any A n c bs w hc hn hs)
  clear hs
  go_enter Try.func38, Try.ntmps38
  go_wp2_with fail
  refine H.out.mono ?_
  rintro e w1 ⟨k, m, rfl, h1, h2, h3, h4, hb⟩
  go_wp2_with fail
  go_ret2
  exact ⟨k, m, rfl, h1, h2, h3, h4, hb⟩

end Go.Proofs.Ythhfnhabnaakiaa
