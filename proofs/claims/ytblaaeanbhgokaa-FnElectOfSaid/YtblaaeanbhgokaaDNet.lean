/-
  DNet. By a program (wip/tools/mk.py) out of snippets.
-/
import Derived.Test.YtblaaeanbhgokaaReader
namespace Go.Proofs.Ytblaaeanbhgokaa
open Go.RowKit

theorem pigeon : ∀ (k : Nat) (l : List Int), l.length < k → ∃ y : Nat, y < k ∧ (y : Int) ∉ l
  | 0, l, h => absurd h (by omega)
  | k + 1, l, h => by
    by_cases hm : (k : Int) ∈ l
    · have hl : (l.filter (fun z => !(z == (k : Int)))).length < l.length := by
        exact (List.length_filter_lt_length_iff_exists (p := fun z => !(z == (k : Int)))).2 ⟨(k : Int), hm, by simp⟩
      obtain ⟨y, hy, hn⟩ := pigeon k (l.filter (fun z => !(z == (k : Int)))) (by omega)
      refine ⟨y, by omega, fun hc => hn (List.mem_filter.2 ⟨hc, ?_⟩)⟩
      simp; omega
    · exact ⟨k, by omega, hm⟩

theorem hasMark_any (A : Option Addr) (n c : Nat) (zs : List Int) (x : Int) (w : World) (hn : n ≤ 9000000000000000000) (ha : SI w A n zs) :
    Calls Try.prog 90 #[.slice A n c, .int .i64 x] w fun e w' => e = .returned (.bool (zs.any fun z => z == x)) ∧ w = w' := by
  have hlen := Lib.hid ha.len
  go_enter Try.func90, Try.ntmps90
  go_wp2
  go_loopg [5] n (fun gg s8 wr => ∃ k : Nat, k ≤ n ∧ n - k ≤ gg ∧ s8 = .int .i64 k ∧ w = wr ∧ Aside (∀ j, j < k → (iat zs j == x) = false))
  case atStart => exact ⟨0, Nat.zero_le _, by omega, rfl, rfl, fun j hj => absurd hj (Nat.not_lt_zero _)⟩
  case round =>
    obtain ⟨k, hk, hg, rfl, rfl, A0⟩ := hrel
    by_cases hlt : k < n
    · obtain ⟨b, off, rfl, h1⟩ := ha.at_ hlt
      clear ha
      cases hq : (iat zs k == x) with
      | true =>
        have HQ := Lib.hid hq
        go_wp2_with fail
        go_ret
        refine ⟨?_, rfl⟩
        have e : (zs.any fun z => z == x) = true := List.any_eq_true.2 ⟨_, iat_mem (by rw [hlen.out]; exact hlt), HQ.out⟩
        rw [e]
        rfl
      | false =>
        have HQ := Lib.hid hq
        go_wp2_with fail
        go_roundg (n - (k + 1))
        case measure => omega
        case rel =>
          refine ⟨k + 1, by omega, by omega, by go_num, by first | rfl | trivial, (show Aside _ from fun j hj => ?_)⟩
          by_cases e : j = k
          · subst e; exact HQ.out
          · exact A0.out j (by omega)
    · obtain rfl : k = n := by omega
      clear ha
      go_wp2_with fail
      go_ret
      refine ⟨?_, rfl⟩
      have e : (zs.any fun z => z == x) = false := by
        rw [List.any_eq_false]
        intro z hz
        obtain ⟨j, hj, rfl⟩ := List.mem_iff_getElem.1 hz
        have := A0.out j (by rw [hlen.out] at hj; exact hj)
        rw [iat_eq hj] at this
        simpa using this
      rw [e]
      rfl

set_option maxHeartbeats 3200000 in
theorem someMarks_any (R N : Nat) (w : World) (hN : N ≤ 1000) (h : Rd w R N) :
    Calls Try.prog 56 #[.pointer (some ⟨R, 0, none⟩)] w fun e w' => ∃ (A : Option Addr) (n c : Nat) (zs : List Int), e = .returned (.slice A n c) ∧ SI w' A n zs ∧ (∀ b o, A = some ⟨b, o, none⟩ → R < b) ∧ n ≤ 6 ∧ n ≤ c ∧ Rd w' R (N + 20) ∧ Below R w w' := by
  have hR := h.1
  have ho := own_empty w (R + 1) (by omega)
  have hb0 : Below R w (w.alloc (.cells #[] 3)) := (Below.refl _ _).alloc (by omega) _
  have HRe := Lib.hid (h.alloc (.cells #[] 3))
  clear h
  go_enter Try.func56, Try.ntmps56
  go_wp2_with fail
  refine (one_lit R N _ (w.alloc (.cells #[] 3)) 3 [4, 5, 6, 3, 2, 1, 0] 7 (by simp) rfl (by omega) (by omega) (by omega) HRe.out).mono ?_
  rintro e w2 ⟨n', rfl, hn, hR2, hg2, hb2⟩
  obtain ⟨n, rfl, hn2⟩ : ∃ n : Nat, n' = n ∧ n ≤ 6 := ⟨n'.toNat, by simp at hn; omega, by simp at hn; omega⟩
  have hB2 : Below R w w2 := hb0.trans hb2
  have ho2 := own_off ho hg2 (by omega)
  clear hn hb0 hb2 hg2 ho HRe
  go_wp2_with fail
  go_loopg [3] n (fun gg v wr => ∃ (xs : List Int) (A' : Option Addr) (c' : Nat), xs.length ≤ n ∧ n - xs.length ≤ gg ∧ v = .slice A' xs.length c' ∧ wr.ownsRow (R + 1) 3 1 (.slice A' xs.length c') xs.length (xs.map (Value.int .i64)) ∧ Rd wr R (N + 2 + xs.length) ∧ Below R w wr ∧ (∀ b o, A' = some ⟨b, o, none⟩ → R < b))
  case atStart => exact ⟨[], _, 0, by simp, by simp, rfl, ho2, hR2.mono (by omega), hB2, fun b o e => by cases e; omega⟩
  case round =>
    clear ho2 hR2 hB2
    obtain ⟨xs, A', c', hx, hg, rfl, hown, hRd, hbw, hA'⟩ := hrel
    have hsz := hRd.1
    have HO := Lib.hid hown; clear hown
    have HA := Lib.hid hA'; clear hA'
    obtain ⟨j, hj⟩ : ∃ j, j = xs.length := ⟨_, rfl⟩
    rw [← hj] at hx hg HO hRd
    rw [← hj]
    have HJ := Lib.hid hj; clear hj
    by_cases hlt : j < n
    · obtain ⟨y, hy, hyn⟩ := pigeon 21 xs (by rw [← HJ.out]; omega)
      have HY := Lib.hid hyn; clear hyn
      go_wp2_with fail
      refine (pick_b R _ 21 _ (by omega) (by omega) hRd).mono ?_
      rintro e w3 ⟨r, rfl, hr0, hr1, hr2, hR3, hg3, hb3⟩
      have hr3 := hr1 (by omega)
      obtain ⟨x, rfl⟩ := Int.eq_ofNat_of_zero_le hr0
      have HO3 := Lib.hid (own_off HO.out hg3 (by omega)); clear HO
      have hs3 := hR3.1
      have HS3 := Lib.hid (NewI.si (NewI.of_own HO3.out))
      clear hr1 hr2 hg3 hr0
      go_wp2_with fail
      go_loopg [5] ((y + 21 - x) % 21) (fun g2 v wr => ∃ x : Nat, x < 21 ∧ (y + 21 - x) % 21 ≤ g2 ∧ v = .int .i64 x ∧ w3 = wr)
      case atStart => exact ⟨x, by omega, by omega, rfl, rfl⟩
      case round =>
        obtain ⟨x, hx21, hg2, rfl, rfl⟩ := hrel
        have H := Lib.hid (hasMark_any A' j c' xs (x : Int) w3 (by omega) HS3.out)
        cases e1 : (xs.any fun z => z == (x : Int)) with
        | true =>
          have hxy : x ≠ y := by
            rintro rfl
            obtain ⟨z, hz, hz2⟩ := List.any_eq_true.1 e1
            have : z = (x : Int) := by simpa using hz2
            subst this
            exact HY.out hz
          rw [e1] at H
          clear e1
          go_wp2_with fail
          refine H.out.mono ?_
          rintro e w' ⟨rfl, rfl⟩
          go_wp2_with fail
          go_roundg ((y + 21 - (x + 1) % 21) % 21)
          case measure => omega
          case rel => exact ⟨(x + 1) % 21, by omega, by omega, by go_num, by first | rfl | trivial⟩
        | false =>
          rw [e1] at H
          clear e1
          go_wp2_with fail
          refine H.out.mono ?_
          rintro e w' ⟨rfl, rfl⟩
          go_wp2_with (at_builtin; refine appL w3 (R + 1) _ _ _ xs x rfl _ _ rfl rfl HO3.out rfl (by omega) (by omega) ?_; intro g2 c2 w4 ho4 hb4 hg4 hl4)
          go_roundg (n - (j + 1))
          case measure => omega
          case rel =>
            have hl : (xs ++ [(x : Int)]).length = j + 1 := by simp [HJ.out]
            refine ⟨xs ++ [(x : Int)], some ⟨g2, 0, none⟩, c2, by omega, by omega, by rw [hl], by rw [hl]; exact ho4, ?_, (hbw.trans hb3).trans (hb4.mono (by omega)), fun b o e => ?_⟩
            · rw [hl]
              exact (hR3.below hb4 (by omega)).mono (by omega)
            · cases e
              have := (World.ownsRow.lt ho4 g2 rfl).1
              omega
    · obtain rfl : j = n := by omega
      clear hlt
      have hN2 : N + 2 + j ≤ N + 8 := by omega
      by_cases hj0 : j = 0
      · have hd : decide (0 < (j : Int)) = false := by simp; omega
        have hsi := NewI.si (NewI.of_own HO.out)
        have hcap := own_cap HO.out
        go_wp2_with fail
        go_ret
        exact ⟨_, j, _, xs, rfl, hsi, HA.out, by omega, hcap, hRd.mono (by omega), hbw⟩
      · have hd : decide (0 < (j : Int)) = true := by simp; omega
        go_wp2_with fail
        refine (pick_b R _ 16 _ (by omega) (by omega) hRd).mono ?_
        rintro e w3 ⟨r, rfl, hr0, hr1, hr2, hR3, hg3, hb3⟩
        have HO3 := Lib.hid (own_off HO.out hg3 (by omega)); clear HO
        have hs3 := hR3.1
        have hB3 := hbw.trans hb3
        have hsi3 := NewI.si (NewI.of_own HO3.out)
        have hcap := own_cap HO3.out
        clear hr1 hr2 hr0 hg3 hb3
        cases e0 : (r == 0) with
        | false =>
          go_wp2_with fail
          go_ret
          exact ⟨_, j, _, xs, rfl, hsi3, HA.out, by omega, hcap, hR3.mono (by omega), hB3⟩
        | true =>
          obtain ⟨g, rfl, hg1, hg3'⟩ := own_form HO3.out (by omega)
          have hcl := own_cell HO3.out (j := j - 1) (by omega)
          have e5 : ((j : Int) - 1).toNat = j - 1 := by omega
          have hj1 : (1 : Nat) ≤ j := by omega
          generalize iat xs (j - 1) = x at hcl
          go_wp2_with fail
          refine (one_lit R _ _ w3 3 [-1, 21, x] 3 rfl rfl (by omega) (by omega) (by omega) hR3).mono ?_
          rintro e w4 ⟨z, rfl, hz, hR4, hg4, hb4⟩
          have HO4 := Lib.hid (own_off HO3.out hg4 (by omega))
          have hc4 := own_cell HO4.out (j := 0) (by omega)
          have hf4 := World.ownsRow.frozenAt HO4.out 0
          have hst := (own_stored HO4.out 0 z).1
          have HT := Lib.hid (NewI.si (NewI.of_own hst)); clear hst
          have hb5 := (hB3.trans hb4).setCell (p := ⟨g, 0, none⟩) (show R ≤ g by omega) (.int .i64 z)
          have hR5 := hR4.below ((Below.refl (R + 1) w4).setCell (p := ⟨g, 0, none⟩) (show R + 1 ≤ g by omega) (.int .i64 z)) (by omega)
          clear hcl
          go_wp2_with fail
          go_ret
          exact ⟨_, j, _, _, rfl, HT.out, (fun b o e => by cases e; omega), by omega, hcap, hR5.mono (by omega), hb5⟩

set_option maxHeartbeats 800000 in
theorem drawElectOf_any (A : Option Addr) (n c : Nat) (bs : List Int) (w : World) (hc : n ≤ c) (hn : n ≤ 2000000) (hs : SB w A n bs) :
    Calls Try.prog 22 #[.slice A n c] w fun e w' => ∃ (A : Option Addr) (n c : Nat) (zs : List Int), e = .returned (.slice A n c) ∧ SI w' A n zs ∧ n ≤ 6 ∧ n ≤ c ∧ Below w.heap.size w w' := by
  have H := Lib.hid (newReader_any A n c bs w hc hn hs)
  clear hs
  go_enter Try.func22, Try.ntmps22
  go_wp2_with fail
  refine H.out.mono ?_
  rintro e w1 ⟨rfl, hR, hb1⟩
  go_wp2_with fail
  refine (someMarks_any _ 0 _ (by omega) hR).mono ?_
  rintro e w2 ⟨A2, n2, c2, zs, rfl, hsi, hrow, h1, h2, hR2, hb2⟩
  have hB := hb1.trans hb2
  clear hR hR2 hb1 hb2
  go_wp2_with fail
  go_ret
  exact ⟨A2, n2, c2, zs, rfl, hsi, h1, h2, hB⟩

set_option maxHeartbeats 800000 in
theorem drawRoundsOf_any (A : Option Addr) (n c : Nat) (bs : List Int) (w : World) (hc : n ≤ c) (hn : n ≤ 2000000) (hs : SB w A n bs) :
    Calls Try.prog 23 #[.slice A n c] w fun e w' => ∃ (A : Option Addr) (n c : Nat) (zs : List Int), e = .returned (.slice A n c) ∧ SI w' A n zs ∧ n ≤ 6 ∧ n ≤ c ∧ Below w.heap.size w w' := by
  have H := Lib.hid (newReader_any A n c bs w hc hn hs)
  clear hs
  go_enter Try.func23, Try.ntmps23
  go_wp2_with fail
  refine H.out.mono ?_
  rintro e w1 ⟨rfl, hR, hb1⟩
  go_wp2_with fail
  refine (someMarks_any _ 0 _ (by omega) hR).mono ?_
  rintro e w2 ⟨A2, n2, c2, zs, rfl, hsi, hrow, h1, h2, hR2, hb2⟩
  have hB := hb1.trans hb2
  clear hR hR2 hb1 hb2
  go_wp2_with fail
  go_ret
  exact ⟨A2, n2, c2, zs, rfl, hsi, h1, h2, hB⟩

end Go.Proofs.Ytblaaeanbhgokaa
