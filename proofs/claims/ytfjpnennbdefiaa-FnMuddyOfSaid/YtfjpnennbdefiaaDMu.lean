/-
  DMu. By a program (wip/tools/mk.py) out of snippets.
-/
import Derived.Test.YtfjpnennbdefiaaMuM
import Derived.Test.YtfjpnennbdefiaaReader
namespace Go.Proofs.Ytfjpnennbdefiaa
open Go.RowKit

set_option maxHeartbeats 1600000 in
theorem drawMuddyOf_any (A : Option Addr) (n c : Nat) (bs : List Int) (w : World) (hc : n ≤ c) (hn : n ≤ 2000000) (hs : SB w A n bs) :
    Calls Try.prog 14 #[.slice A n c] w fun e w' => ∃ x y : Int, e = .returned (.tuple #[.int .i64 x, .int .i64 y]) ∧ (0 ≤ x ∧ x ≤ 5) ∧ (0 ≤ y ∧ y ≤ 16) ∧ Below w.heap.size w w' := by
  have H := Lib.hid (newReader_any A n c bs w hc hn hs)
  clear hs
  go_enter Try.func14, Try.ntmps14
  go_wp2_with fail
  refine H.out.mono ?_
  rintro e w1 ⟨rfl, hR, hb1⟩
  obtain ⟨R, hRe⟩ : ∃ R, R = w.heap.size := ⟨_, rfl⟩
  rw [← hRe] at hR hb1
  rw [← hRe]
  have HRe := Lib.hid hRe
  clear hRe H
  go_wp2_with fail
  refine (one_lit R 0 _ w1 3 [3, 4, 2, 1, 0, 5] 6 rfl rfl (by omega) (by omega) (by omega) hR).mono ?_
  rintro e w2 ⟨x, rfl, hx, hR2, _, hb2⟩
  have hx2 : 0 ≤ x ∧ x ≤ 5 := by simp at hx; omega
  have hB2 := hb1.trans hb2
  clear hx hR hb1 hb2
  go_wp2_with fail
  refine (pick_b R 1 15 w2 (by omega) (by omega) hR2).mono ?_
  rintro e w3 ⟨r1, rfl, h10, h11, _, hR3, _, hb3⟩
  have h12 := h11 (by omega)
  have hB3 := hB2.trans hb3
  clear hR2 hb3 hB2 h11
  go_wp2_with fail
  refine (pick_b R 2 7 w3 (by omega) (by omega) hR3).mono ?_
  rintro e w4 ⟨r2, rfl, h20, h21, _, hR4, _, hb4⟩
  have h22 := h21 (by omega)
  have hB4 := hB3.trans hb4
  clear hR3 hb4 hB3 h21
  go_wp2_with fail
  refine (pick_b R 3 3 w4 (by omega) (by omega) hR4).mono ?_
  rintro e w5 ⟨r3, rfl, h30, h31, _, hR5, _, hb5⟩
  have h32 := h31 (by omega)
  have hB5 := hB4.trans hb5
  clear hR4 hb5 hB4 h31
  go_wp2_with fail
  refine (one_lit R 4 _ w5 3 [1 + r1, 1 + r2, 1 + r3, 0, 16] 5 rfl rfl (by omega) (by omega) (by omega) hR5).mono ?_
  rintro e w6 ⟨y, rfl, hy, _, _, hb6⟩
  have hy2 : 0 ≤ y ∧ y ≤ 16 := by simp at hy; omega
  have hB6 := Lib.hid (hB5.trans hb6)
  clear hy hR5 hb6 hB5
  go_wp2_with fail
  go_ret2
  exact ⟨x, y, rfl, hx2, hy2, by rw [← HRe.out]; exact hB6.out⟩

set_option maxHeartbeats 800000 in
theorem weight_any (n x : Nat) (w : World) (hx : x < 2 ^ n) (hn : n ≤ 10) :
    Calls Try.prog 15 #[.int .i64 x] w fun e w' => e = .returned (.int .i64 (wtN n x : Nat)) ∧ w = w' := by
  have hle : ∀ f y, wtN f y ≤ f := by
    intro f
    induction f with
    | zero => intro y; exact Nat.le_refl _
    | succ f ih => intro y; unfold wtN; have := ih (y / 2); omega
  have HLe := Lib.hid hle
  have hx2 : x < 1024 := Nat.lt_of_lt_of_le hx (Nat.le_trans (Nat.pow_le_pow_right (n := 2) (by omega) hn) (by decide))
  have HX := Lib.hid hx
  have HZ := Lib.hid (show ∀ f, wtN f 0 = 0 by
    intro f
    induction f with
    | zero => rfl
    | succ f ih => unfold wtN; rw [Nat.zero_div, ih])
  clear hle hx
  go_enter Try.func15, Try.ntmps15
  go_wp2
  go_loopg [0, 3] n (fun gg s0 s3 wr => ∃ f y a : Nat, f ≤ gg ∧ f ≤ n ∧ y < 1024 ∧ s0 = .int .i64 y ∧ s3 = .int .i64 a ∧ a ≤ 10 ∧ Aside (y < 2 ^ f ∧ a + wtN f y = wtN n x) ∧ w = wr)
  case atStart => exact ⟨n, x, 0, Nat.le_refl _, Nat.le_refl _, hx2, rfl, rfl, by omega, ⟨HX.out, by omega⟩, rfl⟩
  case round =>
    obtain ⟨f, y, a, hg, hf, hy, rfl, rfl, ha, HA, rfl⟩ := hrel
    by_cases hy0 : 0 < y
    · obtain ⟨f, rfl⟩ : ∃ i, f = i + 1 := ⟨f - 1, by have h := HA.out.1; have : f ≠ 0 := fun e => by rw [e] at h; simp at h; omega
                                                     omega⟩
      have hd : (y : Int).tmod 2 = ((y % 2 : Nat) : Int) := by rw [Int.tmod_eq_emod_of_nonneg (by omega)]; push_cast; rfl
      have hq : (y : Int).tdiv 2 = ((y / 2 : Nat) : Int) := by rw [Int.tdiv_eq_ediv_of_nonneg (by omega)]; push_cast; rfl
      have hd2 : (y : Int) % 2 = ((y % 2 : Nat) : Int) := by push_cast; rfl
      have hq2 : (y : Int) / 2 = ((y / 2 : Nat) : Int) := by push_cast; rfl
      have hwt := HLe.out n x
      have HA2 := Lib.hid (show y / 2 < 2 ^ f ∧ (a + y % 2) + wtN f (y / 2) = wtN n x by
        obtain ⟨h1, h2⟩ := HA.out
        rw [Nat.pow_succ] at h1
        rw [wtN] at h2
        exact ⟨by omega, by omega⟩)
      have ha2 : a + y % 2 ≤ 10 := by have := HA2.out.2; omega
      have hy2 : y / 2 < 1024 := by omega
      generalize y / 2 = y2 at *
      generalize hr : y % 2 = r at *
      clear hr
      go_wp2
      go_roundg f
      case measure => omega
      case rel => exact ⟨f, y2, a + r, Nat.le_refl _, by omega, hy2, by go_num, by go_num, ha2, HA2.out, rfl⟩
    · obtain rfl : y = 0 := by omega
      have he : a = wtN n x := by have := HA.out.2; rw [HZ.out] at this; omega
      clear HA
      subst he
      go_wp2
      go_ret
      exact ⟨rfl, rfl⟩

end Go.Proofs.Ytfjpnennbdefiaa
