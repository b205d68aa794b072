/-
  Kn. By a program (wip/tools/mk.py) out of snippets.
-/
import Derived.Test.YtjiplangdkpehaaKnDef
import Derived.Test.YtjiplangdkpehaaFnBase
namespace Go.Proofs.Ytjiplangdkpehaa
open Go.RowKit

theorem specpower_any (k : Nat) (w : World) (hk : k ≤ 60) :
    Calls Try.prog 68 #[.int .i64 k] w fun e w' => e = .returned (.int .i64 ((2 ^ k : Nat) : Int)) ∧ w = w' := by
  have hp : 2 ^ k ≤ 1152921504606846976 := by
    have := Nat.pow_le_pow_right (n := 2) (by omega) hk
    exact Nat.le_trans this (by decide)
  obtain ⟨p, hP⟩ : ∃ p, p = 2 ^ k := ⟨_, rfl⟩
  rw [← hP] at hp
  have HP := Lib.hid hP
  rw [← hP]
  clear hP
  go_enter Try.func68, Try.ntmps68
  go_wp2
  go_loopg [0, 3] k (fun gg nv av wr => ∃ j a : Nat, j ≤ gg ∧ nv = .int .i64 j ∧ av = .int .i64 a ∧ a ≤ p ∧ Aside (a * 2 ^ j = 2 ^ k) ∧ j ≤ k ∧ w = wr)
  case atStart => exact ⟨k, 1, Nat.le_refl _, rfl, rfl, by rw [HP.out]; exact Nat.one_le_two_pow, Nat.one_mul _, Nat.le_refl _, rfl⟩
  case round =>
    obtain ⟨j, a, hg, rfl, rfl, ha, HA, hj, rfl⟩ := hrel
    by_cases h0 : 0 < j
    · obtain ⟨j, rfl⟩ : ∃ i, j = i + 1 := ⟨j - 1, by omega⟩
      have h2 : 2 * a ≤ p := by
        have h1 := HA.out
        rw [HP.out, ← h1, Nat.pow_succ, ← Nat.mul_assoc, Nat.mul_comm 2 a]
        exact Nat.mul_le_mul_right _ (Nat.le_mul_of_pos_right _ (Nat.two_pow_pos j))
      go_wp2
      go_roundg j
      case measure => omega
      case rel => exact ⟨j, 2 * a, Nat.le_refl _, by go_num, by go_num, h2, by show 2 * a * 2 ^ j = 2 ^ k; have h1 := HA.out; rw [Nat.pow_succ] at h1; rw [← h1, Nat.mul_comm 2 a, Nat.mul_assoc, Nat.mul_comm 2 (2 ^ j)], by omega, rfl⟩
    · obtain rfl : j = 0 := by omega
      have h1 : a = p := by have h1 := HA.out; rw [HP.out, ← h1]; simp
      subst h1
      go_wp2
      go_ret
      exact ⟨rfl, rfl⟩

theorem range_pow_succ (k : Nat) : toI ((List.range (k + 1)).map fun p => 2 ^ p) = toI ((List.range k).map fun p => 2 ^ p) ++ [((2 ^ k : Nat) : Int)] := by
  simp [toI, List.range_succ]
theorem pow6 {n : Nat} (h : n ≤ 6) : 2 ^ n ≤ 64 := Nat.pow_le_pow_right (n := 2) (by omega) h
set_option maxHeartbeats 3200000 in
theorem specknown_any (n k c : Nat) (A : Option Addr) (zs : List Int) (w : World) (hn1 : 1 ≤ n) (hn : n ≤ 6) (hk : k ≤ 2000000) (hc : cOk ((n : Int) - 1) zs k = true) (ha : SI w A (k * 2) zs) :
    Calls Try.prog 56 #[.int .i64 n, .slice A k c] w fun e w' => ∃ A' c', e = .returned (.slice A' n c') ∧ NewI w' w.heap.size A' n (toI (knTo n zs k)) ∧ Below w.heap.size w w' := by
  have HS := Lib.hid (fun j (hj : j ≤ k) => knTo_small hc j hj)
  have HC := Lib.hid (fun i (hi : i < k) => cOk_at hc hi)
  have hp := pow6 hn
  have HPow := Lib.hid (show ∀ k, k < n → 2 ^ k ≤ 64 from fun k hk => pow6 (by omega))
  have o0 := own_empty w w.heap.size (Nat.le_refl _)
  have b0 : Below w.heap.size w (w.alloc (.cells #[] 3)) := (Below.refl _ _).alloc (Nat.le_refl _) _
  have HA := Lib.hid ha
  clear ha hc
  go_enter Try.func56, Try.ntmps56
  go_wp2_with fail
  go_loopg [5, 6] n (fun gg s5 s6 wr => ∃ i g cc : Nat, i ≤ n ∧ n - i ≤ gg ∧ s6 = .int .i64 i ∧ s5 = .slice (some ⟨g, 0, none⟩) i cc ∧ wr.ownsRow w.heap.size 3 1 (.slice (some ⟨g, 0, none⟩) i cc) i ((toI ((List.range i).map fun p => 2 ^ p)).map (Value.int .i64)) ∧ Below w.heap.size w wr)
  case atStart => exact ⟨0, w.heap.size, 0, by omega, by omega, rfl, rfl, o0, b0⟩
  case round =>
    clear o0 b0
    obtain ⟨i, g, cc, hi, hg, rfl, rfl, hown, hbw⟩ := hrel
    have HOw := Lib.hid hown
    have HBw := Lib.hid hbw
    have hsz := hbw.size
    by_cases hlt : i < n
    · have HP := Lib.hid (specpower_any i wr (by omega))
      have HR := Lib.hid (range_pow_succ i)
      have hpi := HPow.out i hlt
      generalize 2 ^ i = x at *
      clear hown hbw
      go_wp2_with fail
      refine HP.out.mono ?_
      rintro e w' ⟨rfl, rfl⟩
      go_wp2_with (at_builtin; refine appL wr w.heap.size _ _ _ (toI ((List.range i).map fun p => 2 ^ p)) (x : Int) rfl _ _ rfl rfl HOw.out rfl (by omega) hsz ?_; intro g2 c2 w4 ho4 hb4 hg4 hl4)
      go_roundg (n - (i + 1))
      case measure => omega
      case rel => exact ⟨i + 1, g2, c2, by omega, by omega, by go_num, rfl, by rw [HR.out]; exact ho4, HBw.out.trans hb4⟩
    · obtain rfl : i = n := by omega
      clear hown hbw
      go_wp2_with fail
      go_loopg [7] k (fun g2 s7 w3 => ∃ j : Nat, j ≤ k ∧ k - j ≤ g2 ∧ s7 = .int .i64 j ∧ w3.ownsRow w.heap.size 3 1 (.slice (some ⟨g, 0, none⟩) i cc) i ((toI (knTo i zs j)).map (Value.int .i64)) ∧ Below w.heap.size w w3)
      case atStart => exact ⟨0, by omega, by omega, rfl, HOw.out, HBw.out⟩
      case round =>
        clear HOw HBw hsz
        obtain ⟨j, hj, hg2, rfl, hown, hbw⟩ := hrel
        have hgb := World.ownsRow.lt hown g rfl
        by_cases hlj : j < k
        · obtain ⟨⟨hx0, hx1⟩, ⟨hy0, hy1⟩, hxy⟩ := HC.out j hlj
          have hsm := HS.out j (by omega)
          have HE := Lib.hid (show knTo i zs (j + 1) = stepK (knTo i zs j) (iat zs (j * 2)).toNat (iat zs (j * 2 + 1)).toNat from rfl)
          obtain ⟨b, off, rfl, h1, h2⟩ := SI.pair HA.out hlj
          have hbl : b < w.heap.size := World.block_lt_of_cell? w _ h1
          replace h1 := (hbw.cell (p := ⟨b, off + j * 2, none⟩) hbl).trans h1
          replace h2 := (hbw.cell (p := ⟨b, off + j * 2 + 1, none⟩) hbl).trans h2
          obtain ⟨x, hx⟩ := Int.eq_ofNat_of_zero_le hx0
          obtain ⟨y, hy⟩ := Int.eq_ofNat_of_zero_le hy0
          rw [hx] at h1 hx1 HE
          rw [hy] at h2 hy1 HE
          rw [Int.toNat_natCast, Int.toNat_natCast] at HE
          have hcx := own_cell hown (show x < i by omega)
          have hcy := own_cell hown (show y < i by omega)
          rw [toI_at] at hcx hcy
          have hbx := hsm x
          have hby := hsm y
          have hfx := World.ownsRow.frozenAt hown x
          have hfy := World.ownsRow.frozenAt hown y
          have hbits := bits_or64 ((knTo i zs j).getD x 0) ((knTo i zs j).getD y 0) (by omega) (by omega)
          have HSt := Lib.hid (show toI (knTo i zs (j + 1)) = (((toI (knTo i zs j)).set x (((knTo i zs j).getD x 0 ||| (knTo i zs j).getD y 0 : Nat) : Int))).set y (((knTo i zs j).getD x 0 ||| (knTo i zs j).getD y 0 : Nat) : Int) by rw [HE.out, stepK, toI_set, toI_set])
          generalize (knTo i zs j).getD x 0 ||| (knTo i zs j).getD y 0 = v at *
          have ho1 := own_stored hown x (v : Int)
          have ho2 := own_stored ho1.1 y (v : Int)
          have HO2 : Hid (∀ m, ((((wr.drewN m).setCell ⟨g, x, none⟩ (.int .i64 v)).setCell ⟨g, y, none⟩ (.int .i64 v))).ownsRow w.heap.size 3 1 (.slice (some ⟨g, 0, none⟩) i cc) i (((toI (knTo i zs j)).set x (v : Int)).set y (v : Int) |>.map (Value.int .i64))) := Lib.hid (fun m => (own_stored (own_stored (show (wr.drewN m).ownsRow w.heap.size 3 1 (.slice (some ⟨g, 0, none⟩) i cc) i ((toI (knTo i zs j)).map (Value.int .i64)) from hown) x (v : Int)).1 y (v : Int)).1)
          have HB2 : Hid (∀ m, Below w.heap.size w ((((wr.drewN m).setCell ⟨g, x, none⟩ (.int .i64 v)).setCell ⟨g, y, none⟩ (.int .i64 v)))) := Lib.hid (fun m => ((bDrewN hbw m).setCell (by show w.heap.size ≤ g; exact hgb.1) _).setCell (by show w.heap.size ≤ g; exact hgb.1) _)
          obtain ⟨p, hpx⟩ : ∃ p, p = (knTo i zs j).getD x 0 := ⟨_, rfl⟩
          obtain ⟨q, hqy⟩ : ∃ q, q = (knTo i zs j).getD y 0 := ⟨_, rfl⟩
          rw [← hpx] at hcx hbits hbx
          rw [← hqy] at hcy hbits hby
          have hxy' : x ≠ y := fun e => hxy (by rw [hx, hy, e])
          have hcy2 : ∀ m, ((wr.drewN m).setCell ⟨g, x, none⟩ (.int .i64 v)).cell? ⟨g, y, none⟩ = some (.int .i64 q) := fun m =>
            (World.cell?_setCell_other _ _ _ _ (fun e => hxy' (by injection e))).trans hcy
          have hbg : b ≠ g := by omega
          have hgb' : g ≠ b := by omega
          clear hown hbw ho1 ho2 hx hy hsm hpx hqy hx0 hy0
          go_wp2_with fail
          go_quiet (fail)
          go_wp2_with fail
          go_roundg (k - (j + 1))
          case measure => omega
          case rel => exact ⟨j + 1, by omega, by omega, by go_num, by rw [HSt.out]; exact HO2.out _, HB2.out _⟩
        · obtain rfl : j = k := by omega
          have HN := Lib.hid (NewI.of_own hown)
          have HBw := Lib.hid hbw
          clear hown hbw
          go_wp2_with fail
          go_ret
          exact ⟨_, _, rfl, HN.out, HBw.out⟩

theorem specKnownAfter_any (n : Int) (A : Option Addr) (k c : Nat) (zs : List Int) (w : World) (hk : k ≤ 2000000) (ha : SI w A (k * 2) zs) :
    Calls Try.prog 27 #[.int .i64 n, .slice A k c] w fun e w' => ∃ A' c', e = .returned (.slice A' (knA n zs k).length c') ∧ NewI w' w.heap.size A' (knA n zs k).length (knA n zs k) ∧ Below w.heap.size w w' := by
  have C := Lib.hid (specvalidCalls_any n A k c zs w hk ha)
  cases e : vcl n zs k with
  | false =>
    rw [e] at C
    have hv := Lib.hid (show knA n zs k = [] by simp [knA, e])
    clear e ha
    go_enter Try.func27, Try.ntmps27
    go_wp2_with fail
    refine C.out.mono ?_
    rintro e w' ⟨rfl, m, rfl⟩
    go_wp2_with fail
    go_ret
    rw [hv.out]
    exact ⟨none, 0, rfl, ⟨rfl, fun h => absurd h (by simp)⟩, bDrewN (Below.refl _ _) m⟩
  | true =>
    rw [e] at C
    obtain ⟨⟨hn1, hn2⟩, hk12, hc⟩ := vcl_iff e
    obtain ⟨N, rfl⟩ : ∃ N : Nat, n = N := ⟨n.toNat, by omega⟩
    have hv := Lib.hid (show knA N zs k = toI (knTo N zs k) by simp [knA, e])
    have hl := Lib.hid (show (toI (knTo N zs k)).length = N by rw [toI_length, knTo_length])
    have H := Lib.hid (fun w' (hb : Below w.heap.size w w') => specknown_any N k c A zs w' (by omega) (by omega) hk hc (ha.below hb (Nat.le_refl _)))
    clear e ha hc
    go_enter Try.func27, Try.ntmps27
    go_wp2_with fail
    refine C.out.mono ?_
    rintro e w1 ⟨rfl, m, rfl⟩
    have B1 := Lib.hid (bDrewN (Below.refl w.heap.size w) m)
    generalize w.drewN m = w1 at *
    have H1 := Lib.hid (H.out _ B1.out)
    go_wp2_with fail
    refine H1.out.mono ?_
    rintro e w2 ⟨A', c', rfl, hN, hB⟩
    have HN := Lib.hid (hN.mono B1.out.size)
    have HB := Lib.hid (bstep B1.out hB)
    clear hN hB
    go_wp2_with fail
    go_ret
    rw [hv.out, hl.out]
    exact ⟨A', c', rfl, HN.out, HB.out⟩

theorem fullK_of {n : Nat} {ks : List Nat} (h : ∀ i, i < ks.length → ks.getD i 0 = 2 ^ n - 1) : fullK n ks = true := by
  unfold fullK
  rw [List.all_eq_true]
  intro x hx
  obtain ⟨i, hi, rfl⟩ := List.mem_iff_getElem.1 hx
  have := h i hi
  simp [hi] at this
  simp [this]
theorem fullK_not {n : Nat} {ks : List Nat} {i : Nat} (hi : i < ks.length) (h : ks.getD i 0 ≠ 2 ^ n - 1) : fullK n ks = false := by
  unfold fullK
  rw [List.all_eq_false]
  refine ⟨ks[i], List.getElem_mem hi, ?_⟩
  simp [hi] at h
  simp [h]
set_option maxHeartbeats 800000 in
theorem specfull_any (n c : Nat) (A : Option Addr) (ks : List Nat) (w : World) (hn : n ≤ 6) (hs : Small n ks) (hl : ks.length = n) (ha : SI w A n (toI ks)) :
    Calls Try.prog 57 #[.slice A n c] w fun e w' => Qt w (.bool (fullK n ks)) e w' := by
  have HT := Lib.hid (show (∀ i, i < n → ks.getD i 0 = 2 ^ n - 1) → fullK n ks = true from fun h => fullK_of (by rw [hl]; exact h))
  have HF := Lib.hid (show ∀ i, i < n → ks.getD i 0 ≠ 2 ^ n - 1 → fullK n ks = false from fun i hi h => fullK_not (by rw [hl]; exact hi) h)
  have HP := Lib.hid (fun w => specpower_any n w (by omega))
  have hp := pow6 hn
  have hp0 := Nat.two_pow_pos n
  have HS := Lib.hid hs
  clear hl hs
  generalize 2 ^ n = p at *
  go_enter Try.func57, Try.ntmps57
  go_wp2_with fail
  go_loopg [3] n (fun gg s3 wr => ∃ i m : Nat, i ≤ n ∧ n - i ≤ gg ∧ s3 = .int .i64 i ∧ wr = w.drewN m ∧ Aside (∀ j, j < i → ks.getD j 0 = p - 1))
  case atStart => exact ⟨0, 0, by omega, by omega, rfl, rfl, fun j hj => absurd hj (by omega)⟩
  case round =>
    obtain ⟨i, m, hi, hg, rfl, rfl, A0⟩ := hrel
    by_cases hlt : i < n
    · obtain ⟨b, off, rfl, h1⟩ := ha.at_ hlt
      rw [toI_at] at h1
      have HFi := Lib.hid (HF.out i hlt)
      have HR := Lib.hid (show ∀ x, x = ks.getD i 0 → x = p - 1 → ∀ j, j < i + 1 → ks.getD j 0 = p - 1 by
        rintro x rfl hx j hj
        by_cases e : j = i
        · subst e; exact hx
        · exact A0.out j (by omega))
      obtain ⟨x, hx⟩ : ∃ x, x = ks.getD i 0 := ⟨_, rfl⟩
      rw [← hx] at h1 HFi
      have HX := Lib.hid hx
      clear ha A0 hx
      by_cases e : x = p - 1
      · have ee : ((x : Int) == (p : Int) - 1) = true := by rw [beq_iff_eq]; omega
        have E := Lib.hid (HR.out x HX.out e)
        clear HR e
        go_wp2_with fail
        go_quiet (first | (go_at_call 68; exact quietP (HP.out _)))
        go_wp2_with fail
        go_roundg (n - (i + 1))
        case measure => omega
        case rel => exact ⟨i + 1, _, by omega, by omega, by go_num, by first | rfl | exact World.drewN_drewN _ _ _, E.out⟩
      · have ee : ((x : Int) == (p : Int) - 1) = false := by simp; omega
        have E := Lib.hid (HFi.out e)
        clear HR e
        go_wp2_with fail
        go_quiet (first | (go_at_call 68; exact quietP (HP.out _)))
        go_wp2_with fail
        go_ret
        exact ⟨by rw [E.out]; rfl, m + nq, by first | rfl | exact World.drewN_drewN _ _ _⟩
    · obtain rfl : i = n := by omega
      have E := Lib.hid (HT.out A0.out)
      clear ha A0
      go_wp2_with fail
      go_ret
      exact ⟨by rw [E.out]; rfl, m, rfl⟩

theorem specIsFull_any (n : Int) (A : Option Addr) (k c : Nat) (zs : List Int) (w : World) (hk : k ≤ 2000000) (ha : SI w A (k * 2) zs) :
    Calls Try.prog 35 #[.int .i64 n, .slice A k c] w fun e w' => e = .returned (.bool (ifA n zs k)) ∧ Below w.heap.size w w' := by
  have C := Lib.hid (specvalidCalls_any n A k c zs w hk ha)
  cases e : vcl n zs k with
  | false =>
    rw [e] at C
    have hv := Lib.hid (show ifA n zs k = false by simp [ifA, e])
    clear e ha
    go_enter Try.func35, Try.ntmps35
    go_wp2_with fail
    refine C.out.mono ?_
    rintro e w' ⟨rfl, m, rfl⟩
    go_wp2_with fail
    go_ret
    exact ⟨by rw [hv.out]; rfl, bDrewN (Below.refl _ _) m⟩
  | true =>
    rw [e] at C
    obtain ⟨⟨hn1, hn2⟩, hk12, hc⟩ := vcl_iff e
    obtain ⟨N, rfl⟩ : ∃ N : Nat, n = N := ⟨n.toNat, by omega⟩
    have hv := Lib.hid (show ifA N zs k = fullK N (knTo N zs k) by simp [ifA, e])
    have H := Lib.hid (fun w' (hb : Below w.heap.size w w') => specknown_any N k c A zs w' (by omega) (by omega) hk hc (ha.below hb (Nat.le_refl _)))
    have HF := Lib.hid (fun A' c' w' h => specfull_any N c' A' (knTo N zs k) w' (by omega) (knTo_small hc k (Nat.le_refl _)) (knTo_length _ _ _) h)
    rw [hv.out]
    generalize fullK N (knTo N zs k) = r at *
    clear e ha hc hv
    go_enter Try.func35, Try.ntmps35
    go_wp2_with fail
    refine C.out.mono ?_
    rintro e w1 ⟨rfl, m, rfl⟩
    have B1 := Lib.hid (bDrewN (Below.refl w.heap.size w) m)
    generalize w.drewN m = w1 at *
    have H1 := Lib.hid (H.out _ B1.out)
    go_wp2_with fail
    refine H1.out.mono ?_
    rintro e w2 ⟨A', c', rfl, hN, hB⟩
    have HN := Lib.hid (HF.out A' c' w2 hN.si)
    have HB := Lib.hid (bstep B1.out hB)
    clear hN hB
    go_wp2_with fail
    refine HN.out.mono ?_
    rintro e w3 ⟨rfl, m3, rfl⟩
    go_wp2_with fail
    go_ret
    exact ⟨rfl, bDrewN HB.out m3⟩

end Go.Proofs.Ytjiplangdkpehaa
