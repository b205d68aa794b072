/-
  KnI. By a program (wip/tools/mk.py) out of snippets.
-/
import Derived.Test.YtjiplangdkpehaaKn
import Derived.Test.YtjiplangdkpehaaNewsB
namespace Go.Proofs.Ytjiplangdkpehaa
open Go.RowKit

set_option maxHeartbeats 800000 in
theorem newsOf_any (n : Nat) (w : World) (hn : n ≤ 6) :
    Calls Try.prog 53 #[.int .i64 n] w fun e w' => ∃ A c, e = .returned (.slice A n c) ∧ n ≤ c ∧ NewI w' w.heap.size A n (toI (kn0 n)) ∧ Below w.heap.size w w' := by
  obtain ⟨i0, hi, hz0, hz1, hz2⟩ := info_parts info3
  have e9 : ((n : Int)).toNat = n := Int.toNat_natCast n
  go_enter Try.func53, Try.ntmps53
  go_wp2_with (at_make; refine wpList_make_own _ rfl _ _ 57 rfl w.heap.size 3 i0 (.int .i64 0) 1 Try.underlying57 hi hz0 hz1 _ _ _ n rfl rfl rfl ?b1 ?b2 (Nat.le_refl _) ?_)
  case b1 => rw [hz2]; omega
  case b2 => unfold maxLen; omega
  intro w1 o1 hgrow
  have b1 : Below w.heap.size w w1 := (Below.refl _ _).grown hgrow (Nat.le_refl _) (fun k h => by cases h)
  clear hgrow e9
  go_wp2_with fail
  go_loopg [3, 8] n (fun gg s3 s8 wr => ∃ (i cc : Nat) (Aa : Option Addr), i ≤ n ∧ n - i ≤ gg ∧ s8 = .int .i64 i ∧ s3 = .slice Aa i cc ∧ wr.ownsRow w.heap.size 3 1 (.slice Aa i cc) i ((toI ((List.range i).map fun p => 2 ^ p)).map (Value.int .i64)) ∧ Below w.heap.size w wr)
  case atStart => exact ⟨0, n, _, by omega, by omega, rfl, rfl, o1, b1⟩
  case round =>
    clear o1 b1
    obtain ⟨i, cc, Aa, hi, hg, rfl, rfl, hown, hbw⟩ := hrel
    have HOw := Lib.hid hown
    have HBw := Lib.hid hbw
    have hsz := hbw.size
    by_cases hlt : i < n
    · have ec : ((2 ^ i : Nat) : Int) = (2 : Int) ^ i := by simp
      have HR := Lib.hid (range_pow_succ i)
      rw [ec] at HR
      have hpi : 2 ^ i ≤ 64 := pow6 (by omega)
      have hwi : IntKind.i64.wrap ((2 : Int) ^ i) = (2 : Int) ^ i := by
        rw [← ec]
        generalize 2 ^ i = p at hpi
        exact IntWalk.i64_in _ (by omega)
      have e1 : IntKind.i64.wrap (1 * (2 : Int) ^ (i : Int).toNat) = (2 : Int) ^ i := by rw [Int.one_mul, Int.toNat_natCast]; exact hwi
      have e2 : (0 : Int) ≤ (i : Int) := by omega
      clear hown hbw ec
      go_wp2_with (at_builtin; refine appLN wr w.heap.size _ _ _ (toI ((List.range i).map fun p => 2 ^ p)) ((2 : Int) ^ i) rfl _ _ rfl rfl HOw.out rfl (by omega) hsz ?_; intro g2 c2 w4 ho4 hb4 hg4 hl4)
      go_roundg (n - (i + 1))
      case measure => omega
      case rel => exact ⟨i + 1, c2, _, by omega, by omega, by go_num, rfl, by rw [HR.out]; exact ho4, HBw.out.trans hb4⟩
    · obtain rfl : i = n := by omega
      have hcap := own_cap hown
      have HN := Lib.hid (NewI.of_own hown)
      clear hown hbw
      go_wp2_with fail
      go_ret
      exact ⟨_, _, rfl, hcap, HN.out, HBw.out⟩

set_option maxHeartbeats 1600000 in
theorem newscall_any (n c x y base b off : Nat) (ks : List Nat) (w : World) (hn : n ≤ 6) (hx : x < n) (hy : y < n) (hxy : x ≠ y) (hs : Small n ks) (h : NewI w base (some ⟨b, off, none⟩) n (toI ks)) :
    Calls Try.prog 65 #[.slice (some ⟨b, off, none⟩) n c, .agg #[.int .i64 x, .int .i64 y]] w fun e w' => e = .returned (.tuple #[]) ∧ NewI w' base (some ⟨b, off, none⟩) n (toI (stepK ks x y)) ∧ Below base w w' := by
  obtain ⟨b', off', e', hb1, hb2, hc, hf⟩ := h.2 (by omega)
  cases e'
  have hp := pow6 hn
  have hbx := hs x
  have hby := hs y
  have hbits := bits_or64 (ks.getD x 0) (ks.getD y 0) (by omega) (by omega)
  have hB := (Below.refl base w).alloc (show base ≤ w.heap.size by omega) (.cells #[.int .i64 x, .int .i64 y] 44)
  have hN := h.below (B := w.heap.size) ((Below.refl _ _).alloc (Nat.le_refl _) (.cells #[.int .i64 x, .int .i64 y] 44)) (Nat.le_refl _)
  have HSt := Lib.hid (show toI (stepK ks x y) = (((toI ks).set x ((ks.getD x 0 ||| ks.getD y 0 : Nat) : Int))).set y ((ks.getD x 0 ||| ks.getD y 0 : Nat) : Int) by rw [stepK, toI_set, toI_set])
  generalize ks.getD x 0 ||| ks.getD y 0 = v at *
  obtain ⟨W, hW⟩ : ∃ W, W = w.alloc (.cells #[.int .i64 x, .int .i64 y] 44) := ⟨_, rfl⟩
  rw [← hW] at hB hN
  obtain ⟨_, _, e', _, hb3, hc2, hf2⟩ := hN.2 (by omega)
  cases e'
  have d0 : W.cell? ⟨w.heap.size, 0, none⟩ = some (.int .i64 x) := by rw [hW]; simp
  have d1 : W.cell? ⟨w.heap.size, 1, none⟩ = some (.int .i64 y) := by rw [hW]; simp
  have hcx := hc2 x hx
  have hcy := hc2 y hy
  rw [toI_at] at hcx hcy
  have hfx := hf2 x hx
  have hfy := hf2 y hy
  generalize ks.getD x 0 = p at *
  generalize ks.getD y 0 = q at *
  have HW1 := Lib.hid (fun m => ((NewI.set_ (show NewI (W.drewN m) base (some ⟨b, off, none⟩) n (toI ks) from hN) hx (x := (v : Int))).set_ hy (x := (v : Int))))
  have HW2 := Lib.hid (fun m => ((bDrewN hB m).setCell (p := ⟨b, off + x, none⟩) (by show base ≤ b; omega) (.int .i64 v)).setCell (p := ⟨b, off + y, none⟩) (by show base ≤ b; omega) (.int .i64 v))
  have hbw : b ≠ w.heap.size := by omega
  have hbw' : w.heap.size ≠ b := by omega
  have hcy2 : ∀ m, ((W.drewN m).setCell ⟨b, off + x, none⟩ (.int .i64 v)).cell? ⟨b, off + y, none⟩ = some (.int .i64 q) := fun m =>
    (World.cell?_setCell_other _ _ _ _ (fun e => hxy (by injection e; omega))).trans hcy
  have hxi : (x : Int) < n := by omega
  have hyi : (y : Int) < n := by omega
  clear hs h hN hB hc hf hc2 hf2 hb1 hb2
  go_enter Try.func65, Try.ntmps65
  go_wp2_with fail
  rw [← hW]
  clear hW
  go_quiet (fail)
  go_wp2_with fail
  go_region
  go_end0
  exact ⟨rfl, by rw [HSt.out]; exact HW1.out _, HW2.out _⟩

/-- What all know behind the first j calls, from ks on. -/
def bhTo (ks : List Nat) (zs : List Int) : Nat → List Nat
  | 0 => ks
  | k + 1 => stepK (bhTo ks zs k) (iat zs (k * 2)).toNat (iat zs (k * 2 + 1)).toNat
theorem bhTo_kn (n : Nat) (zs : List Int) (k : Nat) : bhTo (kn0 n) zs k = knTo n zs k := by
  induction k with
  | zero => rfl
  | succ k ih => rw [bhTo, knTo, ih]
theorem bhTo_length (ks : List Nat) (zs : List Int) (k : Nat) : (bhTo ks zs k).length = ks.length := by
  induction k with
  | zero => rfl
  | succ k ih => rw [bhTo, stepK_length, ih]
theorem bhTo_small {n : Nat} {ks : List Nat} {zs : List Int} {k : Nat} (hs : Small n ks) (hl : ks.length = n) (hc : cOk ((n : Int) - 1) zs k = true) : ∀ j, j ≤ k → Small n (bhTo ks zs j) := by
  intro j
  induction j with
  | zero => intro _; exact hs
  | succ j ih =>
    intro hj
    obtain ⟨h1, h2, _⟩ := cOk_at hc (i := j) (by omega)
    rw [bhTo]
    exact stepK_small (ih (by omega)) _ _ (by rw [bhTo_length]; omega) (by rw [bhTo_length]; omega)
set_option maxHeartbeats 1600000 in
theorem behind_any (n k c c0 : Nat) (A0 A : Option Addr) (ks : List Nat) (zs : List Int) (w : World) (hn1 : 1 ≤ n) (hn : n ≤ 6) (hk : k ≤ 2000000) (hs : Small n ks) (hl : ks.length = n) (hc : cOk ((n : Int) - 1) zs k = true) (ha0 : SI w A0 n (toI ks)) (ha : SI w A (k * 2) zs) :
    Calls Try.prog 54 #[.slice A0 n c0, .slice A k c] w fun e w' => ∃ A' c', e = .returned (.slice A' n c') ∧ NewI w' w.heap.size A' n (toI (bhTo ks zs k)) ∧ Below w.heap.size w w' := by
  have hmf : ∀ (fn : Fn) (first cap : Array Value) (w : World), (Instr.makeFunc fn first cap).run Try.prog w = .ok (.func fn first cap) w := fun _ _ _ _ => rfl
  have HS := Lib.hid (fun j (hj : j ≤ k) => bhTo_small hs hl hc j hj)
  have HC := Lib.hid (fun i (hi : i < k) => cOk_at hc hi)
  have HL := Lib.hid (fun j => (bhTo_length ks zs j).trans hl)
  have H0 := Lib.hid (cloneN_any A0 n c0 (toI ks) w (by omega) (by omega) ha0)
  have HA := Lib.hid ha
  clear ha ha0 hc hs hl
  go_enter Try.func54, Try.ntmps54
  go_wp2_with fail
  refine H0.out.mono ?_
  rintro e w1 ⟨A1, c1, rfl, hc1, hN1, hB1⟩
  obtain ⟨g, og, rfl, hg1, hg2, _, _⟩ := hN1.2 (by omega)
  have HN1 := Lib.hid hN1
  have HB1 := Lib.hid hB1
  clear hN1 hB1 H0
  go_wp2_with fail
  refine (clipN_any g og n c1 w1 (by omega) hc1 (by omega)).mono ?_
  rintro e w' ⟨rfl, rfl⟩
  go_wp2_with fail
  go_loopg [16] k (fun gg s16 wr => ∃ j : Nat, j ≤ k ∧ k - j ≤ gg ∧ s16 = .int .i64 j ∧ NewI wr w.heap.size (some ⟨g, og, none⟩) n (toI (bhTo ks zs j)) ∧ Below w.heap.size w wr)
  case atStart => exact ⟨0, by omega, by omega, rfl, HN1.out, HB1.out⟩
  case round =>
    clear HN1 HB1 hg2
    obtain ⟨j, hj, hg, rfl, hN, hbw⟩ := hrel
    by_cases hlt : j < k
    · obtain ⟨⟨hx0, hx1⟩, ⟨hy0, hy1⟩, hxy⟩ := HC.out j hlt
      have hsm := HS.out j (by omega)
      have hll := HL.out j
      have HE := Lib.hid (show bhTo ks zs (j + 1) = stepK (bhTo ks zs j) (iat zs (j * 2)).toNat (iat zs (j * 2 + 1)).toNat from rfl)
      obtain ⟨b, off, rfl, h1, h2⟩ := SI.pair (HA.out.below hbw (Nat.le_refl _)) hlt
      obtain ⟨x, hx⟩ := Int.eq_ofNat_of_zero_le hx0
      obtain ⟨y, hy⟩ := Int.eq_ofNat_of_zero_le hy0
      rw [hx] at h1 hx1 HE
      rw [hy] at h2 hy1 HE
      rw [Int.toNat_natCast, Int.toNat_natCast] at HE
      have hxy' : x ≠ y := fun e => hxy (by rw [hx, hy, e])
      have hN2 := hN.below (B := wr.heap.size) ((Below.refl _ _).alloc (Nat.le_refl _) (.cells #[.int .i64 x, .int .i64 y] 44)) (Nat.le_refl _)
      have hb2 := hbw.alloc hbw.size (.cells #[.int .i64 x, .int .i64 y] 44)
      have HCall := Lib.hid (newscall_any n n x y w.heap.size g og (bhTo ks zs j) _ hn (by omega) (by omega) hxy' hsm hN2)
      have HB2 := Lib.hid hb2
      clear hN hbw hN2 hb2 hsm hx hy hxy hx0 hy0
      go_wp2_with fail
      refine HCall.out.mono ?_
      rintro e w3 ⟨rfl, hN3, hB3⟩
      have HN3 := Lib.hid hN3
      have HB3 := Lib.hid (HB2.out.trans hB3)
      clear hN3 hB3
      go_wp2_with fail
      go_roundg (k - (j + 1))
      case measure => omega
      case rel => exact ⟨j + 1, by omega, by omega, by go_num, by rw [HE.out]; exact HN3.out, HB3.out⟩
    · obtain rfl : j = k := by omega
      have HN := Lib.hid hN
      have HB := Lib.hid hbw
      clear hN hbw
      go_wp2_with fail
      go_ret
      exact ⟨_, _, rfl, HN.out, HB.out⟩

theorem full1_any (n c B : Nat) (x : Int) (A : Option Addr) (w : World) (hn : n ≤ 6) (hc : w.cell? ⟨B, 0, none⟩ = some (.slice A n c)) :
    Calls Try.prog 67 #[.int .i64 x, .pointer (some ⟨B, 0, none⟩)] w fun e w' => e = .returned (.bool (!(x == (2 : Int) ^ n - 1))) ∧ w' = w := by
  have ec : ((2 ^ n : Nat) : Int) = (2 : Int) ^ n := by simp
  have hp := pow6 hn
  have hp0 := Nat.two_pow_pos n
  have q1 : (2 : Int) ^ n ≤ 64 := by rw [← ec]; generalize 2 ^ n = p at hp; omega
  have q2 : 0 < (2 : Int) ^ n := by rw [← ec]; generalize 2 ^ n = p at hp0; omega
  have q3 : IntKind.i64.wrap (1 * (2 : Int) ^ (n : Int).toNat) = (2 : Int) ^ n := by rw [Int.one_mul, Int.toNat_natCast]; exact IntWalk.i64_in _ (by omega)
  have q4 : (0 : Int) ≤ (n : Int) := by omega
  clear hp hp0 ec
  go_enter Try.func67, Try.ntmps67
  go_wp2
  go_ret
  exact ⟨by rfl, rfl⟩

theorem full_any (n c : Nat) (A : Option Addr) (ks : List Nat) (w : World) (hn1 : 1 ≤ n) (hn : n ≤ 6) (ha : SI w A n (toI ks)) :
    Calls Try.prog 55 #[.slice A n c] w fun e w' => e = .returned (.bool (fullK n ks)) ∧ Below w.heap.size w w' := by
  have hmf : ∀ (fn : Fn) (first cap : Array Value) (w : World), (Instr.makeFunc fn first cap).run Try.prog w = .ok (.func fn first cap) w := fun _ _ _ _ => rfl
  have HB := Lib.hid (show Below w.heap.size w (w.alloc (.cells #[.slice A n c] 57)) from (Below.refl _ _).alloc (Nat.le_refl _) _)
  have hcell : (w.alloc (.cells #[.slice A n c] 57)).cell? ⟨w.heap.size, 0, none⟩ = some (.slice A n c) := by simp
  have ec : ((2 ^ n : Nat) : Int) = (2 : Int) ^ n := by simp
  have hp0 := Nat.two_pow_pos n
  have hv := Lib.hid (show fullK n ks = !((toI ks).any fun z => !(z == (2 : Int) ^ n - 1)) by
    rw [← List.not_all_eq_any_not, Bool.not_not]
    unfold fullK toI
    rw [List.all_map]
    congr 1
    funext x
    rw [← ec]
    generalize 2 ^ n = p at hp0
    simp only [Function.comp]
    rw [Bool.eq_iff_iff, beq_iff_eq, beq_iff_eq]
    omega)
  have H := Lib.hid (containsFuncN_any 67 #[.pointer (some ⟨w.heap.size, 0, none⟩)] (fun z => !(z == (2 : Int) ^ n - 1)) A n c (toI ks) (fun W => W = w.alloc (.cells #[.slice A n c] 57)) _ (by omega) rfl
    (enters_of Try.func67 (by kernel_rfl) rfl) (fun W hW => by subst hW; exact ha.alloc _)
    (fun j hj W hW => by subst hW; exact full1_any n c w.heap.size (iat (toI ks) j) A _ hn hcell))
  generalize ((toI ks).any fun z => !(z == (2 : Int) ^ n - 1)) = r at H hv
  clear ha hcell ec hp0
  go_enter Try.func55, Try.ntmps55
  go_wp2_with fail
  refine H.out.mono ?_
  rintro e w' ⟨rfl, rfl⟩
  go_wp2_with fail
  go_ret
  exact ⟨by rw [hv.out]; rfl, HB.out⟩

theorem implKnownAfter_any (n : Int) (A : Option Addr) (k c : Nat) (zs : List Int) (w : World) (hk : k ≤ 2000000) (ha : SI w A (k * 2) zs) :
    Calls Try.prog 28 #[.int .i64 n, .slice A k c] w fun e w' => ∃ A' c', e = .returned (.slice A' (knA n zs k).length c') ∧ NewI w' w.heap.size A' (knA n zs k).length (knA n zs k) ∧ Below w.heap.size w w' := by
  have C := Lib.hid (implValidCalls_any n A k c zs w hk ha)
  cases e : vcl n zs k with
  | false =>
    rw [e] at C
    have hv := Lib.hid (show knA n zs k = [] by simp [knA, e])
    clear e ha
    go_enter Try.func28, Try.ntmps28
    go_wp2_with fail
    refine C.out.mono ?_
    rintro e w' ⟨rfl, b1⟩
    have B1 := Lib.hid b1
    clear b1
    go_wp2_with fail
    go_ret
    rw [hv.out]
    exact ⟨none, 0, rfl, ⟨rfl, fun h => absurd h (by simp)⟩, B1.out⟩
  | true =>
    rw [e] at C
    obtain ⟨⟨hn1, hn2⟩, hk12, hc⟩ := vcl_iff e
    obtain ⟨N, rfl⟩ : ∃ N : Nat, n = N := ⟨n.toNat, by omega⟩
    have hv := Lib.hid (show knA N zs k = toI (knTo N zs k) by simp [knA, e])
    have hl := Lib.hid (show (toI (knTo N zs k)).length = N by rw [toI_length, knTo_length])
    have H := Lib.hid (fun A0 c0 w' (hb : Below w.heap.size w w') h0 => behind_any N k c c0 A0 A (kn0 N) zs w' (by omega) (by omega) hk (kn0_small N) (by simp [kn0]) hc h0 (ha.below hb (Nat.le_refl _)))
    rw [bhTo_kn] at H
    clear e ha hc
    go_enter Try.func28, Try.ntmps28
    go_wp2_with fail
    refine C.out.mono ?_
    rintro e w1 ⟨rfl, b1⟩
    have B1 := Lib.hid b1
    clear b1
    go_wp2_with fail
    refine (newsOf_any N w1 (by omega)).mono ?_
    rintro e w2 ⟨A2, c2, rfl, hc2, hN2, b2⟩
    have B2 := Lib.hid (bstep B1.out b2)
    have H2 := Lib.hid (H.out A2 c2 w2 B2.out hN2.si)
    clear b2 hN2
    go_wp2_with fail
    refine H2.out.mono ?_
    rintro e w3 ⟨A', c', rfl, hN, hB⟩
    have HN := Lib.hid (hN.mono B2.out.size)
    have HB := Lib.hid (bstep B2.out hB)
    clear hN hB
    go_wp2_with fail
    go_ret
    rw [hv.out, hl.out]
    exact ⟨A', c', rfl, HN.out, HB.out⟩

theorem implIsFull_any (n : Int) (A : Option Addr) (k c : Nat) (zs : List Int) (w : World) (hk : k ≤ 2000000) (ha : SI w A (k * 2) zs) :
    Calls Try.prog 25 #[.int .i64 n, .slice A k c] w fun e w' => e = .returned (.bool (ifA n zs k)) ∧ Below w.heap.size w w' := by
  have C := Lib.hid (implValidCalls_any n A k c zs w hk ha)
  cases e : vcl n zs k with
  | false =>
    rw [e] at C
    have hv := Lib.hid (show ifA n zs k = false by simp [ifA, e])
    clear e ha
    go_enter Try.func25, Try.ntmps25
    go_wp2_with fail
    refine C.out.mono ?_
    rintro e w' ⟨rfl, b1⟩
    have B1 := Lib.hid b1
    clear b1
    go_wp2_with fail
    go_ret
    exact ⟨by rw [hv.out]; rfl, B1.out⟩
  | true =>
    rw [e] at C
    obtain ⟨⟨hn1, hn2⟩, hk12, hc⟩ := vcl_iff e
    obtain ⟨N, rfl⟩ : ∃ N : Nat, n = N := ⟨n.toNat, by omega⟩
    have hv := Lib.hid (show ifA N zs k = fullK N (knTo N zs k) by simp [ifA, e])
    have H := Lib.hid (fun A0 c0 w' (hb : Below w.heap.size w w') h0 => behind_any N k c c0 A0 A (kn0 N) zs w' (by omega) (by omega) hk (kn0_small N) (by simp [kn0]) hc h0 (ha.below hb (Nat.le_refl _)))
    rw [bhTo_kn] at H
    have HF := Lib.hid (fun A' c' w' h => full_any N c' A' (knTo N zs k) w' (by omega) (by omega) h)
    rw [hv.out]
    generalize fullK N (knTo N zs k) = r at *
    clear e ha hc hv
    go_enter Try.func25, Try.ntmps25
    go_wp2_with fail
    refine C.out.mono ?_
    rintro e w1 ⟨rfl, b1⟩
    have B1 := Lib.hid b1
    clear b1
    go_wp2_with fail
    refine (newsOf_any N w1 (by omega)).mono ?_
    rintro e w2 ⟨A2, c2, rfl, hc2, hN2, b2⟩
    have B2 := Lib.hid (bstep B1.out b2)
    have H2 := Lib.hid (H.out A2 c2 w2 B2.out hN2.si)
    clear b2 hN2
    go_wp2_with fail
    refine H2.out.mono ?_
    rintro e w3 ⟨A', c', rfl, hN, hB⟩
    have HN := Lib.hid (HF.out A' c' w3 hN.si)
    have HB := Lib.hid (bstep B2.out hB)
    clear hN hB
    go_wp2_with fail
    refine HN.out.mono ?_
    rintro e w4 ⟨rfl, b4⟩
    have B4 := Lib.hid (bstep HB.out b4)
    clear b4
    go_wp2_with fail
    go_ret
    exact ⟨rfl, B4.out⟩

end Go.Proofs.Ytjiplangdkpehaa
