/-
  OrdL. By a program (wip/tools/mk.py) out of snippets.
-/
import Derived.Test.YtblaaeanbhgokaaOrdDef
import Derived.Test.YtblaaeanbhgokaaReader
import Derived.Test.YtblaaeanbhgokaaFnBase
namespace Go.Proofs.Ytblaaeanbhgokaa
open Go.RowKit

def allRows : Nat → List (List Int)
  | 0 => [[]]
  | n + 1 => (allRows n).map (fun r => 0 :: r) ++ (allRows n).map fun r => 1 :: r
theorem allRows_mem : ∀ (r : List Int), (∀ z ∈ r, 0 ≤ z ∧ z ≤ 1) → r ∈ allRows r.length := by
  intro r
  induction r with
  | nil => intro _; simp [allRows]
  | cons z r ih =>
    intro h
    have h1 := h z (by simp)
    have h2 := ih (fun y hy => h y (by simp [hy]))
    simp only [List.length_cons, allRows, List.mem_append, List.mem_map]
    rcases (show z = 0 ∨ z = 1 by omega) with rfl | rfl
    · exact .inl ⟨r, h2, rfl⟩
    · exact .inr ⟨r, h2, rfl⟩
/-- Do those who do not lie do the same, and what was told by one who does not? -/
def fineO (order liar : Int) (out : List Int) : Bool := (out.all fun z => liar == 0 || (decide (z < 0) || z == order)) && out.all fun z => out.all fun y => decide (z < 0) || (decide (y < 0) || z == y)
def chkO (n : Nat) (order liar : Int) (r : List Int) : Bool := (decide (n < 4) && decide (0 ≤ liar)) || fineO order liar (ordTo n order liar (List.replicate (liar.toNat * n) 0 ++ r) (n - 1))
def chkAll : Bool := ([3, 4, 5] : List Nat).all fun n => ([0, 1] : List Int).all fun o => ([-1, 0, 1, 2, 3, 4] : List Int).all fun l => decide ((n : Int) ≤ l) || (allRows n).all fun r => chkO n o l r
theorem chkAll_true : chkAll = true := by kernel_rfl
theorem sayL_congr {n : Nat} {liar : Int} {zs ys : List Int} (h : ∀ q, q < n → iat zs (liar.toNat * n + q) = iat ys (liar.toNat * n + q)) {p q : Nat} (hq : q < n) (x : Int) : sayL n liar zs p q x = sayL n liar ys p q x := by
  unfold sayL
  split
  · rename_i e
    have : p = liar.toNat := by omega
    rw [this]; exact h q hq
  · rfl
theorem oneTo_congr {n : Nat} {order liar : Int} {zs ys : List Int} (h : ∀ q, q < n → iat zs (liar.toNat * n + q) = iat ys (liar.toNat * n + q)) {p : Nat} (hp : p < n) : ∀ m, m ≤ n → oneTo n order liar zs p m = oneTo n order liar ys p m := by
  intro m
  induction m with
  | zero => intro _; exact sayL_congr h hp _
  | succ m ih =>
    intro hm
    rw [oneTo, oneTo, ih (by omega)]
    unfold firL
    rw [sayL_congr h (show m < n by omega), sayL_congr h hp]
theorem ordTo_congr {n : Nat} {order liar : Int} {zs ys : List Int} (h : ∀ q, q < n → iat zs (liar.toNat * n + q) = iat ys (liar.toNat * n + q)) {k : Nat} (hk : k < n) : ordTo n order liar zs k = ordTo n order liar ys k := by
  unfold ordTo
  apply List.map_congr_left
  intro i hi
  have := List.mem_range.1 hi
  unfold outL
  rw [oneTo_congr h (show i + 1 < n by omega) n (Nat.le_refl _)]
theorem ord_fine {n : Nat} {order liar : Int} {zs : List Int} (h : okO n order liar zs = true) (hg : ¬ ((n : Int) < 4 ∧ 0 ≤ liar)) : fineO order liar (ordTo n order liar zs (n - 1)) = true := by
  obtain ⟨hn, ho, hl, hlen, hz⟩ := okO_iff.1 h
  obtain ⟨r, hr⟩ : ∃ r, r = (List.range n).map fun q => iat zs (liar.toNat * n + q) := ⟨_, rfl⟩
  have hrl : r.length = n := by rw [hr]; simp
  have hr01 : ∀ z ∈ r, 0 ≤ z ∧ z ≤ 1 := by
    intro z hz'
    rw [hr] at hz'
    obtain ⟨q, _, rfl⟩ := List.mem_map.1 hz'
    by_cases hq : liar.toNat * n + q < zs.length
    · exact hz _ (iat_mem hq)
    · have : iat zs (liar.toNat * n + q) = 0 := by simp [iat, hq]
      omega
  have hm := allRows_mem r hr01
  rw [hrl] at hm
  have hc : ordTo n order liar zs (n - 1) = ordTo n order liar (List.replicate (liar.toNat * n) 0 ++ r) (n - 1) := by
    refine ordTo_congr (fun q hq => ?_) (by omega)
    have : iat (List.replicate (liar.toNat * n) 0 ++ r) (liar.toNat * n + q) = iat r q := by
      simp [iat, List.getElem?_append_right]
    rw [this, hr]
    simp [iat, hq]
  have hall := chkAll_true
  unfold chkAll at hall
  rw [List.all_eq_true] at hall
  have h1 := hall n (by simp; omega)
  rw [List.all_eq_true] at h1
  have h2 := h1 order (by simp; omega)
  rw [List.all_eq_true] at h2
  have h3 := h2 liar (by simp; omega)
  rw [Bool.or_eq_true] at h3
  rcases h3 with h3 | h3
  · simp at h3; omega
  · rw [List.all_eq_true] at h3
    have h4 := h3 r hm
    unfold chkO at h4
    rw [Bool.or_eq_true] at h4
    rcases h4 with h4 | h4
    · simp at h4; omega
    · rw [hc]; exact h4
theorem fine_at {order liar : Int} {out : List Int} (h : fineO order liar out = true) : (∀ i, i < out.length → liar ≠ 0 → 0 ≤ iat out i → iat out i = order) ∧ ∀ i j, i < out.length → j < out.length → 0 ≤ iat out i → 0 ≤ iat out j → iat out i = iat out j := by
  unfold fineO at h
  rw [Bool.and_eq_true, List.all_eq_true, List.all_eq_true] at h
  refine ⟨fun i hi h0 h1 => ?_, fun i j hi hj h0 h1 => ?_⟩
  · have := h.1 _ (iat_mem hi)
    simp at this
    omega
  · have := h.2 _ (iat_mem hi)
    rw [List.all_eq_true] at this
    have := this _ (iat_mem hj)
    simp at this
    omega
theorem out_neg {n : Nat} {order liar : Int} {zs : List Int} {k i : Nat} (hi : i < k) (h : iat (ordTo n order liar zs k) i < 0) : (i : Int) + 1 = liar := by
  have e : iat (ordTo n order liar zs k) i = outL n order liar zs (i + 1) := by simp [ordTo, iat, hi]
  rw [e] at h
  unfold outL at h
  split at h
  · omega
  · split at h <;> omega

set_option maxHeartbeats 800000 in
theorem sameVoice_true (A : Option Addr) (n c : Nat) (zs : List Int) (w : World) (hn : n ≤ 1000000) (hs : ∀ i j, i < n → j < n → 0 ≤ iat zs i → 0 ≤ iat zs j → iat zs i = iat zs j) (ha : SI w A n zs) :
    Calls Try.prog 40 #[.slice A n c] w fun e w' => Qt w (.bool true) e w' := by
  have HS := Lib.hid hs; clear hs
  go_enter Try.func40, Try.ntmps40
  go_wp2_with fail
  go_loopg [3] n (fun gg s3 wr => ∃ i m : Nat, i ≤ n ∧ n - i ≤ gg ∧ s3 = .int .i64 i ∧ wr = w.drewN m)
  case atStart => exact ⟨0, 0, by omega, by omega, rfl, rfl⟩
  case round =>
    obtain ⟨i, m, hi, hg, rfl, rfl⟩ := hrel
    by_cases hlt : i < n
    · go_wp2_with fail
      go_loopg [4] i (fun g2 s4 wr => ∃ k q : Nat, k ≤ i ∧ i - k ≤ g2 ∧ s4 = .int .i64 k ∧ wr = w.drewN q)
      case atStart => exact ⟨0, _, by omega, by omega, rfl, by first | rfl | exact World.drewN_drewN _ _ _⟩
      case round =>
        obtain ⟨k, q, hk, hg2, rfl, rfl⟩ := hrel
        by_cases hlk : k < i
        · obtain ⟨b, off, rfl, hc⟩ := ha.2 (by omega)
          have hx := hc i hlt
          have hy := hc k (by omega)
          have hE := HS.out i k hlt (by omega)
          generalize iat zs i = x at *
          generalize iat zs k = y at *
          have HA := Lib.hid ha
          clear ha hc
          by_cases h1 : 0 ≤ x
          · have d1 : decide (0 ≤ x) = true := by simpa using h1
            by_cases h2 : 0 ≤ y
            · have e1 := hE h1 h2
              subst e1
              have e2 : (x == x) = true := by simp
              clear hE
              go_wp2_with fail
              go_quiet (fail)
              go_wp2_with fail
              go_roundg (i - (k + 1))
              case measure => omega
              case rel => exact ⟨k + 1, _, by omega, by omega, by go_num, by first | rfl | exact World.drewN_drewN _ _ _⟩
            · have d2 : decide (0 ≤ y) = false := by simpa using h2
              clear hE
              go_wp2_with fail
              go_quiet (fail)
              go_wp2_with fail
              go_roundg (i - (k + 1))
              case measure => omega
              case rel => exact ⟨k + 1, _, by omega, by omega, by go_num, by first | rfl | exact World.drewN_drewN _ _ _⟩
          · have d1 : decide (0 ≤ x) = false := by simpa using h1
            clear hE
            go_wp2_with fail
            go_quiet (fail)
            go_wp2_with fail
            go_roundg (i - (k + 1))
            case measure => omega
            case rel => exact ⟨k + 1, _, by omega, by omega, by go_num, by first | rfl | exact World.drewN_drewN _ _ _⟩
        · obtain rfl : k = i := by omega
          clear ha
          go_wp2_with fail
          go_roundg (n - (k + 1))
          case measure => omega
          case rel => exact ⟨k + 1, _, by omega, by omega, by go_num, by first | rfl | exact World.drewN_drewN _ _ _⟩
    · clear ha
      go_wp2_with fail
      go_ret
      exact ⟨rfl, m, rfl⟩

set_option maxHeartbeats 1600000 in
theorem liesOf_any (R N n : Nat) (w : World) (hN : N ≤ 1000) (hn : n ≤ 6) (h : Rd w R N) :
    Calls Try.prog 79 #[.pointer (some ⟨R, 0, none⟩), .int .i64 n] w fun e w' => ∃ (A : Option Addr) (m c : Nat) (zs : List Int), e = .returned (.slice A m c) ∧ SI w' A m zs ∧ m ≤ 40 ∧ m ≤ c ∧ Below R w w' := by
  have hR := h.1
  have ho := own_empty w (R + 1) (by omega)
  have hb0 : Below R w (w.alloc (.cells #[] 3)) := (Below.refl _ _).alloc (by omega) _
  have hRe := h.alloc (.cells #[] 3)
  have hnn : n * n ≤ 36 := Nat.le_trans (Nat.mul_le_mul hn hn) (by decide)
  have e1 : IntKind.i64.wrap ((n : Int) * (n : Int)) = ((n * n : Nat) : Int) := by rw [← Int.natCast_mul]; exact IntWalk.i64_in _ (by omega)
  have ep : (n : Int) * (n : Int) = ((n * n : Nat) : Int) := by simp
  generalize n * n = M at *
  clear h
  go_enter Try.func79, Try.ntmps79
  go_wp2_with fail
  go_loopg [5] M (fun gg v wr => ∃ (xs : List Int) (A' : Option Addr) (j c' : Nat), j ≤ M ∧ M - j ≤ gg ∧ v = .slice A' j c' ∧ wr.ownsRow (R + 1) 3 1 (.slice A' j c') j (xs.map (Value.int .i64)) ∧ Rd wr R (N + j) ∧ Below R w wr)
  case atStart => exact ⟨[], _, 0, 0, by omega, by omega, rfl, ho, hRe, hb0⟩
  case round =>
    clear ho hRe hb0
    obtain ⟨xs, A', j, c', hj, hg, rfl, hown, hRd, hbw⟩ := hrel
    have hsz := hRd.1
    have HO := Lib.hid hown; clear hown
    have HBw := Lib.hid hbw; clear hbw
    by_cases hlt : j < M
    · go_wp2_with fail
      refine (pick_b R _ 2 _ (by omega) (by omega) hRd).mono ?_
      rintro e w3 ⟨r, rfl, hr0, hr1, hr2, hR3, hg3, hb3⟩
      have HO3 := Lib.hid (own_off HO.out hg3 (by omega)); clear HO
      have hs3 := hR3.1
      have HB3 := Lib.hid (HBw.out.trans hb3)
      clear hr1 hr2 hg3 hr0 hb3 hRd
      go_wp2_with (at_builtin; refine appL w3 (R + 1) _ _ _ xs r rfl _ _ rfl rfl HO3.out rfl (by omega) (by omega) ?_; intro g2 c2 w4 ho4 hb4 hg4 hl4)
      go_roundg (M - (j + 1))
      case measure => omega
      case rel => exact ⟨xs ++ [r], _, j + 1, c2, by omega, by omega, rfl, ho4, (hR3.below hb4 (by omega)).mono (by omega), HB3.out.trans (hb4.mono (by omega))⟩
    · obtain rfl : j = M := by omega
      have hcap := own_cap HO.out
      go_wp2_with fail
      refine (pick_b R _ 24 _ (by omega) (by omega) hRd).mono ?_
      rintro e w3 ⟨r, rfl, hr0, hr1, hr2, hR3, hg3, hb3⟩
      have HO3 := Lib.hid (own_off HO.out hg3 (by omega)); clear HO
      have hs3 := hR3.1
      have HB3 := Lib.hid (HBw.out.trans hb3)
      clear hr1 hr2 hg3 hr0 hb3 hRd
      cases e0 : (r == 0) with
      | false =>
        have HN := Lib.hid (NewI.si (NewI.of_own HO3.out))
        go_wp2_with fail
        go_ret
        exact ⟨_, j, _, xs, rfl, HN.out, by omega, hcap, HB3.out⟩
      | true =>
        go_wp2_with (at_builtin; refine appL w3 (R + 1) _ _ _ xs 0 rfl _ _ rfl rfl HO3.out rfl (by omega) (by omega) ?_; intro g2 c2 w4 ho4 hb4 hg4 hl4)
        have HN := Lib.hid (NewI.si (NewI.of_own ho4))
        have hcap2 := own_cap ho4
        have HB4 := Lib.hid (HB3.out.trans (hb4.mono (by omega)))
        clear ho4 hb4 hg4 hl4
        go_wp2_with fail
        go_ret
        exact ⟨_, j + 1, _, _, rfl, HN.out, by omega, hcap2, HB4.out⟩

set_option maxHeartbeats 1600000 in
theorem drawOrdersOf_any (A : Option Addr) (n c : Nat) (bs : List Int) (w : World) (hc : n ≤ c) (hn : n ≤ 2000000) (hs : SB w A n bs) :
    Calls Try.prog 39 #[.slice A n c] w fun e w' => ∃ (k order liar : Int) (A : Option Addr) (n c : Nat) (zs : List Int), e = .returned (.tuple #[.int .i64 k, .int .i64 order, .int .i64 liar, .slice A n c]) ∧ SI w' A n zs ∧ (2 ≤ k ∧ k ≤ 6) ∧ (-1 ≤ liar ∧ liar ≤ 6) ∧ n ≤ 40 ∧ n ≤ c ∧ Below w.heap.size w w' := by
  have H := Lib.hid (newReader_any A n c bs w hc hn hs)
  clear hs
  go_enter Try.func39, Try.ntmps39
  go_wp2_with fail
  refine H.out.mono ?_
  rintro e w1 ⟨rfl, hR1, hb1⟩
  have B1 := Lib.hid hb1
  have HR1 := Lib.hid hR1
  clear hb1 hR1
  go_wp2_with fail
  refine (one_lit w.heap.size _ _ w1 3 [4, 3, 5, 4, 2, 6] 6 rfl rfl (by omega) (by omega) (by omega) HR1.out).mono ?_
  rintro e w2 ⟨k, rfl, hk, hR2, hg2, hb2⟩
  have hk2 : 2 ≤ k ∧ k ≤ 6 := by simp at hk; omega
  have B2 := Lib.hid (B1.out.trans hb2)
  have HR2 := Lib.hid hR2
  obtain ⟨hk3, hk4⟩ := hk2
  clear hb2 hR2 hg2 hk HR1
  go_wp2_with fail
  refine (one_lit w.heap.size _ _ w2 3 [0, 1, 1, 2] 4 rfl rfl (by omega) (by omega) (by omega) HR2.out).mono ?_
  rintro e w3 ⟨o, rfl, hk, hR3, hg3, hb3⟩
  have B3 := Lib.hid (B2.out.trans hb3)
  have HR3 := Lib.hid hR3
  clear hb3 hR3 hg3 hk HR2
  go_wp2_with fail
  refine (one_lit w.heap.size _ _ w3 3 [0, 1, 2, -1, k - 1, k] 6 rfl rfl (by omega) (by omega) (by omega) HR3.out).mono ?_
  rintro e w4 ⟨l, rfl, hk, hR4, hg4, hb4⟩
  have hl : -1 ≤ l ∧ l ≤ 6 := by simp at hk; omega
  have B4 := Lib.hid (B3.out.trans hb4)
  have HR4 := Lib.hid hR4
  clear hb4 hR4 hg4 hk HR3
  obtain ⟨K, rfl⟩ : ∃ K : Nat, k = K := ⟨k.toNat, by omega⟩
  have HL := Lib.hid (liesOf_any w.heap.size _ K w4 (by omega) (by omega) HR4.out)
  go_wp2_with fail
  refine HL.out.mono ?_
  rintro e w5 ⟨A5, m5, c5, zs, rfl, hsi, hm, hmc, hb5⟩
  have B5 := Lib.hid (B4.out.trans hb5)
  have HS := Lib.hid hsi
  clear hsi hb5
  go_wp2_with fail
  refine bodyPost_ret (v := .tuple #[.int .i64 K, .int .i64 o, .int .i64 l, .slice A5 m5 c5]) ?_ rfl ⟨K, o, l, A5, m5, c5, zs, rfl, HS.out, ⟨by omega, by omega⟩, hl, hm, hmc, B5.out⟩
  have hres : Try.f39.results = #[.tmp 2, .tmp 3, .tmp 4, .tmp 5] := by kernel_rfl
  simp [results, hres]

end Go.Proofs.Ytblaaeanbhgokaa
