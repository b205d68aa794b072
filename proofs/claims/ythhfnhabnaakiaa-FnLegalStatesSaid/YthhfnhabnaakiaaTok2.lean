/-
  Tok2. By a program (wip/tools/mk.py) out of snippets.
-/
import Derived.Test.YthhfnhabnaakiaaTok1
import Derived.Test.YthhfnhabnaakiaaBase
namespace Go.Proofs.Ythhfnhabnaakiaa
open Go.RowKit

theorem hasToken_any (A : Option Addr) (n c i : Nat) (zs : List Int) (w : World) (hn : n ≤ 2000000) (hi : i < n) (ha : SI w A n zs) :
    Calls Try.prog 49 #[.slice A n c, .int .i64 i] w fun e w' => Qt w (.bool (tokAt zs i)) e w' := by
  have hlen := Lib.hid ha.len
  by_cases h0 : i = 0
  · subst h0
    obtain ⟨b, off, rfl, hc⟩ := ha.2 hi
    have h1 : w.cell? ⟨b, off, none⟩ = some (.int .i64 (iat zs 0)) := hc 0 hi
    have h2 := hc (n - 1) (by omega)
    have hv := Lib.hid (show tokAt zs 0 = (iat zs 0 == iat zs (n - 1)) by simp [tokAt, hlen.out])
    have hz : ((0 : Nat) : Int) = 0 := rfl
    have e1 : IntKind.i64.wrap ((n : Int) - 1) = (n : Int) - 1 := IntWalk.i64_in _ (by omega)
    have e2 : (0 : Int) ≤ (n : Int) - 1 := by omega
    have e3 : ((n : Int) - 1).toNat = n - 1 := by omega
    clear ha hc
    rw [hz]
    go_enter Try.func49, Try.ntmps49
    go_wp2
    go_quiet (fail)
    go_wp2
    go_ret
    exact ⟨by rw [hv.out]; rfl, _, rfl⟩
  · obtain ⟨b, off, rfl, hc⟩ := ha.2 (by omega)
    have h1 := hc i hi
    have h2 := hc (i - 1) (by omega)
    have hv := Lib.hid (show tokAt zs i = (iat zs i != iat zs (i - 1)) by simp [tokAt, h0])
    have e0 : ((i : Int) == 0) = false := by simp; omega
    have e1 : IntKind.i64.wrap ((i : Int) - 1) = (i : Int) - 1 := IntWalk.i64_in _ (by omega)
    have e2 : (0 : Int) ≤ (i : Int) - 1 := by omega
    have e3 : ((i : Int) - 1).toNat = i - 1 := by omega
    clear ha hc h0
    go_enter Try.func49, Try.ntmps49
    go_wp2
    go_quiet (fail)
    go_wp2
    go_ret
    exact ⟨by rw [hv.out]; rfl, _, rfl⟩

set_option maxHeartbeats 400000 in
theorem spectokens_any (A : Option Addr) (n c : Nat) (zs : List Int) (w : World) (hn : n ≤ 2000000) (ha : SI w A n zs) :
    Calls Try.prog 47 #[.slice A n c] w fun e w' => ∃ A' c', e = .returned (.slice A' (toks zs).length c') ∧ NewI w' w.heap.size A' (toks zs).length (toks zs) ∧ Below w.heap.size w w' := by
  have hlen := Lib.hid ha.len
  have ho := own_empty w w.heap.size (Nat.le_refl _)
  have hb0 : Below w.heap.size w (w.alloc (.cells #[] 3)) := (Below.refl _ _).alloc (Nat.le_refl _) _
  go_enter Try.func47, Try.ntmps47
  go_wp2
  go_loopw [3, 4] (fun v i wr => ∃ (k : Nat) (A' : Option Addr) (c' : Nat), k ≤ n ∧ i = .int .i64 k ∧ v = .slice A' (toksTo zs k).length c' ∧ wr.ownsRow w.heap.size 3 1 (.slice A' (toksTo zs k).length c') (toksTo zs k).length ((toksTo zs k).map (Value.int .i64)) ∧ Below w.heap.size w wr) (fun _ i _ => n - (intOf i).toNat)
  case atStart => exact ⟨0, _, 0, by omega, rfl, rfl, ho, hb0⟩
  case round =>
    clear ho hb0
    obtain ⟨k, A', c', hk, rfl, rfl, hown, hbw⟩ := hrel
    by_cases hlt : k < n
    · have H := Lib.hid (hasToken_any A n c k zs wr hn hlt (ha.below hbw (Nat.le_refl _)))
      have hlk := toksTo_length zs k
      have hbs := hbw.size
      clear ha
      cases e1 : tokAt zs k with
      | true =>
        have E1 := Lib.hid (toksTo_hit e1)
        rw [e1] at H
        clear e1
        have HO := Lib.hid hown; clear hown
        generalize hX : toksTo zs k = X at *
        have HX := Lib.hid hX; clear hX
        go_wp2_with (first | (go_at_call 49; refine H.out.mono ?_; rintro e w' ⟨rfl, m, rfl⟩) | (at_builtin; refine app1 (wr.drewN _) w.heap.size _ _ _ X k rfl _ _ rfl rfl HO.out rfl (by omega) (by simpa using hbs) ?_; intro A2 c2 w2 ho2 hb2 hg2 hs2))
        go_roundw
        case rel => exact ⟨k + 1, A2, c2, by omega, by go_num, by rw [E1.out]; simp, by rw [E1.out]; simpa using ho2, (bDrewN hbw m).trans hb2⟩
        case measure => simp [intOf]; omega
      | false =>
        have E1 := Lib.hid (toksTo_miss e1)
        rw [e1] at H
        clear e1
        have HO := Lib.hid hown; clear hown
        have HB := Lib.hid hbw; clear hbw
        go_wp2_with (go_at_call 49; refine H.out.mono ?_; rintro e w' ⟨rfl, m, rfl⟩)
        go_roundw
        case rel => exact ⟨k + 1, A', c', by omega, by go_num, by rw [E1.out], by rw [E1.out]; exact HO.out, bDrewN HB.out _⟩
        case measure => simp [intOf]; omega
    · obtain rfl : k = n := by omega
      clear ha
      have HO := Lib.hid hown; clear hown
      go_wp2
      go_ret
      have e : toks zs = toksTo zs k := by rw [toks, hlen.out]
      rw [e]
      exact ⟨A', c', rfl, NewI.of_own HO.out, hbw⟩

/-- What 'TokensOf' returns. -/
def toksOf (k : Int) (zs : List Int) : List Int := if vtok k zs then toks zs else []
theorem specTokensOf_any (k : Int) (A : Option Addr) (n c : Nat) (zs : List Int) (w : World) (hn : n ≤ 2000000) (ha : SI w A n zs) :
    Calls Try.prog 20 #[.int .i64 k, .slice A n c] w fun e w' => ∃ A' c', e = .returned (.slice A' (toksOf k zs).length c') ∧ NewI w' w.heap.size A' (toksOf k zs).length (toksOf k zs) ∧ Below w.heap.size w w' := by
  have H := Lib.hid (specvalidTokens_any k A n c zs w hn ha)
  cases e1 : vtok k zs with
  | true =>
    have H2 := Lib.hid (spectokens_any A n c zs w hn ha)
    rw [e1] at H
    have e2 : toksOf k zs = toks zs := by simp [toksOf, e1]
    rw [e2]
    clear e1 e2 ha
    generalize toks zs = X at H2
    go_enter Try.func20, Try.ntmps20
    go_wp2_with (first | (go_at_call 40; refine H.out.mono ?_; rintro e w' ⟨rfl, rfl⟩) | (go_at_call 47; refine H2.out.mono ?_; rintro e w' ⟨A', c', rfl, hN, hB⟩))
    go_ret
    exact ⟨A', c', rfl, hN, hB⟩
  | false =>
    rw [e1] at H
    have e2 : toksOf k zs = [] := by simp [toksOf, e1]
    rw [e2]
    clear e1 e2 ha
    go_enter Try.func20, Try.ntmps20
    go_wp2_with (go_at_call 40; refine H.out.mono ?_; rintro e w' ⟨rfl, rfl⟩)
    go_ret
    exact ⟨none, 0, rfl, ⟨rfl, fun h => absurd h (by simp)⟩, Below.refl _ _⟩

set_option maxHeartbeats 400000 in
theorem impltokens_any (A : Option Addr) (n c : Nat) (zs : List Int) (w : World) (hn : n ≤ 2000000) (ha : SI w A n zs) :
    Calls Try.prog 46 #[.slice A n c] w fun e w' => ∃ A' c', e = .returned (.slice A' (toks zs).length c') ∧ NewI w' w.heap.size A' (toks zs).length (toks zs) ∧ Below w.heap.size w w' := by
  have hlen := Lib.hid ha.len
  obtain ⟨i0, hi, hz0, hz1, hz2⟩ := info_parts info3
  go_enter Try.func46, Try.ntmps46
  go_wp2_with (at_make; refine wpList_make_own _ rfl _ _ 23 rfl w.heap.size 3 i0 (.int .i64 0) 1 Try.underlying23 hi hz0 hz1 _ _ _ n rfl rfl rfl ?b1 ?b2 (Nat.le_refl _) ?_)
  case b1 => rw [hz2]; omega
  case b2 => unfold maxLen; omega
  intro w1 ho hgrow
  have hb0 : Below w.heap.size w w1 := (Below.refl _ _).grown hgrow (Nat.le_refl _) (fun k h => by cases h)
  clear hgrow
  go_wp2
  go_loopw [3, 12] (fun v i wr => ∃ (k : Nat) (A' : Option Addr) (c' : Nat), k ≤ n ∧ i = .int .i64 k ∧ v = .slice A' (toksTo zs k).length c' ∧ A'.isSome = true ∧ wr.ownsRow w.heap.size 3 1 (.slice A' (toksTo zs k).length c') (toksTo zs k).length ((toksTo zs k).map (Value.int .i64)) ∧ Below w.heap.size w wr) (fun _ i _ => n - (intOf i).toNat)
  case atStart => exact ⟨0, _, n, by omega, rfl, rfl, rfl, ho, hb0⟩
  case round =>
    clear ho hb0
    obtain ⟨k, A', c', hk, rfl, rfl, hA', hown, hbw⟩ := hrel
    by_cases hlt : k < n
    · obtain ⟨b, off, rfl, hc⟩ := (ha.below hbw (Nat.le_refl _)).2 (by omega)
      have h1 := hc k hlt
      have hlk := toksTo_length zs k
      have hbs := hbw.size
      obtain ⟨p, hp, e3, e4, hkz, htk⟩ : ∃ p : Nat, p < n ∧ ((k : Int) + n - 1) % n = p ∧ ((p : Int)).toNat = p ∧ ((k : Int) == 0) = decide (k = 0) ∧ tokAt zs k = (decide (k = 0) == (iat zs k == iat zs p)) := by
        by_cases h0 : k = 0
        · refine ⟨n - 1, by omega, ?_, by omega, by simp [h0], ?_⟩
          · subst h0; rw [Int.emod_eq_of_lt] <;> omega
          · subst h0; simp [tokAt, hlen.out]
        · refine ⟨k - 1, by omega, ?_, by omega, by simp [h0], ?_⟩
          · have : ((k : Int) + n - 1) = (k - 1 : Nat) + n := by omega
            rw [this, Int.add_emod_right, Int.emod_eq_of_lt] <;> omega
          · simp [tokAt, h0]; rw [bne]
      have h2 := hc p hp
      clear ha hc
      have HO := Lib.hid hown; clear hown
      have HB := Lib.hid hbw; clear hbw
      have HA := Lib.hid hA'; clear hA'
      generalize iat zs k = x at *
      generalize iat zs p = y at *
      generalize decide (k = 0) = d at *
      cases e1 : tokAt zs k with
      | true =>
        have E1 := Lib.hid (toksTo_hit e1)
        rw [e1] at htk
        have htk' := htk.symm
        clear e1 htk
        generalize hX : toksTo zs k = X at *
        have HX := Lib.hid hX; clear hX
        go_wp2_with (first | (at_builtin; refine app1 wr w.heap.size _ _ _ X k rfl _ _ rfl rfl HO.out rfl (by omega) (by simpa using hbs) ?_; intro A2 c2 w2 ho2 hb2 hg2 hs2))
        go_roundw
        case rel => exact ⟨k + 1, A2, c2, by omega, by go_num, by rw [E1.out]; simp, hs2, by rw [E1.out]; simpa using ho2, HB.out.trans hb2⟩
        case measure => simp [intOf]; omega
      | false =>
        have E1 := Lib.hid (toksTo_miss e1)
        rw [e1] at htk
        have htk' := htk.symm
        clear e1 htk
        go_wp2
        go_roundw
        case rel => exact ⟨k + 1, A', c', by omega, by go_num, by rw [E1.out], HA.out, by rw [E1.out]; exact HO.out, HB.out⟩
        case measure => simp [intOf]; omega
    · obtain rfl : k = n := by omega
      clear ha
      have HO := Lib.hid hown; clear hown
      have hlk := toksTo_length zs k
      obtain ⟨g, hg⟩ : ∃ g, A' = some ⟨g, 0, none⟩ := by
        rcases HO.out.2 with ⟨h, _⟩ | ⟨g, cap, cur, h, _⟩
        · injection h with h1; subst h1; simp at hA'
        · injection h with h1; exact ⟨g, h1⟩
      subst hg
      have e : toks zs = toksTo zs k := by rw [toks, hlen.out]
      have hcap : (toksTo zs k).length ≤ c' := by
        rcases HO.out.2 with ⟨h, _⟩ | ⟨g, cap, cur, h, _, _, h3, _⟩
        · injection h with h1; cases h1
        · injection h with h1 h2 h3'; omega
      have HE := Lib.hid e; clear e hA'
      go_wp2
      go_ret
      rw [HE.out]
      exact ⟨_, _, rfl, NewI.of_own HO.out, hbw⟩

theorem implTokensOf_any (k : Int) (A : Option Addr) (n c : Nat) (zs : List Int) (w : World) (hn : n ≤ 2000000) (ha : SI w A n zs) :
    Calls Try.prog 19 #[.int .i64 k, .slice A n c] w fun e w' => ∃ A' c', e = .returned (.slice A' (toksOf k zs).length c') ∧ NewI w' w.heap.size A' (toksOf k zs).length (toksOf k zs) ∧ Below w.heap.size w w' := by
  have H := Lib.hid (implValidTokens_any k A n c zs w hn ha)
  cases e1 : vtok k zs with
  | true =>
    have H2 := Lib.hid (fun w1 (hb : Below w.heap.size w w1) => impltokens_any A n c zs w1 hn (ha.below hb (Nat.le_refl _)))
    rw [e1] at H
    have e2 : toksOf k zs = toks zs := by simp [toksOf, e1]
    rw [e2]
    clear e1 e2 ha
    generalize toks zs = X at H2
    go_enter Try.func19, Try.ntmps19
    go_wp2_with (first | (go_at_call 16; refine H.out.mono ?_; rintro e w1 ⟨rfl, hb1⟩) | (go_at_call 46; refine (H2.out _ hb1).mono ?_; rintro e w' ⟨A', c', rfl, hN, hB⟩))
    go_ret
    exact ⟨A', c', rfl, hN.mono hb1.size, hb1.trans (hB.mono hb1.size)⟩
  | false =>
    rw [e1] at H
    have e2 : toksOf k zs = [] := by simp [toksOf, e1]
    rw [e2]
    clear e1 e2 ha
    go_enter Try.func19, Try.ntmps19
    go_wp2_with (go_at_call 16; refine H.out.mono ?_; rintro e w1 ⟨rfl, hb1⟩)
    go_ret
    exact ⟨none, 0, rfl, ⟨rfl, fun h => absurd h (by simp)⟩, hb1⟩

end Go.Proofs.Ythhfnhabnaakiaa
