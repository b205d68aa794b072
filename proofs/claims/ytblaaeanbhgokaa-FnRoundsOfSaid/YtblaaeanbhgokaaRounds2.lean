/-
  Rounds2. By a program (wip/tools/mk.py) out of snippets.
-/
import Derived.Test.YtblaaeanbhgokaaMarks1
namespace Go.Proofs.Ytblaaeanbhgokaa
open Go.RowKit

theorem own_drew {w : World} {base e size n : Nat} {v : Value} {xs : List Value} (h : w.ownsRow base e size v n xs) (m : Nat) : (w.drewN m).ownsRow base e size v n xs := h

set_option maxHeartbeats 3200000 in
theorem specRoundsOf_any (A : Option Addr) (n c : Nat) (zs : List Int) (w : World) (hn : n ≤ 2000000) (ha : SI w A n zs) :
    Calls Try.prog 18 #[.slice A n c] w fun e w' => ∃ A' c', e = .returned (.tuple #[.int .i64 (roundsK zs), .slice A' (roundsR zs).length c']) ∧ NewI w' w.heap.size A' (roundsR zs).length (roundsR zs) ∧ Below w.heap.size w w' := by
  have hlen := Lib.hid ha.len
  have H := Lib.hid (specvalidMarks_any A n c zs w hn ha)
  cases hv : vmarks zs with
  | false =>
    have E1 := Lib.hid (show roundsK zs = -1 by simp [roundsK, hv])
    have E2 := Lib.hid (show roundsR zs = [] by simp [roundsR, hv])
    rw [hv] at H
    clear hv ha
    go_enter Try.func18, Try.ntmps18
    go_wp2_with (go_at_call 50; refine H.out.mono ?_; rintro e w' ⟨rfl, m, rfl⟩)
    go_ret2
    rw [E1.out, E2.out]
    exact ⟨none, 0, rfl, ⟨rfl, fun h => absurd h (by simp)⟩, bDrewN (Below.refl _ _) _⟩
  | true =>
    have hvv := vmarks_iff.1 hv
    rw [hlen.out] at hvv
    have hn1 : 1 ≤ n := hvv.1.1
    have hn6 : n ≤ 6 := hvv.1.2
    have E2 := Lib.hid (show roundsR zs = roundsL n zs by simp [roundsR, hv, hlen.out])
    have E1 := Lib.hid (show roundsK zs = ((roundsL n zs).length : Int) by simp [roundsK, hv, E2.out])
    have HRL := roundsL_le n zs
    have hnn : 0 < n := by omega
    rw [hv] at H
    clear hv hvv
    go_enter Try.func18, Try.ntmps18
    go_wp2_with (first | (go_at_call 50; refine H.out.mono ?_; rintro e w' ⟨rfl, m, rfl⟩; have HO0 := Lib.hid (own_empty (w.drewN m) w.heap.size (Nat.le_refl _)); have HS0 := Lib.hid (SI.alloc (w := w.drewN m) ha (.cells #[] 3)); have hb0 : Below w.heap.size w ((w.drewN m).alloc (.cells #[] 3)) := (bDrewN (Below.refl _ _) m).alloc (Nat.le_refl _) _; clear ha) | (at_builtin; refine appAll _ w.heap.size _ 0 0 [] _ n _ zs rfl _ _ rfl rfl HO0.out rfl HS0.out (by omega) (by simp) ?_; intro AL cL w1 ho2 hb2 hg2))
    simp only [Nat.zero_add, List.nil_append] at ho2
    have hN := NewI.of_own ho2
    have hB1 := hb0.trans hb2
    clear ho2 hb2 hg2 HO0 HS0 hb0
    have hw1 := hB1.size
    have ho := own_empty w1 w.heap.size hw1
    have hsi := (hN.si).alloc (.cells #[] 3)
    have hal : ∀ b o, AL = some ⟨b, o, none⟩ → b ≠ w1.heap.size := fun b o e => by
      obtain ⟨b', off, e', _, h2, _⟩ := hN.2 (by omega)
      rw [e'] at e; cases e; omega
    have hB2 : Below w.heap.size w (w1.alloc (.cells #[] 3)) := hB1.alloc hw1 _
    clear hN hB1
    go_loopg [4, 5] n (fun gg lv ov wr => ∃ (L O : List Int) (Al : Option Addr) (cl go co f : Nat), L.length ≤ gg ∧ L.length ≤ f ∧ L.length ≤ 6 ∧ lv = .slice Al L.length cl ∧ ov = .slice (some ⟨go, 0, none⟩) O.length co ∧ SI wr Al L.length L ∧ (∀ b o, Al = some ⟨b, o, none⟩ → b ≠ go) ∧
      wr.ownsRow w.heap.size 3 1 (.slice (some ⟨go, 0, none⟩) O.length co) O.length (O.map (Value.int .i64)) ∧ Below w.heap.size w wr ∧ Aside (O ++ roundsL f L = roundsL n zs))
    case atStart => exact ⟨zs, [], AL, cL, w1.heap.size, 0, n, by rw [hlen.out]; exact Nat.le_refl _, by rw [hlen.out]; exact Nat.le_refl _, by rw [hlen.out]; exact hn6, by rw [hlen.out], rfl, by rw [hlen.out]; exact hsi, hal, ho, hB2, rfl⟩
    case round =>
      clear ho hsi hal hB2
      obtain ⟨L, O, Al, cl, go, co, f, hg, hf, hL6, rfl, rfl, hsi, hal, ho, hbw, hA⟩ := hrel
      obtain ⟨wo, rfl⟩ : ∃ wo : World, wo = wr := ⟨_, rfl⟩
      have hgo := World.ownsRow.lt ho go rfl
      have hOl : O.length ≤ 6 := by
        have h1 := congrArg List.length hA.out
        rw [List.length_append] at h1
        omega
      have HO := Lib.hid ho; clear ho
      obtain ⟨l, hl⟩ : ∃ l, l = L.length := ⟨_, rfl⟩
      rw [← hl] at hg hf hL6 hsi
      rw [← hl]
      have HL := Lib.hid hl; clear hl
      have hA2 := Lib.hid hA; clear hA
      have hA3 := Lib.hid hal; clear hal
      by_cases hlt : 1 < l
      · obtain ⟨b, off, rfl, hc⟩ := hsi.2 (by omega)
        have HCc := Lib.hid hc; clear hc
        have hbl : b < wo.heap.size := World.block_lt_of_cell? wo _ (HCc.out 0 (by omega))
        have hbgo : b ≠ go := hA3.out b off rfl
        have hon := own_empty wo wo.heap.size (Nat.le_refl _)
        have hd : decide (1 < (l : Int)) = true := by simp; omega
        go_wp2_with fail
        go_loopg [6, 8] l (fun g2 nv iv wr => ∃ (k : Nat) (A' : Option Addr) (c' : Nat), k ≤ l ∧ l - k ≤ g2 ∧ iv = .int .i64 k ∧ nv = .slice A' (nextTo L k).length c' ∧ wr.ownsRow wo.heap.size 3 1 (.slice A' (nextTo L k).length c') (nextTo L k).length ((nextTo L k).map (Value.int .i64)) ∧ Below wo.heap.size wo wr)
        case atStart => exact ⟨0, _, 0, by omega, by omega, rfl, rfl, hon, (Below.refl _ _).alloc (Nat.le_refl _) _⟩
        case round =>
          clear hon
          obtain ⟨k, A', c', hk, hg2, rfl, rfl, hon, hb2⟩ := hrel
          have HON := Lib.hid hon; clear hon
          have hs2 := hb2.size
          have hnl := nextTo_length L k
          have hcc : ∀ i, i < l → wr.cell? ⟨b, off + i, none⟩ = some (.int .i64 (iat L i)) := fun i hi => (hb2.cell (p := ⟨b, off + i, none⟩) hbl).trans (HCc.out i hi)
          by_cases hlt2 : k < l
          · have q1 : (k + l - 1) % l < l := Nat.mod_lt _ (by omega)
            have q2 : (k + 1) % l < l := Nat.mod_lt _ (by omega)
            have h1 := hcc k hlt2
            have h2 := hcc _ q1
            have h3 := hcc _ q2
            have e0 : IntKind.i64.wrap ((k : Int) + 1) = (k : Int) + 1 := IntWalk.i64_in _ (by omega)
            have e01 : IntKind.i64.wrap ((k : Int) + l) = (k : Int) + l := IntWalk.i64_in _ (by omega)
            have e02 : IntKind.i64.wrap ((k : Int) + l - 1) = (k : Int) + l - 1 := IntWalk.i64_in _ (by omega)
            have e1 : ((k : Int) + l - 1).tmod l = (((k + l - 1) % l : Nat) : Int) := by rw [Int.tmod_eq_emod_of_nonneg (by omega), Int.natCast_emod]; congr 1; omega
            have e2 : ((k : Int) + 1).tmod l = (((k + 1) % l : Nat) : Int) := by rw [Int.tmod_eq_emod_of_nonneg (by omega)]; push_cast; rfl
            have e3 : ((((k + l - 1) % l : Nat) : Int)).toNat = (k + l - 1) % l := by omega
            have e4 : ((((k + 1) % l : Nat) : Int)).toNat = (k + 1) % l := by omega
            have hlm : locmax L k = (decide (iat L ((k + l - 1) % l) < iat L k) && decide (iat L ((k + 1) % l) < iat L k)) := by rw [locmax, ← HL.out]
            clear hcc
            generalize (k + l - 1) % l = p1 at *
            generalize (k + 1) % l = p2 at *
            have HIT := Lib.hid (fun h => nextTo_hit (zs := L) (k := k) h)
            have HMI := Lib.hid (fun h => nextTo_miss (zs := L) (k := k) h)
            generalize iat L k = x at *
            generalize iat L p1 = y1 at *
            generalize iat L p2 = y2 at *
            have HLM := Lib.hid hlm; clear hlm
            by_cases c2 : y2 < x
            · by_cases c1 : y1 < x
              · have E := Lib.hid (HIT.out (by rw [HLM.out]; simp [c1, c2]))
                generalize hX : nextTo L k = X at *
                clear hX
                go_wp2_with fail
                have d1 : decide (y1 < x) = true := by simpa using c1
                have d2 : decide (y2 < x) = true := by simpa using c2
                go_quiet (fail)
                have HON2 := Lib.hid (own_drew HON.out nq)
                go_wp2_with (at_builtin; refine app1 (wr.drewN nq) wo.heap.size _ _ _ X x rfl _ _ rfl rfl HON2.out rfl (by omega) hs2 ?_; intro A2 c2 w4 ho4 hb4 hg4 hs4)
                go_roundg (l - (k + 1))
                case measure => omega
                case rel => exact ⟨k + 1, A2, c2, by omega, by omega, by go_num, by rw [E.out]; simp, by rw [E.out]; simpa using ho4, (bDrewN hb2 nq).trans hb4⟩
              · have E := Lib.hid (HMI.out (by rw [HLM.out]; simp [c1]))
                go_wp2_with fail
                have d1 : decide (y1 < x) = false := by simpa using c1
                have d2 : decide (y2 < x) = true := by simpa using c2
                go_quiet (fail)
                go_wp2_with fail
                go_roundg (l - (k + 1))
                case measure => omega
                case rel => exact ⟨k + 1, A', c', by omega, by omega, by go_num, by rw [E.out], by rw [E.out]; exact own_drew HON.out _, bDrewN hb2 _⟩
            · have E := Lib.hid (HMI.out (by rw [HLM.out]; simp [c2]))
              go_wp2_with fail
              have d2 : decide (y2 < x) = false := by simpa using c2
              go_quiet (fail)
              go_wp2_with fail
              go_roundg (l - (k + 1))
              case measure => omega
              case rel => exact ⟨k + 1, A', c', by omega, by omega, by go_num, by rw [E.out], by rw [E.out]; exact own_drew HON.out _, bDrewN hb2 _⟩
          · obtain rfl : k = l := by omega
            clear hcc
            have hNL : nextTo L k = nextL L := by rw [nextL, ← HL.out]
            rw [hNL] at HON hnl
            rw [hNL]
            have hlt3 := nextL_lt (zs := L) (by rw [← HL.out]; omega)
            rw [← HL.out] at hlt3
            have HO4 := Lib.hid (World.ownsRow.kept (row := none) HO.out (w' := wr) ⟨hb2.os, hb2.tape, hb2.output, hb2.size, fun i hi _ => hb2.block i hi⟩ (.inr (by simp [Value.ownBlock])))
            have hnb : ∀ b o, A' = some ⟨b, o, none⟩ → wo.heap.size ≤ b ∧ b < wr.heap.size := fun b o e => World.ownsRow.lt HON.out b (by rw [e]; rfl)
            have hsn := NewI.si (NewI.of_own HON.out)
            have hws := Nat.le_trans hbw.size hs2
            obtain ⟨f, rfl⟩ : ∃ f', f = f' + 1 := ⟨f - 1, by omega⟩
            have hR := Lib.hid (roundsL_succ f (zs := L) (by rw [← HL.out]; omega))
            clear hNL HCc
            generalize nextL L = X at *
            have HNB := Lib.hid hnb; clear hnb
            go_wp2_with (at_builtin; refine appL wr w.heap.size _ _ _ O X.length rfl _ _ rfl rfl HO4.out rfl (by omega) (by omega) ?_; intro g2 c2 w4 ho4 hb4 hg4 hl4)
            go_roundg X.length
            case measure => omega
            case rel =>
              have hl : (O ++ [(X.length : Int)]).length = O.length + 1 := by simp
              refine ⟨X, O ++ [(X.length : Int)], A', c', g2, c2, f, Nat.le_refl _, by omega, by omega, rfl, by rw [hl], ?_, fun b o e => ?_, by rw [hl]; exact ho4, (hbw.trans (hb2.mono hbw.size)).trans hb4, ?_⟩
              · refine SI.grown (hsn.alloc _) hg4 (fun b o e => ?_)
                have := HNB.out b o e
                simp [Value.ownBlock]; omega
              · have := HNB.out b o e
                simp [Value.ownBlock] at hl4
                omega
              · show O ++ [(X.length : Int)] ++ roundsL f X = roundsL n zs
                have h1 := hA2.out.out
                rw [hR.out] at h1
                rw [← h1]; simp
      · have hR := Lib.hid (roundsL_one f (zs := L) (by rw [← HL.out]; omega))
        have HE := Lib.hid (show O = roundsL n zs by have h1 := hA2.out.out; rw [hR.out] at h1; simpa using h1)
        have hcap := own_cap HO.out
        have hnew := NewI.of_own HO.out
        have hd : decide (1 < (l : Int)) = false := by simp; omega
        go_wp2_with fail
        go_ret2
        rw [E1.out, E2.out, ← HE.out]
        exact ⟨_, _, rfl, hnew, hbw⟩

end Go.Proofs.Ytblaaeanbhgokaa
