/-
  Full. By a program (wip/tools/mk.py) out of snippets.
-/
import Derived.Test.YtjiplangdkpehaaFwM
import Derived.Test.YtjiplangdkpehaaKn
import Derived.Test.YtjiplangdkpehaaPlan2
import Derived.Test.YtjiplangdkpehaaFill
namespace Go.Proofs.Ytjiplangdkpehaa
open Go.RowKit

theorem ffM_zero (n : Nat) (zs : List Int) : ffM n 0 zs = if fullK n (knTo n zs (zs.length / 2)) then some zs else none := rfl
theorem missK_pos {n : Nat} {ks : List Nat} : ∀ p, (∃ i, i < p ∧ ks.getD i 0 ≠ 2 ^ n - 1) → 0 < missK n ks p := by
  intro p
  induction p with
  | zero => rintro ⟨i, hi, _⟩; omega
  | succ p ih =>
    rintro ⟨i, hi, h⟩
    unfold missK
    by_cases e : i = p
    · subst e; rw [if_neg h]; omega
    · have := ih ⟨i, by omega, h⟩; omega
theorem missK_le {n : Nat} {ks : List Nat} : ∀ p, missK n ks p ≤ p := by
  intro p
  induction p with
  | zero => exact Nat.le_refl _
  | succ p ih => unfold missK; split <;> omega
theorem fullK_none {n : Nat} {ks : List Nat} (hl : ks.length = n) (h : fullK n ks = false) : ∃ i, i < n ∧ ks.getD i 0 ≠ 2 ^ n - 1 := by
  apply Classical.byContradiction
  intro hno
  have : fullK n ks = true := fullK_of fun i hi => Classical.byContradiction fun hne => hno ⟨i, by omega, hne⟩
  rw [h] at this; cases this
theorem ffM_zero_none {n : Nat} {zs : List Int} (h : fullK n (knTo n zs (zs.length / 2)) = false) : ffM n 0 zs = none := by rw [ffM_zero, h]; rfl
theorem ffM_succ_full {n l : Nat} {zs : List Int} (h : fullK n (knTo n zs (zs.length / 2)) = true) : ffM n (l + 1) zs = none := by unfold ffM; rw [if_pos h]
theorem ffM_succ_cut {n l : Nat} {zs : List Int} (hf : fullK n (knTo n zs (zs.length / 2)) = false) (h : 2 * (l + 1) < missK n (knTo n zs (zs.length / 2)) n) : ffM n (l + 1) zs = none := by unfold ffM; rw [if_neg (by rw [hf]; simp), if_pos h]
theorem ffM_none {n l : Nat} {zs : List Int} (hf : fullK n (knTo n zs (zs.length / 2)) = false) (h : ∀ a, a < n → ∀ b, b < n → a < b → (knTo n zs (zs.length / 2)).getD a 0 ≠ (knTo n zs (zs.length / 2)).getD b 0 → ffM n l (zs ++ [(a : Int), (b : Int)]) = none) : ffM n (l + 1) zs = none := by
  unfold ffM
  rw [if_neg (by rw [hf]; simp)]
  split
  · rfl
  · refine fs_none fun a ha => fs_none fun b hb => ?_
    split
    · split
      · rfl
      · rename_i hab hne
        exact h a ha b hb hab hne
    · rfl
theorem ffM_some {n l a b : Nat} {zs r : List Int} (hf : fullK n (knTo n zs (zs.length / 2)) = false) (hm : ¬ 2 * (l + 1) < missK n (knTo n zs (zs.length / 2)) n) (ha : a < n) (hb : b < n) (hab : a < b) (hne : (knTo n zs (zs.length / 2)).getD a 0 ≠ (knTo n zs (zs.length / 2)).getD b 0)
    (h1 : ∀ a', a' < a → ∀ b', b' < n → a' < b' → (knTo n zs (zs.length / 2)).getD a' 0 ≠ (knTo n zs (zs.length / 2)).getD b' 0 → ffM n l (zs ++ [(a' : Int), (b' : Int)]) = none)
    (h2 : ∀ b', b' < b → a < b' → (knTo n zs (zs.length / 2)).getD a 0 ≠ (knTo n zs (zs.length / 2)).getD b' 0 → ffM n l (zs ++ [(a : Int), (b' : Int)]) = none) (h : ffM n l (zs ++ [(a : Int), (b : Int)]) = some r) : ffM n (l + 1) zs = some r := by
  unfold ffM
  rw [if_neg (by rw [hf]; simp), if_neg hm]
  refine fs_some ha (fs_some hb ?_ fun b' hb' => ?_) fun a' ha' => fs_none fun b' hb' => ?_
  · rw [if_pos hab, if_neg hne]; exact h
  · split
    · split
      · rfl
      · rename_i hlt hn2
        exact h2 b' hb' hlt hn2
    · rfl
  · split
    · split
      · rfl
      · rename_i hlt hn2
        exact h1 a' ha' b' hb' hlt hn2
    · rfl
theorem iat_left {zs ys : List Int} {i : Nat} (h : i < zs.length) : iat (zs ++ ys) i = iat zs i := by simp [iat, List.getD_eq_getElem?_getD, List.getElem?_append, h]
theorem cOk_snoc {n k a b : Nat} {zs : List Int} (hl : zs.length = k * 2) (h : cOk ((n : Int) - 1) zs k = true) (ha : a < n) (hb : b < n) (hab : a ≠ b) : cOk ((n : Int) - 1) (zs ++ [(a : Int), (b : Int)]) (k + 1) = true := by
  refine cOk_of fun i hi => ?_
  by_cases e : i = k
  · subst e
    have e1 : iat (zs ++ [(a : Int), (b : Int)]) (i * 2) = a := by simp [iat, List.getD_eq_getElem?_getD, List.getElem?_append, hl]
    have e2 : iat (zs ++ [(a : Int), (b : Int)]) (i * 2 + 1) = b := by simp [iat, List.getD_eq_getElem?_getD, List.getElem?_append, hl]
    rw [e1, e2]
    have h1 : inR (a : Int) 0 ((n : Int) - 1) = true := inR_true (by omega)
    have h2 : inR (b : Int) 0 ((n : Int) - 1) = true := inR_true (by omega)
    have h3 : ((a : Int) == (b : Int)) = false := by simp; omega
    simp [pOk, h1, h2, h3]
  · rw [iat_left (by omega), iat_left (by omega)]
    have := List.all_eq_true.1 h i (List.mem_range.2 (by omega))
    exact this

def FFPost (n l k : Nat) (zs : List Int) (w : World) (e : Ending) (w' : World) : Prop :=
  ∃ A' k' c', e = .returned (.tuple #[.slice A' k' c', .bool (ffM n l zs).isSome]) ∧ (∀ r, ffM n l zs = some r → k' = k + l ∧ SI w' A' (k' * 2) r) ∧ Below w.heap.size w w'
set_option maxRecDepth 20000 in
set_option maxHeartbeats 6400000 in
theorem fullFrom_step (n : Nat) (hn1 : 1 ≤ n) (hn : n ≤ 4) (l : Nat)
    (IH : ∀ l', l = l' + 1 → ∀ (k : Nat) (zs : List Int) (B : Nat) (c : Nat) (w : World), k + l' ≤ 40 → zs.length = k * 2 → cOk ((n : Int) - 1) zs k = true → SI w (some ⟨B, 0, none⟩) (k * 2) zs →
      Calls Try.prog 58 #[.int .i64 n, .slice (some ⟨B, 0, none⟩) k c, .int .i64 l'] w fun e w' => FFPost n l' k zs w e w')
    (k : Nat) (zs : List Int) (B : Nat) (c : Nat) (w : World) (hk : k + l ≤ 40) (hl : zs.length = k * 2) (hc : cOk ((n : Int) - 1) zs k = true) (ha : SI w (some ⟨B, 0, none⟩) (k * 2) zs) :
    Calls Try.prog 58 #[.int .i64 n, .slice (some ⟨B, 0, none⟩) k c, .int .i64 l] w fun e w' => FFPost n l k zs w e w' := by
  have HS := Lib.hid (knTo_small hc k (Nat.le_refl _))
  have HL := Lib.hid (knTo_length n zs k)
  have e2 : zs.length / 2 = k := by omega
  have HK := Lib.hid (specknown_any n k c (some ⟨B, 0, none⟩) zs w hn1 (by omega) (by omega) hc ha)
  have HF := Lib.hid (fun A' c' w' h => specfull_any n c' A' (knTo n zs k) w' (by omega) HS.out HL.out h)
  have HSP := Lib.hid (fun w' => specpower_any n w' (by omega))
  have HA := Lib.hid ha
  have HZl := Lib.hid hl
  have HCk := Lib.hid hc
  have HM := Lib.hid (show fullK n (knTo n zs k) = false → 0 < missK n (knTo n zs k) n from fun h => missK_pos n (fullK_none HL.out h))
  have hml := missK_le (n := n) (ks := knTo n zs k)
  have hpb := pow6 (show n ≤ 6 by omega)
  have hp1 : 1 ≤ 2 ^ n := Nat.two_pow_pos n
  have M0 := Lib.hid (show missK n (knTo n zs k) 0 = 0 from rfl)
  have MS := Lib.hid (show ∀ p, missK n (knTo n zs k) (p + 1) = missK n (knTo n zs k) p + if (knTo n zs k).getD p 0 = 2 ^ n - 1 then 0 else 1 from fun p => rfl)
  -- what the reference's search says, by what stands behind the calls
  have FT := Lib.hid (show fullK n (knTo n zs k) = true → ((ffM n l zs).isSome = decide (l = 0)) ∧ (∀ r, ffM n l zs = some r → l = 0 ∧ r = zs) by
    intro hf
    cases l with
    | zero => rw [ffM_zero, e2, hf]; simp
    | succ l => rw [ffM_succ_full (by rw [e2]; exact hf)]; simp)
  have FC := Lib.hid (show fullK n (knTo n zs k) = false → 2 * l < missK n (knTo n zs k) n → ffM n l zs = none by
    intro hf h
    cases l with
    | zero => exact ffM_zero_none (by rw [e2]; exact hf)
    | succ l => exact ffM_succ_cut (by rw [e2]; exact hf) (by rw [e2]; exact h))
  have FN := Lib.hid (show fullK n (knTo n zs k) = false → (∀ a, a < n → ∀ b, b < n → a < b → (knTo n zs k).getD a 0 ≠ (knTo n zs k).getD b 0 → ffM n (l - 1) (zs ++ [(a : Int), (b : Int)]) = none) → ffM n l zs = none by
    intro hf h
    cases l with
    | zero => exact ffM_zero_none (by rw [e2]; exact hf)
    | succ l => exact ffM_none (by rw [e2]; exact hf) (by rw [e2]; exact h))
  have FSh := Lib.hid (show fullK n (knTo n zs k) = false → 0 < l → ¬ 2 * l < missK n (knTo n zs k) n → ∀ a b, a < n → b < n → a < b → (knTo n zs k).getD a 0 ≠ (knTo n zs k).getD b 0 →
      (∀ a', a' < a → ∀ b', b' < n → a' < b' → (knTo n zs k).getD a' 0 ≠ (knTo n zs k).getD b' 0 → ffM n (l - 1) (zs ++ [(a' : Int), (b' : Int)]) = none) →
      (∀ b', b' < b → a < b' → (knTo n zs k).getD a 0 ≠ (knTo n zs k).getD b' 0 → ffM n (l - 1) (zs ++ [(a : Int), (b' : Int)]) = none) → ∀ r, ffM n (l - 1) (zs ++ [(a : Int), (b : Int)]) = some r → ffM n l zs = some r by
    intro hf h0 hm a b ha hb hab hne h1 h2 r hr
    obtain ⟨l, rfl⟩ : ∃ i, l = i + 1 := ⟨l - 1, by omega⟩
    exact ffM_some (by rw [e2]; exact hf) (by rw [e2]; exact hm) ha hb hab (by rw [e2]; exact hne) (by rw [e2]; exact h1) (by rw [e2]; exact h2) hr)
  have HIH := Lib.hid (show 0 < l → ∀ a b (B' c' : Nat) (w' : World), a < n → b < n → a ≠ b → SI w' (some ⟨B', 0, none⟩) ((k + 1) * 2) (zs ++ [(a : Int), (b : Int)]) →
      Calls Try.prog 58 #[.int .i64 n, .slice (some ⟨B', 0, none⟩) ((k + 1 : Nat)) c', .int .i64 ((l : Int) - 1)] w' fun e w2 => FFPost n (l - 1) (k + 1) (zs ++ [(a : Int), (b : Int)]) w' e w2 by
    intro h0 a b B' c' w' ha hb hab h
    rw [show (l : Int) - 1 = ((l - 1 : Nat) : Int) by omega]
    exact IH (l - 1) (by omega) (k + 1) _ B' c' w' (by omega) (by rw [List.length_append, hl]; simp; omega) (cOk_snoc hl hc ha hb hab) h)
  clear ha hc hl IH e2
  generalize knTo n zs k = ks at *
  generalize 2 ^ n = Pw at MS HSP hpb hp1
  go_enter Try.func58, Try.ntmps58
  go_wp2_with fail
  refine HK.out.mono ?_
  rintro e w1 ⟨A1, c1, rfl, hN1, hb1⟩
  have HS1 := Lib.hid hN1.si
  have HB1 := Lib.hid hb1
  clear hN1 hb1 HK
  go_wp2_with fail
  refine (HF.out _ _ _ HS1.out).mono ?_
  rintro e w2 ⟨rfl, q2, rfl⟩
  cases hf : fullK n ks with
  | true =>
    have HFT := Lib.hid (FT.out hf)
    have HB2 := Lib.hid (bDrewN HB1.out q2)
    have HA2 := Lib.hid (HA.out.below HB2.out (Nat.le_refl _))
    clear hf FT FC FN FSh HIH
    have hl0 : decide ((l : Int) = 0) = decide (l = 0) := by rw [decide_eq_decide]; omega
    have hl1 : ((l : Int) == 0) = decide (l = 0) := by rw [Bool.eq_iff_iff]; simp
    go_wp2_with fail
    go_ret2
    refine ⟨some ⟨B, 0, none⟩, k, c, by rw [HFT.out.1]; rfl, fun r hr => ?_, HB2.out⟩
    obtain ⟨h0, rfl⟩ := HFT.out.2 r hr
    exact ⟨by omega, HA2.out⟩
  | false =>
    have HFf := Lib.hid hf
    obtain ⟨d1, o1, rfl, hc1⟩ := HS1.out.2 (by omega)
    have HC1 := Lib.hid hc1
    clear hf FT hc1
    go_wp2_with fail
    go_loopg [9, 10] n (fun gg s9 s10 wr => ∃ p q : Nat, p ≤ n ∧ n - p ≤ gg ∧ s9 = .int .i64 (missK n ks p : Nat) ∧ s10 = .int .i64 p ∧ wr = w1.drewN q)
    case atStart => exact ⟨0, _, by omega, by omega, by rw [M0.out]; rfl, rfl, rfl⟩
    case round =>
      obtain ⟨p, q, hp, hg, rfl, rfl, rfl⟩ := hrel
      have hmp := hml p
      by_cases hlt : p < n
      · have hx := HC1.out p hlt
        rw [toI_at] at hx
        have hMp := MS.out p
        have hw : IntKind.i64.wrap ((Pw : Int) - 1) = (Pw : Int) - 1 := IntWalk.i64_in _ (by omega)
        generalize ks.getD p 0 = x at *
        by_cases hxp : x = Pw - 1
        · have hM2 := Lib.hid (show missK n ks (p + 1) = missK n ks p by rw [hMp, if_pos hxp]; rfl)
          have ht : ((x : Int) != (Pw : Int) - 1) = false := by simp; omega
          generalize missK n ks p = mp at *
          clear hMp hxp
          go_wp2_with fail
          go_quiet (first | (go_at_call 68; exact quietP (HSP.out _)))
          go_wp2_with fail
          go_roundg (n - (p + 1))
          case measure => omega
          case rel => exact ⟨p + 1, _, by omega, by omega, by rw [hM2.out], by go_num, rfl⟩
        · have hM2 := Lib.hid (show missK n ks (p + 1) = missK n ks p + 1 by rw [hMp, if_neg hxp])
          have ht : ((x : Int) != (Pw : Int) - 1) = true := by simp; omega
          generalize missK n ks p = mp at *
          clear hMp hxp
          go_wp2_with fail
          go_quiet (first | (go_at_call 68; exact quietP (HSP.out _)))
          go_wp2_with fail
          go_roundg (n - (p + 1))
          case measure => omega
          case rel => exact ⟨p + 1, _, by omega, by omega, by rw [hM2.out]; go_num, by go_num, rfl⟩
      · obtain rfl : p = n := by omega
        have HB2 := Lib.hid (bDrewN HB1.out q)
        have HS2 : ∀ i, i < p → (w1.drewN q).cell? ⟨d1, o1 + i, none⟩ = some (.int .i64 (iat (toI ks) i)) := fun i hi => HC1.out i hi
        have HC2 := Lib.hid HS2
        clear hlt hg HS2
        generalize hww : w1.drewN q = w2 at *
        by_cases hcut : 2 * l < missK p ks p
        · have hR := Lib.hid (FC.out HFf.out hcut)
          have hct : 2 * (l : Int) < (missK p ks p : Nat) := by omega
          generalize missK p ks p = mp at *
          go_wp2_with fail
          go_ret2
          exact ⟨none, 0, 0, by rw [hR.out]; rfl, fun r hr => (by rw [hR.out] at hr; cases hr), HB2.out⟩
        · have hl0 : 0 < l := by have := HM.out HFf.out; omega
          have HIH2 := Lib.hid (HIH.out hl0)
          have FS2 := Lib.hid (FSh.out HFf.out hl0 hcut)
          have FN2 := Lib.hid (FN.out HFf.out)
          have hct : ¬ 2 * (l : Int) < (missK p ks p : Nat) := by omega
          clear hcut HIH FSh FN FC HM MS M0 hml
          generalize missK p ks p = mp at *
          have hld : d1 < w2.heap.size := World.block_lt_of_cell? w2 _ (HC2.out 0 (by omega))
          clear HC1 HS1 HB1 hww HSP HF
          go_wp2_with fail
          go_loopg [11] p (fun gg s11 wr => ∃ a : Nat, a ≤ p ∧ p - a ≤ gg ∧ s11 = .int .i64 a ∧ Aside (∀ a', a' < a → ∀ b', b' < p → a' < b' → ks.getD a' 0 ≠ ks.getD b' 0 → ffM p (l - 1) (zs ++ [(a' : Int), (b' : Int)]) = none) ∧ Below w2.heap.size w2 wr)
          case atStart => exact ⟨0, by omega, by omega, rfl, fun a' h => absurd h (by omega), Below.refl _ _⟩
          case round =>
            obtain ⟨a, ha, hga, rfl, HX1, hbw⟩ := hrel
            by_cases hla : a < p
            · have HBw := Lib.hid hbw
              clear hbw
              go_wp2_with fail
              go_loopg [12] p (fun g2 s12 w3 => ∃ b : Nat, b ≤ p ∧ a < b ∧ p - b ≤ g2 ∧ s12 = .int .i64 b ∧ Aside (∀ b', b' < b → a < b' → ks.getD a 0 ≠ ks.getD b' 0 → ffM p (l - 1) (zs ++ [(a : Int), (b' : Int)]) = none) ∧ Below w2.heap.size w2 w3)
              case atStart => exact ⟨a + 1, by omega, by omega, by omega, by go_num, fun b' h1 h2 => absurd h2 (by omega), HBw.out⟩
              case round =>
                clear HBw
                obtain ⟨b, hbl, hab, hgb, rfl, HX2, hb3⟩ := hrel
                by_cases hlb : b < p
                · have HBv := Lib.hid hb3
                  have x1 := (hb3.cell (p := ⟨d1, o1 + a, none⟩) hld).trans (HC2.out a hla)
                  have x2 := (hb3.cell (p := ⟨d1, o1 + b, none⟩) hld).trans (HC2.out b hlb)
                  rw [toI_at] at x1 x2
                  clear hb3
                  by_cases heq : ks.getD a 0 = ks.getD b 0
                  · have HEq := Lib.hid heq
                    rw [heq] at x1
                    clear heq
                    generalize ks.getD b 0 = y at x1 x2
                    have ht : ((y : Int) == (y : Int)) = true := by simp
                    go_wp2_with fail
                    go_quiet (fail)
                    go_wp2_with fail
                    go_roundg (p - (b + 1))
                    case measure => omega
                    case rel =>
                      refine ⟨b + 1, by omega, by omega, by omega, by go_num, (show Aside _ from fun b' h1 h2 h3 => ?_), bDrewN HBv.out _⟩
                      by_cases e : b' = b
                      · subst e; exact absurd HEq.out h3
                      · exact HX2.out b' (by omega) h2 h3
                  · have HNe := Lib.hid heq
                    have ht : (((ks.getD a 0 : Nat) : Int) == ((ks.getD b 0 : Nat) : Int)) = false := by simp only [beq_eq_false_iff_ne, ne_eq]; omega
                    generalize ks.getD a 0 = x at x1 ht
                    generalize ks.getD b 0 = y at x2 ht
                    clear heq
                    have HN3 := Lib.hid (HIH2.out a b)
                    go_wp2_with fail
                    go_quiet (fail)
                    obtain ⟨w4, hw4⟩ : ∃ x, x = wr.drewN nq := ⟨_, rfl⟩
                    have HBv4 := Lib.hid (show Below w2.heap.size w2 w4 by rw [hw4]; exact bDrewN HBv.out nq)
                    rw [← hw4]
                    clear hw4
                    have hb0 : Below w4.heap.size w4 (w4.alloc (.cells #[] 44)) := (Below.refl _ _).alloc (Nat.le_refl _) _
                    have HO0 := Lib.hid (own_emptyP w4 w4.heap.size (Nat.le_refl _))
                    have HA0 := Lib.hid (HA.out.below (bstep (bstep HB2.out HBv4.out) hb0) (Nat.le_refl _))
                    have HB0 := Lib.hid hb0
                    have hs0 := hb0.size
                    clear hb0 x1 x2
                    go_wp2_with (first
                      | (at_builtin; (refine appAllP _ w4.heap.size _ 0 _ [] ⟨B, 0, none⟩ k c zs rfl _ _ rfl rfl HO0.out rfl HA0.out (by omega) hs0 ?_; intro A5 c5 w5 ho5 hb5 hg5; rw [Nat.zero_add, List.nil_append] at ho5; have HO5 := Lib.hid ho5; have HB5 := Lib.hid (HB0.out.trans hb5); have hs5 := Nat.le_trans hs0 hb5.size; clear ho5 hb5 hg5))
                      | (at_builtin; (refine appLP w5 w4.heap.size A5 k c5 zs [(a : Int), (b : Int)] 1 _ rfl rfl (by omega) rfl _ _ rfl (by first | rfl | (rw [Nat.zero_add])) HO5.out rfl (by omega) hs5 ?_; intro g6 c6 w6 ho6 hb6; have HO6 := Lib.hid ho6; have HB6 := Lib.hid (HB5.out.trans hb6); clear ho6 hb6)))
                    have H6 := Lib.hid (HN3.out g6 c6 w6 hla hlb (by omega) (NewI.of_ownP HO6.out).si)
                    have hB6 := bstep (bstep HB2.out HBv4.out) HB6.out
                    have HBq := Lib.hid HB6.out
                    have HBf := Lib.hid hB6
                    clear HB6 hB6 HO6 HO5 HB5 HA0 HO0 HB0
                    refine H6.out.mono ?_
                    rintro e w7 ⟨A7, k7, c7, rfl, hr7, b7⟩
                    have HB7 := Lib.hid (bstep HBf.out b7)
                    have HBw7 := Lib.hid (show Below w2.heap.size w2 w7 from bstep (bstep HBv4.out HBq.out) b7)
                    have HR7 := Lib.hid hr7
                    clear b7 hr7 H6 HBf
                    cases hff : ffM p (l - 1) (zs ++ [(a : Int), (b : Int)]) with
                    | none =>
                      have HF7 := Lib.hid hff
                      clear hff
                      go_wp2_with fail
                      go_roundg (p - (b + 1))
                      case measure => omega
                      case rel =>
                        refine ⟨b + 1, by omega, by omega, by omega, by go_num, (show Aside _ from fun b' h1 h2 h3 => ?_), HBw7.out⟩
                        by_cases e : b' = b
                        · subst e; exact HF7.out
                        · exact HX2.out b' (by omega) h2 h3
                    | some r =>
                      obtain ⟨hk7, hs7⟩ := HR7.out r hff
                      have HK7 := Lib.hid hk7
                      clear hk7
                      have HF7 := Lib.hid (FS2.out a b hla hlb hab HNe.out (fun a' h1 b' h2 h3 h4 => HX1.out a' h1 b' h2 h3 h4) (fun b' h1 h2 h3 => HX2.out b' h1 h2 h3) r hff)
                      have HS7 := Lib.hid hs7
                      clear hff hs7 HR7
                      go_wp2_with fail
                      go_ret2
                      refine ⟨A7, k7, c7, by rw [HF7.out]; rfl, fun r' hr' => ?_, HB7.out⟩
                      rw [HF7.out] at hr'
                      cases hr'
                      exact ⟨by have := HK7.out; omega, HS7.out⟩
                · obtain rfl : b = p := by omega
                  go_wp2_with fail
                  go_roundg (b - (a + 1))
                  case measure => omega
                  case rel =>
                    refine ⟨a + 1, by omega, by omega, by go_num, (show Aside _ from fun a' h1 b' h2 h3 h4 => ?_), hb3⟩
                    by_cases e : a' = a
                    · subst e; exact HX2.out b' h2 h3 h4
                    · exact HX1.out a' (by omega) b' h2 h3 h4
            · obtain rfl : a = p := by omega
              have hR := Lib.hid (FN2.out fun a' h1 b' h2 h3 h4 => HX1.out a' h1 b' h2 h3 h4)
              have HB4 := Lib.hid (bstep HB2.out hbw)
              clear hbw
              go_wp2_with fail
              go_ret2
              exact ⟨none, 0, 0, by rw [hR.out]; rfl, fun r hr => (by rw [hR.out] at hr; cases hr), HB4.out⟩
theorem fullFrom_any (n : Nat) (hn1 : 1 ≤ n) (hn : n ≤ 4) : ∀ (l k : Nat) (zs : List Int) (B c : Nat) (w : World), k + l ≤ 40 → zs.length = k * 2 → cOk ((n : Int) - 1) zs k = true → SI w (some ⟨B, 0, none⟩) (k * 2) zs →
    Calls Try.prog 58 #[.int .i64 n, .slice (some ⟨B, 0, none⟩) k c, .int .i64 l] w fun e w' => FFPost n l k zs w e w' := by
  intro l
  induction l with
  | zero => intro k zs B c w hk hl hc ha; exact fullFrom_step n hn1 hn 0 (fun l' h => by omega) k zs B c w hk hl hc ha
  | succ l ih =>
    intro k zs B c w hk hl hc ha
    refine fullFrom_step n hn1 hn (l + 1) (fun l' h => ?_) k zs B c w hk hl hc ha
    obtain rfl : l' = l := by omega
    exact ih

set_option maxRecDepth 20000 in
set_option maxHeartbeats 1600000 in
theorem specFewestCalls_in (n : Nat) (w : World) (hn1 : 1 ≤ n) (hn : n ≤ 4) :
    Calls Try.prog 38 #[.int .i64 n] w fun e w' => ∃ A c, e = .returned (.slice A (planN n) c) ∧ SI w' A (planN n * 2) (planL n) ∧ Below w.heap.size w w' := by
  have HI := Lib.hid (show Calls Try.prog 49 #[.int .i64 n, .int .i64 1, .int .i64 4] w fun e w' => e = .returned (.bool true) ∧ w = w' by
    have := inRange_any n 1 4 w
    rwa [inR_true (by omega)] at this)
  have HF := Lib.hid (fun m (hm : m ≤ 20) (w' : World) => fullFrom_any n hn1 hn m 0 [] w'.heap.size 0 (w'.alloc (.cells #[] 44)) (by omega) rfl rfl ⟨rfl, fun h => absurd h (by omega)⟩)
  obtain ⟨_, ⟨hf1, hf2⟩⟩ := fcFacts (n := n) (by simp; omega)
  have HF1 := Lib.hid hf1
  have HF2 := Lib.hid hf2
  have hP : planN n ≤ 13 := planN_le' n (by omega)
  clear hf1 hf2
  generalize planN n = P at *
  generalize planL n = L at *
  go_enter Try.func38, Try.ntmps38
  go_wp2_with fail
  refine HI.out.mono ?_
  rintro e w' ⟨rfl, rfl⟩
  go_wp2_with fail
  go_loopg [3] P (fun gg s3 wr => ∃ m : Nat, m ≤ P ∧ P - m ≤ gg ∧ s3 = .int .i64 m ∧ Below w.heap.size w wr)
  case atStart => exact ⟨0, by omega, by omega, rfl, Below.refl _ _⟩
  case round =>
    obtain ⟨m, hm, hg, rfl, hbw⟩ := hrel
    have HBw := Lib.hid (hbw.alloc hbw.size (.cells #[] 44))
    have HC := Lib.hid (HF.out m (by omega) wr)
    clear hbw
    go_wp2_with fail
    refine HC.out.mono ?_
    rintro e w2 ⟨A2, k2, c2, rfl, hr2, hb2⟩
    have HB2 := Lib.hid (bstep HBw.out hb2)
    clear hb2 HC
    by_cases hlt : m < P
    · have hno := HF2.out m hlt
      rw [hno]
      clear hr2
      go_wp2_with fail
      go_roundg (P - (m + 1))
      case measure => omega
      case rel => exact ⟨m + 1, by omega, by omega, by go_num, HB2.out⟩
    · obtain rfl : m = P := by omega
      obtain ⟨hk2, hs2⟩ := hr2 L HF1.out
      obtain rfl : k2 = m := by omega
      rw [HF1.out]
      have HS2 := Lib.hid hs2
      clear hs2 hr2 hk2
      go_wp2_with fail
      go_ret
      exact ⟨_, _, rfl, HS2.out, HB2.out⟩

end Go.Proofs.Ytjiplangdkpehaa
