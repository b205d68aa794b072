/-
  LTour2. By a program (wip/tools/mk.py) out of snippets.
-/
import Derived.Test.YthhfnhabnaakiaaTour
import Derived.Test.YthhfnhabnaakiaaTour2
import Derived.Test.YthhfnhabnaakiaaDTok
import Derived.Test.YthhfnhabnaakiaaFnBase
import Derived.Test.YthhfnhabnaakiaaStep
namespace Go.Proofs.Ythhfnhabnaakiaa
open Go.RowKit

theorem tour_legal {k : Int} {zs : List Int} (h : vtok k zs = true) (h1 : (toks zs).length = 1) : ∀ m, (toks (tourN k zs m)).length = 1 ∧ tk (tourN k zs (m + 1)) = (tk (tourN k zs m) + 1) % zs.length
  | m => by
    have hf := tourN_fine h m
    have hl : (toks (tourN k zs m)).length = 1 := by
      cases m with
      | zero => exact h1
      | succ m =>
        have ih := (tour_legal h h1 m).1
        have hf := tourN_fine h m
        obtain ⟨j, e, hj, ht⟩ := tk_fine hf.1
        rw [tourN, e, Int.toNat_natCast, (move_fine hf.1 hj ht).2.2.2 ih]; rfl
    refine ⟨hl, ?_⟩
    obtain ⟨j, e, hj, ht⟩ := tk_fine hf.1
    have := (move_fine hf.1 hj ht).2.2.2 hl
    rw [hf.2] at this
    rw [tourN, e, Int.toNat_natCast, tk, this]; simp [iat]
theorem tourT_at {k : Int} {zs : List Int} {m i : Nat} (h : i < m) : iat (tourT k zs m) i = tk (tourN k zs i) := by simp [tourT, iat, h]
theorem mv_ok {k : Int} {zs : List Int} (h : vtok k zs = true) {j : Nat} (hj : j < zs.length) (ht : tokAt zs j = true) : mvOk k zs j = true := by
  simp only [mvOk, h, Bool.true_and, Bool.and_eq_true, inR_iff, Int.toNat_natCast]
  exact ⟨by omega, ht⟩

set_option maxRecDepth 20000 in
set_option maxHeartbeats 6400000 in
theorem lawTourOf (A : Option Addr) (n c : Nat) (bs : List Int) (w : World) (hb : bs.length = n ∧ (0 < n → ∃ b off, A = some ⟨b, off, none⟩ ∧ ∀ i, i < n → w.cell? ⟨b, off + i, none⟩ = some (.int .u8 (iat bs i)))) (hwf : ∀ z ∈ bs, (Lit.int .u8 z).wf = true) (hcap : n ≤ c) :
    Calls Try.prog 11 #[.slice A n c] w fun e w' => e = .returned (.bool true) ∧ Below w.heap.size w w' := by
  by_cases hbig : 1048576 < n
  · clear hb
    go_enter Try.func11, Try.ntmps11
    go_wp2_with fail
    go_ret
    exact ⟨rfl, Below.refl _ _⟩
  · have H := Lib.hid (drawTourOf_any A n c bs w hcap (by omega) (SB.of hb hwf))
    clear hb hwf
    go_enter Try.func11, Try.ntmps11
    go_wp2_with fail
    refine H.out.mono ?_
    rintro e w1 ⟨k, mv0, A1, n1, c1, zs, rfl, hsi, h1, h2, _, _, _, _, B1⟩
    have hn1 : n1 ≤ 2000000 := by omega
    have C1 := Lib.hid (fun w h => specTourOf_any k A1 n1 c1 mv0 zs w hn1 h)
    have C2 := Lib.hid (fun w h => implTourOf_any k A1 n1 c1 mv0 zs w hn1 h)
    have CT := Lib.hid (fun w h => implTokensOf_any k A1 n1 c1 zs w hn1 h)
    have hlen := Lib.hid hsi.len
    cases hv : tourOk k zs mv0 with
    | false =>
      have E1 := show tourL k zs mv0 = [] by simp [tourL, hv]
      have E2 := show tourE k zs mv0 = [] by simp [tourE, hv]
      rw [E1, E2] at C1 C2
      clear hv E1 E2 CT
      go_wp2_with fail
      refine (C2.out _ hsi).mono ?_
      rintro e w2 ⟨AG0, cG0, AG1, cG1, rfl, hG0, hG1, _, b2⟩
      have hsi2 := hsi.below b2 (Nat.le_refl _)
      have B2 := bstep B1 b2
      clear hsi B1 b2
      go_wp2_with fail
      refine (C1.out _ hsi2).mono ?_
      rintro e w3 ⟨AW0, cW0, AW1, cW1, rfl, hW0, hW1, _, b3⟩
      have B3 := bstep B2 b3
      have HEq0 := Lib.hid (fun m => equalInts_true AG0 AW0 _ cG0 cW0 [] (w3.drewN m) (by simp) ((hG0.below b3 (Nat.le_refl _)).si) hW0.si)
      have HEq1 := Lib.hid (fun m => equalInts_true AG1 AW1 _ cG1 cW1 [] (w3.drewN m) (by simp) ((hG1.below b3 (Nat.le_refl _)).si) hW1.si)
      clear hsi2 B2 b3 hG0 hG1
      go_wp2_with fail
      refine (HEq0.out 0).mono ?_
      rintro e w4 ⟨rfl, q4, rfl⟩
      go_wp2_with fail
      refine (HEq1.out _).mono ?_
      rintro e w5 ⟨rfl, q5, rfl⟩
      go_wp2_with fail
      refine (HEq0.out _).mono ?_
      rintro e w6 ⟨rfl, q6, rfl⟩
      go_wp2_with fail
      refine (HEq1.out _).mono ?_
      rintro e w7 ⟨rfl, q7, rfl⟩
      go_wp2_with fail
      go_ret
      exact ⟨rfl, bDrewN B3 _⟩
    | true =>
      have hv' := hv
      simp only [tourOk, Bool.and_eq_true, inR_iff] at hv'
      obtain ⟨hvt, hm0, hm40⟩ := hv'
      obtain ⟨M, rfl⟩ : ∃ M : Nat, mv0 = M := ⟨mv0.toNat, by omega⟩
      have E1 := show tourL k zs M = tourT k zs M by simp [tourL, hv]
      have E2 := show tourE k zs M = tourN k zs M by simp [tourE, hv]
      have hNM := (tourN_fine hvt M).2
      rw [hlen.out] at hNM
      rw [E1, E2, tourT_length, hNM] at C1 C2
      have e3 : toksOf k zs = toks zs := by simp [toksOf, hvt]
      rw [e3] at CT
      have hvk := vtok_iff.1 hvt
      rw [hlen.out] at hvk
      have hn2 : 2 ≤ n1 := hvk.2.1.1
      have HT := Lib.hid (fun m => tourN_fine hvt m)
      obtain ⟨lg, hlg⟩ : ∃ lg, lg = (((toks zs).length : Int) == 1) := ⟨_, rfl⟩
      have HLG := Lib.hid (show lg = true → ∀ m, tk (tourN k zs (m + 1)) = (tk (tourN k zs m) + 1) % n1 by
        intro h m
        have h2 : (toks zs).length = 1 := by rw [hlg] at h; have := of_decide_eq_true (by simpa using h : decide (((toks zs).length : Int) = 1) = true); omega
        have := (tour_legal hvt h2 m).2
        rwa [hlen.out] at this)
      have hz1 : ((n1 : Int) == 0) = false := by rw [beq_eq_false_iff_ne]; omega
      have hz2 : decide ((n1 : Int) = 0) = false := by simp; omega
      have hlg2 := hlg.symm
      clear hv E1 E2 e3 hvt hvk hlg
      have HTT := Lib.hid (fun i (h : i < M) => tourT_at (k := k) (zs := zs) h)
      have HS0 := Lib.hid (show tourN k zs 0 = zs from rfl)
      go_wp2_with fail
      refine (C2.out _ hsi).mono ?_
      rintro e w2 ⟨AG0, cG0, AG1, cG1, rfl, hG0, hG1, _, b2⟩
      have hsi2 := hsi.below b2 (Nat.le_refl _)
      have B2 := bstep B1 b2
      clear hsi B1 b2
      go_wp2_with fail
      refine (C1.out _ hsi2).mono ?_
      rintro e w3 ⟨AW0, cW0, AW1, cW1, rfl, hW0, hW1, _, b3⟩
      have B3 := bstep B2 b3
      have hsi3 := hsi2.below b3 (Nat.le_refl _)
      have hg0 := (hG0.below b3 (Nat.le_refl _)).si
      have hg1 := (hG1.below b3 (Nat.le_refl _)).si
      have HEq0 := Lib.hid (equalInts_true AG0 AW0 _ cG0 cW0 _ w3 (by omega) hg0 hW0.si)
      have HEq1 := Lib.hid (fun m => equalInts_true AG1 AW1 _ cG1 cW1 _ (w3.drewN m) (by omega) hg1 hW1.si)
      clear hsi2 B2 b3 hG0 hG1 hW0 hW1
      go_wp2_with fail
      refine HEq0.out.mono ?_
      rintro e w4 ⟨rfl, q4, rfl⟩
      go_wp2_with fail
      refine (HEq1.out _).mono ?_
      rintro e w5 ⟨rfl, q5, rfl⟩
      go_wp2_with fail
      obtain ⟨q, hq⟩ : ∃ q, q = q4 + q5 := ⟨_, rfl⟩
      rw [← hq]
      replace hsi3 : SI (w3.drewN q) A1 n1 zs := hsi3
      replace hg0 : SI (w3.drewN q) AG0 M (tourT k zs M) := hg0
      replace hg1 : SI (w3.drewN q) AG1 n1 (tourN k zs M) := hg1
      replace B3 := bDrewN B3 q
      generalize w3.drewN q = w6 at *
      refine (CT.out _ hsi3).mono ?_
      rintro e w7 ⟨A7, c7, rfl, _, b7⟩
      replace hsi3 := hsi3.below b7 (Nat.le_refl _)
      replace hg0 := hg0.below b7 (Nat.le_refl _)
      replace hg1 := hg1.below b7 (Nat.le_refl _)
      replace B3 := bstep B3 b7
      clear b7
      generalize (toks zs).length = tl at *
      go_wp2_with fail
      go_loopg [11, 12] M (fun gg nv iv wr => ∃ (i cn : Nat) (An : Option Addr), i ≤ M ∧ M - i ≤ gg ∧ iv = .int .i64 i ∧ nv = .slice An n1 cn ∧ SI wr An n1 (tourN k zs i) ∧ SI wr AG0 M (tourT k zs M) ∧ SI wr AG1 n1 (tourN k zs M) ∧ Below w.heap.size w wr)
      case atStart => exact ⟨0, c1, A1, by omega, by omega, rfl, rfl, hsi3, hg0, hg1, B3⟩
      case round =>
        clear hsi3 hg0 hg1 B3
        obtain ⟨i, cn, An, hi, hg, rfl, rfl, hsn, hg0, hg1, hbw⟩ := hrel
        by_cases hlt : i < M
        · have hf := HT.out i
          obtain ⟨j, ej, hj, htk⟩ := tk_fine hf.1
          have hok := mv_ok hf.1 hj htk
          have hmv : mvOf k (tourN k zs i) j = mv k (tourN k zs i) j := by simp [mvOf, hok]
          have EN := Lib.hid (show tourN k zs (i + 1) = mv k (tourN k zs i) j by rw [tourN, ej, Int.toNat_natCast])
          have hml : (mv k (tourN k zs i) j).length = n1 := by rw [mv_length, hf.2, hlen.out]
          have CM := Lib.hid (fun w h => implMoveOf_any k An n1 cn j (tourN k zs i) w hn1 h)
          have CK := Lib.hid (fun w h => implTokensOf_any k An n1 cn (tourN k zs i) w hn1 h)
          have e5 : toksOf k (tourN k zs i) = toks (tourN k zs i) := by simp [toksOf, hf.1]
          have htn := toks_ne hf.1
          rw [hmv, hok, hml] at CM
          rw [e5] at CK
          have EK := Lib.hid (show iat (toks (tourN k zs i)) 0 = (j : Int) from ej)
          have e6 := HTT.out i hlt
          rw [ej] at e6
          obtain ⟨b, off, rfl, hc⟩ := hg0.2 (by omega)
          have hci := hc i hlt
          rw [e6] at hci
          have htl : ((0 : Int) < ((toks (tourN k zs i)).length : Int)) := by omega
          have HG0 := Lib.hid hg0
          have HG1 := Lib.hid hg1
          have hpr : lg = true → 0 < i → ∃ j' : Nat, j' < n1 ∧ wr.cell? ⟨b, off + (i - 1), none⟩ = some (.int .i64 j') ∧ ((j' : Int) + 1).tmod n1 = j := by
            intro hl h0
            obtain ⟨i', rfl⟩ : ∃ i', i = i' + 1 := ⟨i - 1, by omega⟩
            have h3 := HLG.out hl i'
            obtain ⟨j', ej', hj', _⟩ := tk_fine (HT.out i').1
            rw [(HT.out i').2, hlen.out] at hj'
            have h4 := hc i' (by omega)
            rw [HTT.out i' (by omega), ej'] at h4
            rw [ej, ej'] at h3
            exact ⟨j', hj', h4, by rw [h3, Int.tmod_eq_emod_of_nonneg (by omega)]⟩
          clear hf htk hok hmv hml e5 ej e6 hc hg0 hg1
          generalize tourN k zs i = N at *
          generalize hX : mv k N j = X at *
          generalize hTK : toks N = TK at *
          generalize hTl : TK.length = tn at *
          clear hX hTK hTl
          go_wp2_with fail
          refine (CM.out _ hsn).mono ?_
          rintro e w8 ⟨A8, c8, rfl, h8, b8⟩
          have hsn8 := Lib.hid (hsn.below b8 (Nat.le_refl _))
          have hs8 := b8.size
          have hbl : b < wr.heap.size := World.block_lt_of_cell? wr _ hci
          have hci8 : w8.cell? ⟨b, off + i, none⟩ = some (.int .i64 j) := (b8.cell (p := ⟨b, off + i, none⟩) hbl).trans hci
          have hpr8 : lg = true → 0 < i → ∃ j' : Nat, j' < n1 ∧ w8.cell? ⟨b, off + (i - 1), none⟩ = some (.int .i64 j') ∧ ((j' : Int) + 1).tmod n1 = j := fun h1 h2 => by
            obtain ⟨j', h3, h4, h5⟩ := hpr h1 h2
            exact ⟨j', h3, (b8.cell (p := ⟨b, off + (i - 1), none⟩) hbl).trans h4, h5⟩
          have hg08 := Lib.hid (HG0.out.below b8 (Nat.le_refl _))
          have hg18 := Lib.hid (HG1.out.below b8 (Nat.le_refl _))
          have B8 := Lib.hid (bstep hbw b8)
          have H8 := Lib.hid h8.si
          have HBL := Lib.hid (show b < w8.heap.size by omega)
          have hsnD : Hid (SI w8.drew An n1 N) := Lib.hid hsn8.out
          clear hsn hci hpr HG0 HG1 hbw b8 h8 hs8 hbl
          go_wp2_with fail
          by_cases hcase : lg = true ∧ 0 < i
          · obtain ⟨rfl, hi0⟩ := hcase
            obtain ⟨j', hj', hcp, hmd⟩ := hpr8 rfl hi0
            have d1 : decide ((0 : Int) < (i : Int)) = true := by simp; omega
            have e7 : IntKind.i64.wrap ((i : Int) - 1) = (i : Int) - 1 := IntWalk.i64_in _ (by omega)
            have e8 : IntKind.i64.wrap ((j' : Int) + 1) = (j' : Int) + 1 := IntWalk.i64_in _ (by omega)
            have e9 : ((i : Int) - 1).toNat = i - 1 := by omega
            have e10 : (0 : Int) ≤ (i : Int) - 1 := by omega
            have e11 : (i : Int) - 1 < (M : Int) := by omega
            have e12 : (1 : Int) ≤ (i : Int) := by omega
            have e13 : n1 ≠ 0 := by omega
            have hlt' : ((i : Int) < (M : Int)) := by omega
            clear hpr8
            refine wp_region_noPanic ?_
            refine wp_region_held_drew (S := fun w' => w'.cell? ⟨b, off + i, none⟩ = some (.int .i64 j) ∧ w'.cell? ⟨b, off + (i - 1), none⟩ = some (.int .i64 j')) (by kernel_rfl) ?_ (fun hHeld => ?_)
            · go_keep
            refine takeL 0 (v := ?vd0) rfl (by kernel_rfl) (by kernel_rfl) (by kernel_rfl) (fun _ _ _ h => h) (by assumption) (by rfl) ?hyd0 ?_
            case hyd0 => (intro w hSw; (try dsimp only at hSw); go_simp; (try with_reducible rfl))
            try simp only [Act.put, List.setIfInBounds_toArray, List.set_cons_zero, List.set_cons_succ]
            refine takeL 1 (v := ?vd1) rfl (by kernel_rfl) (by kernel_rfl) (by kernel_rfl) (fun _ _ _ h => h) (by assumption) (by rfl) ?hyd1 ?_
            case hyd1 => (intro w hSw; (try dsimp only at hSw); go_simp; (try with_reducible rfl))
            try simp only [Act.put, List.setIfInBounds_toArray, List.set_cons_zero, List.set_cons_succ]
            refine takeL 2 (v := ?vd2) rfl (by kernel_rfl) (by kernel_rfl) (by kernel_rfl) (fun _ _ _ h => h) (by assumption) (by rfl) ?hyd2 ?_
            case hyd2 => (intro w hSw; (try dsimp only at hSw); go_simp; (try with_reducible rfl))
            try simp only [Act.put, List.setIfInBounds_toArray, List.set_cons_zero, List.set_cons_succ]
            refine takeL 3 (v := ?vd3) rfl (by kernel_rfl) (by kernel_rfl) (by kernel_rfl) (fun _ _ _ h => h) (by assumption) (by rfl) ?hyd3 ?_
            case hyd3 => (intro w hSw; (try dsimp only at hSw); go_simp; (try with_reducible rfl))
            try simp only [Act.put, List.setIfInBounds_toArray, List.set_cons_zero, List.set_cons_succ]
            refine takeL 4 (v := ?vd4) rfl (by kernel_rfl) (by kernel_rfl) (by kernel_rfl) (fun _ _ _ h => h) (by assumption) (by rfl) ?hyd4 ?_
            case hyd4 => (intro w hSw; (try dsimp only at hSw); go_simp; (try with_reducible rfl))
            try simp only [Act.put, List.setIfInBounds_toArray, List.set_cons_zero, List.set_cons_succ]
            refine takeL 5 (v := ?vd5) rfl (by kernel_rfl) (by kernel_rfl) (by kernel_rfl) (fun _ _ _ h => h) (by assumption) (by rfl) ?hyd5 ?_
            case hyd5 => (intro w hSw; (try dsimp only at hSw); go_simp; (try with_reducible rfl))
            try simp only [Act.put, List.setIfInBounds_toArray, List.set_cons_zero, List.set_cons_succ]
            refine takeL 6 (v := ?vd6) rfl (by kernel_rfl) (by kernel_rfl) (by kernel_rfl) (fun _ _ _ h => h) (by assumption) (by rfl) ?hyd6 ?_
            case hyd6 => (intro w hSw; (try dsimp only at hSw); go_simp; (try with_reducible rfl))
            try simp only [Act.put, List.setIfInBounds_toArray, List.set_cons_zero, List.set_cons_succ]
            refine takeL 7 (v := ?vd7) rfl (by kernel_rfl) (by kernel_rfl) (by kernel_rfl) (fun _ _ _ h => h) (by assumption) (by rfl) ?hyd7 ?_
            case hyd7 => (intro w hSw; (try dsimp only at hSw); go_simp; (try with_reducible rfl))
            try simp only [Act.put, List.setIfInBounds_toArray, List.set_cons_zero, List.set_cons_succ]
            refine takeL 8 (v := ?vd8) rfl (by kernel_rfl) (by kernel_rfl) (by kernel_rfl) (fun _ _ _ h => h) (by assumption) (by rfl) ?hyd8 ?_
            case hyd8 => (intro w hSw; (try dsimp only at hSw); go_simp; (try with_reducible rfl))
            try simp only [Act.put, List.setIfInBounds_toArray, List.set_cons_zero, List.set_cons_succ]
            refine wpAnyH_ready (rs := [9]) (by kernel_rfl) (by simp) ?_
            refine AllReadyH.cons rfl (fun K hK => ?_) AllReadyH.nil
            go_simp
            refine (CK.out w8.drew hsnD.out).mono ?_
            rintro e w9 ⟨A9, c9, rfl, h9, b90⟩
            have b9 : Below w8.heap.size w8 w9 := (bDrewN (Below.refl w8.heap.size w8) 1).trans b90
            obtain ⟨bt, ot, rfl, hct⟩ := h9.si.at_ htn
            rw [Nat.add_zero, EK.out] at hct
            have b9' := Lib.hid b9
            have q1 := (b9.cell (p := ⟨b, off + i, none⟩) HBL.out).trans hci8
            have q2 := (b9.cell (p := ⟨b, off + (i - 1), none⟩) HBL.out).trans hcp
            clear b9 b90 h9
            dsimp only
            refine hK.out _ _ ?_ (fun hHeld => ?_)
            · (try dsimp only); go_keep
            clear hK K
            try simp only [Act.put, List.setIfInBounds_toArray, List.set_cons_zero, List.set_cons_succ]
            refine takeL 10 (v := ?vd10) rfl (by kernel_rfl) (by kernel_rfl) (by kernel_rfl) (fun _ _ _ h => h) (by assumption) (by rfl) ?hyd10 ?_
            case hyd10 => (intro w hSw; (try dsimp only at hSw); go_simp; (try with_reducible rfl))
            try simp only [Act.put, List.setIfInBounds_toArray, List.set_cons_zero, List.set_cons_succ]
            refine wpAnyH_ready (rs := [11]) (by kernel_rfl) (by simp) ?_
            refine AllReadyH.cons rfl (fun K hK => ?_) AllReadyH.nil
            go_simp
            refine hK.out _ _ ?_ (fun hHeld => ?_)
            · (try dsimp only); go_keep
            clear hK K
            try simp only [Act.put, List.setIfInBounds_toArray, List.set_cons_zero, List.set_cons_succ]
            refine takeL 12 (v := ?vd12) rfl (by kernel_rfl) (by kernel_rfl) (by kernel_rfl) (fun _ _ _ h => h) (by assumption) (by rfl) ?hyd12 ?_
            case hyd12 => (intro w hSw; (try dsimp only at hSw); go_simp; (try with_reducible rfl))
            try simp only [Act.put, List.setIfInBounds_toArray, List.set_cons_zero, List.set_cons_succ]
            refine takeL 13 (v := ?vd13) rfl (by kernel_rfl) (by kernel_rfl) (by kernel_rfl) (fun _ _ _ h => h) (by assumption) (by rfl) ?hyd13 ?_
            case hyd13 => (intro w hSw; (try dsimp only at hSw); go_simp; (try with_reducible rfl))
            try simp only [Act.put, List.setIfInBounds_toArray, List.set_cons_zero, List.set_cons_succ]
            refine takeL 14 (v := ?vd14) rfl (by kernel_rfl) (by kernel_rfl) (by kernel_rfl) (fun _ _ _ h => h) (by assumption) (by rfl) ?hyd14 ?_
            case hyd14 => (intro w hSw; (try dsimp only at hSw); go_simp; (try with_reducible rfl))
            try simp only [Act.put, List.setIfInBounds_toArray, List.set_cons_zero, List.set_cons_succ]
            refine takeL 15 (v := ?vd15) rfl (by kernel_rfl) (by kernel_rfl) (by kernel_rfl) (fun _ _ _ h => h) (by assumption) (by rfl) ?hyd15 ?_
            case hyd15 => (intro w hSw; (try dsimp only at hSw); go_simp; (try with_reducible rfl))
            try simp only [Act.put, List.setIfInBounds_toArray, List.set_cons_zero, List.set_cons_succ]
            refine takeL 16 (v := ?vd16) rfl (by kernel_rfl) (by kernel_rfl) (by kernel_rfl) (fun _ _ _ h => h) (by assumption) (by rfl) ?hyd16 ?_
            case hyd16 => (intro w hSw; (try dsimp only at hSw); go_simp; (try with_reducible rfl))
            try simp only [Act.put, List.setIfInBounds_toArray, List.set_cons_zero, List.set_cons_succ]
            refine takeL 17 (v := ?vd17) rfl (by kernel_rfl) (by kernel_rfl) (by kernel_rfl) (fun _ _ _ h => h) (by assumption) (by rfl) ?hyd17 ?_
            case hyd17 => (intro w hSw; (try dsimp only at hSw); go_simp; (try with_reducible rfl))
            try simp only [Act.put, List.setIfInBounds_toArray, List.set_cons_zero, List.set_cons_succ]
            refine takeL 18 (v := ?vd18) rfl (by kernel_rfl) (by kernel_rfl) (by kernel_rfl) (fun _ _ _ h => h) (by assumption) (by rfl) ?hyd18 ?_
            case hyd18 => (intro w hSw; (try dsimp only at hSw); go_simp; (try with_reducible rfl))
            try simp only [Act.put, List.setIfInBounds_toArray, List.set_cons_zero, List.set_cons_succ]
            refine takeL 19 (v := ?vd19) rfl (by kernel_rfl) (by kernel_rfl) (by kernel_rfl) (fun _ _ _ h => h) (by assumption) (by rfl) ?hyd19 ?_
            case hyd19 => (intro w hSw; (try dsimp only at hSw); go_simp; (try with_reducible rfl))
            try simp only [Act.put, List.setIfInBounds_toArray, List.set_cons_zero, List.set_cons_succ]
            refine takeL 20 (v := ?vd20) rfl (by kernel_rfl) (by kernel_rfl) (by kernel_rfl) (fun _ _ _ h => h) (by assumption) (by rfl) ?hyd20 ?_
            case hyd20 => (intro w hSw; (try dsimp only at hSw); go_simp; (try with_reducible rfl))
            try simp only [Act.put, List.setIfInBounds_toArray, List.set_cons_zero, List.set_cons_succ]
            refine takeL 21 (v := ?vd21) rfl (by kernel_rfl) (by kernel_rfl) (by kernel_rfl) (fun _ _ _ h => h) (by assumption) (by rfl) ?hyd21 ?_
            case hyd21 => (intro w hSw; (try dsimp only at hSw); go_simp; (try with_reducible rfl))
            try simp only [Act.put, List.setIfInBounds_toArray, List.set_cons_zero, List.set_cons_succ]
            refine takeL 22 (v := ?vd22) rfl (by kernel_rfl) (by kernel_rfl) (by kernel_rfl) (fun _ _ _ h => h) (by assumption) (by rfl) ?hyd22 ?_
            case hyd22 => (intro w hSw; (try dsimp only at hSw); go_simp; (try with_reducible rfl))
            try simp only [Act.put, List.setIfInBounds_toArray, List.set_cons_zero, List.set_cons_succ]
            refine takeL 23 (v := ?vd23) rfl (by kernel_rfl) (by kernel_rfl) (by kernel_rfl) (fun _ _ _ h => h) (by assumption) (by rfl) ?hyd23 ?_
            case hyd23 => (intro w hSw; (try dsimp only at hSw); go_simp; (try with_reducible rfl))
            try simp only [Act.put, List.setIfInBounds_toArray, List.set_cons_zero, List.set_cons_succ]
            refine takeL 24 (v := ?vd24) rfl (by kernel_rfl) (by kernel_rfl) (by kernel_rfl) (fun _ _ _ h => h) (by assumption) (by rfl) ?hyd24 ?_
            case hyd24 => (intro w hSw; (try dsimp only at hSw); go_simp; (try with_reducible rfl))
            try simp only [Act.put, List.setIfInBounds_toArray, List.set_cons_zero, List.set_cons_succ]
            refine takeL 25 (v := ?vd25) rfl (by kernel_rfl) (by kernel_rfl) (by kernel_rfl) (fun _ _ _ h => h) (by assumption) (by rfl) ?hyd25 ?_
            case hyd25 => (intro w hSw; (try dsimp only at hSw); go_simp; (try with_reducible rfl))
            try simp only [Act.put, List.setIfInBounds_toArray, List.set_cons_zero, List.set_cons_succ]
            refine takeL 26 (v := ?vd26) rfl (by kernel_rfl) (by kernel_rfl) (by kernel_rfl) (fun _ _ _ h => h) (by assumption) (by rfl) ?hyd26 ?_
            case hyd26 => (intro w hSw; (try dsimp only at hSw); go_simp; (try with_reducible rfl))
            try simp only [Act.put, List.setIfInBounds_toArray, List.set_cons_zero, List.set_cons_succ]
            refine takeL 27 (v := ?vd27) rfl (by kernel_rfl) (by kernel_rfl) (by kernel_rfl) (fun _ _ _ h => h) (by assumption) (by rfl) ?hyd27 ?_
            case hyd27 => (intro w hSw; (try dsimp only at hSw); go_simp; (try with_reducible rfl))
            try simp only [Act.put, List.setIfInBounds_toArray, List.set_cons_zero, List.set_cons_succ]
            refine takeL 28 (v := ?vd28) rfl (by kernel_rfl) (by kernel_rfl) (by kernel_rfl) (fun _ _ _ h => h) (by assumption) (by rfl) ?hyd28 ?_
            case hyd28 => (intro w hSw; (try dsimp only at hSw); go_simp; (try with_reducible rfl))
            try simp only [Act.put, List.setIfInBounds_toArray, List.set_cons_zero, List.set_cons_succ]
            refine takeL 29 (v := ?vd29) rfl (by kernel_rfl) (by kernel_rfl) (by kernel_rfl) (fun _ _ _ h => h) (by assumption) (by rfl) ?hyd29 ?_
            case hyd29 => (intro w hSw; (try dsimp only at hSw); go_simp; (try with_reducible rfl))
            try simp only [Act.put, List.setIfInBounds_toArray, List.set_cons_zero, List.set_cons_succ]
            refine takeL 30 (v := ?vd30) rfl (by kernel_rfl) (by kernel_rfl) (by kernel_rfl) (fun _ _ _ h => h) (by assumption) (by rfl) ?hyd30 ?_
            case hyd30 => (intro w hSw; (try dsimp only at hSw); go_simp; (try with_reducible rfl))
            try simp only [Act.put, List.setIfInBounds_toArray, List.set_cons_zero, List.set_cons_succ]
            refine takeL 31 (v := ?vd31) rfl (by kernel_rfl) (by kernel_rfl) (by kernel_rfl) (fun _ _ _ h => h) (by assumption) (by rfl) ?hyd31 ?_
            case hyd31 => (intro w hSw; (try dsimp only at hSw); go_simp; (try with_reducible rfl))
            try simp only [Act.put, List.setIfInBounds_toArray, List.set_cons_zero, List.set_cons_succ]
            refine takeL 32 (v := ?vd32) rfl (by kernel_rfl) (by kernel_rfl) (by kernel_rfl) (fun _ _ _ h => h) (by assumption) (by rfl) ?hyd32 ?_
            case hyd32 => (intro w hSw; (try dsimp only at hSw); go_simp; (try with_reducible rfl))
            try simp only [Act.put, List.setIfInBounds_toArray, List.set_cons_zero, List.set_cons_succ]
            refine takeL 33 (v := ?vd33) rfl (by kernel_rfl) (by kernel_rfl) (by kernel_rfl) (fun _ _ _ h => h) (by assumption) (by rfl) ?hyd33 ?_
            case hyd33 => (intro w hSw; (try dsimp only at hSw); go_simp; (try with_reducible rfl))
            try simp only [Act.put, List.setIfInBounds_toArray, List.set_cons_zero, List.set_cons_succ]
            refine takeL 34 (v := ?vd34) rfl (by kernel_rfl) (by kernel_rfl) (by kernel_rfl) (fun _ _ _ h => h) (by assumption) (by rfl) ?hyd34 ?_
            case hyd34 => (intro w hSw; (try dsimp only at hSw); go_simp; (try with_reducible rfl))
            try simp only [Act.put, List.setIfInBounds_toArray, List.set_cons_zero, List.set_cons_succ]
            refine takeL 35 (v := ?vd35) rfl (by kernel_rfl) (by kernel_rfl) (by kernel_rfl) (fun _ _ _ h => h) (by assumption) (by rfl) ?hyd35 ?_
            case hyd35 => (intro w hSw; (try dsimp only at hSw); go_simp; (try with_reducible rfl))
            try simp only [Act.put, List.setIfInBounds_toArray, List.set_cons_zero, List.set_cons_succ]
            refine takeL 36 (v := ?vd36) rfl (by kernel_rfl) (by kernel_rfl) (by kernel_rfl) (fun _ _ _ h => h) (by assumption) (by rfl) ?hyd36 ?_
            case hyd36 => (intro w hSw; (try dsimp only at hSw); go_simp; (try with_reducible rfl))
            try simp only [Act.put, List.setIfInBounds_toArray, List.set_cons_zero, List.set_cons_succ]
            refine wpAnyH_done (by kernel_rfl) ?_ _
            refine NoPanic.normal ?_
            go_wp2_with fail
            go_roundg (M - (i + 1))
            case measure => omega
            case rel => exact ⟨i + 1, c8, A8, by omega, by omega, by go_num, rfl, by rw [EN.out]; exact H8.out.below b9'.out (Nat.le_refl _), hg08.out.below b9'.out (Nat.le_refl _), hg18.out.below b9'.out (Nat.le_refl _), bstep B8.out b9'.out⟩
          · have hlt' : ((i : Int) < (M : Int)) := by omega
            clear hpr8
            cases lg with
            | true =>
              obtain rfl : i = 0 := by
                rcases Nat.eq_zero_or_pos i with h | h
                · exact h
                · exact absurd ⟨rfl, h⟩ hcase
              have d1 : decide ((0 : Int) < ((0 : Nat) : Int)) = false := by simp
              rw [Nat.add_zero] at hci8
              refine wp_region_noPanic ?_
              refine wp_region_held_drew (S := fun w' => w'.cell? ⟨b, off, none⟩ = some (.int .i64 j)) (by kernel_rfl) ?_ (fun hHeld => ?_)
              · go_keep
              refine takeL 0 (v := ?v0) rfl (by kernel_rfl) (by kernel_rfl) (by kernel_rfl) (fun _ _ _ h => h) (by assumption) (by rfl) ?hy0 ?_
              case hy0 => (intro w hSw; (try dsimp only at hSw); go_simp; (try with_reducible rfl))
              try simp only [Act.put, List.setIfInBounds_toArray, List.set_cons_zero, List.set_cons_succ]
              refine takeL 1 (v := ?v1) rfl (by kernel_rfl) (by kernel_rfl) (by kernel_rfl) (fun _ _ _ h => h) (by assumption) (by rfl) ?hy1 ?_
              case hy1 => (intro w hSw; (try dsimp only at hSw); go_simp; (try with_reducible rfl))
              try simp only [Act.put, List.setIfInBounds_toArray, List.set_cons_zero, List.set_cons_succ]
              refine takeL 2 (v := ?v2) rfl (by kernel_rfl) (by kernel_rfl) (by kernel_rfl) (fun _ _ _ h => h) (by assumption) (by rfl) ?hy2 ?_
              case hy2 => (intro w hSw; (try dsimp only at hSw); go_simp; (try with_reducible rfl))
              try simp only [Act.put, List.setIfInBounds_toArray, List.set_cons_zero, List.set_cons_succ]
              refine takeL 3 (v := ?v3) rfl (by kernel_rfl) (by kernel_rfl) (by kernel_rfl) (fun _ _ _ h => h) (by assumption) (by rfl) ?hy3 ?_
              case hy3 => (intro w hSw; (try dsimp only at hSw); go_simp; (try with_reducible rfl))
              try simp only [Act.put, List.setIfInBounds_toArray, List.set_cons_zero, List.set_cons_succ]
              refine takeL 4 (v := ?v4) rfl (by kernel_rfl) (by kernel_rfl) (by kernel_rfl) (fun _ _ _ h => h) (by assumption) (by rfl) ?hy4 ?_
              case hy4 => (intro w hSw; (try dsimp only at hSw); go_simp; (try with_reducible rfl))
              try simp only [Act.put, List.setIfInBounds_toArray, List.set_cons_zero, List.set_cons_succ]
              refine takeL 5 (v := ?v5) rfl (by kernel_rfl) (by kernel_rfl) (by kernel_rfl) (fun _ _ _ h => h) (by assumption) (by rfl) ?hy5 ?_
              case hy5 => (intro w hSw; (try dsimp only at hSw); go_simp; (try with_reducible rfl))
              try simp only [Act.put, List.setIfInBounds_toArray, List.set_cons_zero, List.set_cons_succ]
              refine takeL 6 (v := ?v6) rfl (by kernel_rfl) (by kernel_rfl) (by kernel_rfl) (fun _ _ _ h => h) (by assumption) (by rfl) ?hy6 ?_
              case hy6 => (intro w hSw; (try dsimp only at hSw); go_simp; (try with_reducible rfl))
              try simp only [Act.put, List.setIfInBounds_toArray, List.set_cons_zero, List.set_cons_succ]
              refine takeL 7 (v := ?v7) rfl (by kernel_rfl) (by kernel_rfl) (by kernel_rfl) (fun _ _ _ h => h) (by assumption) (by rfl) ?hy7 ?_
              case hy7 => (intro w hSw; (try dsimp only at hSw); go_simp; (try with_reducible rfl))
              try simp only [Act.put, List.setIfInBounds_toArray, List.set_cons_zero, List.set_cons_succ]
              refine takeL 8 (v := ?v8) rfl (by kernel_rfl) (by kernel_rfl) (by kernel_rfl) (fun _ _ _ h => h) (by assumption) (by rfl) ?hy8 ?_
              case hy8 => (intro w hSw; (try dsimp only at hSw); go_simp; (try with_reducible rfl))
              try simp only [Act.put, List.setIfInBounds_toArray, List.set_cons_zero, List.set_cons_succ]
              refine wpAnyH_ready (rs := [9]) (by kernel_rfl) (by simp) ?_
              refine AllReadyH.cons rfl (fun K hK => ?_) AllReadyH.nil
              go_simp
              refine (CK.out w8.drew hsnD.out).mono ?_
              rintro e w9 ⟨A9, c9, rfl, h9, b90⟩
              have b9 : Below w8.heap.size w8 w9 := (bDrewN (Below.refl w8.heap.size w8) 1).trans b90
              obtain ⟨bt, ot, rfl, hct⟩ := h9.si.at_ htn
              rw [Nat.add_zero, EK.out] at hct
              have b9' := Lib.hid b9
              have q1 := (b9.cell (p := ⟨b, off, none⟩) HBL.out).trans hci8
              clear b9 b90 h9
              dsimp only
              refine hK.out _ _ ?_ (fun hHeld => ?_)
              · (try dsimp only); go_keep
              clear hK K
              try simp only [Act.put, List.setIfInBounds_toArray, List.set_cons_zero, List.set_cons_succ]
              refine takeL 10 (v := ?v10) rfl (by kernel_rfl) (by kernel_rfl) (by kernel_rfl) (fun _ _ _ h => h) (by assumption) (by rfl) ?hy10 ?_
              case hy10 => (intro w hSw; (try dsimp only at hSw); go_simp; (try with_reducible rfl))
              try simp only [Act.put, List.setIfInBounds_toArray, List.set_cons_zero, List.set_cons_succ]
              refine wpAnyH_ready (rs := [11]) (by kernel_rfl) (by simp) ?_
              refine AllReadyH.cons rfl (fun K hK => ?_) AllReadyH.nil
              go_simp
              refine hK.out _ _ ?_ (fun hHeld => ?_)
              · (try dsimp only); go_keep
              clear hK K
              try simp only [Act.put, List.setIfInBounds_toArray, List.set_cons_zero, List.set_cons_succ]
              refine takeL 12 (v := ?v12) rfl (by kernel_rfl) (by kernel_rfl) (by kernel_rfl) (fun _ _ _ h => h) (by assumption) (by rfl) ?hy12 ?_
              case hy12 => (intro w hSw; (try dsimp only at hSw); go_simp; (try with_reducible rfl))
              try simp only [Act.put, List.setIfInBounds_toArray, List.set_cons_zero, List.set_cons_succ]
              refine takeL 13 (v := ?v13) rfl (by kernel_rfl) (by kernel_rfl) (by kernel_rfl) (fun _ _ _ h => h) (by assumption) (by rfl) ?hy13 ?_
              case hy13 => (intro w hSw; (try dsimp only at hSw); go_simp; (try with_reducible rfl))
              try simp only [Act.put, List.setIfInBounds_toArray, List.set_cons_zero, List.set_cons_succ]
              refine takeL 14 (v := ?v14) rfl (by kernel_rfl) (by kernel_rfl) (by kernel_rfl) (fun _ _ _ h => h) (by assumption) (by rfl) ?hy14 ?_
              case hy14 => (intro w hSw; (try dsimp only at hSw); go_simp; (try with_reducible rfl))
              try simp only [Act.put, List.setIfInBounds_toArray, List.set_cons_zero, List.set_cons_succ]
              refine takeL 15 (v := ?v15) rfl (by kernel_rfl) (by kernel_rfl) (by kernel_rfl) (fun _ _ _ h => h) (by assumption) (by rfl) ?hy15 ?_
              case hy15 => (intro w hSw; (try dsimp only at hSw); go_simp; (try with_reducible rfl))
              try simp only [Act.put, List.setIfInBounds_toArray, List.set_cons_zero, List.set_cons_succ]
              refine takeL 16 (v := ?v16) rfl (by kernel_rfl) (by kernel_rfl) (by kernel_rfl) (fun _ _ _ h => h) (by assumption) (by rfl) ?hy16 ?_
              case hy16 => (intro w hSw; (try dsimp only at hSw); go_simp; (try with_reducible rfl))
              try simp only [Act.put, List.setIfInBounds_toArray, List.set_cons_zero, List.set_cons_succ]
              refine takeL 17 (v := ?v17) rfl (by kernel_rfl) (by kernel_rfl) (by kernel_rfl) (fun _ _ _ h => h) (by assumption) (by rfl) ?hy17 ?_
              case hy17 => (intro w hSw; (try dsimp only at hSw); go_simp; (try with_reducible rfl))
              try simp only [Act.put, List.setIfInBounds_toArray, List.set_cons_zero, List.set_cons_succ]
              refine takeL 18 (v := ?v18) rfl (by kernel_rfl) (by kernel_rfl) (by kernel_rfl) (fun _ _ _ h => h) (by assumption) (by rfl) ?hy18 ?_
              case hy18 => (intro w hSw; (try dsimp only at hSw); go_simp; (try with_reducible rfl))
              try simp only [Act.put, List.setIfInBounds_toArray, List.set_cons_zero, List.set_cons_succ]
              refine takeL 19 (v := ?v19) rfl (by kernel_rfl) (by kernel_rfl) (by kernel_rfl) (fun _ _ _ h => h) (by assumption) (by rfl) ?hy19 ?_
              case hy19 => (intro w hSw; (try dsimp only at hSw); go_simp; (try with_reducible rfl))
              try simp only [Act.put, List.setIfInBounds_toArray, List.set_cons_zero, List.set_cons_succ]
              refine takeL 20 (v := ?v20) rfl (by kernel_rfl) (by kernel_rfl) (by kernel_rfl) (fun _ _ _ h => h) (by assumption) (by rfl) ?hy20 ?_
              case hy20 => (intro w hSw; (try dsimp only at hSw); go_simp; (try with_reducible rfl))
              try simp only [Act.put, List.setIfInBounds_toArray, List.set_cons_zero, List.set_cons_succ]
              refine skipL 21 rfl (by kernel_rfl) (by kernel_rfl) (by kernel_rfl) (fun _ _ _ h => h) (by assumption) (by rfl) ?_
              try simp only [Act.put, List.setIfInBounds_toArray, List.set_cons_zero, List.set_cons_succ]
              refine skipL 22 rfl (by kernel_rfl) (by kernel_rfl) (by kernel_rfl) (fun _ _ _ h => h) (by assumption) (by rfl) ?_
              try simp only [Act.put, List.setIfInBounds_toArray, List.set_cons_zero, List.set_cons_succ]
              refine skipL 23 rfl (by kernel_rfl) (by kernel_rfl) (by kernel_rfl) (fun _ _ _ h => h) (by assumption) (by rfl) ?_
              try simp only [Act.put, List.setIfInBounds_toArray, List.set_cons_zero, List.set_cons_succ]
              refine skipL 24 rfl (by kernel_rfl) (by kernel_rfl) (by kernel_rfl) (fun _ _ _ h => h) (by assumption) (by rfl) ?_
              try simp only [Act.put, List.setIfInBounds_toArray, List.set_cons_zero, List.set_cons_succ]
              refine skipL 25 rfl (by kernel_rfl) (by kernel_rfl) (by kernel_rfl) (fun _ _ _ h => h) (by assumption) (by rfl) ?_
              try simp only [Act.put, List.setIfInBounds_toArray, List.set_cons_zero, List.set_cons_succ]
              refine skipL 26 rfl (by kernel_rfl) (by kernel_rfl) (by kernel_rfl) (fun _ _ _ h => h) (by assumption) (by rfl) ?_
              try simp only [Act.put, List.setIfInBounds_toArray, List.set_cons_zero, List.set_cons_succ]
              refine skipL 27 rfl (by kernel_rfl) (by kernel_rfl) (by kernel_rfl) (fun _ _ _ h => h) (by assumption) (by rfl) ?_
              try simp only [Act.put, List.setIfInBounds_toArray, List.set_cons_zero, List.set_cons_succ]
              refine skipL 28 rfl (by kernel_rfl) (by kernel_rfl) (by kernel_rfl) (fun _ _ _ h => h) (by assumption) (by rfl) ?_
              try simp only [Act.put, List.setIfInBounds_toArray, List.set_cons_zero, List.set_cons_succ]
              refine skipL 29 rfl (by kernel_rfl) (by kernel_rfl) (by kernel_rfl) (fun _ _ _ h => h) (by assumption) (by rfl) ?_
              try simp only [Act.put, List.setIfInBounds_toArray, List.set_cons_zero, List.set_cons_succ]
              refine skipL 30 rfl (by kernel_rfl) (by kernel_rfl) (by kernel_rfl) (fun _ _ _ h => h) (by assumption) (by rfl) ?_
              try simp only [Act.put, List.setIfInBounds_toArray, List.set_cons_zero, List.set_cons_succ]
              refine skipL 31 rfl (by kernel_rfl) (by kernel_rfl) (by kernel_rfl) (fun _ _ _ h => h) (by assumption) (by rfl) ?_
              try simp only [Act.put, List.setIfInBounds_toArray, List.set_cons_zero, List.set_cons_succ]
              refine skipL 32 rfl (by kernel_rfl) (by kernel_rfl) (by kernel_rfl) (fun _ _ _ h => h) (by assumption) (by rfl) ?_
              try simp only [Act.put, List.setIfInBounds_toArray, List.set_cons_zero, List.set_cons_succ]
              refine skipL 33 rfl (by kernel_rfl) (by kernel_rfl) (by kernel_rfl) (fun _ _ _ h => h) (by assumption) (by rfl) ?_
              try simp only [Act.put, List.setIfInBounds_toArray, List.set_cons_zero, List.set_cons_succ]
              refine skipL 34 rfl (by kernel_rfl) (by kernel_rfl) (by kernel_rfl) (fun _ _ _ h => h) (by assumption) (by rfl) ?_
              try simp only [Act.put, List.setIfInBounds_toArray, List.set_cons_zero, List.set_cons_succ]
              refine takeL 35 (v := ?v35) rfl (by kernel_rfl) (by kernel_rfl) (by kernel_rfl) (fun _ _ _ h => h) (by assumption) (by rfl) ?hy35 ?_
              case hy35 => (intro w hSw; (try dsimp only at hSw); go_simp; (try with_reducible rfl))
              try simp only [Act.put, List.setIfInBounds_toArray, List.set_cons_zero, List.set_cons_succ]
              refine takeL 36 (v := ?v36) rfl (by kernel_rfl) (by kernel_rfl) (by kernel_rfl) (fun _ _ _ h => h) (by assumption) (by rfl) ?hy36 ?_
              case hy36 => (intro w hSw; (try dsimp only at hSw); go_simp; (try with_reducible rfl))
              try simp only [Act.put, List.setIfInBounds_toArray, List.set_cons_zero, List.set_cons_succ]
              refine wpAnyH_done (by kernel_rfl) ?_ _
              refine NoPanic.normal ?_
              go_wp2_with fail
              go_roundg (M - (0 + 1))
              case measure => omega
              case rel => exact ⟨0 + 1, c8, A8, by omega, by omega, by go_num, rfl, by rw [EN.out]; exact H8.out.below b9'.out (Nat.le_refl _), hg08.out.below b9'.out (Nat.le_refl _), hg18.out.below b9'.out (Nat.le_refl _), bstep B8.out b9'.out⟩
            | false =>
              refine wp_region_noPanic ?_
              refine wp_region_held_drew (S := fun w' => w'.cell? ⟨b, off + i, none⟩ = some (.int .i64 j)) (by kernel_rfl) ?_ (fun hHeld => ?_)
              · go_keep
              refine takeL 0 (v := ?vc0) rfl (by kernel_rfl) (by kernel_rfl) (by kernel_rfl) (fun _ _ _ h => h) (by assumption) (by rfl) ?hyc0 ?_
              case hyc0 => (intro w hSw; (try dsimp only at hSw); go_simp; (try with_reducible rfl))
              try simp only [Act.put, List.setIfInBounds_toArray, List.set_cons_zero, List.set_cons_succ]
              refine takeL 1 (v := ?vc1) rfl (by kernel_rfl) (by kernel_rfl) (by kernel_rfl) (fun _ _ _ h => h) (by assumption) (by rfl) ?hyc1 ?_
              case hyc1 => (intro w hSw; (try dsimp only at hSw); go_simp; (try with_reducible rfl))
              try simp only [Act.put, List.setIfInBounds_toArray, List.set_cons_zero, List.set_cons_succ]
              refine takeL 2 (v := ?vc2) rfl (by kernel_rfl) (by kernel_rfl) (by kernel_rfl) (fun _ _ _ h => h) (by assumption) (by rfl) ?hyc2 ?_
              case hyc2 => (intro w hSw; (try dsimp only at hSw); go_simp; (try with_reducible rfl))
              try simp only [Act.put, List.setIfInBounds_toArray, List.set_cons_zero, List.set_cons_succ]
              refine takeL 3 (v := ?vc3) rfl (by kernel_rfl) (by kernel_rfl) (by kernel_rfl) (fun _ _ _ h => h) (by assumption) (by rfl) ?hyc3 ?_
              case hyc3 => (intro w hSw; (try dsimp only at hSw); go_simp; (try with_reducible rfl))
              try simp only [Act.put, List.setIfInBounds_toArray, List.set_cons_zero, List.set_cons_succ]
              refine takeL 4 (v := ?vc4) rfl (by kernel_rfl) (by kernel_rfl) (by kernel_rfl) (fun _ _ _ h => h) (by assumption) (by rfl) ?hyc4 ?_
              case hyc4 => (intro w hSw; (try dsimp only at hSw); go_simp; (try with_reducible rfl))
              try simp only [Act.put, List.setIfInBounds_toArray, List.set_cons_zero, List.set_cons_succ]
              refine takeL 5 (v := ?vc5) rfl (by kernel_rfl) (by kernel_rfl) (by kernel_rfl) (fun _ _ _ h => h) (by assumption) (by rfl) ?hyc5 ?_
              case hyc5 => (intro w hSw; (try dsimp only at hSw); go_simp; (try with_reducible rfl))
              try simp only [Act.put, List.setIfInBounds_toArray, List.set_cons_zero, List.set_cons_succ]
              refine takeL 6 (v := ?vc6) rfl (by kernel_rfl) (by kernel_rfl) (by kernel_rfl) (fun _ _ _ h => h) (by assumption) (by rfl) ?hyc6 ?_
              case hyc6 => (intro w hSw; (try dsimp only at hSw); go_simp; (try with_reducible rfl))
              try simp only [Act.put, List.setIfInBounds_toArray, List.set_cons_zero, List.set_cons_succ]
              refine takeL 7 (v := ?vc7) rfl (by kernel_rfl) (by kernel_rfl) (by kernel_rfl) (fun _ _ _ h => h) (by assumption) (by rfl) ?hyc7 ?_
              case hyc7 => (intro w hSw; (try dsimp only at hSw); go_simp; (try with_reducible rfl))
              try simp only [Act.put, List.setIfInBounds_toArray, List.set_cons_zero, List.set_cons_succ]
              refine takeL 8 (v := ?vc8) rfl (by kernel_rfl) (by kernel_rfl) (by kernel_rfl) (fun _ _ _ h => h) (by assumption) (by rfl) ?hyc8 ?_
              case hyc8 => (intro w hSw; (try dsimp only at hSw); go_simp; (try with_reducible rfl))
              try simp only [Act.put, List.setIfInBounds_toArray, List.set_cons_zero, List.set_cons_succ]
              refine wpAnyH_ready (rs := [9]) (by kernel_rfl) (by simp) ?_
              refine AllReadyH.cons rfl (fun K hK => ?_) AllReadyH.nil
              go_simp
              refine (CK.out w8.drew hsnD.out).mono ?_
              rintro e w9 ⟨A9, c9, rfl, h9, b90⟩
              have b9 : Below w8.heap.size w8 w9 := (bDrewN (Below.refl w8.heap.size w8) 1).trans b90
              obtain ⟨bt, ot, rfl, hct⟩ := h9.si.at_ htn
              rw [Nat.add_zero, EK.out] at hct
              have b9' := Lib.hid b9
              have q1 := (b9.cell (p := ⟨b, off + i, none⟩) HBL.out).trans hci8
              clear b9 b90 h9
              dsimp only
              refine hK.out _ _ ?_ (fun hHeld => ?_)
              · (try dsimp only); go_keep
              clear hK K
              try simp only [Act.put, List.setIfInBounds_toArray, List.set_cons_zero, List.set_cons_succ]
              refine takeL 10 (v := ?vc10) rfl (by kernel_rfl) (by kernel_rfl) (by kernel_rfl) (fun _ _ _ h => h) (by assumption) (by rfl) ?hyc10 ?_
              case hyc10 => (intro w hSw; (try dsimp only at hSw); go_simp; (try with_reducible rfl))
              try simp only [Act.put, List.setIfInBounds_toArray, List.set_cons_zero, List.set_cons_succ]
              refine wpAnyH_ready (rs := [11]) (by kernel_rfl) (by simp) ?_
              refine AllReadyH.cons rfl (fun K hK => ?_) AllReadyH.nil
              go_simp
              refine hK.out _ _ ?_ (fun hHeld => ?_)
              · (try dsimp only); go_keep
              clear hK K
              try simp only [Act.put, List.setIfInBounds_toArray, List.set_cons_zero, List.set_cons_succ]
              refine takeL 12 (v := ?vc12) rfl (by kernel_rfl) (by kernel_rfl) (by kernel_rfl) (fun _ _ _ h => h) (by assumption) (by rfl) ?hyc12 ?_
              case hyc12 => (intro w hSw; (try dsimp only at hSw); go_simp; (try with_reducible rfl))
              try simp only [Act.put, List.setIfInBounds_toArray, List.set_cons_zero, List.set_cons_succ]
              refine takeL 13 (v := ?vc13) rfl (by kernel_rfl) (by kernel_rfl) (by kernel_rfl) (fun _ _ _ h => h) (by assumption) (by rfl) ?hyc13 ?_
              case hyc13 => (intro w hSw; (try dsimp only at hSw); go_simp; (try with_reducible rfl))
              try simp only [Act.put, List.setIfInBounds_toArray, List.set_cons_zero, List.set_cons_succ]
              refine takeL 14 (v := ?vc14) rfl (by kernel_rfl) (by kernel_rfl) (by kernel_rfl) (fun _ _ _ h => h) (by assumption) (by rfl) ?hyc14 ?_
              case hyc14 => (intro w hSw; (try dsimp only at hSw); go_simp; (try with_reducible rfl))
              try simp only [Act.put, List.setIfInBounds_toArray, List.set_cons_zero, List.set_cons_succ]
              refine takeL 15 (v := ?vc15) rfl (by kernel_rfl) (by kernel_rfl) (by kernel_rfl) (fun _ _ _ h => h) (by assumption) (by rfl) ?hyc15 ?_
              case hyc15 => (intro w hSw; (try dsimp only at hSw); go_simp; (try with_reducible rfl))
              try simp only [Act.put, List.setIfInBounds_toArray, List.set_cons_zero, List.set_cons_succ]
              refine takeL 16 (v := ?vc16) rfl (by kernel_rfl) (by kernel_rfl) (by kernel_rfl) (fun _ _ _ h => h) (by assumption) (by rfl) ?hyc16 ?_
              case hyc16 => (intro w hSw; (try dsimp only at hSw); go_simp; (try with_reducible rfl))
              try simp only [Act.put, List.setIfInBounds_toArray, List.set_cons_zero, List.set_cons_succ]
              refine skipL 17 rfl (by kernel_rfl) (by kernel_rfl) (by kernel_rfl) (fun _ _ _ h => h) (by assumption) (by rfl) ?_
              try simp only [Act.put, List.setIfInBounds_toArray, List.set_cons_zero, List.set_cons_succ]
              refine skipL 18 rfl (by kernel_rfl) (by kernel_rfl) (by kernel_rfl) (fun _ _ _ h => h) (by assumption) (by rfl) ?_
              try simp only [Act.put, List.setIfInBounds_toArray, List.set_cons_zero, List.set_cons_succ]
              refine takeL 19 (v := ?vc19) rfl (by kernel_rfl) (by kernel_rfl) (by kernel_rfl) (fun _ _ _ h => h) (by assumption) (by rfl) ?hyc19 ?_
              case hyc19 => (intro w hSw; (try dsimp only at hSw); go_simp; (try with_reducible rfl))
              try simp only [Act.put, List.setIfInBounds_toArray, List.set_cons_zero, List.set_cons_succ]
              refine takeL 20 (v := ?vc20) rfl (by kernel_rfl) (by kernel_rfl) (by kernel_rfl) (fun _ _ _ h => h) (by assumption) (by rfl) ?hyc20 ?_
              case hyc20 => (intro w hSw; (try dsimp only at hSw); go_simp; (try with_reducible rfl))
              try simp only [Act.put, List.setIfInBounds_toArray, List.set_cons_zero, List.set_cons_succ]
              refine skipL 21 rfl (by kernel_rfl) (by kernel_rfl) (by kernel_rfl) (fun _ _ _ h => h) (by assumption) (by rfl) ?_
              try simp only [Act.put, List.setIfInBounds_toArray, List.set_cons_zero, List.set_cons_succ]
              refine skipL 22 rfl (by kernel_rfl) (by kernel_rfl) (by kernel_rfl) (fun _ _ _ h => h) (by assumption) (by rfl) ?_
              try simp only [Act.put, List.setIfInBounds_toArray, List.set_cons_zero, List.set_cons_succ]
              refine skipL 23 rfl (by kernel_rfl) (by kernel_rfl) (by kernel_rfl) (fun _ _ _ h => h) (by assumption) (by rfl) ?_
              try simp only [Act.put, List.setIfInBounds_toArray, List.set_cons_zero, List.set_cons_succ]
              refine skipL 24 rfl (by kernel_rfl) (by kernel_rfl) (by kernel_rfl) (fun _ _ _ h => h) (by assumption) (by rfl) ?_
              try simp only [Act.put, List.setIfInBounds_toArray, List.set_cons_zero, List.set_cons_succ]
              refine skipL 25 rfl (by kernel_rfl) (by kernel_rfl) (by kernel_rfl) (fun _ _ _ h => h) (by assumption) (by rfl) ?_
              try simp only [Act.put, List.setIfInBounds_toArray, List.set_cons_zero, List.set_cons_succ]
              refine skipL 26 rfl (by kernel_rfl) (by kernel_rfl) (by kernel_rfl) (fun _ _ _ h => h) (by assumption) (by rfl) ?_
              try simp only [Act.put, List.setIfInBounds_toArray, List.set_cons_zero, List.set_cons_succ]
              refine skipL 27 rfl (by kernel_rfl) (by kernel_rfl) (by kernel_rfl) (fun _ _ _ h => h) (by assumption) (by rfl) ?_
              try simp only [Act.put, List.setIfInBounds_toArray, List.set_cons_zero, List.set_cons_succ]
              refine skipL 28 rfl (by kernel_rfl) (by kernel_rfl) (by kernel_rfl) (fun _ _ _ h => h) (by assumption) (by rfl) ?_
              try simp only [Act.put, List.setIfInBounds_toArray, List.set_cons_zero, List.set_cons_succ]
              refine skipL 29 rfl (by kernel_rfl) (by kernel_rfl) (by kernel_rfl) (fun _ _ _ h => h) (by assumption) (by rfl) ?_
              try simp only [Act.put, List.setIfInBounds_toArray, List.set_cons_zero, List.set_cons_succ]
              refine skipL 30 rfl (by kernel_rfl) (by kernel_rfl) (by kernel_rfl) (fun _ _ _ h => h) (by assumption) (by rfl) ?_
              try simp only [Act.put, List.setIfInBounds_toArray, List.set_cons_zero, List.set_cons_succ]
              refine skipL 31 rfl (by kernel_rfl) (by kernel_rfl) (by kernel_rfl) (fun _ _ _ h => h) (by assumption) (by rfl) ?_
              try simp only [Act.put, List.setIfInBounds_toArray, List.set_cons_zero, List.set_cons_succ]
              refine skipL 32 rfl (by kernel_rfl) (by kernel_rfl) (by kernel_rfl) (fun _ _ _ h => h) (by assumption) (by rfl) ?_
              try simp only [Act.put, List.setIfInBounds_toArray, List.set_cons_zero, List.set_cons_succ]
              refine skipL 33 rfl (by kernel_rfl) (by kernel_rfl) (by kernel_rfl) (fun _ _ _ h => h) (by assumption) (by rfl) ?_
              try simp only [Act.put, List.setIfInBounds_toArray, List.set_cons_zero, List.set_cons_succ]
              refine skipL 34 rfl (by kernel_rfl) (by kernel_rfl) (by kernel_rfl) (fun _ _ _ h => h) (by assumption) (by rfl) ?_
              try simp only [Act.put, List.setIfInBounds_toArray, List.set_cons_zero, List.set_cons_succ]
              refine takeL 35 (v := ?vc35) rfl (by kernel_rfl) (by kernel_rfl) (by kernel_rfl) (fun _ _ _ h => h) (by assumption) (by rfl) ?hyc35 ?_
              case hyc35 => (intro w hSw; (try dsimp only at hSw); go_simp; (try with_reducible rfl))
              try simp only [Act.put, List.setIfInBounds_toArray, List.set_cons_zero, List.set_cons_succ]
              refine takeL 36 (v := ?vc36) rfl (by kernel_rfl) (by kernel_rfl) (by kernel_rfl) (fun _ _ _ h => h) (by assumption) (by rfl) ?hyc36 ?_
              case hyc36 => (intro w hSw; (try dsimp only at hSw); go_simp; (try with_reducible rfl))
              try simp only [Act.put, List.setIfInBounds_toArray, List.set_cons_zero, List.set_cons_succ]
              refine wpAnyH_done (by kernel_rfl) ?_ _
              refine NoPanic.normal ?_
              go_wp2_with fail
              go_roundg (M - (i + 1))
              case measure => omega
              case rel => exact ⟨i + 1, c8, A8, by omega, by omega, by go_num, rfl, by rw [EN.out]; exact H8.out.below b9'.out (Nat.le_refl _), hg08.out.below b9'.out (Nat.le_refl _), hg18.out.below b9'.out (Nat.le_refl _), bstep B8.out b9'.out⟩
        · obtain rfl : i = M := by omega
          have HE := Lib.hid (fun w7 h1 h2 => equalInts_true An AG1 n1 cn cG1 (tourN k zs i) w7 (by omega) h1 h2)
          go_wp2_with fail
          refine (HE.out _ hsn hg1).mono ?_
          rintro e w9 ⟨rfl, q9, rfl⟩
          go_wp2_with fail
          go_ret
          exact ⟨rfl, bDrewN hbw _⟩

end Go.Proofs.Ythhfnhabnaakiaa
