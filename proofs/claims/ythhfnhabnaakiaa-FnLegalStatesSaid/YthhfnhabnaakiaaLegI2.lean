/-
  LegI2. By a program (wip/tools/mk.py) out of snippets.
-/
import Derived.Test.YthhfnhabnaakiaaLegL
import Derived.Test.YthhfnhabnaakiaaTok2
import Derived.Test.YthhfnhabnaakiaaFn2
import Derived.Deep.AppendLies
import Derived.Deep.RegionLaw
namespace Go.Proofs.Ythhfnhabnaakiaa
open Go.RowKit

theorem keptN {w w' : World} {base e size n : Nat} {v : Value} {xs : List Value} (h : w.ownsRow base e size v n xs) (hb : Below w.heap.size w w') : w'.ownsRow base e size v n xs :=
  h.kept (row := none) ⟨hb.os, hb.tape, hb.output, hb.size, fun i hi _ => hb.block i hi⟩ (by cases hv : v.ownBlock with
    | none => exact .inl rfl
    | some k => exact .inr (by simp))

attribute [local go_sem] Oper.semAt_some
set_option maxRecDepth 100000 in
set_option maxHeartbeats 6400000 in
theorem implLegal_any (k n : Int) (w : World) :
    Calls Try.prog 34 #[.int .i64 k, .int .i64 n] w fun e w' => ∃ A c, e = .returned (.slice A (legR k n).length c) ∧ FR w' w.heap.size w'.heap.size A (legR k n).length (legR k n) ∧ Below w.heap.size w w' := by
  have CO := Lib.hid (implringOk_any k n w)
  cases hok : lgOk k n with
  | false =>
    have hR : legR k n = [] := by unfold legR; rw [hok]; rfl
    rw [hok] at CO
    rw [hR]
    clear hR hok
    go_enter Try.func34, Try.ntmps34
    go_wp2_with fail
    refine CO.out.mono ?_
    rintro e w' ⟨rfl, rfl⟩
    go_wp2_with fail
    go_ret
    exact ⟨none, 0, rfl, FR.empty _ _ (Nat.le_refl _), Below.refl _ _⟩
  | true =>
    obtain ⟨K, N, rfl, rfl, ⟨hK, hK5⟩, ⟨hN, hN5⟩, h1024⟩ := lgOk_iff.1 hok
    have hR : legR K N = legTo K N (K ^ N) := by unfold legR; rw [hok]; rfl
    rw [hok] at CO
    rw [hR]
    clear hR hok
    refine (callsIn_wide (n := 0)).1 ?_
    refine callsIn_of_wp_marks Try.func34 rfl trivial ?_ rfl
    simp only [Try.ntmps34, List.size_toArray, List.length_cons, List.length_nil, Nat.reduceAdd, Nat.reduceSub, Array.replicate_succ, Array.replicate_zero, List.push_toArray, List.append_toArray, List.nil_append, List.cons_append]
    gi_wp2_with (first
      | (refine ⟨trivial, rfl, ?_⟩; gi_at_call 59; refine (callsIn_wide.2 CO.out).mono ?_; rintro e w' ⟨rfl, rfl⟩)
      | (refine ⟨trivial, rfl, ?_⟩; gi_at_call 60; refine (callsIn_wide.2 (implstates_any K N _)).mono ?_; rintro e w' ⟨rfl, rfl⟩))
    obtain ⟨V, hV⟩ : ∃ V, V = (((w.alloc (.cells #[] 23)).alloc (.cells #[.slice (some ⟨w.heap.size, 0, none⟩) 0 0] 42)).alloc (.cells #[.int .i64 K] 3)).alloc (.cells #[.int .i64 N] 3) := ⟨_, rfl⟩
    have zV : V.heap.size = w.heap.size + 1 + 1 + 1 + 1 := by rw [hV]; simp
    have cn : V.cell? ⟨w.heap.size + 1 + 1 + 1, 0, none⟩ = some (.int .i64 N) := by rw [hV, World.cell?_alloc_at _ _ _ _ (by simp)]; rfl
    have ck : V.cell? ⟨w.heap.size + 1 + 1, 0, none⟩ = some (.int .i64 K) := by rw [hV, World.cell?_alloc_lt _ _ _ (by simp), World.cell?_alloc_at _ _ _ _ (by simp)]; rfl
    have cb : V.cell? ⟨w.heap.size + 1, 0, none⟩ = some (.slice (some ⟨w.heap.size, 0, none⟩) 0 0) := by rw [hV, World.cell?_alloc_lt _ _ _ (by first | (simp; done) | (simp; omega)), World.cell?_alloc_lt _ _ _ (by first | (simp; done) | (simp; omega)), World.cell?_alloc_at _ _ _ _ (by simp)]; rfl
    have fb : V.frozen? ⟨w.heap.size + 1, 0, none⟩ = false := by rw [hV]; go_simp
    have B1 : Below w.heap.size w (w.alloc (.cells #[] 23)) := (Below.refl _ _).alloc (Nat.le_refl _) _
    have B2 : Below (w.alloc (.cells #[] 23)).heap.size (w.alloc (.cells #[] 23)) V := by
      rw [hV]
      exact (((Below.refl _ _).alloc (Nat.le_refl _) _).alloc (by first | (simp; done) | (simp; omega)) _).alloc (by first | (simp; done) | (simp; omega)) _
    have oV : O2 V w.heap.size V.heap.size (some ⟨w.heap.size, 0, none⟩) 0 0 [] [] := O2.made _ _ _ _ _ (by omega) (Nat.le_refl _) (keptN (own_emptyS w w.heap.size (Nat.le_refl _)) B2)
    have bV : Below w.heap.size w V := B1.trans (B2.mono (by simp))
    rw [← hV]
    clear hV B1 B2
    obtain ⟨bx, hbx⟩ : ∃ s, s = w.heap.size + 1 := ⟨_, rfl⟩
    rw [← hbx] at zV cn ck cb fb ⊢
    obtain ⟨kb, hkb⟩ : ∃ s, s = bx + 1 := ⟨_, rfl⟩
    rw [← hkb] at zV cn ck ⊢
    obtain ⟨nb, hnb⟩ : ∃ s, s = kb + 1 := ⟨_, rfl⟩
    rw [← hnb] at zV cn ⊢
    have hnum : bx < V.heap.size ∧ kb < V.heap.size ∧ nb < V.heap.size ∧ bx ≠ kb ∧ bx ≠ nb ∧ w.heap.size ≤ bx ∧ w.heap.size ≤ V.heap.size := by omega
    have hlow : w.heap.size < bx ∧ w.heap.size < kb ∧ w.heap.size < nb := by omega
    have hlow0 : w.heap.size ≤ V.heap.size := by omega
    clear hbx hkb hnb zV
    refine wpIn_rangeFunc_rows (gf := 66) (lb := #[.pointer (some ⟨nb, 0, none⟩), .pointer (some ⟨kb, 0, none⟩)]) (caps := [nb, kb]) (N := K ^ N) (st := stL K N) rfl (enters_of Try.func66 (by kernel_rfl) rfl) (fun i => by rw [stL_length]; omega) rfl ?hcl (fun W hW => states1_gives K N nb kb W hK hK5 hN hN5 h1024 ((hW.cell (p := ⟨nb, 0, none⟩) hnum.2.2.1).trans cn) ((hW.cell (p := ⟨kb, 0, none⟩) hnum.2.1).trans ck))
      (fun S i W => LI w V K N bx kb nb S i W) (fun S i A B r h hg hr ho => LI.abide (by omega) ck cn S i A B r h hg hr ho) (fun S i A h => by obtain ⟨_, _, _, _, _, _, _, _, _, h, _⟩ := h; exact h) ?h0 (fun v => { tmps := #[.int .i64 K, .int .i64 N, undef, undef, .slice none 0 0, .pointer (some ⟨bx, 0, none⟩), v, .int .i64 K, .int .i64 N, .bool true, .bool false, .slice (some ⟨w.heap.size, 0, none⟩) 0 0, .int .i64 K, .int .i64 N, .func (.func 66) #[] #[.pointer (some ⟨nb, 0, none⟩), .pointer (some ⟨kb, 0, none⟩)], v, undef, undef, undef, undef, undef, undef, undef, undef, undef, undef, undef], defers := [] }) ?assign ?body ?done
    case hcl =>
      intro b hb
      simp at hb
      rcases hb with rfl | rfl
      · exact hnum.2.2.1
      · exact hnum.2.1
    case h0 =>
      intro S A hS hSA hb
      refine ⟨0, some ⟨w.heap.size, 0, none⟩, 0, [], (hb.cell (p := ⟨bx, 0, none⟩) hnum.1).trans cb, (hb.frozen (p := ⟨bx, 0, none⟩) hnum.1).trans fb, oV.later hb, fun b e => by have e' : w.heap.size = b := (by injection e); omega, fun j hj => absurd hj (by omega), fun b hb' => hb.block b ?_, bstep bV hb, hS, hnum⟩
      simp at hb'
      rcases hb' with rfl | rfl
      · exact hnum.2.2.1
      · exact hnum.2.1
    case assign =>
      intro l v W K' hK'
      gi_wp2
      exact hK'
    case body =>
      intro l S i v W0 W1 hi hS hI hb hv
      have hv' := hv
      obtain ⟨b1, c1, hv1, hcap, hlo, hhi, hcells, hfz⟩ := hv
      rw [stL_length] at hv1 hcap hcells
      subst hv1
      have hsi : SI W1 (some ⟨b1, 0, none⟩) N (stL K N i) := ⟨stL_length _ _ _, fun _ => ⟨b1, 0, rfl, fun j hj => by rw [Nat.zero_add]; exact hcells j hj⟩⟩
      have HT := Lib.hid (impltokens_any (some ⟨b1, 0, none⟩) N c1 (stL K N i) W1 (by omega) hsi)
      have HI := Lib.hid hI
      have HB := Lib.hid hb
      have HV := Lib.hid hv'
      clear hI hb hv' hsi hcells hfz
      cases hl : isLeg (stL K N i) with
      | false =>
        have h1 : ((((toks (stL K N i)).length : Nat) : Int) == 1) = false := by
          unfold isLeg at hl
          simp only [beq_eq_false_iff_ne] at hl ⊢
          omega
        have HL := Lib.hid (legTo_miss hl)
        clear hl
        generalize (toks (stL K N i)).length = m at *
        gi_wp2_with (refine ⟨trivial, rfl, ?_⟩; gi_at_call 46; refine (CallsIn.inRound l (callsIn_wide.2 HT.out)).mono ?_; rintro e W2 ⟨A3, c3, rfl, _, b2⟩; have B2 := Lib.hid b2; clear b2)
        obtain ⟨_, _, _, _, _, _, _, _, _, _, _, hS2, hn2⟩ := HI.out
        have hws := HB.out.size
        exact ⟨⟨B2.out.size, fun k o hk _ => (B2.out.block k (Array.getElem?_eq_some_iff.1 hk).1).trans hk⟩, B2.out.block S (by omega), HI.out.miss HL.out (HB.out.trans (B2.out.mono HB.out.size))⟩
      | true =>
        have h1 : ((((toks (stL K N i)).length : Nat) : Int) == 1) = true := by
          unfold isLeg at hl
          simp only [beq_iff_eq] at hl ⊢
          omega
        have HL := Lib.hid (legTo_hit hl)
        clear hl
        generalize (toks (stL K N i)).length = m at *
        gi_wp2_with (refine ⟨trivial, rfl, ?_⟩; gi_at_call 46; refine (CallsIn.inRound l (callsIn_wide.2 HT.out)).mono ?_; rintro e W2 ⟨A3, c3, rfl, _, b2⟩; have B2 := Lib.hid b2; clear b2)
        obtain ⟨a, A, c, vs, c0, f0, o2, hh, hrw, hc, hbw, hSS, hnum2⟩ := HI.out
        have hws := HB.out.size
        have hw2 := B2.out.size
        have hw02 : W0.heap.size ≤ W2.drew.heap.size := Nat.le_trans hws hw2
        have b02 : Below W0.heap.size W0 W2.drew := bDrewN (HB.out.trans (B2.out.mono hws)) 1
        have hlx : bx < W0.heap.size := World.block_lt_of_cell? W0 _ c0
        have k0 : W2.drew.cell? ⟨bx, 0, none⟩ = some (.slice A a c) := (b02.cell (p := ⟨bx, 0, none⟩) hlx).trans c0
        have kA : (W2.drew.alloc (.cells #[.slice (some ⟨b1, 0, none⟩) N N] 23)).cell? ⟨bx, 0, none⟩ = some (.slice A a c) := (World.cell?_alloc_lt _ _ _ (Nat.lt_of_lt_of_le hlx hw02)).trans k0
        have kC : (W2.alloc (.cells #[.slice (some ⟨b1, 0, none⟩) N N] 23)).cell? ⟨bx, 0, none⟩ = some (.slice A a c) := kA
        have kW : W2.cell? ⟨bx, 0, none⟩ = some (.slice A a c) := k0
        have hbxW : bx < W2.heap.size := Nat.lt_of_lt_of_le hlx (Nat.le_trans hws hw2)
        have B02 := Lib.hid b02
        have HVc : Hid (RowOk W2.drew W0.heap.size W2.drew.heap.size (.slice (some ⟨b1, 0, none⟩) N N) (stL K N i)) := Lib.hid (by
          obtain ⟨b', c', e, h3, h4, h5, h6, h7⟩ := HV.out
          have e1 : b1 = b' := by
            injection e with e _ _
            injection e with e
            injection e
          subst e1
          have hbl : W2.drew.heap[b1]? = W1.heap[b1]? := B2.out.block b1 h5
          exact ⟨b1, N, by rw [stL_length], by rw [stL_length]; exact Nat.le_refl _, h4, Nat.lt_of_lt_of_le h5 hw2, fun j hj => (World.cell?_of_block (a := ⟨b1, j, none⟩) hbl).trans (h6 j hj), fun j hj => (World.frozen?_of_block (a := ⟨b1, j, none⟩) hbl).trans (h7 j hj)⟩)
        have hal : a ≤ i := by rw [← o2.len]; exact legTo_le K N i
        have hi1024 : i ≤ 1024 := by omega
        have OW := Lib.hid (keptN o2.own (b02.trans (((Below.refl W2.drew.heap.size W2.drew).alloc (Nat.le_refl _) (.cells #[.slice (some ⟨b1, 0, none⟩) N N] 23)).mono hw02)))
        have HH := Lib.hid (fun w4 g c' (h1 : w4.ownsRow w.heap.size 23 1 (.slice (some ⟨g, 0, none⟩) (a + 1) c') (a + 1) (vs ++ [.slice (some ⟨b1, 0, none⟩) N N])) h2 h3 => LI.hit (w4 := w4) (t := 23) c0 f0 o2 hh hrw hc hbw hSS hS hnum2 HL.out B02.out (some ⟨b1, 0, none⟩) N N rfl HVc.out h1 h2 h3)
        have KO := Lib.hid (show KeepsOthers W1 (W2.drew.alloc (.cells #[.slice (some ⟨b1, 0, none⟩) N N] 23)) from ((⟨hw2, fun k o hk _ => (B2.out.block k (Array.getElem?_eq_some_iff.1 hk).1).trans hk⟩ : KeepsOthers W1 W2).trans (KeepsOthers.drew W2)).trans (KeepsOthers.alloc _ _))
        have HC : Hid (∀ (j : Nat) (o : Obj), (Value.slice A a c).ownBlock = some j → (W2.drew.alloc (.cells #[.slice (some ⟨b1, 0, none⟩) N N] 23)).heap[j]? = some o → o.isCells = true) := Lib.hid (by
          intro j o e hj
          rcases OW.out.2 with ⟨h4, _⟩ | ⟨g, cap, cur, h4, h5, h6, _⟩
          · rw [h4] at e; cases e
          · rw [h4] at e
            cases e
            rw [hj] at h6
            cases h6
            rfl)
        have hS01 := HB.out.block S hS
        have hbase : w.heap.size ≤ W2.drew.heap.size := Nat.le_trans hbw.size hw02
        obtain ⟨i0, hi0, hz0, hz1, hz2⟩ := info_parts info23
        have HS01 := Lib.hid hS01
        clear c0 f0 o2 hh hrw hc hbw hSS hnum2 b02 hS01 HT
        refine wpIn_region_any (by kernel_rfl) ?_
        change wpAnyIn _ _ _ _ _ _ _ _ _ (World.drew _)
        refine wpAnyInR ?_ ?_ _ _ _ _ ?_
        · intro j o ho cc e
          rcases j with _ | _ | _ | _ | _ | _ | j <;> simp at ho <;> (subst ho; cases e)
        · rintro ⟨a', w', h⟩
          exact h
        refine wpAny_take (i := 1) (v := ?_) rfl (by kernel_rfl) (by kernel_rfl) (by kernel_rfl) (fun _ _ _ h => h) (Or.inl ⟨by rfl, ?_⟩) ?_
        rotate_left
        · intro w'
          go_simp
          rfl
        refine wpAny_ready (rs := [0, 2]) (by kernel_rfl) (by simp) ?_
        refine AllReady.cons rfl (fun K' hK' => ?_) ?_
        · go_simp
          refine hK' _ _ ?_
          clear hK' K'
          refine wpAny_ready (rs := [2]) (by kernel_rfl) (by simp) ?_
          refine AllReady.cons rfl (fun K' hK' => ?_) AllReady.nil
          go_simp
          go_at_call 55
          refine (clip_any b1 0 N c1 _ (by omega) hcap (by omega)).mono ?_
          rintro e w' ⟨rfl, rfl⟩
          refine hK' _ _ ?_
          clear hK' K'
          refine wpAny_ready (rs := [3]) (by kernel_rfl) (by simp) ?_
          refine AllReady.cons rfl (fun K' hK' => ?_) AllReady.nil
          go_simp
          refine hK' _ _ ?_
          clear hK' K'
          refine wpAny_ready (rs := [4]) (by kernel_rfl) (by simp) ?_
          refine AllReady.cons rfl (fun K' hK' => ?_) AllReady.nil
          refine step_append_lies _ rfl _ _ 42 rfl w.heap.size 23 i0 (.slice none 0 0) 1 24 Try.underlying42 hi0 hz0 hz1 hz2 rfl (by decide) _ a _ rfl OW.out ⟨W2.drew.heap.size, 0, none⟩ 1 1 [.slice (some ⟨b1, 0, none⟩) N N] rfl rfl (World.news_of_block (cs := #[.slice (some ⟨b1, 0, none⟩) N N]) (t := 23) (fr := (0, 0)) (heapNew _ _)) (by intro u hu; simp at hu; subst hu; rfl) (by omega) (by unfold maxLen; omega) (by omega) (Nat.le_trans hbase (by simp)) (W2.drew.heap.size + 1) (by simp) ?_
          intro g c' w4 h1 h2 h3 h4
          obtain ⟨hL4, hs4, d4, e4⟩ := HH.out w4 g c' h1 h2 h3
          have L4 := Lib.hid hL4
          have HS4 := Lib.hid hs4
          have KO4 := Lib.hid (KO.out.trans (KeepsOthers.of_grownBy h2 HC.out))
          clear hL4 hs4 h1 h2 h3 h4
          refine hK' _ _ ?_
          clear hK' K'
          refine wpAny_ready (rs := [5]) (by kernel_rfl) (by simp) ?_
          refine AllReady.cons rfl (fun K' hK' => ?_) AllReady.nil
          go_simp
          refine hK' _ _ ?_
          clear hK' K'
          refine wpAny_done (by kernel_rfl) ?_ _
          refine And.intro (KO4.out.trans (KeepsOthers.setCell _ _ _)) (And.intro (HS4.out.trans HS01.out.symm) L4.out)
        refine AllReady.cons rfl (fun K' hK' => ?_) AllReady.nil
        go_simp
        go_at_call 55
        refine (clip_any b1 0 N c1 _ (by omega) hcap (by omega)).mono ?_
        rintro e w' ⟨rfl, rfl⟩
        refine hK' _ _ ?_
        clear hK' K'
        refine wpAny_ready (rs := [0, 3]) (by kernel_rfl) (by simp) ?_
        refine AllReady.cons rfl (fun K' hK' => ?_) ?_
        · go_simp
          refine hK' _ _ ?_
          clear hK' K'
          refine wpAny_ready (rs := [3]) (by kernel_rfl) (by simp) ?_
          refine AllReady.cons rfl (fun K' hK' => ?_) AllReady.nil
          go_simp
          refine hK' _ _ ?_
          clear hK' K'
          refine wpAny_ready (rs := [4]) (by kernel_rfl) (by simp) ?_
          refine AllReady.cons rfl (fun K' hK' => ?_) AllReady.nil
          refine step_append_lies _ rfl _ _ 42 rfl w.heap.size 23 i0 (.slice none 0 0) 1 24 Try.underlying42 hi0 hz0 hz1 hz2 rfl (by decide) _ a _ rfl OW.out ⟨W2.drew.heap.size, 0, none⟩ 1 1 [.slice (some ⟨b1, 0, none⟩) N N] rfl rfl (World.news_of_block (cs := #[.slice (some ⟨b1, 0, none⟩) N N]) (t := 23) (fr := (0, 0)) (heapNew _ _)) (by intro u hu; simp at hu; subst hu; rfl) (by omega) (by unfold maxLen; omega) (by omega) (Nat.le_trans hbase (by simp)) (W2.drew.heap.size + 1) (by simp) ?_
          intro g c' w4 h1 h2 h3 h4
          obtain ⟨hL4, hs4, d4, e4⟩ := HH.out w4 g c' h1 h2 h3
          have L4 := Lib.hid hL4
          have HS4 := Lib.hid hs4
          have KO4 := Lib.hid (KO.out.trans (KeepsOthers.of_grownBy h2 HC.out))
          clear hL4 hs4 h1 h2 h3 h4
          refine hK' _ _ ?_
          clear hK' K'
          refine wpAny_ready (rs := [5]) (by kernel_rfl) (by simp) ?_
          refine AllReady.cons rfl (fun K' hK' => ?_) AllReady.nil
          go_simp
          refine hK' _ _ ?_
          clear hK' K'
          refine wpAny_done (by kernel_rfl) ?_ _
          refine And.intro (KO4.out.trans (KeepsOthers.setCell _ _ _)) (And.intro (HS4.out.trans HS01.out.symm) L4.out)
        refine AllReady.cons rfl (fun K' hK' => ?_) AllReady.nil
        go_simp
        refine hK' _ _ ?_
        clear hK' K'
        refine wpAny_ready (rs := [0]) (by kernel_rfl) (by simp) ?_
        refine AllReady.cons rfl (fun K' hK' => ?_) AllReady.nil
        go_simp
        refine hK' _ _ ?_
        clear hK' K'
        refine wpAny_ready (rs := [4]) (by kernel_rfl) (by simp) ?_
        refine AllReady.cons rfl (fun K' hK' => ?_) AllReady.nil
        refine step_append_lies _ rfl _ _ 42 rfl w.heap.size 23 i0 (.slice none 0 0) 1 24 Try.underlying42 hi0 hz0 hz1 hz2 rfl (by decide) _ a _ rfl OW.out ⟨W2.drew.heap.size, 0, none⟩ 1 1 [.slice (some ⟨b1, 0, none⟩) N N] rfl rfl (World.news_of_block (cs := #[.slice (some ⟨b1, 0, none⟩) N N]) (t := 23) (fr := (0, 0)) (heapNew _ _)) (by intro u hu; simp at hu; subst hu; rfl) (by omega) (by unfold maxLen; omega) (by omega) (Nat.le_trans hbase (by simp)) (W2.drew.heap.size + 1) (by simp) ?_
        intro g c' w4 h1 h2 h3 h4
        obtain ⟨hL4, hs4, d4, e4⟩ := HH.out w4 g c' h1 h2 h3
        have L4 := Lib.hid hL4
        have HS4 := Lib.hid hs4
        have KO4 := Lib.hid (KO.out.trans (KeepsOthers.of_grownBy h2 HC.out))
        clear hL4 hs4 h1 h2 h3 h4
        refine hK' _ _ ?_
        clear hK' K'
        refine wpAny_ready (rs := [5]) (by kernel_rfl) (by simp) ?_
        refine AllReady.cons rfl (fun K' hK' => ?_) AllReady.nil
        go_simp
        refine hK' _ _ ?_
        clear hK' K'
        refine wpAny_done (by kernel_rfl) ?_ _
        refine And.intro (KO4.out.trans (KeepsOthers.setCell _ _ _)) (And.intro (HS4.out.trans HS01.out.symm) L4.out)
    case done =>
      intro D S W hD hI hKD
      have hIF := LI.abide (by omega) ck cn S _ W _ D hI (grownBy_putObj' W D (.deferred none)) hD (.inr ⟨_, hKD, rfl⟩)
      clear hI
      obtain ⟨a, A, c, vs, c0', f0, o2, hh, hrw, hc, hbw, hSS, hnum2⟩ := hIF
      have c0 : W.cell? ⟨bx, 0, none⟩ = some (.slice A a c) := by rw [← c0']; exact (World.cell?_of_block (a := ⟨bx, 0, none⟩) (World.putObj_heap_other (by show bx ≠ D; omega))).symm
      have hlen := o2.len
      have hct := legCount hK hK5 hN hN5 h1024
      have hle := legTo_le K N (K ^ N)
      have hpos : 0 < a := by omega
      have ha1024 : a ≤ 1024 := by omega
      obtain ⟨b, rfl, hb1, hb2⟩ := own_form o2.own hpos
      have hcap : a ≤ c := own_cap o2.own
      have HF := Lib.hid (LI.fr o2 hlow0 hbw.size)
      have HBW := Lib.hid hbw
      have HLen := Lib.hid hlen
      have HK := Lib.hid hKD
      clear o2 hh hrw hc hct hle hlen c0' f0 hbw
      gi_wp2_with (refine ⟨trivial, rfl, ?_⟩; gi_at_call 61; refine (callsIn_wide.2 (clipSS_any b 0 a c _ hpos hcap (by omega))).mono ?_; rintro e w' ⟨rfl, rfl⟩)
      refine ⟨by simp, .inl ⟨_, _, rfl, run_takeDeferred HK.out, ?_⟩⟩
      refine ⟨_, results_tmp rfl _ _ _, some ⟨b, 0, none⟩, a, by rw [HLen.out]; rfl, ?_, HBW.out⟩
      rw [HLen.out]
      exact HF.out

end Go.Proofs.Ythhfnhabnaakiaa
