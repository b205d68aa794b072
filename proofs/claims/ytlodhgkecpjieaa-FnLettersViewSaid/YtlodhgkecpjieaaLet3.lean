/-
  Let3. By a program (wip/tools/mk.py) out of snippets.
-/
import Derived.Test.YtlodhgkecpjieaaLet2
import Derived.Deep.RegionHeld3
import Derived.Test.YtlodhgkecpjieaaStep
namespace Go.Proofs.Ytlodhgkecpjieaa
open Go.RowKit

theorem clipIn_any (A : Option Addr) (n c : Nat) (w : World) (hc : n ≤ c) (hn : n ≤ 1000000) :
    Calls Try.prog 54 #[.slice A n c] w fun e w' => e = .returned (.slice A n n) ∧ w = w' := by
  go_enter Try.func54, Try.ntmps54
  go_wp2
  go_ret
  exact ⟨rfl, rfl⟩

theorem RowOk.clip {w : World} {lo hi b c : Nat} {zs : List Int} (h : RowOk w lo hi (.slice (some ⟨b, 0, none⟩) zs.length c) zs) : RowOk w lo hi (.slice (some ⟨b, 0, none⟩) zs.length zs.length) zs := by
  obtain ⟨b', c', e, h0, h1, h2, h3, h4⟩ := h
  cases e
  exact ⟨b, _, rfl, Nat.le_refl _, h1, h2, h3, h4⟩
theorem LS.clip {w : World} {P : Int} {wr : World} {xs ys : List Int} {b0 c0 b1 c1 : Nat} (h : LS w P wr xs ys b0 c0 b1 c1) :
    FR (((((wr.setCell ⟨w.heap.size + 3, 0, none⟩ (.slice (some ⟨b0, 0, none⟩) xs.length xs.length)).setCell ⟨w.heap.size + 3, 1, none⟩ (.slice (some ⟨b1, 0, none⟩) ys.length ys.length)).drew).setCell ⟨w.heap.size, 0, none⟩ (.int .i64 P)).setCell ⟨w.heap.size, 1, none⟩ (.slice (some ⟨w.heap.size + 3, 0, none⟩) 2 2)) w.heap.size (((((wr.setCell ⟨w.heap.size + 3, 0, none⟩ (.slice (some ⟨b0, 0, none⟩) xs.length xs.length)).setCell ⟨w.heap.size + 3, 1, none⟩ (.slice (some ⟨b1, 0, none⟩) ys.length ys.length)).drew).setCell ⟨w.heap.size, 0, none⟩ (.int .i64 P)).setCell ⟨w.heap.size, 1, none⟩ (.slice (some ⟨w.heap.size + 3, 0, none⟩) 2 2)).heap.size (some ⟨w.heap.size + 3, 0, none⟩) 2 [xs, ys] ∧ Below w.heap.size w (((((wr.setCell ⟨w.heap.size + 3, 0, none⟩ (.slice (some ⟨b0, 0, none⟩) xs.length xs.length)).setCell ⟨w.heap.size + 3, 1, none⟩ (.slice (some ⟨b1, 0, none⟩) ys.length ys.length)).drew).setCell ⟨w.heap.size, 0, none⟩ (.int .i64 P)).setCell ⟨w.heap.size, 1, none⟩ (.slice (some ⟨w.heap.size + 3, 0, none⟩) 2 2)) := by
  have hlt0 := World.ownsRow.lt h.o0 b0 rfl
  have hlt1 := World.ownsRow.lt h.o1 b1 rfl
  have hlt := h.lt
  have hB : Below w.heap.size w ((wr.setCell ⟨w.heap.size + 3, 0, none⟩ (.slice (some ⟨b0, 0, none⟩) xs.length xs.length)).setCell ⟨w.heap.size + 3, 1, none⟩ (.slice (some ⟨b1, 0, none⟩) ys.length ys.length)).drew :=
    bDrewN ((h.bel.setCell (by show w.heap.size ≤ w.heap.size + 3; omega) _).setCell (by show w.heap.size ≤ w.heap.size + 3; omega) _) 1
  refine ⟨?_, (hB.setCell (Nat.le_refl _) _).setCell (Nat.le_refl _) _⟩
  have hblk : ∀ b, b ≠ w.heap.size + 3 → ((wr.setCell ⟨w.heap.size + 3, 0, none⟩ (.slice (some ⟨b0, 0, none⟩) xs.length xs.length)).setCell ⟨w.heap.size + 3, 1, none⟩ (.slice (some ⟨b1, 0, none⟩) ys.length ys.length)).drew.heap[b]? = wr.heap[b]? := fun b hb => by
    show ((wr.setCell _ _).setCell _ _).heap[b]? = _
    rw [Below.heap_setCell _ _ _ _ (by simpa using hb), Below.heap_setCell _ _ _ _ (by simpa using hb)]
  have hF : FR ((wr.setCell ⟨w.heap.size + 3, 0, none⟩ (.slice (some ⟨b0, 0, none⟩) xs.length xs.length)).setCell ⟨w.heap.size + 3, 1, none⟩ (.slice (some ⟨b1, 0, none⟩) ys.length ys.length)).drew (w.heap.size + 1) wr.heap.size (some ⟨w.heap.size + 3, 0, none⟩) 2 [xs, ys] := by
    refine ⟨rfl, by omega, by show wr.heap.size ≤ ((wr.setCell _ _).setCell _ _).heap.size; simp, fun _ => ⟨w.heap.size + 3, [.slice (some ⟨b0, 0, none⟩) xs.length xs.length, .slice (some ⟨b1, 0, none⟩) ys.length ys.length], rfl, by omega, by omega, fun i hi => ?_, fun i hi => ?_, ⟨rfl, fun i hi => ?_, fun i j hij hj => ?_⟩⟩⟩
    · rcases (by omega : i = 0 ∨ i = 1) with rfl | rfl
      · show ((wr.setCell _ _).setCell _ _).cell? _ = _
        rw [World.cell?_setCell_other _ _ _ _ (by simp)]
        exact World.cell?_setCell_same _ _ _ h.G0
      · show ((wr.setCell _ _).setCell _ _).cell? _ = _
        exact World.cell?_setCell_same _ _ _ ((World.cell?_setCell_other _ _ _ _ (by simp)).trans h.G1)
    · rcases (by omega : i = 0 ∨ i = 1) with rfl | rfl
      · show some b0 ≠ _
        intro e; cases e; exact h.n0.1 rfl
      · show some b1 ≠ _
        intro e; cases e; exact h.n1.1 rfl
    · have hi' : i < 2 := hi
      rcases (by omega : i = 0 ∨ i = 1) with rfl | rfl
      · exact (RowOk.of_own h.o0).clip.same fun b e => hblk b (by cases e; exact h.n0.1)
      · exact (RowOk.of_own h.o1).clip.same fun b e => hblk b (by cases e; exact h.n1.1)
    · have hj' : j < 2 := hj
      obtain rfl : i = 0 := by omega
      obtain rfl : j = 1 := by omega
      show some b0 ≠ some b1
      intro e; cases e; exact h.ne rfl
  exact ((hF.setLow (by show w.heap.size < _; omega) _).setLow (by show w.heap.size < _; omega) _).mono (by omega) (by simp) (Nat.le_refl _)

set_option maxRecDepth 20000 in
set_option maxHeartbeats 3200000 in
theorem implLettersView_in (n : Nat) (w : World) (hn1 : 1 ≤ n) (hn : n ≤ 15) :
    Calls Try.prog 21 #[.int .i64 n] w fun e w' => ∃ A c, e = .returned (.tuple #[.agg #[.int .i64 ((n : Int) + 1), .slice A 2 c], .bool true]) ∧ FR w' w.heap.size w'.heap.size A 2 [lx (n + 1), ly (n + 1)] ∧ Below w.heap.size w w' := by
  have HI := Lib.hid (show ∀ w', Calls Try.prog 46 #[.int .i64 n, .int .i64 1, .int .i64 15] w' fun e w2 => e = .returned (.bool true) ∧ w' = w2 by
    intro w'
    have := within_any n 1 15 w'
    rwa [inR_true (by omega)] at this)
  have L0 := Lib.hid (LS.start w ((n : Int) + 1))
  go_enter Try.func21, Try.ntmps21
  go_wp2_with fail
  refine (HI.out _).mono ?_
  rintro e w' ⟨rfl, rfl⟩
  go_wp2_with fail
  go_loopg [18] (n + 1) (fun gg s18 wr => ∃ (i b0 c0 b1 c1 : Nat), i ≤ n + 1 ∧ n + 1 - i ≤ gg ∧ s18 = .int .i64 i ∧ LS w ((n : Int) + 1) wr (lx i) (ly i) b0 c0 b1 c1)
  case atStart => exact ⟨0, _, _, _, _, by omega, by omega, rfl, L0.out⟩
  case round =>
    clear L0
    obtain ⟨i, b0, c0, b1, c1, hi, hg, rfl, hL⟩ := hrel
    have HL := Lib.hid hL
    clear hL
    by_cases hlt : i ≤ n
    · obtain ⟨x, hx⟩ : ∃ x, x = i / 2 := ⟨_, rfl⟩
      obtain ⟨g, c', w4, hr, hA⟩ := HL.out.app0 (x : Int) 51 (by rw [lx_length]; omega)
      have e1 := HL.out.V1
      have e2 := HL.out.G0
      have e3 := hA.V1
      have e4 := hA.G0
      have e5 := hA.F0
      have hsz := HL.out.lt
      have hL5 := hA.put0
      have hll : (lx i ++ [(x : Int)]).length = i + 1 := by simp [lx_length]
      rw [hll, show lx i ++ [(x : Int)] = lx (i + 1) by rw [lx_succ, hx]] at hL5
      have HL5 := Lib.hid hL5
      rw [lx_length] at hr e2 e4
      have HRun := Lib.hid hr
      have hq : (i : Int) / 2 = (x : Int) := by omega
      have hxb : x ≤ 16 := by omega
      have hwx : IntKind.i64.wrap (x : Int) = (x : Int) := by rw [IntKind.wrap_i64]; omega
      have hlt1 : w.heap.size + 3 < wr.heap.size := by omega
      have hlt2 : w.heap.size + 4 < wr.heap.size := by omega
      clear hA hx hr hL5 hll
      go_wp2_with fail
      apply via
      · intro hend
        go_region_law (refine stepRun ((wr.alloc (.cells #[.int .i64 x] 3)).drew) (.tmp 26) (.tmp 29) (.slice (some ⟨b0, 0, none⟩) i c0) (.slice (some ⟨wr.heap.size, 0, none⟩) 1 1) (.slice (some ⟨g, 0, none⟩) (i + 1) c') w4 51 rfl rfl rfl (by simp [Act.eval, Act.put]) (by simp [Act.eval, Act.put]) HRun.out ?_)
        all_goals exact hend
      obtain ⟨W5, hW5⟩ : ∃ W, W = w4.setCell ⟨w.heap.size + 3, 0, none⟩ (.slice (some ⟨g, 0, none⟩) (i + 1) c') := ⟨_, rfl⟩
      rw [← hW5] at HL5
      rw [← hW5]
      clear hW5 e1 e2 e3 e4 e5 hsz HL HRun hq hxb hwx hlt1 hlt2
      obtain ⟨x2, hx⟩ : ∃ x, x = (i + 1) / 2 := ⟨_, rfl⟩
      obtain ⟨g2, c2', w6, hr, hA⟩ := HL5.out.app1 (x2 : Int) 51 (by rw [ly_length]; omega)
      have e1 := HL5.out.V1
      have e2 := HL5.out.G1
      have e3 := hA.V1
      have e4 := hA.G1
      have e5 := hA.F1
      have hsz := HL5.out.lt
      have hL6 := hA.put1
      have hll : (ly i ++ [(x2 : Int)]).length = i + 1 := by simp [ly_length]
      rw [hll, show ly i ++ [(x2 : Int)] = ly (i + 1) by rw [ly_succ, hx]] at hL6
      have HL6 := Lib.hid hL6
      rw [ly_length] at hr e2 e4
      have HRun := Lib.hid hr
      have hq : ((i : Int) + 1) / 2 = (x2 : Int) := by omega
      have hq2 : ((i : Int) + 1).tdiv 2 = (x2 : Int) := by rw [Int.tdiv_eq_ediv_of_nonneg (by omega)]; exact hq
      have hw1 : IntKind.i64.wrap ((i : Int) + 1) = (i : Int) + 1 := by rw [IntKind.wrap_i64]; omega
      have hxb : x2 ≤ 16 := by omega
      have hwx : IntKind.i64.wrap (x2 : Int) = (x2 : Int) := by rw [IntKind.wrap_i64]; omega
      have hlt1 : w.heap.size + 3 < W5.heap.size := by omega
      have hlt2 : w.heap.size + 4 < W5.heap.size := by omega
      clear hA hx hr hL6 hll
      go_wp2_with fail
      apply via
      · intro hend
        go_region_law (refine stepRun ((W5.alloc (.cells #[.int .i64 x2] 3)).drew) (.tmp 37) (.tmp 41) (.slice (some ⟨b1, 0, none⟩) i c1) (.slice (some ⟨W5.heap.size, 0, none⟩) 1 1) (.slice (some ⟨g2, 0, none⟩) (i + 1) c2') w6 51 rfl rfl rfl (by simp [Act.eval, Act.put]) (by simp [Act.eval, Act.put]) HRun.out ?_)
        all_goals exact hend
      go_wp2_with fail
      go_roundg (n + 1 - (i + 1))
      case measure => omega
      case rel => exact ⟨i + 1, g, c', g2, c2', by omega, by omega, by go_num, HL6.out⟩
    · obtain rfl : i = n + 1 := by omega
      have k0 := HL.out.V0
      have k1 := HL.out.V1
      have l0 := HL.out.d0
      have l1 := HL.out.d1
      have m0 := HL.out.g0
      have m1 := HL.out.g1
      have p0 := HL.out.G0
      have p1 := HL.out.G1
      have f0 := HL.out.F0
      have f1 := HL.out.F1
      rw [lx_length] at p0
      rw [ly_length] at p1
      have hc0 := own_cap HL.out.o0
      have hc1 := own_cap HL.out.o1
      rw [lx_length] at hc0
      rw [ly_length] at hc1
      have HLL := Lib.hid HL.out
      clear HL
      have hne6 : ¬ (w.heap.size + 4 = w.heap.size + 3) := by omega
      have hne5 : ¬ (w.heap.size + 3 = w.heap.size + 4) := by omega
      go_wp2_with fail
      have hres := Lib.hid (show Try.f21.results = #[.cell 2 27, .tmp 3] by kernel_rfl)
      refine wp_region_noPanic ?_
      refine wp_region_held_drew (S := fun w' => w'.cell? ⟨w.heap.size + 4, 1, none⟩ = some (.slice (some ⟨w.heap.size + 3, 0, none⟩) 2 2)) (by kernel_rfl) ?_ (fun hHeld => ?_)
      · go_keep
      refine takeL 0 (v := ?xc1) rfl (by kernel_rfl) (by kernel_rfl) (by kernel_rfl) (fun _ _ _ h => h) (by assumption) (by rfl) ?yc1 ?_
      case yc1 => (intro w hSw; (try dsimp only at hSw); go_simp; (try with_reducible rfl))
      try simp only [Act.put, List.setIfInBounds_toArray, List.set_cons_zero, List.set_cons_succ]
      refine takeL 1 (v := ?xc2) rfl (by kernel_rfl) (by kernel_rfl) (by kernel_rfl) (fun _ _ _ h => h) (by assumption) (by rfl) ?yc2 ?_
      case yc2 => (intro w hSw; (try dsimp only at hSw); go_simp; (try with_reducible rfl))
      try simp only [Act.put, List.setIfInBounds_toArray, List.set_cons_zero, List.set_cons_succ]
      refine takeL 2 (v := ?xc3) rfl (by kernel_rfl) (by kernel_rfl) (by kernel_rfl) (fun _ _ _ h => h) (by assumption) (by rfl) ?yc3 ?_
      case yc3 => (intro w hSw; (try dsimp only at hSw); go_simp; (try with_reducible rfl))
      try simp only [Act.put, List.setIfInBounds_toArray, List.set_cons_zero, List.set_cons_succ]
      refine takeL 3 (v := ?xc4) rfl (by kernel_rfl) (by kernel_rfl) (by kernel_rfl) (fun _ _ _ h => h) (by assumption) (by rfl) ?yc4 ?_
      case yc4 => (intro w hSw; (try dsimp only at hSw); go_simp; (try with_reducible rfl))
      try simp only [Act.put, List.setIfInBounds_toArray, List.set_cons_zero, List.set_cons_succ]
      refine takeL 4 (v := ?xc5) rfl (by kernel_rfl) (by kernel_rfl) (by kernel_rfl) (fun _ _ _ h => h) (by assumption) (by rfl) ?yc5 ?_
      case yc5 => (intro w hSw; (try dsimp only at hSw); go_simp; (try with_reducible rfl))
      try simp only [Act.put, List.setIfInBounds_toArray, List.set_cons_zero, List.set_cons_succ]
      refine takeL 5 (v := ?xc6) rfl (by kernel_rfl) (by kernel_rfl) (by kernel_rfl) (fun _ _ _ h => h) (by assumption) (by rfl) ?yc6 ?_
      case yc6 => (intro w hSw; (try dsimp only at hSw); go_simp; (try with_reducible rfl))
      try simp only [Act.put, List.setIfInBounds_toArray, List.set_cons_zero, List.set_cons_succ]
      refine takeL 6 (v := ?xc7) rfl (by kernel_rfl) (by kernel_rfl) (by kernel_rfl) (fun _ _ _ h => h) (by assumption) (by rfl) ?yc7 ?_
      case yc7 => (intro w hSw; (try dsimp only at hSw); go_simp; (try with_reducible rfl))
      try simp only [Act.put, List.setIfInBounds_toArray, List.set_cons_zero, List.set_cons_succ]
      refine takeL 9 (v := ?xc8) rfl (by kernel_rfl) (by kernel_rfl) (by kernel_rfl) (fun _ _ _ h => h) (by assumption) (by rfl) ?yc8 ?_
      case yc8 => (intro w hSw; (try dsimp only at hSw); go_simp; (try with_reducible rfl))
      try simp only [Act.put, List.setIfInBounds_toArray, List.set_cons_zero, List.set_cons_succ]
      refine takeL 10 (v := ?xc9) rfl (by kernel_rfl) (by kernel_rfl) (by kernel_rfl) (fun _ _ _ h => h) (by assumption) (by rfl) ?yc9 ?_
      case yc9 => (intro w hSw; (try dsimp only at hSw); go_simp; (try with_reducible rfl))
      try simp only [Act.put, List.setIfInBounds_toArray, List.set_cons_zero, List.set_cons_succ]
      refine takeL 11 (v := ?xc10) rfl (by kernel_rfl) (by kernel_rfl) (by kernel_rfl) (fun _ _ _ h => h) (by assumption) (by rfl) ?yc10 ?_
      case yc10 => (intro w hSw; (try dsimp only at hSw); go_simp; (try with_reducible rfl))
      try simp only [Act.put, List.setIfInBounds_toArray, List.set_cons_zero, List.set_cons_succ]
      refine wpAnyH_ready (rs := [7, 12]) (by kernel_rfl) (by simp) ?_
      refine AllReadyH.cons rfl (fun K hK => ?_) (AllReadyH.cons rfl (fun K hK => ?_) AllReadyH.nil)
      · skip
        go_simp
        refine hK.out _ _ ?_ (fun hHeld => ?_)
        · (try dsimp only); go_keep
        clear hK K
        try simp only [Act.put, List.setIfInBounds_toArray, List.set_cons_zero, List.set_cons_succ]
        refine wpAnyH_ready (rs := [8, 12]) (by kernel_rfl) (by simp) ?_
        refine AllReadyH.cons rfl (fun K hK => ?_) (AllReadyH.cons rfl (fun K hK => ?_) AllReadyH.nil)
        · skip
          go_simp
          go_at_call 54
          refine Calls.mono (clipIn_any _ _ _ _ (by omega) (by omega)) ?_
          rintro e w' ⟨rfl, rfl⟩
          dsimp only
          refine hK.out _ _ ?_ (fun hHeld => ?_)
          · (try dsimp only); go_keep
          clear hK K
          try simp only [Act.put, List.setIfInBounds_toArray, List.set_cons_zero, List.set_cons_succ]
          refine wpAnyH_ready (rs := [12]) (by kernel_rfl) (by simp) ?_
          refine AllReadyH.cons rfl (fun K hK => ?_) AllReadyH.nil
          go_simp
          refine hK.out _ _ ?_ (fun hHeld => ?_)
          · (try dsimp only); go_keep
          clear hK K
          try simp only [Act.put, List.setIfInBounds_toArray, List.set_cons_zero, List.set_cons_succ]
          refine wpAnyH_ready (rs := [13]) (by kernel_rfl) (by simp) ?_
          refine AllReadyH.cons rfl (fun K hK => ?_) AllReadyH.nil
          go_simp
          go_at_call 54
          refine Calls.mono (clipIn_any _ _ _ _ (by omega) (by omega)) ?_
          rintro e w' ⟨rfl, rfl⟩
          dsimp only
          refine hK.out _ _ ?_ (fun hHeld => ?_)
          · (try dsimp only); go_keep
          clear hK K
          try simp only [Act.put, List.setIfInBounds_toArray, List.set_cons_zero, List.set_cons_succ]
          refine takeL 14 (v := ?xc11) rfl (by kernel_rfl) (by kernel_rfl) (by kernel_rfl) (fun _ _ _ h => h) (by assumption) (by rfl) ?yc11 ?_
          case yc11 => (intro w hSw; (try dsimp only at hSw); go_simp; (try with_reducible rfl))
          try simp only [Act.put, List.setIfInBounds_toArray, List.set_cons_zero, List.set_cons_succ]
          refine wpAnyH_ready (rs := [15]) (by kernel_rfl) (by simp) ?_
          refine AllReadyH.cons rfl (fun K hK => ?_) AllReadyH.nil
          go_simp
          refine hK.out _ _ ?_ (fun hHeld => ?_)
          · (try dsimp only); go_keep
          clear hK K
          try simp only [Act.put, List.setIfInBounds_toArray, List.set_cons_zero, List.set_cons_succ]
          refine takeL 16 (v := ?xc12) rfl (by kernel_rfl) (by kernel_rfl) (by kernel_rfl) (fun _ _ _ h => h) (by assumption) (by rfl) ?yc12 ?_
          case yc12 => (intro w hSw; (try dsimp only at hSw); go_simp; (try with_reducible rfl))
          try simp only [Act.put, List.setIfInBounds_toArray, List.set_cons_zero, List.set_cons_succ]
          refine wpAnyH_ready (rs := [17]) (by kernel_rfl) (by simp) ?_
          refine AllReadyH.cons rfl (fun K hK => ?_) AllReadyH.nil
          go_simp
          refine hK.out _ _ ?_ (fun hHeld => ?_)
          · (try dsimp only); go_keep
          clear hK K
          try simp only [Act.put, List.setIfInBounds_toArray, List.set_cons_zero, List.set_cons_succ]
          refine wpAnyH_done (by kernel_rfl) ?_ _
          refine NoPanic.normal ?_
          go_wp2_with fail
          refine bodyPost_ret (v := .tuple #[.agg #[.int .i64 ((n : Int) + 1), .slice (some ⟨w.heap.size + 3, 0, none⟩) 2 2], .bool true]) ?_ rfl ⟨_, 2, rfl, ?_⟩
          · simp [results, hres.out]
            go_simp
          · have hC := HLL.out.clip
            rw [lx_length, ly_length] at hC
            exact hC
        · skip
          go_simp
          refine hK.out _ _ ?_ (fun hHeld => ?_)
          · (try dsimp only); go_keep
          clear hK K
          try simp only [Act.put, List.setIfInBounds_toArray, List.set_cons_zero, List.set_cons_succ]
          refine wpAnyH_ready (rs := [8]) (by kernel_rfl) (by simp) ?_
          refine AllReadyH.cons rfl (fun K hK => ?_) AllReadyH.nil
          go_simp
          go_at_call 54
          refine Calls.mono (clipIn_any _ _ _ _ (by omega) (by omega)) ?_
          rintro e w' ⟨rfl, rfl⟩
          dsimp only
          refine hK.out _ _ ?_ (fun hHeld => ?_)
          · (try dsimp only); go_keep
          clear hK K
          try simp only [Act.put, List.setIfInBounds_toArray, List.set_cons_zero, List.set_cons_succ]
          refine wpAnyH_ready (rs := [13]) (by kernel_rfl) (by simp) ?_
          refine AllReadyH.cons rfl (fun K hK => ?_) AllReadyH.nil
          go_simp
          go_at_call 54
          refine Calls.mono (clipIn_any _ _ _ _ (by omega) (by omega)) ?_
          rintro e w' ⟨rfl, rfl⟩
          dsimp only
          refine hK.out _ _ ?_ (fun hHeld => ?_)
          · (try dsimp only); go_keep
          clear hK K
          try simp only [Act.put, List.setIfInBounds_toArray, List.set_cons_zero, List.set_cons_succ]
          refine takeL 14 (v := ?xc13) rfl (by kernel_rfl) (by kernel_rfl) (by kernel_rfl) (fun _ _ _ h => h) (by assumption) (by rfl) ?yc13 ?_
          case yc13 => (intro w hSw; (try dsimp only at hSw); go_simp; (try with_reducible rfl))
          try simp only [Act.put, List.setIfInBounds_toArray, List.set_cons_zero, List.set_cons_succ]
          refine wpAnyH_ready (rs := [15]) (by kernel_rfl) (by simp) ?_
          refine AllReadyH.cons rfl (fun K hK => ?_) AllReadyH.nil
          go_simp
          refine hK.out _ _ ?_ (fun hHeld => ?_)
          · (try dsimp only); go_keep
          clear hK K
          try simp only [Act.put, List.setIfInBounds_toArray, List.set_cons_zero, List.set_cons_succ]
          refine takeL 16 (v := ?xc14) rfl (by kernel_rfl) (by kernel_rfl) (by kernel_rfl) (fun _ _ _ h => h) (by assumption) (by rfl) ?yc14 ?_
          case yc14 => (intro w hSw; (try dsimp only at hSw); go_simp; (try with_reducible rfl))
          try simp only [Act.put, List.setIfInBounds_toArray, List.set_cons_zero, List.set_cons_succ]
          refine wpAnyH_ready (rs := [17]) (by kernel_rfl) (by simp) ?_
          refine AllReadyH.cons rfl (fun K hK => ?_) AllReadyH.nil
          go_simp
          refine hK.out _ _ ?_ (fun hHeld => ?_)
          · (try dsimp only); go_keep
          clear hK K
          try simp only [Act.put, List.setIfInBounds_toArray, List.set_cons_zero, List.set_cons_succ]
          refine wpAnyH_done (by kernel_rfl) ?_ _
          refine NoPanic.normal ?_
          go_wp2_with fail
          refine bodyPost_ret (v := .tuple #[.agg #[.int .i64 ((n : Int) + 1), .slice (some ⟨w.heap.size + 3, 0, none⟩) 2 2], .bool true]) ?_ rfl ⟨_, 2, rfl, ?_⟩
          · simp [results, hres.out]
            go_simp
          · have hC := HLL.out.clip
            rw [lx_length, ly_length] at hC
            exact hC
      · skip
        go_simp
        refine hK.out _ _ ?_ (fun hHeld => ?_)
        · (try dsimp only); go_keep
        clear hK K
        try simp only [Act.put, List.setIfInBounds_toArray, List.set_cons_zero, List.set_cons_succ]
        refine wpAnyH_ready (rs := [7]) (by kernel_rfl) (by simp) ?_
        refine AllReadyH.cons rfl (fun K hK => ?_) AllReadyH.nil
        go_simp
        refine hK.out _ _ ?_ (fun hHeld => ?_)
        · (try dsimp only); go_keep
        clear hK K
        try simp only [Act.put, List.setIfInBounds_toArray, List.set_cons_zero, List.set_cons_succ]
        refine wpAnyH_ready (rs := [8]) (by kernel_rfl) (by simp) ?_
        refine AllReadyH.cons rfl (fun K hK => ?_) AllReadyH.nil
        go_simp
        go_at_call 54
        refine Calls.mono (clipIn_any _ _ _ _ (by omega) (by omega)) ?_
        rintro e w' ⟨rfl, rfl⟩
        dsimp only
        refine hK.out _ _ ?_ (fun hHeld => ?_)
        · (try dsimp only); go_keep
        clear hK K
        try simp only [Act.put, List.setIfInBounds_toArray, List.set_cons_zero, List.set_cons_succ]
        refine wpAnyH_ready (rs := [13]) (by kernel_rfl) (by simp) ?_
        refine AllReadyH.cons rfl (fun K hK => ?_) AllReadyH.nil
        go_simp
        go_at_call 54
        refine Calls.mono (clipIn_any _ _ _ _ (by omega) (by omega)) ?_
        rintro e w' ⟨rfl, rfl⟩
        dsimp only
        refine hK.out _ _ ?_ (fun hHeld => ?_)
        · (try dsimp only); go_keep
        clear hK K
        try simp only [Act.put, List.setIfInBounds_toArray, List.set_cons_zero, List.set_cons_succ]
        refine takeL 14 (v := ?xc15) rfl (by kernel_rfl) (by kernel_rfl) (by kernel_rfl) (fun _ _ _ h => h) (by assumption) (by rfl) ?yc15 ?_
        case yc15 => (intro w hSw; (try dsimp only at hSw); go_simp; (try with_reducible rfl))
        try simp only [Act.put, List.setIfInBounds_toArray, List.set_cons_zero, List.set_cons_succ]
        refine wpAnyH_ready (rs := [15]) (by kernel_rfl) (by simp) ?_
        refine AllReadyH.cons rfl (fun K hK => ?_) AllReadyH.nil
        go_simp
        refine hK.out _ _ ?_ (fun hHeld => ?_)
        · (try dsimp only); go_keep
        clear hK K
        try simp only [Act.put, List.setIfInBounds_toArray, List.set_cons_zero, List.set_cons_succ]
        refine takeL 16 (v := ?xc16) rfl (by kernel_rfl) (by kernel_rfl) (by kernel_rfl) (fun _ _ _ h => h) (by assumption) (by rfl) ?yc16 ?_
        case yc16 => (intro w hSw; (try dsimp only at hSw); go_simp; (try with_reducible rfl))
        try simp only [Act.put, List.setIfInBounds_toArray, List.set_cons_zero, List.set_cons_succ]
        refine wpAnyH_ready (rs := [17]) (by kernel_rfl) (by simp) ?_
        refine AllReadyH.cons rfl (fun K hK => ?_) AllReadyH.nil
        go_simp
        refine hK.out _ _ ?_ (fun hHeld => ?_)
        · (try dsimp only); go_keep
        clear hK K
        try simp only [Act.put, List.setIfInBounds_toArray, List.set_cons_zero, List.set_cons_succ]
        refine wpAnyH_done (by kernel_rfl) ?_ _
        refine NoPanic.normal ?_
        go_wp2_with fail
        refine bodyPost_ret (v := .tuple #[.agg #[.int .i64 ((n : Int) + 1), .slice (some ⟨w.heap.size + 3, 0, none⟩) 2 2], .bool true]) ?_ rfl ⟨_, 2, rfl, ?_⟩
        · simp [results, hres.out]
          go_simp
        · have hC := HLL.out.clip
          rw [lx_length, ly_length] at hC
          exact hC

end Go.Proofs.Ytlodhgkecpjieaa
