/-
  Plan3. By a program (wip/tools/mk.py) out of snippets.
-/
import Derived.Test.YtjiplangdkpehaaPlan2
namespace Go.Proofs.Ytjiplangdkpehaa
open Go.RowKit

set_option maxHeartbeats 3200000 in
theorem implPlanOf_in (n : Nat) (w : World) (hn1 : 1 ≤ n) (hn : n ≤ 6) :
    Calls Try.prog 20 #[.int .i64 n] w fun e w' => ∃ A c, e = .returned (.slice A (planN n) c) ∧ planN n ≤ c ∧ NewI w' w.heap.size A (planN n * 2) (planL n) ∧ Below w.heap.size w w' := by
  have HI := Lib.hid (show Calls Try.prog 43 #[.int .i64 n, .int .i64 1, .int .i64 6] w fun e w' => e = .returned (.bool true) ∧ w = w' by
    have := within_any n 1 6 w
    rwa [inR_true (by omega)] at this)
  by_cases h1 : n = 1
  · subst h1
    have hcast : ((1 : Nat) : Int) = 1 := rfl
    go_enter Try.func20, Try.ntmps20
    go_wp2_with fail
    refine HI.out.mono ?_
    rintro e w' ⟨rfl, rfl⟩
    go_wp2_with fail
    go_ret
    exact ⟨none, 0, rfl, Nat.le_refl _, ⟨rfl, fun h => absurd h (by decide)⟩, Below.refl _ _⟩
  · by_cases h2 : n = 2
    · subst h2
      have HN := Lib.hid (show NewI (w.alloc (.cells #[.int .i64 0, .int .i64 1] 44)) w.heap.size (some ⟨w.heap.size, 0, none⟩) (planN 2 * 2) (planL 2) from NewI_litP w [0, 1] 1 #[.int .i64 0, .int .i64 1] rfl rfl)
      have HB := Lib.hid ((Below.refl w.heap.size w).alloc (Nat.le_refl _) (.cells #[.int .i64 0, .int .i64 1] 44))
      have hcast : ((2 : Nat) : Int) = 2 := rfl
      go_enter Try.func20, Try.ntmps20
      go_wp2_with fail
      refine HI.out.mono ?_
      rintro e w' ⟨rfl, rfl⟩
      go_wp2_with fail
      go_ret
      exact ⟨_, _, rfl, Nat.le_refl _, HN.out, HB.out⟩
    · by_cases h3 : n = 3
      · subst h3
        have HN := Lib.hid (show NewI (w.alloc (.cells #[.int .i64 0, .int .i64 1, .int .i64 0, .int .i64 2, .int .i64 0, .int .i64 1] 44)) w.heap.size (some ⟨w.heap.size, 0, none⟩) (planN 3 * 2) (planL 3) from NewI_litP w [0, 1, 0, 2, 0, 1] 3 #[.int .i64 0, .int .i64 1, .int .i64 0, .int .i64 2, .int .i64 0, .int .i64 1] rfl rfl)
        have HB := Lib.hid ((Below.refl w.heap.size w).alloc (Nat.le_refl _) (.cells #[.int .i64 0, .int .i64 1, .int .i64 0, .int .i64 2, .int .i64 0, .int .i64 1] 44))
        have hcast : ((3 : Nat) : Int) = 3 := rfl
        go_enter Try.func20, Try.ntmps20
        go_wp2_with fail
        refine HI.out.mono ?_
        rintro e w' ⟨rfl, rfl⟩
        go_wp2_with fail
        go_ret
        exact ⟨_, _, rfl, Nat.le_refl _, HN.out, HB.out⟩
      · obtain ⟨q, rfl⟩ : ∃ q, n = q + 4 := ⟨n - 4, by omega⟩
        have o0 := own_emptyP w w.heap.size (Nat.le_refl _)
        have hb0 : Below w.heap.size w (w.alloc (.cells #[] 44)) := (Below.refl _ _).alloc (Nat.le_refl _) _
        have e1 : (((q + 4 : Nat) : Int) == 1) = false := by simp; omega
        have e2 : (((q + 4 : Nat) : Int) == 2) = false := by simp; omega
        have e3 : (((q + 4 : Nat) : Int) == 3) = false := by simp; omega
        have HP := Lib.hid (show planL (q + 4) = outerL q ++ [0, 1, 2, 3, 0, 2, 1, 3] ++ outerL q by unfold planL; rw [if_neg h2, if_neg h3, if_neg (by omega)]; rfl)
        have HPN := Lib.hid (show planN (q + 4) = q + 4 + q by unfold planN; rw [if_neg h2, if_neg h3, if_neg (by omega)]; omega)
        have hcs : ((q + 4 : Nat) : Int) = (q : Int) + 4 := by omega
        rw [hcs] at HI e1 e2 e3 ⊢
        clear h1 h2 h3 hcs
        go_enter Try.func20, Try.ntmps20
        go_wp2_with fail
        refine HI.out.mono ?_
        rintro e w' ⟨rfl, rfl⟩
        go_wp2_with fail
        go_loopg [3, 4] q (fun gg s3 s4 wr => ∃ (p g cc : Nat), p ≤ q ∧ q - p ≤ gg ∧ s4 = .int .i64 ((p : Int) + 4) ∧ s3 = .slice (some ⟨g, 0, none⟩) p cc ∧ wr.ownsRow w.heap.size 44 2 (.slice (some ⟨g, 0, none⟩) p cc) p ((outerL p).map (Value.int .i64)) ∧ Below w.heap.size w wr)
        case atStart => exact ⟨0, w.heap.size, 0, by omega, by omega, rfl, rfl, o0, hb0⟩
        case round =>
          clear o0 hb0
          obtain ⟨p, g, cc, hp, hg, rfl, rfl, hown, hbw⟩ := hrel
          have HOw := Lib.hid hown
          have HBw := Lib.hid hbw
          have hsz := hbw.size
          clear hown hbw
          by_cases hlt : p < q
          · have hlt' : (p : Int) + 4 < (q : Int) + 4 := by omega
            have HS := Lib.hid (outerL_succ p)
            go_wp2_with (at_builtin; refine appLP wr w.heap.size _ p _ (outerL p) [0, (p : Int) + 4] 1 _ rfl rfl (by omega) rfl _ _ rfl rfl HOw.out rfl (by omega) hsz ?_; intro g2 c2 w4 ho4 hb4)
            go_roundg (q - (p + 1))
            case measure => omega
            case rel => exact ⟨p + 1, g2, c2, by omega, by omega, by first | (go_num; done) | (congr 1; omega), rfl, by rw [HS.out]; exact ho4, HBw.out.trans hb4⟩
          · obtain rfl : p = q := by omega
            have hlt' : ¬ (p : Int) + 4 < (p : Int) + 4 := by omega
            have s1 := ((NewI.of_ownP HOw.out).si.alloc (.cells #[.int .i64 0, .int .i64 1, .int .i64 2, .int .i64 3, .int .i64 0, .int .i64 2, .int .i64 1, .int .i64 3] 44)).alloc (.cells #[.slice (some ⟨g, 0, none⟩) p cc, .slice (some ⟨wr.heap.size, 0, none⟩) 4 4, .slice (some ⟨g, 0, none⟩) p cc] 25)
            have s2 := (NewI_litP wr [0, 1, 2, 3, 0, 2, 1, 3] 4 #[.int .i64 0, .int .i64 1, .int .i64 2, .int .i64 3, .int .i64 0, .int .i64 2, .int .i64 1, .int .i64 3] rfl rfl).si.alloc (.cells #[.slice (some ⟨g, 0, none⟩) p cc, .slice (some ⟨wr.heap.size, 0, none⟩) 4 4, .slice (some ⟨g, 0, none⟩) p cc] 25)
            obtain ⟨W, hW⟩ : ∃ W, W = (wr.alloc (.cells #[.int .i64 0, .int .i64 1, .int .i64 2, .int .i64 3, .int .i64 0, .int .i64 2, .int .i64 1, .int .i64 3] 44)).alloc (.cells #[.slice (some ⟨g, 0, none⟩) p cc, .slice (some ⟨wr.heap.size, 0, none⟩) 4 4, .slice (some ⟨g, 0, none⟩) p cc] 25) := ⟨_, rfl⟩
            have c0 : W.cell? ⟨wr.heap.size + 1, 0, none⟩ = some (.slice (some ⟨g, 0, none⟩) p cc) := by rw [hW]; simp [World.cell?_alloc_at]
            have c1 : W.cell? ⟨wr.heap.size + 1, 1, none⟩ = some (.slice (some ⟨wr.heap.size, 0, none⟩) 4 4) := by rw [hW]; simp [World.cell?_alloc_at]
            have c2 : W.cell? ⟨wr.heap.size + 1, 2, none⟩ = some (.slice (some ⟨g, 0, none⟩) p cc) := by rw [hW]; simp [World.cell?_alloc_at]
            have HBW := Lib.hid (show Below w.heap.size w W by rw [hW]; exact (HBw.out.alloc hsz _).alloc (by simp; omega) _)
            rw [← hW] at s1 s2
            have HC := Lib.hid (concat3_any (wr.heap.size + 1) p cc 4 4 p cc ⟨g, 0, none⟩ ⟨wr.heap.size, 0, none⟩ ⟨g, 0, none⟩ _ _ _ W (by omega) (by omega) (by omega) (by omega) c0 c1 c2 s1 s2 s1)
            clear c0 c1 c2 s1 s2
            go_wp2_with fail
            rw [← hW]
            clear hW
            refine HC.out.mono ?_
            rintro e w2 ⟨A, c, rfl, hc, hN, hb⟩
            have HN := Lib.hid (hN.mono HBW.out.size)
            have HB := Lib.hid (bstep HBW.out hb)
            have hcl := Lib.hid (fun w => clipP_any A (p + 4 + p) c w hc (by omega))
            clear hN hb HC
            go_wp2_with fail
            refine (hcl.out _).mono ?_
            rintro e w' ⟨rfl, rfl⟩
            go_wp2_with fail
            go_ret
            rw [HPN.out, HP.out]
            exact ⟨A, _, rfl, Nat.le_refl _, HN.out, HB.out⟩

def PnPost (w : World) (m : Nat) (zs : List Int) (e : Ending) (w' : World) : Prop := ∃ A c, e = .returned (.slice A m c) ∧ m ≤ c ∧ NewI w' w.heap.size A (m * 2) zs ∧ Below w.heap.size w w'
theorem PnPost.nil (w : World) (e : Ending) (he : e = .returned (.slice none 0 0)) : PnPost w 0 [] e w := ⟨none, 0, he, Nat.le_refl _, ⟨rfl, fun h => absurd h (by simp)⟩, Below.refl _ _⟩
def plN (n : Int) : Nat := if inR n 1 6 then planN n.toNat else 0
def plL (n : Int) : List Int := if inR n 1 6 then planL n.toNat else []
theorem implPlanOf_any (n : Int) (w : World) :
    Calls Try.prog 20 #[.int .i64 n] w fun e w' => ∃ A c, e = .returned (.slice A (plN n) c) ∧ plN n ≤ c ∧ NewI w' w.heap.size A (plN n * 2) (plL n) ∧ Below w.heap.size w w' := by
  by_cases h : 1 ≤ n ∧ n ≤ 6
  · obtain ⟨k, rfl⟩ : ∃ k : Nat, n = k := ⟨n.toNat, by omega⟩
    rw [plN, plL, if_pos (inR_true h), if_pos (inR_true h), Int.toNat_natCast]
    exact implPlanOf_in k w (by omega) (by omega)
  · have HI := Lib.hid (show Calls Try.prog 43 #[.int .i64 n, .int .i64 1, .int .i64 6] w fun e w' => e = .returned (.bool false) ∧ w = w' by
      have := within_any n 1 6 w
      rwa [inR_false h] at this)
    have hf := inR_false h
    rw [plN, plL, hf]
    clear hf h
    show Calls _ _ _ w (PnPost w 0 [])
    go_enter Try.func20, Try.ntmps20
    go_wp2_with fail
    refine HI.out.mono ?_
    rintro e w' ⟨rfl, rfl⟩
    go_wp2_with fail
    go_ret
    exact PnPost.nil _ _ rfl
theorem specPlanOf_any (n : Int) (w : World) :
    Calls Try.prog 19 #[.int .i64 n] w fun e w' => ∃ A c, e = .returned (.slice A (plN n) c) ∧ plN n ≤ c ∧ NewI w' w.heap.size A (plN n * 2) (plL n) ∧ Below w.heap.size w w' := by
  by_cases h : 1 ≤ n ∧ n ≤ 6
  · obtain ⟨k, rfl⟩ : ∃ k : Nat, n = k := ⟨n.toNat, by omega⟩
    rw [plN, plL, if_pos (inR_true h), if_pos (inR_true h), Int.toNat_natCast]
    exact specPlanOf_in k w (by omega) (by omega)
  · have HI := Lib.hid (show Calls Try.prog 49 #[.int .i64 n, .int .i64 1, .int .i64 6] w fun e w' => e = .returned (.bool false) ∧ w = w' by
      have := inRange_any n 1 6 w
      rwa [inR_false h] at this)
    have hf := inR_false h
    rw [plN, plL, hf]
    clear hf h
    show Calls _ _ _ w (PnPost w 0 [])
    go_enter Try.func19, Try.ntmps19
    go_wp2_with fail
    refine HI.out.mono ?_
    rintro e w' ⟨rfl, rfl⟩
    go_wp2_with fail
    go_ret
    exact PnPost.nil _ _ rfl
theorem plN_le (n : Int) : plN n ≤ 13 := by
  unfold plN
  split
  · rename_i h
    have := inR_iff.1 h
    have hm : n.toNat ≤ 6 := by omega
    generalize n.toNat = m at hm
    unfold planN
    split
    · omega
    · split
      · omega
      · split <;> omega
  · omega

end Go.Proofs.Ytjiplangdkpehaa
