/-
  Fill. By a program (wip/tools/mk.py) out of snippets.
-/
import Derived.Test.YtjiplangdkpehaaFwM
import Derived.Test.YtjiplangdkpehaaKnI
import Derived.Test.YtjiplangdkpehaaPlan2
import Derived.Test.YtjiplangdkpehaaReader
namespace Go.Proofs.Ytjiplangdkpehaa
open Go.RowKit

theorem stepK_two (ks : List Nat) (a b : Nat) : bhTo ks [(a : Int), (b : Int)] 1 = stepK ks a b := by simp [bhTo, iat]
theorem cOk_two {n a b : Nat} (ha : a < n) (hb : b < n) (hab : a ≠ b) : cOk ((n : Int) - 1) [(a : Int), (b : Int)] 1 = true := by
  refine cOk_of fun i hi => ?_
  obtain rfl : i = 0 := by omega
  have h1 : inR (a : Int) 0 ((n : Int) - 1) = true := inR_true (by omega)
  have h2 : inR (b : Int) 0 ((n : Int) - 1) = true := inR_true (by omega)
  have h3 : ((a : Int) == (b : Int)) = false := by simp; omega
  simp [pOk, iat, h1, h2, h3]
theorem fillM_none {n m : Nat} {ks : List Nat} (h : ∀ a, a < n → ∀ b, b < n → a < b → fillM n m (stepK ks a b) = none) : fillM n (m + 1) ks = none := by
  unfold fillM
  refine fs_none fun a ha => fs_none fun b hb => ?_
  split
  · rename_i hab
    rw [h a ha b hb hab]
    rfl
  · rfl
theorem fillM_some {n m a b : Nat} {ks : List Nat} {r : List Int} (ha : a < n) (hb : b < n) (hab : a < b) (h1 : ∀ a', a' < a → ∀ b', b' < n → a' < b' → fillM n m (stepK ks a' b') = none) (h2 : ∀ b', b' < b → a < b' → fillM n m (stepK ks a b') = none) (h : fillM n m (stepK ks a b) = some r) : fillM n (m + 1) ks = some ((a : Int) :: (b : Int) :: r) := by
  unfold fillM
  refine fs_some ha (fs_some hb ?_ fun b' hb' => ?_) fun a' ha' => fs_none fun b' hb' => ?_
  · rw [if_pos hab, h]; rfl
  · split
    · rename_i hlt
      rw [h2 b' hb' hlt]; rfl
    · rfl
  · split
    · rename_i hlt
      rw [h1 a' ha' b' hb' hlt]; rfl
    · rfl
/-- The two cells of a pair that lies alone in a block. -/
theorem SI_pair {w : World} {B : Nat} {x y : Int} (h0 : w.cell? ⟨B, 0, none⟩ = some (.int .i64 x)) (h1 : w.cell? ⟨B, 1, none⟩ = some (.int .i64 y)) : SI w (some ⟨B, 0, none⟩) (1 * 2) [x, y] := by
  refine ⟨rfl, fun _ => ⟨B, 0, rfl, fun i hi => ?_⟩⟩
  rw [Nat.zero_add]
  rcases (show i = 0 ∨ i = 1 by omega) with rfl | rfl
  · exact h0
  · exact h1
theorem hB4sz (w w' : World) (h : Below w.heap.size w w') : w.heap.size ≤ w'.heap.size := h.size

def FillPost (n m : Nat) (ks : List Nat) (w : World) (e : Ending) (w' : World) : Prop :=
  ∃ A' k c', e = .returned (.tuple #[.slice A' k c', .bool (fillM n m ks).isSome]) ∧ (∀ r, fillM n m ks = some r → k = m ∧ m ≤ c' ∧ (∃ ad, A' = some ad) ∧ NewI w' w.heap.size A' (m * 2) r) ∧ Below w.heap.size w w'
set_option maxRecDepth 20000 in
set_option maxHeartbeats 3200000 in
theorem fill_any (n : Nat) (hn1 : 1 ≤ n) (hn : n ≤ 4) : ∀ (m : Nat), m ≤ 20 → ∀ (ks : List Nat) (A : Option Addr) (c : Nat) (w : World), ks.length = n → Small n ks → SI w A n (toI ks) →
    Calls Try.prog 59 #[.slice A n c, .int .i64 m] w fun e w' => FillPost n m ks w e w' := by
  intro m
  induction m with
  | zero =>
    intro _ ks A c w hl hs ha
    have HF := Lib.hid (full_any n c A ks (w.alloc (.cells #[] 44)) hn1 (by omega) (ha.alloc _))
    have HB := Lib.hid (show Below w.heap.size w (w.alloc (.cells #[] 44)) from (Below.refl _ _).alloc (Nat.le_refl _) _)
    have HS := Lib.hid (show (fillM n 0 ks).isSome = fullK n ks by unfold fillM; split <;> simp_all)
    have HR := Lib.hid (show ∀ r, fillM n 0 ks = some r → r = [] by intro r; unfold fillM; split <;> simp_all)
    have e0 : (((0 : Nat) : Int) == 0) = true := rfl
    clear ha hl hs
    go_enter Try.func59, Try.ntmps59
    go_wp2_with fail
    refine HF.out.mono ?_
    rintro e w1 ⟨rfl, b1⟩
    have B1 := Lib.hid (HB.out.trans (b1.mono (by simp)))
    clear b1
    go_wp2_with fail
    go_ret2
    exact ⟨some ⟨w.heap.size, 0, none⟩, 0, 0, by rw [HS.out]; rfl, fun r hr => ⟨rfl, Nat.le_refl _, ⟨_, rfl⟩, by rw [HR.out r hr]; exact ⟨rfl, fun h => absurd h (by simp)⟩⟩, B1.out⟩
  | succ m ih =>
    intro hm ks A c w hl hs ha
    obtain ⟨M, hM⟩ : ∃ M, M = m + 1 := ⟨_, rfl⟩
    have HM := Lib.hid hM
    have hsub : (M : Int) - 1 = (m : Int) := by omega
    have IH := Lib.hid (fun ks A c w h1 h2 h3 => ih (by omega) ks A c w h1 h2 h3)
    rw [← hM]
    have e0 : ((M : Int) == 0) = false := by simp; omega
    have hMb : M ≤ 20 := by omega
    have HS := Lib.hid hs
    have HL := Lib.hid hl
    have HA := Lib.hid ha
    clear hM ha hl hs ih hm
    go_enter Try.func59, Try.ntmps59
    go_wp2_with fail
    go_loopg [18] n (fun gg s18 wr => ∃ a : Nat, a ≤ n ∧ n - a ≤ gg ∧ s18 = .int .i64 a ∧ Aside (∀ a', a' < a → ∀ b', b' < n → a' < b' → fillM n m (stepK ks a' b') = none) ∧ Below w.heap.size w wr)
    case atStart => exact ⟨0, by omega, by omega, rfl, fun a' h => absurd h (by omega), Below.refl _ _⟩
    case round =>
      obtain ⟨a, hal, hg, rfl, HA1, hbw⟩ := hrel
      by_cases hlt : a < n
      · have HBw := Lib.hid hbw
        clear hbw
        go_wp2_with fail
        go_loopg [7] n (fun g2 s7 w2 => ∃ b : Nat, b ≤ n ∧ a < b ∧ n - b ≤ g2 ∧ s7 = .int .i64 b ∧ Aside (∀ b', b' < b → a < b' → fillM n m (stepK ks a b') = none) ∧ Below w.heap.size w w2)
        case atStart => exact ⟨a + 1, by omega, by omega, by omega, by go_num, fun b' h1 h2 => absurd h2 (by omega), HBw.out⟩
        case round =>
          clear HBw
          rename_i w0
          obtain ⟨b, hbl, hab, hg2, rfl, HA2, hb2⟩ := hrel
          obtain ⟨w2, rfl⟩ : ∃ x, x = wr := ⟨_, rfl⟩
          by_cases hlb : b < n
          · have HBw := Lib.hid hb2
            clear hb2
            go_wp2_with fail
            obtain ⟨W, hW⟩ : ∃ W, W = (w2.alloc (.cells #[.int .i64 (a : Int), .int .i64 (b : Int)] 44)).alloc (.cells #[.int .i64 (a : Int), .int .i64 (b : Int)] 44) := ⟨_, rfl⟩
            have hB : Below w2.heap.size w2 W := by rw [hW]; exact ((Below.refl _ _).alloc (Nat.le_refl _) _).alloc (by simp) _
            have hz : W.heap.size = w2.heap.size + 2 := by rw [hW]; simp
            have p0 : W.cell? ⟨w2.heap.size, 0, none⟩ = some (.int .i64 (a : Int)) := by rw [hW]; simp [World.cell?_alloc_at, World.cell?_alloc_past]
            have p1 : W.cell? ⟨w2.heap.size, 1, none⟩ = some (.int .i64 (b : Int)) := by rw [hW]; simp [World.cell?_alloc_at, World.cell?_alloc_past]
            have q0 : W.cell? ⟨w2.heap.size + 1, 0, none⟩ = some (.int .i64 (a : Int)) := by rw [hW]; simp [World.cell?_alloc_at, World.cell?_alloc_past]
            have q1 : W.cell? ⟨w2.heap.size + 1, 1, none⟩ = some (.int .i64 (b : Int)) := by rw [hW]; simp [World.cell?_alloc_at, World.cell?_alloc_past]
            have hBW := bstep HBw.out hB
            have HC := Lib.hid (behind_any n 1 1 c A (some ⟨w2.heap.size + 1, 0, none⟩) ks [(a : Int), (b : Int)] W hn1 (by omega) (by omega) HS.out HL.out (cOk_two hlt hlb (by omega)) (HA.out.below hBW (Nat.le_refl _)) (SI_pair q0 q1))
            rw [stepK_two] at HC
            have HBW := Lib.hid hBW
            have hlt2 : w2.heap.size < W.heap.size := by omega
            have hsm := Lib.hid (stepK_small HS.out a b (by rw [HL.out]; exact hlt) (by rw [HL.out]; exact hlb))
            have hln := Lib.hid (show (stepK ks a b).length = n by rw [stepK_length]; exact HL.out)
            rw [← hW]
            clear q0 q1 hB hBW hW HBw
            refine HC.out.mono ?_
            rintro e w3 ⟨A3, c3, rfl, hN3, b3⟩
            have H3 := Lib.hid (IH.out (stepK ks a b) A3 c3 w3 hln.out hsm.out hN3.si)
            replace p0 := (b3.cell (p := ⟨w2.heap.size, 0, none⟩) hlt2).trans p0
            replace p1 := (b3.cell (p := ⟨w2.heap.size, 1, none⟩) hlt2).trans p1
            have hlt3 : w2.heap.size < w3.heap.size := Nat.lt_of_lt_of_le hlt2 b3.size
            have HB3 := Lib.hid (bstep HBW.out b3)
            clear hN3 b3 HC hlt2 hz
            go_wp2_with fail
            refine H3.out.mono ?_
            rintro e w4 ⟨A4, k4, c4, rfl, hr4, b4⟩
            replace p0 := (b4.cell (p := ⟨w2.heap.size, 0, none⟩) hlt3).trans p0
            replace p1 := (b4.cell (p := ⟨w2.heap.size, 1, none⟩) hlt3).trans p1
            have HB4 := Lib.hid (bstep HB3.out b4)
            have HR4 := Lib.hid hr4
            clear b4 hr4 H3 hlt3
            cases hf : fillM n m (stepK ks a b) with
            | none =>
              have HF := Lib.hid hf
              clear hf
              go_wp2_with fail
              go_roundg (n - (b + 1))
              case measure => omega
              case rel =>
                refine ⟨b + 1, by omega, by omega, by omega, by go_num, (show Aside _ from fun b' h1 h2 => ?_), HB4.out⟩
                by_cases e : b' = b
                · subst e; exact HF.out
                · exact HA2.out b' (by omega) h2
            | some r =>
              obtain ⟨rfl, hc4, ⟨ad, rfl⟩, hN4⟩ := HR4.out r hf
              have HF := Lib.hid (fillM_some hlt hlb hab HA1.out HA2.out hf)
              have hl4 := hB4sz w w4 HB4.out
              have HN4 := Lib.hid (hN4.si.alloc (.cells #[.int .i64 (a : Int), .int .i64 (b : Int)] 44))
              have HO := Lib.hid (show (w4.alloc (.cells #[.int .i64 (a : Int), .int .i64 (b : Int)] 44)).ownsRow w.heap.size 44 2 (.slice (some ⟨w4.heap.size, 0, none⟩) 1 1) 1 (([(a : Int), (b : Int)]).map (Value.int .i64)) from World.ownsRow_lit w4 #[.int .i64 (a : Int), .int .i64 (b : Int)] 1 hl4 (by unfold maxLen; omega) rfl)
              have HB5 := Lib.hid (show Below w.heap.size w (w4.alloc (.cells #[.int .i64 (a : Int), .int .i64 (b : Int)] 44)) from HB4.out.alloc hl4 _)
              have hM20 : k4 ≤ 20 := by omega
              clear hf hN4 HR4
              go_wp2_with (at_builtin; refine appAllP _ w.heap.size _ 1 _ [(a : Int), (b : Int)] ad k4 c4 r rfl _ _ rfl rfl HO.out rfl HN4.out (by omega) (by simp; omega) ?_; intro A6 c6 w6 ho6 hb6 hg6; have HO6 := Lib.hid ho6; have HB6 := Lib.hid (HB5.out.trans hb6); clear ho6 hb6 hg6)
              go_ret2
              rw [FillPost, HM.out]
              have hc6 := own_cap HO6.out
              obtain ⟨g6, e6, _⟩ := own_form HO6.out (by omega)
              refine ⟨A6, 1 + k4, c6, by rw [HF.out]; rfl, fun r' hr' => ?_, HB6.out⟩
              rw [HF.out] at hr'
              cases hr'
              rw [Nat.add_comm 1 k4] at HO6
              exact ⟨by omega, by omega, ⟨_, e6⟩, NewI.of_ownP HO6.out⟩
          · obtain rfl : b = n := by omega
            go_wp2_with fail
            go_roundg (b - (a + 1))
            case measure => omega
            case rel =>
              refine ⟨a + 1, by omega, by omega, by go_num, (show Aside _ from fun a' h1 b' h2 h3 => ?_), hb2⟩
              by_cases e : a' = a
              · subst e; exact HA2.out b' h2 h3
              · exact HA1.out a' (by omega) b' h2 h3
      · obtain rfl : a = n := by omega
        have HBw := Lib.hid hbw
        have HN := Lib.hid (fillM_none (m := m) (ks := ks) fun a ha b hb hab => HA1.out a ha b hb hab)
        clear hbw
        go_wp2_with fail
        go_ret2
        rw [FillPost, HM.out]
        exact ⟨none, 0, 0, by rw [HN.out]; rfl, fun r hr => (by rw [HN.out] at hr; cases hr), HBw.out⟩

theorem planN_le' (n : Nat) (hn : n ≤ 6) : planN n ≤ 13 := by
  unfold planN
  split <;> try split <;> try split
  all_goals omega
theorem kn0_len (n : Nat) : (kn0 n).length = n := by simp [kn0]
set_option maxRecDepth 20000 in
set_option maxHeartbeats 1600000 in
theorem implFewestCalls_in (n : Nat) (w : World) (hn1 : 1 ≤ n) (hn : n ≤ 4) :
    Calls Try.prog 39 #[.int .i64 n] w fun e w' => ∃ A c, e = .returned (.slice A (planN n) c) ∧ planN n ≤ c ∧ NewI w' w.heap.size A (planN n * 2) (planL n) ∧ Below w.heap.size w w' := by
  have HI := Lib.hid (show Calls Try.prog 43 #[.int .i64 n, .int .i64 1, .int .i64 4] w fun e w' => e = .returned (.bool true) ∧ w = w' by
    have := within_any n 1 4 w
    rwa [inR_true (by omega)] at this)
  have HN := Lib.hid (fun w' => newsOf_any n w' (by omega))
  have HF := Lib.hid (fun m (hm : m ≤ 20) A c w' h => fill_any n hn1 hn m hm (kn0 n) A c w' (kn0_len n) (kn0_small n) h)
  obtain ⟨⟨hf1, hf2⟩, _⟩ := fcFacts (n := n) (by simp; omega)
  have HF1 := Lib.hid hf1
  have HF2 := Lib.hid hf2
  have hP : planN n ≤ 13 := planN_le' n (by omega)
  clear hf1 hf2
  generalize planN n = P at *
  generalize planL n = L at *
  go_enter Try.func39, Try.ntmps39
  go_wp2_with fail
  refine HI.out.mono ?_
  rintro e w' ⟨rfl, rfl⟩
  go_wp2_with fail
  go_loopg [3] P (fun gg s3 wr => ∃ m : Nat, m ≤ P ∧ P - m ≤ gg ∧ s3 = .int .i64 m ∧ Below w.heap.size w wr)
  case atStart => exact ⟨0, by omega, by omega, rfl, Below.refl _ _⟩
  case round =>
    obtain ⟨m, hm, hg, rfl, hbw⟩ := hrel
    have HBw := Lib.hid hbw
    clear hbw
    go_wp2_with fail
    refine (HN.out _).mono ?_
    rintro e w1 ⟨A1, c1, rfl, _, hN1, hb1⟩
    have HC := Lib.hid (HF.out m (by omega) A1 c1 w1 hN1.si)
    have HB1 := Lib.hid (bstep HBw.out hb1)
    clear hN1 hb1
    go_wp2_with fail
    refine HC.out.mono ?_
    rintro e w2 ⟨A2, k2, c2, rfl, hr2, hb2⟩
    have HB2 := Lib.hid (bstep HB1.out hb2)
    have hsz1 := HB1.out.size
    clear hb2 HC
    by_cases hlt : m < P
    · have hno := HF2.out m hlt
      rw [hno]
      clear hr2
      go_wp2_with fail
      go_roundg (P - (m + 1))
      case measure => omega
      case rel => exact ⟨m + 1, by omega, by omega, by go_num, HB2.out⟩
    · obtain rfl : m = P := by omega
      obtain ⟨rfl, hc2, ⟨ad, rfl⟩, hN2⟩ := hr2 L HF1.out
      rw [HF1.out]
      have HN2 := Lib.hid (hN2.mono hsz1)
      have HC := Lib.hid (clipP_any (some ad) k2 c2 w2 hc2 (by omega))
      clear hN2 hr2
      go_wp2_with fail
      refine HC.out.mono ?_
      rintro e w3 ⟨rfl, rfl⟩
      go_wp2_with fail
      go_ret
      exact ⟨_, _, rfl, Nat.le_refl _, HN2.out, HB2.out⟩

end Go.Proofs.Ytjiplangdkpehaa
