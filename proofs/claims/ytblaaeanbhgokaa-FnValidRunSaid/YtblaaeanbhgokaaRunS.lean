/-
  RunS. By a program (wip/tools/mk.py) out of snippets.
-/
import Derived.Test.YtblaaeanbhgokaaRunI
namespace Go.Proofs.Ytblaaeanbhgokaa
open Go.RowKit

theorem specpower_any (k : Nat) (w : World) (hk : k ≤ 60) :
    Calls Try.prog 94 #[.int .i64 k] w fun e w' => e = .returned (.int .i64 ((2 ^ k : Nat) : Int)) ∧ w = w' := by
  have hp : 2 ^ k ≤ 1152921504606846976 := by
    have := Nat.pow_le_pow_right (n := 2) (by omega) hk
    exact Nat.le_trans this (by decide)
  obtain ⟨p, hP⟩ : ∃ p, p = 2 ^ k := ⟨_, rfl⟩
  rw [← hP] at hp
  have HP := Lib.hid hP
  rw [← hP]
  clear hP
  go_enter Try.func94, Try.ntmps94
  go_wp2
  go_loopg [0, 3] k (fun gg nv av wr => ∃ j a : Nat, j ≤ gg ∧ nv = .int .i64 j ∧ av = .int .i64 a ∧ a ≤ p ∧ Aside (a * 2 ^ j = 2 ^ k) ∧ j ≤ k ∧ w = wr)
  case atStart => exact ⟨k, 1, Nat.le_refl _, rfl, rfl, by rw [HP.out]; exact Nat.one_le_two_pow, Nat.one_mul _, Nat.le_refl _, rfl⟩
  case round =>
    obtain ⟨j, a, hg, rfl, rfl, ha, HA, hj, rfl⟩ := hrel
    by_cases h0 : 0 < j
    · obtain ⟨j, rfl⟩ : ∃ i, j = i + 1 := ⟨j - 1, by omega⟩
      have h2 : 2 * a ≤ p := by
        have h1 := HA.out
        rw [HP.out, ← h1, Nat.pow_succ, ← Nat.mul_assoc, Nat.mul_comm 2 a]
        exact Nat.mul_le_mul_right _ (Nat.le_mul_of_pos_right _ (Nat.two_pow_pos j))
      go_wp2
      go_roundg j
      case measure => omega
      case rel => exact ⟨j, 2 * a, Nat.le_refl _, by go_num, by go_num, h2, by show 2 * a * 2 ^ j = 2 ^ k; have h1 := HA.out; rw [Nat.pow_succ] at h1; rw [← h1, Nat.mul_comm 2 a, Nat.mul_assoc, Nat.mul_comm 2 (2 ^ j)], by omega, rfl⟩
    · obtain rfl : j = 0 := by omega
      have h1 : a = p := by have h1 := HA.out; rw [HP.out, ← h1]; simp
      subst h1
      go_wp2
      go_ret
      exact ⟨rfl, rfl⟩

theorem inR_false_of {x a b : Int} (h : inR x a b = false) : ¬ (a ≤ x ∧ x ≤ b) := fun h2 => by rw [inR_true h2] at h; cases h
set_option maxRecDepth 20000 in
set_option maxHeartbeats 3200000 in
theorem specvalidRun_any (A1 : Option Addr) (n1 c1 : Nat) (A2 : Option Addr) (n2 c2 : Nat) (ia sb : List Int) (w : World) (h1 : n1 ≤ 2000000) (h2 : n2 ≤ 2000000) (ha1 : SI w A1 n1 ia) (ha2 : SI w A2 (n2 * 3) sb) :
    Calls Try.prog 68 #[.agg #[.slice A1 n1 c1, .slice A2 n2 c2]] w fun e w' => e = .returned (.bool (vrM ia sb n2)) ∧ Below w.heap.size w w' := by
  obtain ⟨W, hW⟩ : ∃ W, W = w.alloc (.cells #[.slice A1 n1 c1, .slice A2 n2 c2] 44) := ⟨_, rfl⟩
  have hB : Below w.heap.size w W := by rw [hW]; exact (Below.refl _ _).alloc (Nat.le_refl _) _
  have q0 : W.cell? ⟨w.heap.size, 0, none⟩ = some (.slice A1 n1 c1) := by rw [hW]; simp
  have q1 : W.cell? ⟨w.heap.size, 1, none⟩ = some (.slice A2 n2 c2) := by rw [hW]; simp
  have HLt := Lib.hid (show w.heap.size < W.heap.size by rw [hW]; simp)
  have HL := ha1.len
  have HB := Lib.hid hB
  have HQ1 := Lib.hid q1
  have HA1 := Lib.hid (ha1.below hB (Nat.le_refl _))
  have HA2 := Lib.hid (ha2.below hB (Nat.le_refl _))
  have HW := Lib.hid (fun x lo hi w' => inRange_any x lo hi w')
  have HR := Lib.hid (inRange_any n1 1 4 W)
  have HV := Lib.hid (show vrM ia sb n2 = (inR n1 1 4 && (ia.all (fun z => inR z 0 3) && stTo n1 sb n2)) by rw [vrM, HL])
  have hn4 : inR n1 1 4 = true → n1 ≤ 4 ∧ 1 ≤ n1 := fun h => by have := inR_iff.1 h; omega
  have HAll := Lib.hid (show (∀ i, i < n1 → inR (iat ia i) 0 3 = true) → ia.all (fun z => inR z 0 3) = true from fun h => List.all_eq_true.2 fun z hz => by
    obtain ⟨i, hi, rfl⟩ := List.mem_iff_getElem.1 hz
    have := h i (by omega)
    simpa [iat, List.getD_eq_getElem?_getD, hi] using this)
  have HNone := Lib.hid (show ∀ i, i < n1 → inR (iat ia i) 0 3 = false → ia.all (fun z => inR z 0 3) = false from fun i hi h => by
    rw [Bool.eq_false_iff]
    intro h2
    have := List.all_eq_true.1 h2 _ (iat_mem (zs := ia) (i := i) (by omega))
    rw [h] at this; cases this)
  clear ha1 ha2 hB HL
  cases e1 : inR n1 1 4 with
  | false =>
    rw [e1] at HR HV
    clear e1 hn4
    go_enter Try.func68, Try.ntmps68
    go_wp2_with fail
    rw [← hW]
    clear hW
    refine HR.out.mono ?_
    rintro e w' ⟨rfl, rfl⟩
    go_wp2_with fail
    go_ret
    exact ⟨by rw [HV.out]; rfl, HB.out⟩
  | true =>
    obtain ⟨hn4, hn1⟩ := hn4 e1
    rw [e1] at HR HV
    clear e1
    have HST := Lib.hid (fun last p r h => stp_eq (n := n1) (last := last) (p := p) (r := r) (h := h))
    have HSP := Lib.hid (fun w' => specpower_any n1 w' (by omega))
    have hp1 : 1 ≤ 2 ^ n1 := Nat.two_pow_pos n1
    have hp16 : 2 ^ n1 ≤ 16 := Nat.pow_le_pow_right (n := 2) (by omega) hn4
    generalize 2 ^ n1 = P at HST HSP hp1 hp16
    have hwP : IntKind.i64.wrap ((P : Int) - 1) = (P : Int) - 1 := IntWalk.i64_in _ (by omega)
    have hwn : IntKind.i64.wrap ((n1 : Int) - 1) = (n1 : Int) - 1 := IntWalk.i64_in _ (by omega)
    go_enter Try.func68, Try.ntmps68
    go_wp2_with fail
    rw [← hW]
    clear hW
    refine HR.out.mono ?_
    rintro e w' ⟨rfl, rfl⟩
    go_wp2_with fail
    go_loopg [4] n1 (fun gg s4 wr => ∃ i q : Nat, i ≤ n1 ∧ n1 - i ≤ gg ∧ s4 = .int .i64 i ∧ wr = W.drewN q ∧ Aside (∀ j, j < i → inR (iat ia j) 0 3 = true))
    case atStart => exact ⟨0, 0, by omega, by omega, rfl, rfl, fun j h => absurd h (by omega)⟩
    case round =>
      obtain ⟨i, q, hi, hg, rfl, rfl, HX⟩ := hrel
      by_cases hlt : i < n1
      · obtain ⟨b, off, rfl, x0⟩ := HA1.out.at_ hlt
        have HN := Lib.hid (HNone.out i hlt)
        cases ez : inR (iat ia i) 0 3 with
        | false =>
          have HN2 := Lib.hid (HN.out ez)
          clear HN
          generalize iat ia i = z at x0 ez
          go_wp2_with fail
          refine (HW.out _ _ _ _).mono ?_
          rintro e w' ⟨rfl, rfl⟩
          go_wp2_with fail
          go_ret
          exact ⟨by rw [HV.out, HN2.out]; rfl, bDrewN HB.out _⟩
        | true =>
          have HEz := Lib.hid ez
          generalize iat ia i = z at x0 ez
          go_wp2_with fail
          refine (HW.out _ _ _ _).mono ?_
          rintro e w' ⟨rfl, rfl⟩
          go_wp2_with fail
          go_roundg (n1 - (i + 1))
          case measure => omega
          case rel =>
            refine ⟨i + 1, _, by omega, by omega, by go_num, rfl, (show Aside _ from fun j hj => ?_)⟩
            by_cases e : j = i
            · subst e; exact HEz.out
            · exact HX.out j (by omega)
      · obtain rfl : i = n1 := by omega
        have HOk := HAll.out fun j hj => HX.out j hj
        rw [HOk, Bool.true_and, Bool.true_and] at HV
        have HBq := Lib.hid (bDrewN (Below.refl W.heap.size W) q)
        have q1' := (HBq.out.cell (p := ⟨w.heap.size, 1, none⟩) HLt.out).trans HQ1.out
        generalize W.drewN q = W2 at HBq q1' ⊢
        clear HX HNone HAll HOk q0 q1
        go_wp2_with fail
        go_loopg [5] n2 (fun gg s5 wr => ∃ k : Nat, k ≤ n2 ∧ n2 - k ≤ gg ∧ s5 = .int .i64 k ∧ (-1 ≤ lastP sb k ∧ lastP sb k ≤ 4) ∧ Aside (stTo i sb k = true) ∧ Below W.heap.size W wr)
        case atStart => exact ⟨0, by omega, by omega, rfl, by simp [lastP], (rfl : stTo i sb 0 = true), HBq.out⟩
        case round =>
          clear q1' HBq
          obtain ⟨k, hk, hg, rfl, hlb, HX, hbw⟩ := hrel
          obtain ⟨w2, rfl⟩ : ∃ x, x = wr := ⟨_, rfl⟩
          have q1 := (hbw.cell (p := ⟨w.heap.size, 1, none⟩) HLt.out).trans HQ1.out
          by_cases hlt : k < n2
          · obtain ⟨b, off, rfl, x0, x1, x2⟩ := SI.trip (HA2.out.below hbw (Nat.le_refl _)) hlt
            have HS := Lib.hid (stTo_succ i sb k)
            rw [HX.out, Bool.true_and, HST.out] at HS
            have HNo := Lib.hid (fun h => stTo_not (n := i) (zs := sb) (k := n2) (i := k) hlt h)
            rw [HST.out] at HNo
            have HLs := Lib.hid (show lastP sb (k + 1) = iat sb (k * 3) from rfl)
            have hB3 := Lib.hid (show Below W.heap.size W ((w2.alloc (.cells #[.int .i64 (iat sb (k * 3)), .int .i64 (iat sb (k * 3 + 1)), .int .i64 (iat sb (k * 3 + 2))] 82))) from hbw.alloc hbw.size _)
            have hq2 : k = 0 ∨ ∃ j, k = j + 1 ∧ w2.cell? ⟨b, off + j * 3, none⟩ = some (.int .i64 (lastP sb k)) := by
              cases k with
              | zero => exact .inl rfl
              | succ j =>
                obtain ⟨b', off', e', y0, _, _⟩ := SI.trip (HA2.out.below hbw (Nat.le_refl _)) (k := j) (by omega)
                cases e'
                exact .inr ⟨j, rfl, y0⟩
            have hl0 : k = 0 → lastP sb k = -1 := fun h => by rw [h]; rfl
            generalize lastP sb k = last at *
            generalize iat sb (k * 3) = p at *
            generalize iat sb (k * 3 + 1) = r at *
            generalize iat sb (k * 3 + 2) = h at *
            clear hbw
            cases ep : inR p 0 ((i : Int) - 1) with
            | false =>
              have HNo2 := Lib.hid (HNo.out (by
                have h9 := inR_false_of ep
                rw [show inR p (last + 1) ((i : Int) - 1) = false from inR_false (by omega)]
                rfl))
              clear HNo HS
              go_wp2_with fail
              go_quiet (first | (go_at_call 58; exact quietW (HW.out _ _ _ _)) | (go_at_call 94; exact quietW (HSP.out _)))
              go_wp2_with fail
              go_ret
              exact ⟨by rw [HV.out, HNo2.out]; rfl, HB.out.trans ((bDrewN hB3.out _).mono HB.out.size)⟩
            | true =>
              have hpb := inR_iff.1 ep
              cases er : inR r 1 4 with
              | false =>
                have HNo2 := Lib.hid (HNo.out (by rw [er]; simp))
                clear HNo HS
                go_wp2_with fail
                go_quiet (first | (go_at_call 58; exact quietW (HW.out _ _ _ _)) | (go_at_call 94; exact quietW (HSP.out _)))
                go_wp2_with fail
                go_ret
                exact ⟨by rw [HV.out, HNo2.out]; rfl, HB.out.trans ((bDrewN hB3.out _).mono HB.out.size)⟩
              | true =>
                cases eh : inR h 0 ((P : Int) - 1) with
                | false =>
                  have HNo2 := Lib.hid (HNo.out (by rw [er, eh]; simp))
                  clear HNo HS
                  go_wp2_with fail
                  go_quiet (first | (go_at_call 58; exact quietW (HW.out _ _ _ _)) | (go_at_call 94; exact quietW (HSP.out _)))
                  go_wp2_with fail
                  go_ret
                  exact ⟨by rw [HV.out, HNo2.out]; rfl, HB.out.trans ((bDrewN hB3.out _).mono HB.out.size)⟩
                | true =>
                  rw [er, eh] at HS HNo
                  rcases hq2 with rfl | ⟨j, rfl, y0⟩
                  · have hl := hl0 rfl
                    subst hl
                    have HS2 := Lib.hid (HS.out.trans (by rw [show inR p (-1 + 1) ((i : Int) - 1) = true from inR_true (by omega)]))
                    have hdk : decide ((0 : Int) < ((0 : Nat) : Int)) = false := by simp
                    have hz0 : ((0 : Nat) : Int) = 0 := rfl
                    simp only [Nat.zero_mul, Nat.add_zero] at x0 x1 x2
                    clear HNo HS hl0
                    go_wp2_with fail
                    go_quiet (first | (go_at_call 58; exact quietW (HW.out _ _ _ _)) | (go_at_call 94; exact quietW (HSP.out _)))
                    go_wp2_with fail
                    go_roundg (n2 - (0 + 1))
                    case measure => omega
                    case rel => exact ⟨0 + 1, by omega, by omega, by go_num, by rw [HLs.out]; omega, HS2.out, bDrewN hB3.out _⟩
                  · have hwj2 : IntKind.i64.wrap (j : Int) = (j : Int) := IntWalk.i64_in _ (by omega)
                    have hwj : IntKind.i64.wrap ((j : Int) + 1 - 1) = (j : Int) := by rw [Int.add_sub_cancel]; exact IntWalk.i64_in _ (by omega)
                    have hdk : decide ((0 : Int) < (j : Int) + 1) = true := by rw [decide_eq_true_eq]; omega
                    have hck : ((j + 1 : Nat) : Int) = (j : Int) + 1 := by omega
                    have q1a := (World.cell?_alloc_lt _ (.cells #[.int .i64 p, .int .i64 r, .int .i64 h] 82) _ (World.block_lt_of_cell? w2 _ q1)).trans q1
                    have y1 := (World.cell?_alloc_lt _ (.cells #[.int .i64 p, .int .i64 r, .int .i64 h] 82) _ (World.block_lt_of_cell? w2 _ y0)).trans y0
                    clear hl0
                    by_cases hle : p ≤ last
                    · have HNo2 := Lib.hid (HNo.out (by rw [show inR p (last + 1) ((i : Int) - 1) = false from inR_false (by omega)]; rfl))
                      have hd : decide (p ≤ last) = true := by simpa using hle
                      clear HNo HS
                      go_wp2_with fail
                      go_quiet (first | (go_at_call 58; exact quietW (HW.out _ _ _ _)) | (go_at_call 94; exact quietW (HSP.out _)))
                      go_wp2_with fail
                      go_ret
                      exact ⟨by rw [HV.out, HNo2.out]; rfl, HB.out.trans ((bDrewN hB3.out _).mono HB.out.size)⟩
                    · have HS2 := Lib.hid (HS.out.trans (by rw [show inR p (last + 1) ((i : Int) - 1) = true from inR_true (by omega)]))
                      have hd : decide (p ≤ last) = false := by simpa using hle
                      clear HNo HS
                      go_wp2_with fail
                      go_quiet (first | (go_at_call 58; exact quietW (HW.out _ _ _ _)) | (go_at_call 94; exact quietW (HSP.out _)))
                      go_wp2_with fail
                      go_roundg (n2 - (j + 1 + 1))
                      case measure => omega
                      case rel => exact ⟨j + 1 + 1, by omega, by omega, by go_num, by rw [HLs.out]; omega, HS2.out, bDrewN hB3.out _⟩
          · obtain rfl : k = n2 := by omega
            have hX := HX.out
            have HB4 := Lib.hid (HB.out.trans (hbw.mono HB.out.size))
            clear hbw
            go_wp2_with fail
            go_ret
            exact ⟨by rw [HV.out, hX]; rfl, HB4.out⟩

theorem specValidRun_any (A1 : Option Addr) (n1 c1 : Nat) (A2 : Option Addr) (n2 c2 : Nat) (ia sb : List Int) (w : World) (h1 : n1 ≤ 2000000) (h2 : n2 ≤ 2000000) (ha1 : SI w A1 n1 ia) (ha2 : SI w A2 (n2 * 3) sb) :
    Calls Try.prog 33 #[.agg #[.slice A1 n1 c1, .slice A2 n2 c2]] w fun e w' => e = .returned (.bool (vrM ia sb n2)) ∧ Below w.heap.size w w' := by
  have hB := Lib.hid (show Below w.heap.size w (w.alloc (.cells #[.slice A1 n1 c1, .slice A2 n2 c2] 44)) from (Below.refl _ _).alloc (Nat.le_refl _) _)
  have H := Lib.hid (specvalidRun_any A1 n1 c1 A2 n2 c2 ia sb w h1 h2 ha1 ha2)
  have H2 := Lib.hid (specvalidRun_any A1 n1 c1 A2 n2 c2 ia sb _ h1 h2 (ha1.below hB.out (Nat.le_refl _)) (ha2.below hB.out (Nat.le_refl _)))
  clear ha1 ha2
  go_enter Try.func33, Try.ntmps33
  go_wp2_with fail
  first
    | (refine H.out.mono ?_
       rintro e w' ⟨rfl, b1⟩
       have B1 := Lib.hid b1
       clear b1
       go_wp2_with fail
       go_ret
       exact ⟨rfl, B1.out⟩)
    | (refine H2.out.mono ?_
       rintro e w' ⟨rfl, b1⟩
       have B1 := Lib.hid (bstep hB.out b1)
       clear b1
       go_wp2_with fail
       go_ret
       exact ⟨rfl, B1.out⟩)

end Go.Proofs.Ytblaaeanbhgokaa
