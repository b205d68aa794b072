/-
  NetS2. By a program (wip/tools/mk.py) out of snippets.
-/
import Derived.Test.YtblaaeanbhgokaaNetS
namespace Go.Proofs.Ytblaaeanbhgokaa
open Go.RowKit

set_option maxRecDepth 20000 in
set_option maxHeartbeats 6400000 in
theorem validNet_any (m cA cB : Nat) (A B : Option Addr) (rows : List (List Int)) (marks : List Int) (w : World) (hR : RN m rows) (ha : SS w A m rows) (hb : SI w B m marks) :
    Calls Try.prog 59 #[.agg #[.slice A m cA, .slice B m cB]] w fun e w' => e = .returned (.bool (marks.all fun z => inR z 0 20)) ∧ Below w.heap.size w w' := by
  obtain ⟨W, hW⟩ : ∃ W, W = w.alloc (.cells #[.slice A m cA, .slice B m cB] 37) := ⟨_, rfl⟩
  have hB : Below w.heap.size w W := by rw [hW]; exact (Below.refl _ _).alloc (Nat.le_refl _) _
  have q0 : W.cell? ⟨w.heap.size, 0, none⟩ = some (.slice A m cA) := by rw [hW]; simp
  have q1 : W.cell? ⟨w.heap.size, 1, none⟩ = some (.slice B m cB) := by rw [hW]; simp
  have hlt : w.heap.size < W.heap.size := by rw [hW]; simp
  have ha' := ha.below hB (Nat.le_refl _)
  have hb' := hb.below hB (Nat.le_refl _)
  have hm1 := hR.m1
  have hm6 := hR.m6
  obtain ⟨b, off, _, _, _, rfl, _, _⟩ := ha'.at_ (i := 0) (by omega)
  obtain ⟨bm, om, rfl, hcm⟩ := hb'.2 (by omega)
  have HA := Lib.hid ha'
  have HCm := Lib.hid hcm
  have HB := Lib.hid hB
  have Q0 := Lib.hid q0
  have Q1 := Lib.hid q1
  have HLt := Lib.hid hlt
  have HRN := Lib.hid hR
  have HI := Lib.hid (fun x lo hi w' => inRange_any x lo hi w')
  have HR16 := Lib.hid (inRange_any m 1 6 W)
  rw [inR_true (by omega)] at HR16
  have HAll := Lib.hid (show (∀ i, i < m → inR (iat marks i) 0 20 = true) → marks.all (fun z => inR z 0 20) = true from fun h => List.all_eq_true.2 fun z hz => by
    obtain ⟨i, hi, rfl⟩ := List.mem_iff_getElem.1 hz
    have := h i (by have := hb.1; omega)
    simpa [iat, List.getD_eq_getElem?_getD, hi] using this)
  have HNone := Lib.hid (show ∀ i, i < m → inR (iat marks i) 0 20 = false → marks.all (fun z => inR z 0 20) = false from fun i hi h => by
    rw [Bool.eq_false_iff]
    intro h2
    have := List.all_eq_true.1 h2 _ (iat_mem (zs := marks) (i := i) (by have := hb.1; omega))
    rw [h] at this; cases this)
  have HBP := Lib.hid (fun v p w' (hv : v < m) (hp : p < (rat rows v).length) (h : SS w' (some ⟨b, off, none⟩) m rows) => backPort_any m v p m cA cB (some ⟨b, off, none⟩) (some ⟨bm, om, none⟩) rows w' hR hv hp h)
  have HFa := Lib.hid (fun w' (h : SS w' (some ⟨b, off, none⟩) m rows) => fars_any m m cA cB (some ⟨b, off, none⟩) (some ⟨bm, om, none⟩) rows w' hR h)
  have hwn : IntKind.i64.wrap ((m : Int) - 1) = (m : Int) - 1 := IntWalk.i64_in _ (by omega)
  have hne : ((m : Int) != (m : Int)) = false := by simp
  clear ha hb ha' hb' hB hR hlt hcm
  go_enter Try.func59, Try.ntmps59
  go_wp2_with fail
  rw [← hW]
  clear hW
  refine HR16.out.mono ?_
  rintro e w' ⟨rfl, rfl⟩
  go_wp2_with fail
  go_loopg [4] m (fun gg s4 wr => ∃ v q : Nat, v ≤ m ∧ m - v ≤ gg ∧ s4 = .int .i64 v ∧ wr = W.drewN q ∧ Aside (∀ j, j < v → inR (iat marks j) 0 20 = true))
  case atStart => exact ⟨0, 0, by omega, by omega, rfl, rfl, fun j h => absurd h (by omega)⟩
  case round =>
    obtain ⟨v, q, hv, hg, rfl, rfl, HX⟩ := hrel
    by_cases hlv : v < m
    · have xm := HCm.out v hlv
      have HN := Lib.hid (HNone.out v hlv)
      have HIv := Lib.hid (fun w' => HI.out (iat marks v) 0 20 w')
      cases ez : inR (iat marks v) 0 20 with
      | false =>
        have HN2 := Lib.hid (HN.out ez)
        rw [ez] at HIv
        clear HN ez
        generalize iat marks v = z at *
        go_wp2_with fail
        refine (HIv.out _).mono ?_
        rintro e w' ⟨rfl, rfl⟩
        go_wp2_with fail
        go_ret
        exact ⟨by rw [HN2.out]; rfl, bDrewN HB.out _⟩
      | true =>
        have HEz := Lib.hid ez
        rw [ez] at HIv
        clear HN ez
        obtain ⟨_, _, A1, n1, c1, e1, h1, s1⟩ := HA.out.at_ hlv
        cases e1
        obtain rfl : n1 = (rat rows v).length := s1.1.symm
        have hl6 := HRN.out.l v hlv
        have S1 := Lib.hid s1
        have HEv := Lib.hid (HRN.out.e v hlv)
        have HDv := Lib.hid (HRN.out.d v hlv)
        clear s1
        obtain ⟨z, hz⟩ : ∃ z, z = iat marks v := ⟨_, rfl⟩
        rw [← hz] at xm HIv
        have HZ := Lib.hid hz
        clear hz
        obtain ⟨L, hL⟩ : ∃ L, L = (rat rows v).length := ⟨_, rfl⟩
        rw [← hL] at h1 hl6 S1 HEv HDv
        have HLe := Lib.hid hL
        clear hL
        go_wp2_with fail
        refine (HIv.out _).mono ?_
        rintro e w' ⟨rfl, rfl⟩
        go_wp2_with fail
        go_loopg [5] L (fun g2 s5 wr => ∃ p q : Nat, p ≤ L ∧ L - p ≤ g2 ∧ s5 = .int .i64 p ∧ wr = W.drewN q)
        case atStart => exact ⟨0, q, by omega, by omega, rfl, rfl⟩
        case round =>
          obtain ⟨p, q, hp, hg2, rfl, rfl⟩ := hrel
          by_cases hlp : p < L
          · obtain ⟨b1, o1, rfl, hc1⟩ := S1.out.2 (by omega)
            obtain ⟨u, hu, hue, huv, _⟩ := HEv.out p hlp
            have x1 := hc1 p hlp
            rw [hue] at x1
            have HC1 := Lib.hid hc1
            have hne2 : ((u : Int) == (v : Int)) = false := by simp; omega
            have HIu := Lib.hid (fun w' => HI.out (u : Int) 0 ((m : Int) - 1) w')
            rw [inR_true (by omega)] at HIu
            have HDp := Lib.hid (fun j (hj : j < p) => HDv.out j p hj hlp)
            rw [hue] at HDp
            clear hc1 hue
            go_wp2_with fail
            refine (HIu.out _).mono ?_
            rintro e w' ⟨rfl, rfl⟩
            go_wp2_with fail
            go_loopg [6] p (fun g3 s6 wr => ∃ j q : Nat, j ≤ p ∧ p - j ≤ g3 ∧ s6 = .int .i64 j ∧ wr = W.drewN q)
            case atStart => exact ⟨0, q, by omega, by omega, rfl, rfl⟩
            case round =>
              obtain ⟨j, q, hj, hg3, rfl, rfl⟩ := hrel
              by_cases hlj : j < p
              · have xj := HC1.out j (by omega)
                have hd : (iat (rat rows v) j == (u : Int)) = false := by simpa using HDp.out j hlj
                generalize iat (rat rows v) j = y at xj hd
                go_wp2_with fail
                go_quiet (fail)
                go_wp2_with fail
                go_roundg (p - (j + 1))
                case measure => omega
                case rel => exact ⟨j + 1, _, by omega, by omega, by go_num, rfl⟩
              · obtain rfl : p = j := by omega
                go_wp2_with fail
                go_roundg (L - (p + 1))
                case measure => omega
                case rel => exact ⟨p + 1, _, by omega, by omega, by go_num, rfl⟩
          · obtain rfl : L = p := by omega
            go_wp2_with fail
            go_roundg (m - (v + 1))
            case measure => omega
            case rel =>
              refine ⟨v + 1, _, by omega, by omega, by go_num, rfl, (show Aside _ from fun j hj => ?_)⟩
              by_cases e : j = v
              · subst e; exact HEz.out
              · exact HX.out j (by omega)
    · obtain rfl : m = v := by omega
      have HOk := Lib.hid (HAll.out fun j hj => HX.out j hj)
      have HBq := Lib.hid (bDrewN (Below.refl W.heap.size W) q)
      have q0' := (HBq.out.cell (p := ⟨w.heap.size, 0, none⟩) HLt.out).trans Q0.out
      have q1' := (HBq.out.cell (p := ⟨w.heap.size, 1, none⟩) HLt.out).trans Q1.out
      generalize W.drewN q = W2 at HBq q0' q1' ⊢
      clear HX HNone HAll q0 q1 HR16 HCm
      go_wp2_with fail
      go_loopg [7] m (fun gg s7 wr => ∃ v : Nat, v ≤ m ∧ m - v ≤ gg ∧ s7 = .int .i64 v ∧ Below W.heap.size W wr)
      case atStart => exact ⟨0, by omega, by omega, rfl, HBq.out⟩
      case round =>
        clear HBq q0' q1'
        obtain ⟨v, hv, hg, rfl, hbw⟩ := hrel
        have HBw := Lib.hid hbw
        clear hbw
        by_cases hlv : v < m
        · have hl6 := HRN.out.l v hlv
          have HBPv := Lib.hid (fun p w' hp h => HBP.out v p w' hlv hp h)
          obtain ⟨L, hL⟩ : ∃ L, L = (rat rows v).length := ⟨_, rfl⟩
          rw [← hL] at hl6 HBPv
          have HLe := Lib.hid hL
          clear hL
          go_wp2_with fail
          go_loopg [8] L (fun g2 s8 wr => ∃ p : Nat, p ≤ L ∧ L - p ≤ g2 ∧ s8 = .int .i64 p ∧ Below W.heap.size W wr)
          case atStart => exact ⟨0, by omega, by omega, rfl, HBw.out⟩
          case round =>
            clear HBw
            obtain ⟨p, hp, hg2, rfl, hbw⟩ := hrel
            have c0 := (hbw.cell (p := ⟨w.heap.size, 0, none⟩) HLt.out).trans Q0.out
            have c1' := (hbw.cell (p := ⟨w.heap.size, 1, none⟩) HLt.out).trans Q1.out
            have hS := HA.out.below hbw (Nat.le_refl _)
            obtain ⟨_, _, A1, n1, c1, e1, h1, s1⟩ := hS.at_ hlv
            cases e1
            obtain rfl : n1 = L := by rw [HLe.out]; exact s1.1.symm
            have HBw := Lib.hid hbw
            have HSS := Lib.hid hS
            clear hbw s1 hS
            by_cases hlp : p < n1
            · have HC := Lib.hid (HBPv.out p wr hlp HSS.out)
              go_wp2_with fail
              refine HC.out.mono ?_
              rintro e w2 ⟨z, rfl, hz0, b2⟩
              have HB2 := Lib.hid (bstep HBw.out b2)
              have hzn : decide (z < 0) = false := by simp; omega
              clear b2 HC c0 c1' h1
              go_wp2_with fail
              go_roundg (n1 - (p + 1))
              case measure => omega
              case rel => exact ⟨p + 1, by omega, by omega, by go_num, HB2.out⟩
            · obtain rfl : n1 = p := by omega
              go_wp2_with fail
              go_roundg (m - (v + 1))
              case measure => omega
              case rel => exact ⟨v + 1, by omega, by omega, by go_num, HBw.out⟩
        · obtain rfl : m = v := by omega
          have c0 := (HBw.out.cell (p := ⟨w.heap.size, 0, none⟩) HLt.out).trans Q0.out
          have c1' := (HBw.out.cell (p := ⟨w.heap.size, 1, none⟩) HLt.out).trans Q1.out
          have HC := Lib.hid (HFa.out wr (HA.out.below HBw.out (Nat.le_refl _)))
          go_wp2_with fail
          refine HC.out.mono ?_
          rintro e w2 ⟨A2, c2, rfl, hN, b2⟩
          have HB2 := Lib.hid (bstep HBw.out b2)
          obtain ⟨b2', o2', rfl, hc2⟩ := hN.si.2 (by omega)
          have HC2 := Lib.hid hc2
          clear hN b2 HC c0 c1' hc2
          go_wp2_with fail
          go_loopg [10] m (fun g2 s10 wr => ∃ v : Nat, v ≤ m ∧ m - v ≤ g2 ∧ s10 = .int .i64 v ∧ w2 = wr)
          case atStart => exact ⟨0, by omega, by omega, rfl, rfl⟩
          case round =>
            obtain ⟨v, hv, hg2, rfl, rfl⟩ := hrel
            by_cases hlv : v < m
            · have x := HC2.out v hlv
              have hf := HRN.out.f v hlv
              generalize iat (farR rows m 0) v = y at x hf
              have hyn : decide (y < 0) = false := by simp; omega
              go_wp2_with fail
              go_roundg (m - (v + 1))
              case measure => omega
              case rel => exact ⟨v + 1, by omega, by omega, by go_num, rfl⟩
            · obtain rfl : m = v := by omega
              go_wp2_with fail
              go_ret
              exact ⟨by rw [HOk.out]; rfl, HB.out.trans (HB2.out.mono HB.out.size)⟩

end Go.Proofs.Ytblaaeanbhgokaa
