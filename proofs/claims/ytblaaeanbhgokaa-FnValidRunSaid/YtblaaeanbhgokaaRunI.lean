/-
  RunI. By a program (wip/tools/mk.py) out of snippets.
-/
import Derived.Test.YtblaaeanbhgokaaRunDef
import Derived.Test.YtblaaeanbhgokaaFn1
import Derived.Test.YtblaaeanbhgokaaTrips
import Derived.Test.YtblaaeanbhgokaaOrdI
namespace Go.Proofs.Ytblaaeanbhgokaa
open Go.RowKit

theorem quietW {P : Program} {f : FuncId} {args : Array Value} {w : World} {x : Nat} {v : Value} (h : Calls P f args (w.drewN x) fun e w' => e = .returned v ∧ w.drewN x = w') :
    Calls P f args (w.drewN x) fun e w'' => e = .returned v ∧ ∃ n, w'' = w.drewN n :=
  h.mono fun e w' ⟨he, hq⟩ => ⟨he, x, hq.symm⟩

theorem validRun1_any (z : Int) (w : World) : Calls Try.prog 67 #[.int .i64 z] w fun e w' => e = .returned (.bool (!inR z 0 3)) ∧ w = w' := by
  have H := Lib.hid (within_any z 0 3 w)
  go_enter Try.func67, Try.ntmps67
  go_wp2_with fail
  refine H.out.mono ?_
  rintro e w' ⟨rfl, rfl⟩
  go_wp2_with fail
  go_ret
  exact ⟨rfl, rfl⟩

theorem wrap_sh (n : Nat) (hn : n ≤ 4) : wrap64 ((2 : Int) ^ n) = ((2 ^ n : Nat) : Int) := by
  have hp : 2 ^ n ≤ 16 := Nat.pow_le_pow_right (n := 2) (by omega) hn
  have h : ((2 : Int) ^ n) = ((2 ^ n : Nat) : Int) := by simp
  rw [h]
  generalize 2 ^ n = q at hp
  exact IntWalk.wrap64_in _ (by omega)
theorem stp_eq {n : Nat} {last p r h : Int} : stp n last p r h = (inR p (last + 1) ((n : Int) - 1) && (inR r 1 4 && inR h 0 (((2 ^ n : Nat) : Int) - 1))) := by
  have e : ((2 : Int) ^ n) = ((2 ^ n : Nat) : Int) := by simp
  rw [stp, e]

set_option maxRecDepth 20000 in
set_option maxHeartbeats 3200000 in
theorem implValidRun_any (A1 : Option Addr) (n1 c1 : Nat) (A2 : Option Addr) (n2 c2 : Nat) (ia sb : List Int) (w : World) (h1 : n1 ≤ 2000000) (h2 : n2 ≤ 2000000) (ha1 : SI w A1 n1 ia) (ha2 : SI w A2 (n2 * 3) sb) :
    Calls Try.prog 32 #[.agg #[.slice A1 n1 c1, .slice A2 n2 c2]] w fun e w' => e = .returned (.bool (vrM ia sb n2)) ∧ Below w.heap.size w w' := by
  obtain ⟨W, hW⟩ : ∃ W, W = w.alloc (.cells #[.slice A1 n1 c1, .slice A2 n2 c2] 44) := ⟨_, rfl⟩
  have hB : Below w.heap.size w W := by rw [hW]; exact (Below.refl _ _).alloc (Nat.le_refl _) _
  have q0 : W.cell? ⟨w.heap.size, 0, none⟩ = some (.slice A1 n1 c1) := by rw [hW]; simp
  have q1 : W.cell? ⟨w.heap.size, 1, none⟩ = some (.slice A2 n2 c2) := by rw [hW]; simp
  have HLt := Lib.hid (show w.heap.size < W.heap.size by rw [hW]; simp)
  have HL := ha1.len
  have HB := Lib.hid hB
  have HA2 := Lib.hid (ha2.below hB (Nat.le_refl _))
  have HW := Lib.hid (fun x lo hi w' => within_any x lo hi w')
  have HR := Lib.hid (within_any n1 1 4 W)
  have HC := Lib.hid (containsFunc_any 67 #[] (fun z => !inR z 0 3) A1 n1 c1 ia (fun V => V = W) W (by omega) rfl
    (enters_of Try.func67 (by kernel_rfl) rfl) (fun V hV => by subst hV; exact ha1.below hB (Nat.le_refl _))
    (fun k hk V hV => by subst hV; exact (validRun1_any _ _).mono fun e w' ⟨he, hw⟩ => ⟨he, hw.symm⟩))
  have HE : (ia.any fun z => !inR z 0 3) = !(ia.all (fun z => inR z 0 3)) := by rw [List.all_eq_not_any_not, Bool.not_not]
  rw [HE] at HC
  have HV := Lib.hid (show vrM ia sb n2 = (inR n1 1 4 && (ia.all (fun z => inR z 0 3) && stTo n1 sb n2)) by rw [vrM, HL])
  have hn4 : inR n1 1 4 = true → n1 ≤ 4 ∧ 1 ≤ n1 := fun h => by have := inR_iff.1 h; omega
  generalize ia.all (fun z => inR z 0 3) = ok at *
  clear ha1 ha2 hB HE HL
  cases e1 : inR n1 1 4 with
  | false =>
    rw [e1] at HR HV
    clear e1 hn4 HC
    go_enter Try.func32, Try.ntmps32
    go_wp2_with fail
    rw [← hW]
    clear hW
    refine HR.out.mono ?_
    rintro e w' ⟨rfl, rfl⟩
    go_wp2_with fail
    go_ret
    exact ⟨by rw [HV.out]; rfl, HB.out⟩
  | true =>
    obtain ⟨hn4, hn1⟩ := hn4 e1
    rw [e1] at HR HV
    clear e1
    cases ok with
    | false =>
      go_enter Try.func32, Try.ntmps32
      go_wp2_with fail
      rw [← hW]
      clear hW
      refine HR.out.mono ?_
      rintro e w' ⟨rfl, rfl⟩
      go_wp2_with fail
      refine HC.out.mono ?_
      rintro e w' ⟨rfl, rfl⟩
      go_wp2_with fail
      go_ret
      exact ⟨by rw [HV.out]; rfl, HB.out⟩
    | true =>
      have HST := Lib.hid (fun last p r h => stp_eq (n := n1) (last := last) (p := p) (r := r) (h := h))
      have hsh := wrap_sh n1 hn4
      have hp1 : 1 ≤ 2 ^ n1 := Nat.two_pow_pos n1
      have hp16 : 2 ^ n1 ≤ 16 := Nat.pow_le_pow_right (n := 2) (by omega) hn4
      generalize 2 ^ n1 = P at HST hsh hp1 hp16
      have hwP : IntKind.i64.wrap ((P : Int) - 1) = (P : Int) - 1 := IntWalk.i64_in _ (by omega)
      have hwn : IntKind.i64.wrap ((n1 : Int) - 1) = (n1 : Int) - 1 := IntWalk.i64_in _ (by omega)
      go_enter Try.func32, Try.ntmps32
      go_wp2_with fail
      rw [← hW]
      clear hW
      refine HR.out.mono ?_
      rintro e w' ⟨rfl, rfl⟩
      go_wp2_with fail
      refine HC.out.mono ?_
      rintro e w' ⟨rfl, hww⟩
      replace hww := hww.symm
      subst hww
      go_wp2_with fail
      go_loopg [4, 21] n2 (fun gg s4 s21 wr => ∃ k : Nat, k ≤ n2 ∧ n2 - k ≤ gg ∧ s21 = .int .i64 k ∧ s4 = .int .i64 (lastP sb k) ∧ (-1 ≤ lastP sb k ∧ lastP sb k ≤ 4) ∧ Aside (stTo n1 sb k = true) ∧ Below W.heap.size W wr)
      case atStart => exact ⟨0, by omega, by omega, rfl, rfl, by simp [lastP], (rfl : stTo n1 sb 0 = true), Below.refl _ _⟩
      case round =>
        clear q0 q1
        obtain ⟨k, hk, hg, rfl, rfl, hlb, HX, hbw⟩ := hrel
        obtain ⟨w2, rfl⟩ : ∃ x, x = wr := ⟨_, rfl⟩
        by_cases hlt : k < n2
        · obtain ⟨b, off, rfl, x0, x1, x2⟩ := SI.trip (HA2.out.below hbw (Nat.le_refl _)) hlt
          have HS := Lib.hid (stTo_succ n1 sb k)
          rw [HX.out, Bool.true_and, HST.out] at HS
          have HNo := Lib.hid (fun h => stTo_not (n := n1) (zs := sb) (k := n2) (i := k) hlt h)
          rw [HST.out] at HNo
          have HLs := Lib.hid (show lastP sb (k + 1) = iat sb (k * 3) from rfl)
          generalize lastP sb k = last at *
          generalize iat sb (k * 3) = p at *
          generalize iat sb (k * 3 + 1) = r at *
          generalize iat sb (k * 3 + 2) = h at *
          have hwl : IntKind.i64.wrap (last + 1) = last + 1 := IntWalk.i64_in _ (by omega)
          have hB3 := Lib.hid (show Below W.heap.size W ((w2.alloc (.cells #[.int .i64 p, .int .i64 r, .int .i64 h] 82))) from hbw.alloc hbw.size _)
          clear hbw
          cases ep : inR p (last + 1) ((n1 : Int) - 1) with
          | false =>
            rw [ep] at HNo
            have HNo2 := Lib.hid (HNo.out rfl)
            clear HNo HS
            go_wp2_with fail
            go_quiet (first | (go_at_call 60; exact quietW (HW.out _ _ _ _)))
            go_wp2_with fail
            go_ret
            exact ⟨by rw [HV.out, HNo2.out]; rfl, HB.out.trans ((bDrewN hB3.out _).mono HB.out.size)⟩
          | true =>
            have hpb := inR_iff.1 ep
            cases er : inR r 1 4 with
            | false =>
              rw [ep, er] at HNo
              have HNo2 := Lib.hid (HNo.out rfl)
              clear HNo HS
              go_wp2_with fail
              go_quiet (first | (go_at_call 60; exact quietW (HW.out _ _ _ _)))
              go_wp2_with fail
              go_ret
              exact ⟨by rw [HV.out, HNo2.out]; rfl, HB.out.trans ((bDrewN hB3.out _).mono HB.out.size)⟩
            | true =>
              cases eh : inR h 0 ((P : Int) - 1) with
              | false =>
                rw [ep, er, eh] at HNo
                have HNo2 := Lib.hid (HNo.out rfl)
                clear HNo HS
                go_wp2_with fail
                go_quiet (first | (go_at_call 60; exact quietW (HW.out _ _ _ _)))
                go_wp2_with fail
                go_ret
                exact ⟨by rw [HV.out, HNo2.out]; rfl, HB.out.trans ((bDrewN hB3.out _).mono HB.out.size)⟩
              | true =>
                rw [ep, er, eh] at HS
                clear HNo
                go_wp2_with fail
                go_quiet (first | (go_at_call 60; exact quietW (HW.out _ _ _ _)))
                go_wp2_with fail
                go_roundg (n2 - (k + 1))
                case measure => omega
                case rel => exact ⟨k + 1, by omega, by omega, by go_num, by rw [HLs.out], by rw [HLs.out]; omega, by rw [HS.out]; rfl, bDrewN hB3.out _⟩
        · obtain rfl : k = n2 := by omega
          have hX := HX.out
          have HB4 := Lib.hid (HB.out.trans (hbw.mono HB.out.size))
          clear hbw
          go_wp2_with fail
          go_ret
          exact ⟨by rw [HV.out, hX]; rfl, HB4.out⟩

end Go.Proofs.Ytblaaeanbhgokaa
