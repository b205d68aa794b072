/-
  LElect. By a program (wip/tools/mk.py) out of snippets.
-/
import Derived.Test.YtblaaeanbhgokaaElect
namespace Go.Proofs.Ytblaaeanbhgokaa
open Go.RowKit

set_option maxHeartbeats 1600000 in
theorem lawExactElectOf (A : Option Addr) (n c : Nat) (zs : List Int) (w : World) (ha : SI w A n zs) (hwf : ∀ z ∈ zs, (Lit.int .i64 z).wf = true) :
    Calls Try.prog 3 #[.slice A n c] w fun e w' => e = .returned (.bool true) ∧ Below w.heap.size w w' := by
  by_cases hbig : 1048576 < n
  · clear ha
    go_enter Try.func3, Try.ntmps3
    go_wp2_with fail
    go_ret
    exact ⟨rfl, Below.refl _ _⟩
  · have hn : n ≤ 2000000 := by omega
    have C1 := Lib.hid (fun A c w h => specElectOf_any A n c zs w hn h)
    have C2 := Lib.hid (fun A c w h hc => implElectOf_any A n c zs w hn hc h)
    generalize electAt zs = v0 at *
    generalize electN zs = v1 at *
    go_enter Try.func3, Try.ntmps3
    go_wp2_with fail
    refine (toIntS_any A n c zs _ hn ha).mono ?_
    rintro e w1 ⟨A0, c0, rfl, h0, bb⟩
    go_wp2_with fail
    refine (C1.out A0 c0 _ h0.si).mono ?_
    rintro e w' ⟨rfl, q2, rfl⟩
    replace bb := bDrewN bb q2
    clear h0
    go_wp2_with fail
    refine (toIntS_cap A n c zs _ hn (ha.below bb (Nat.le_refl _))).mono ?_
    rintro e w3 ⟨AX, cX, rfl, hcX, hX', b3⟩
    have hX := hX'.z
    replace bb := bstep bb b3
    go_wp2_with fail
    refine (C2.out AX cX _ hX.si hcX).mono ?_
    rintro e w' ⟨rfl, rfl⟩
    go_wp2_with fail
    refine (toIntS_any A n c zs _ hn (ha.below bb (Nat.le_refl _))).mono ?_
    rintro e w6 ⟨A6, c6, rfl, h6, b6⟩
    replace hX := hX.later b6
    replace bb := bstep bb b6
    go_wp2_with fail
    refine (eqIntS_true AX A6 n cX c6 zs _ (by omega) hX.si h6.si).mono ?_
    rintro e w7 ⟨rfl, q7, rfl⟩
    replace bb := bDrewN bb q7
    go_wp2_with fail
    go_ret
    exact ⟨rfl, by simpa using bb⟩

end Go.Proofs.Ytblaaeanbhgokaa
