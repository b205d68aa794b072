/-
  FcDef. By a program (wip/tools/mk.py) out of snippets.
-/
import Derived.Test.YtjiplangdkpehaaPlM
import Derived.Test.YtjiplangdkpehaaFull
import Derived.Test.YtjiplangdkpehaaFill
namespace Go.Proofs.Ytjiplangdkpehaa
open Go.RowKit

def fcN (n : Int) : Nat := if inR n 1 4 then planN n.toNat else 0
def fcL (n : Int) : List Int := if inR n 1 4 then planL n.toNat else []
theorem fcN_le (n : Int) : fcN n ≤ 13 := by
  unfold fcN
  split
  · rename_i h
    have h1 := inR_iff.1 h
    have h2 := plN_le n
    have h3 : plN n = planN n.toNat := by rw [plN, if_pos (inR_true (by omega))]
    omega
  · omega
theorem fcLaw {n : Nat} (h : n ∈ [1, 2, 3, 4]) : ifA n (fcL n) (fcN n) = true ∧ fcN n = fewN n := by
  have h4 : 1 ≤ n ∧ n ≤ 4 := by simp at h; omega
  have e1 : fcL n = plL n := by rw [fcL, plL, if_pos (inR_true (by omega)), if_pos (inR_true (by omega))]
  have e2 : fcN n = plN n := by rw [fcN, plN, if_pos (inR_true (by omega)), if_pos (inR_true (by omega))]
  rw [e1, e2]
  exact planFacts (by simp; omega)

theorem implFewestCalls_any (n : Int) (w : World) :
    Calls Try.prog 39 #[.int .i64 n] w fun e w' => ∃ A c, e = .returned (.slice A (fcN n) c) ∧ fcN n ≤ c ∧ NewI w' w.heap.size A (fcN n * 2) (fcL n) ∧ Below w.heap.size w w' := by
  by_cases h : 1 ≤ n ∧ n ≤ 4
  · obtain ⟨k, rfl⟩ : ∃ k : Nat, n = k := ⟨n.toNat, by omega⟩
    rw [fcN, fcL, if_pos (inR_true h), if_pos (inR_true h), Int.toNat_natCast]
    exact implFewestCalls_in k w (by omega) (by omega)
  · have HI := Lib.hid (show Calls Try.prog 43 #[.int .i64 n, .int .i64 1, .int .i64 4] w fun e w' => e = .returned (.bool false) ∧ w = w' by
      have := within_any n 1 4 w
      rwa [inR_false h] at this)
    have hf := inR_false h
    rw [fcN, fcL, hf]
    clear hf h
    show Calls _ _ _ w (PnPost w 0 [])
    go_enter Try.func39, Try.ntmps39
    go_wp2_with fail
    refine HI.out.mono ?_
    rintro e w' ⟨rfl, rfl⟩
    go_wp2_with fail
    go_ret
    exact PnPost.nil _ _ rfl
def PsPost (w : World) (m : Nat) (zs : List Int) (e : Ending) (w' : World) : Prop := ∃ A c, e = .returned (.slice A m c) ∧ SI w' A (m * 2) zs ∧ Below w.heap.size w w'
theorem PsPost.nil (w : World) (e : Ending) (he : e = .returned (.slice none 0 0)) : PsPost w 0 [] e w := ⟨none, 0, he, ⟨rfl, fun h => absurd h (by simp)⟩, Below.refl _ _⟩
theorem specFewestCalls_any (n : Int) (w : World) :
    Calls Try.prog 38 #[.int .i64 n] w fun e w' => ∃ A c, e = .returned (.slice A (fcN n) c) ∧ SI w' A (fcN n * 2) (fcL n) ∧ Below w.heap.size w w' := by
  by_cases h : 1 ≤ n ∧ n ≤ 4
  · obtain ⟨k, rfl⟩ : ∃ k : Nat, n = k := ⟨n.toNat, by omega⟩
    rw [fcN, fcL, if_pos (inR_true h), if_pos (inR_true h), Int.toNat_natCast]
    exact specFewestCalls_in k w (by omega) (by omega)
  · have HI := Lib.hid (show Calls Try.prog 49 #[.int .i64 n, .int .i64 1, .int .i64 4] w fun e w' => e = .returned (.bool false) ∧ w = w' by
      have := inRange_any n 1 4 w
      rwa [inR_false h] at this)
    have hf := inR_false h
    rw [fcN, fcL, hf]
    clear hf h
    show Calls _ _ _ w (PsPost w 0 [])
    go_enter Try.func38, Try.ntmps38
    go_wp2_with fail
    refine HI.out.mono ?_
    rintro e w' ⟨rfl, rfl⟩
    go_wp2_with fail
    go_ret
    exact PsPost.nil _ _ rfl

end Go.Proofs.Ytjiplangdkpehaa
