/-
  Fn2. By a program (wip/tools/mk.py) out of snippets.
-/
import Derived.Test.YthhfnhabnaakiaaFn1
import Derived.Test.YthhfnhabnaakiaaBase
namespace Go.Proofs.Ythhfnhabnaakiaa
open Go.RowKit

theorem index_any (A : Option Addr) (n c : Nat) (zs : List Int) (x : Int) (w : World) (hn : n ≤ 9000000000000000000) (ha : SI w A n zs) :
    Calls Try.prog 64 #[.slice A n c, .int .i64 x] w fun e w' => e = .returned (.int .i64 (fidx (fun z => x == z) zs)) ∧ w = w' := by
  have hlen := Lib.hid ha.len
  go_enter Try.func64, Try.ntmps64
  go_wp2
  go_loopg [8] n (fun gg s8 wr => ∃ k : Nat, k ≤ n ∧ n - k ≤ gg ∧ s8 = .int .i64 k ∧ w = wr ∧ Aside (∀ j, j < k → (x == iat zs j) = false))
  case atStart => exact ⟨0, Nat.zero_le _, by omega, rfl, rfl, fun j hj => absurd hj (Nat.not_lt_zero _)⟩
  case round =>
    obtain ⟨k, hk, hg, rfl, rfl, A0⟩ := hrel
    by_cases hlt : k < n
    · obtain ⟨b, off, rfl, h1⟩ := ha.at_ hlt
      clear ha
      cases hq : (x == iat zs k) with
      | true =>
        have HQ := Lib.hid hq
        go_wp2_with fail
        go_ret
        refine ⟨?_, rfl⟩
        rw [fidx_hit (p := fun z => x == z) (by rw [hlen.out]; exact hlt) HQ.out A0.out]
        rfl
      | false =>
        have HQ := Lib.hid hq
        go_wp2_with fail
        go_roundg (n - (k + 1))
        case measure => omega
        case rel =>
          refine ⟨k + 1, by omega, by omega, by go_num, by first | rfl | trivial, (show Aside _ from fun j hj => ?_)⟩
          by_cases e : j = k
          · subst e; exact HQ.out
          · exact A0.out j (by omega)
    · obtain rfl : k = n := by omega
      clear ha
      go_wp2_with fail
      go_ret
      refine ⟨?_, rfl⟩
      rw [fidx_miss (p := fun z => x == z) (fun j hj => A0.out j (by rw [hlen.out] at hj; exact hj))]
      rfl

theorem contains_any (A : Option Addr) (n c : Nat) (zs : List Int) (x : Int) (w : World) (hn : n ≤ 9000000000000000000) (ha : SI w A n zs) :
    Calls Try.prog 51 #[.slice A n c, .int .i64 x] w fun e w' => e = .returned (.bool (zs.any fun z => x == z)) ∧ w = w' := by
  have H := Lib.hid (index_any A n c zs x w hn ha)
  have hany := Lib.hid (fidx_any (fun z => x == z) zs)
  generalize hz : (zs.any fun z => x == z) = z at hany
  generalize hy : fidx (fun z => x == z) zs = y at H hany
  have hbd : -1 ≤ y := by have := (fidx_bd (p := fun z => x == z) (zs := zs)).1; omega
  have HZ := Lib.hid hz
  clear hy ha hz
  go_enter Try.func51, Try.ntmps51
  go_wp2_with (go_at_call 64; refine H.out.mono ?_; rintro e w' ⟨rfl, rfl⟩)
  go_ret
  exact ⟨by rw [← hany.out]; rfl, rfl⟩

theorem clip_any (b off n c : Nat) (w : World) (_hn : 0 < n) (hc : n ≤ c) (hm : n ≤ 9000000000000000000) :
    Calls Try.prog 55 #[.slice (some ⟨b, off, none⟩) n c] w fun e w' => e = .returned (.slice (some ⟨b, off, none⟩) n n) ∧ w = w' := by
  go_enter Try.func55, Try.ntmps55
  go_wp2
  go_ret
  exact ⟨rfl, rfl⟩

theorem clone_any (A : Option Addr) (n c : Nat) (zs : List Int) (w : World) (hn0 : 0 < n) (hn : n ≤ 2000000) (ha : SI w A n zs) :
    Calls Try.prog 56 #[.slice A n c] w fun e w' => ∃ A' c', e = .returned (.slice A' n c') ∧ n ≤ c' ∧ NewI w' w.heap.size A' n zs ∧ Below w.heap.size w w' := by
  obtain ⟨b, off, rfl, hc⟩ := ha.2 hn0
  have hb0 : Below w.heap.size w (w.alloc (.cells #[] 3)) := (Below.refl _ _).alloc (Nat.le_refl _) _
  have HO := Lib.hid (own_empty w w.heap.size (Nat.le_refl _))
  have HS := Lib.hid (ha.alloc (.cells #[] 3))
  have hneq := fun (W : World) a l c => Lib.run_eql_slice_nil (P := Try.prog) W 23 3 a l c 0 0 Try.underlying23
  clear ha hc
  go_enter Try.func56, Try.ntmps56
  go_wp2_with (at_builtin; refine appAll _ w.heap.size _ 0 0 [] _ n _ zs rfl _ _ rfl rfl HO.out rfl HS.out (by omega) (by simp) ?_; intro A2 c2 w2 ho2 hb2 hg2)
  go_ret
  simp only [Nat.zero_add, List.nil_append] at ho2
  exact ⟨A2, c2, by simp, own_cap ho2, NewI.of_own ho2, hb0.trans hb2⟩

end Go.Proofs.Ythhfnhabnaakiaa
