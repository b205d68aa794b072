/-
  EqP. By a program (wip/tools/mk.py) out of snippets.
-/
import Derived.Test.YtjiplangdkpehaaPlan
import Derived.Test.YtjiplangdkpehaaReader
namespace Go.Proofs.Ytjiplangdkpehaa
open Go.RowKit

set_option maxHeartbeats 800000 in
theorem drawPlanOf_any (A : Option Addr) (n c : Nat) (bs : List Int) (w : World) (hc : n ≤ c) (hn : n ≤ 2000000) (hs : SB w A n bs) :
    Calls Try.prog 23 #[.slice A n c] w fun e w' => ∃ z : Int, e = .returned (.int .i64 z) ∧ z ∈ [(3 : Int), 4, 2, 1, 5, 6, 0, 7] ∧ Below w.heap.size w w' := by
  have H := Lib.hid (newReader_any A n c bs w hc hn hs)
  clear hs
  go_enter Try.func23, Try.ntmps23
  go_wp2_with fail
  refine H.out.mono ?_
  rintro e w1 ⟨rfl, hR, hb1⟩
  go_wp2_with fail
  refine (one_lit _ 0 _ w1 3 [3, 4, 2, 1, 5, 6, 0, 7] 8 rfl rfl (by omega) (by omega) (by omega) hR).mono ?_
  rintro e w2 ⟨z, rfl, hz, hR2, hg2, hb2⟩
  have hB := Lib.hid (hb1.trans hb2)
  have HZ := Lib.hid hz
  clear hR hR2 hb1 hb2 hg2 hz
  go_wp2_with fail
  go_ret
  exact ⟨z, rfl, HZ.out, hB.out⟩

set_option maxHeartbeats 800000 in
theorem drawFewestCalls_any (A : Option Addr) (n c : Nat) (bs : List Int) (w : World) (hc : n ≤ c) (hn : n ≤ 2000000) (hs : SB w A n bs) :
    Calls Try.prog 40 #[.slice A n c] w fun e w' => ∃ z : Int, e = .returned (.int .i64 z) ∧ z ∈ [(3 : Int), 4, 2, 1, 5, 6, 0, 7] ∧ Below w.heap.size w w' := by
  have H := Lib.hid (newReader_any A n c bs w hc hn hs)
  clear hs
  go_enter Try.func40, Try.ntmps40
  go_wp2_with fail
  refine H.out.mono ?_
  rintro e w1 ⟨rfl, hR, hb1⟩
  go_wp2_with fail
  refine (one_lit _ 0 _ w1 3 [3, 4, 2, 1, 5, 6, 0, 7] 8 rfl rfl (by omega) (by omega) (by omega) hR).mono ?_
  rintro e w2 ⟨z, rfl, hz, hR2, hg2, hb2⟩
  have hB := Lib.hid (hb1.trans hb2)
  have HZ := Lib.hid hz
  clear hR hR2 hb1 hb2 hg2 hz
  go_wp2_with fail
  go_ret
  exact ⟨z, rfl, HZ.out, hB.out⟩

set_option maxRecDepth 20000 in
set_option maxHeartbeats 1600000 in
theorem equalPairs_true (A B : Option Addr) (n c c' : Nat) (zs : List Int) (w : World) (hn : n ≤ 9000000000000000000) (ha : SI w A (n * 2) zs) (hb : SI w B (n * 2) zs) :
    Calls Try.prog 24 #[.slice A n c, .slice B n c'] w fun e w' => Qt w (.bool true) e w' := by
  go_enter Try.func24, Try.ntmps24
  go_wp2
  go_loopg [5] n (fun gg i wr => ∃ k m : Nat, k ≤ n ∧ n - k ≤ gg ∧ i = .int .i64 k ∧ wr = w.drewN m)
  case atStart => exact ⟨0, 0, by omega, by omega, rfl, rfl⟩
  case round =>
    obtain ⟨k, m, hk, hg, rfl, rfl⟩ := hrel
    by_cases hlt : k < n
    · obtain ⟨b, off, rfl, h1, h2⟩ := SI.pair ha hlt
      obtain ⟨b', off', rfl, h3, h4⟩ := SI.pair hb hlt
      generalize iat zs (k * 2) = x at *
      generalize iat zs (k * 2 + 1) = y at *
      clear ha hb
      go_wp2
      go_quiet (fail)
      go_wp2
      go_roundg (n - (k + 1))
      case measure => omega
      case rel => exact ⟨k + 1, _, by omega, by omega, by go_num, rfl⟩
    · clear ha hb
      go_wp2
      go_ret
      exact ⟨rfl, m, rfl⟩

end Go.Proofs.Ytjiplangdkpehaa
