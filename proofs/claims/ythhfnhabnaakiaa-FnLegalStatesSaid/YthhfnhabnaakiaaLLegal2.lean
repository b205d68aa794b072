/-
  LLegal2. By a program (wip/tools/mk.py) out of snippets.
-/
import Derived.Test.YthhfnhabnaakiaaLLegal
import Derived.Test.YthhfnhabnaakiaaFnBase
import Derived.Test.YthhfnhabnaakiaaDTok
import Derived.Test.YthhfnhabnaakiaaTokMath
namespace Go.Proofs.Ythhfnhabnaakiaa
open Go.RowKit

set_option maxHeartbeats 800000 in
theorem equalLists_true (A B : Option Addr) (n c c' : Nat) (rows : List (List Int)) (w : World) (hn : n ≤ 9000000000000000000) (hr : ∀ i, i < n → (rat rows i).length ≤ 2000000) (ha : SS w A n rows) (hb : SS w B n rows) :
    Calls Try.prog 39 #[.slice A n c, .slice B n c'] w fun e w' => Qt w (.bool true) e w' := by
  have HR := Lib.hid hr; clear hr
  go_enter Try.func39, Try.ntmps39
  go_wp2
  go_loopw [5] (fun i wr => ∃ k : Nat, k ≤ n ∧ i = .int .i64 k ∧ ∃ m, wr = w.drewN m) (fun i _ => n - (intOf i).toNat)
  case atStart => exact ⟨0, by omega, rfl, 0, rfl⟩
  case round =>
    obtain ⟨k, hk, rfl, m, rfl⟩ := hrel
    by_cases hlt : k < n
    · obtain ⟨b, off, A1, n1, c1, rfl, h1, s1⟩ := ha.at_ hlt
      obtain ⟨b', off', A2, n2, c2, rfl, h2, s2⟩ := hb.at_ hlt
      obtain rfl : n2 = n1 := by rw [← s1.1, ← s2.1]
      have hn1 : n2 ≤ 9000000000000000000 := by have := HR.out k hlt; rw [s2.1] at this; omega
      have H := Lib.hid (fun q => equalInts_true A1 A2 n2 c1 c2 _ (w.drewN q) hn1 (SI.drewN s1 q) (SI.drewN s2 q))
      clear ha hb s1 s2 hn1
      go_wp2_with fail
      go_quiet (first | (go_at_call 26; exact quietD (H.out _)))
      go_wp2
      go_roundw
      case rel => exact ⟨k + 1, by omega, by go_num, by first | exact ⟨_, rfl⟩ | exact ⟨_, by rw [World.drewN_drewN]⟩ | trivial⟩
      case measure => simp [intOf]; omega
    · clear ha hb
      go_wp2
      go_ret
      exact ⟨rfl, m, rfl⟩

theorem iat_ext {xs ys : List Int} (hl : xs.length = ys.length) (h : ∀ j, j < xs.length → iat xs j = iat ys j) : xs = ys :=
  List.ext_getElem hl fun i h1 h2 => by
    have := h i h1
    simpa [iat, h1, h2] using this
theorem equalInts_ne (A B : Option Addr) (n c c' : Nat) (xs ys : List Int) (w : World) (hn : n ≤ 9000000000000000000) (ha : SI w A n xs) (hb : SI w B n ys) (hne : xs ≠ ys) :
    Calls Try.prog 26 #[.slice A n c, .slice B n c'] w fun e w' => Qt w (.bool false) e w' := by
  have HNE := Lib.hid (show ¬ ∀ j, j < n → iat xs j = iat ys j from fun h => hne (iat_ext (by rw [ha.1, hb.1]) (fun j hj => h j (by rw [← ha.1]; exact hj))))
  clear hne
  go_enter Try.func26, Try.ntmps26
  go_wp2
  go_loopw [5] (fun i wr => ∃ k : Nat, k ≤ n ∧ i = .int .i64 k ∧ Hid (∀ j, j < k → iat xs j = iat ys j) ∧ ∃ m, wr = w.drewN m) (fun i _ => n - (intOf i).toNat)
  case atStart => exact ⟨0, by omega, rfl, Lib.hid (fun j hj => absurd hj (by omega)), 0, rfl⟩
  case round =>
    obtain ⟨k, hk, rfl, HK, m, rfl⟩ := hrel
    by_cases hlt : k < n
    · obtain ⟨b, off, rfl, h1⟩ := ha.at_ hlt
      obtain ⟨b', off', rfl, h2⟩ := hb.at_ hlt
      clear ha hb
      by_cases he : iat xs k = iat ys k
      · have HE := Lib.hid (show ∀ j, j < k + 1 → iat xs j = iat ys j from fun j hj => by
          by_cases e : j = k
          · rw [e, he]
          · exact HK.out j (by omega))
        rw [he] at h1
        clear he HK
        generalize iat ys k = y at h1 h2
        have hyy : (y != y) = false := by simp
        go_wp2
        go_quiet (fail)
        go_wp2
        go_roundw
        case rel =>
          exact ⟨k + 1, by omega, by go_num, HE, by first | exact ⟨_, rfl⟩ | trivial⟩
        case measure => simp [intOf]; omega
      · clear HK HNE
        generalize iat xs k = x at *
        generalize iat ys k = y at *
        have hxy : (x != y) = true := by simp [bne, he]
        have hxy2 : (x == y) = false := by simp [he]
        go_wp2
        go_quiet (fail)
        go_wp2
        go_ret
        exact ⟨rfl, _, by rw [World.drewN_drewN]⟩
    · obtain rfl : k = n := by omega
      exact absurd HK.out HNE.out

end Go.Proofs.Ythhfnhabnaakiaa
