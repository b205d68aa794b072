/-
  RF2. By a program (wip/tools/mk.py) out of snippets.
-/
import Derived.Test.YtlodhgkecpjieaaRF
import Derived.Test.YtlodhgkecpjieaaView1
namespace Go.Proofs.Ytlodhgkecpjieaa
open Go.RowKit

set_option maxHeartbeats 800000 in
theorem markView_any (n : Int) (A : Option Addr) (k c lo hi : Nat) (rows : List (List Int)) (k0 : Int) (w : World) (hk : k ≤ 2000000) (hr : ∀ i, i < k → (rat rows i).length ≤ 2000000) (ho : offR rows k ≤ 1000000000) (hk0 : 0 ≤ k0) (hk1 : k0 ≤ 1000000000) (ha : FR w lo hi A k rows) :
    Calls Try.prog 22 #[.agg #[.int .i64 n, .slice A k c], .int .i64 k0] w fun e w' => e = .returned (.int .i64 (k0 + (offR rows k : Nat))) ∧ FR w' lo hi A k (mkRows k0 rows) ∧ Wn lo hi w w' := by
  have C := Lib.hid (fun w h => markIntSS_any A k c lo hi rows k0 w hk hr ho hk0 hk1 h)
  have HA := Lib.hid (ha.alloc (.cells #[.int .i64 n, .slice A k c] 27))
  have HB := Lib.hid (show Wn lo hi w (w.alloc (.cells #[.int .i64 n, .slice A k c] 27)) from Wn.of_below ((Below.refl w.heap.size _).alloc (Nat.le_refl _) _) (Nat.le_refl _))
  clear ha hr
  go_enter Try.func22, Try.ntmps22
  go_wp2_with fail
  refine (C.out _ HA.out).mono ?_
  rintro e w' ⟨rfl, h1, h2⟩
  have H1 := Lib.hid h1
  have H2 := Lib.hid h2
  clear h1 h2
  go_wp2_with fail
  go_ret
  exact ⟨rfl, H1.out, HB.out.trans H2.out⟩

set_option maxHeartbeats 800000 in
theorem heldView_any (n : Int) (A : Option Addr) (k c : Nat) (rows : List (List Int)) (k0 : Int) (w : World) (hk : k ≤ 2000000) (hl : rows.length = k) (hr : ∀ i, i < k → (rat rows i).length ≤ 2000000) (ho : offR rows k ≤ 1000000000) (hk0 : 0 ≤ k0) (hk1 : k0 ≤ 1000000000) (ha : SS w A k (mkRows k0 rows)) :
    Calls Try.prog 23 #[.agg #[.int .i64 n, .slice A k c], .int .i64 k0] w fun e w' => e = .returned (.int .i64 (k0 + (offR rows k : Nat))) ∧ Below w.heap.size w w' := by
  have C := Lib.hid (fun w h => heldIntSS_any A k c rows k0 w hk hl hr ho hk0 hk1 h)
  have HA := Lib.hid (ha.alloc (.cells #[.int .i64 n, .slice A k c] 27))
  have HB := Lib.hid (show Below w.heap.size w (w.alloc (.cells #[.int .i64 n, .slice A k c] 27)) from (Below.refl w.heap.size _).alloc (Nat.le_refl _) _)
  clear ha hr hl
  go_enter Try.func23, Try.ntmps23
  go_wp2_with fail
  refine (C.out _ HA.out).mono ?_
  rintro e w' ⟨rfl, q, rfl⟩
  go_wp2_with fail
  go_ret
  exact ⟨rfl, bDrewN HB.out q⟩

/-- The views of mud and of letters. -/
def inN (n : Int) (hi : Int) : Bool := inR n 1 hi
def lvW (n : Int) : Int := if inR n 1 15 then n + 1 else 0
def lvR (n : Int) : List (List Int) := if inR n 1 15 then [(List.range (n.toNat + 1)).map fun (w : Nat) => ((w / 2 : Nat) : Int), (List.range (n.toNat + 1)).map fun (w : Nat) => (((w + 1) / 2 : Nat) : Int)] else []
def muF (a w : Nat) : Int := ((w - (if w.testBit a then 2 ^ a else 0) : Nat) : Int)
def muRow (n a : Nat) : List Int := (List.range (2 ^ n)).map (muF a)
def muW (n : Int) : Int := if inR n 1 4 then ((2 ^ n.toNat : Nat) : Int) else 0
def muR (n : Int) : List (List Int) := if inR n 1 4 then (List.range n.toNat).map (muRow n.toNat) else []
theorem lvR_fits (n : Int) : (lvR n).length ≤ 2000000 ∧ (∀ i, i < (lvR n).length → (rat (lvR n) i).length ≤ 2000000) ∧ offR (lvR n) (lvR n).length ≤ 1000000000 := by
  by_cases h : 1 ≤ n ∧ n ≤ 15
  · obtain ⟨k, rfl⟩ : ∃ k : Nat, n = k := ⟨n.toNat, by omega⟩
    have hk : k ≤ 15 := by omega
    rw [lvR, if_pos (inR_true h)]
    simp only [Int.toNat_natCast]
    refine ⟨by simp, fun i hi => ?_, ?_⟩
    · have : i = 0 ∨ i = 1 := by simp at hi; omega
      rcases this with rfl | rfl <;> simp [rat] <;> omega
    · simp [offR, rat]
      omega
  · rw [lvR, if_neg (by rw [inR_false h]; simp)]
    exact ⟨by simp, fun i hi => absurd hi (by simp), by simp [offR]⟩
theorem muR_fits (n : Int) : (muR n).length ≤ 2000000 ∧ (∀ i, i < (muR n).length → (rat (muR n) i).length ≤ 2000000) ∧ offR (muR n) (muR n).length ≤ 1000000000 := by
  by_cases h : 1 ≤ n ∧ n ≤ 4
  · obtain ⟨k, rfl⟩ : ∃ k : Nat, n = k := ⟨n.toNat, by omega⟩
    have hk : k ≤ 4 := by omega
    rw [muR, if_pos (inR_true h)]
    simp only [Int.toNat_natCast]
    have hp : 2 ^ k ≤ 16 := Nat.pow_le_pow_right (n := 2) (by omega) hk
    have hrow : ∀ i, (rat ((List.range k).map (muRow k)) i).length ≤ 16 := by
      intro i
      by_cases hi : i < k
      · simp [rat, hi, muRow]
        exact hp
      · simp [rat, hi]
    have hoff : ∀ i, offR ((List.range k).map (muRow k)) i ≤ i * 16 := by
      intro i
      induction i with
      | zero => exact Nat.le_refl _
      | succ i ih =>
        have := hrow i
        show offR _ i + _ ≤ _
        omega
    refine ⟨by simp; omega, fun i _ => by have := hrow i; omega, ?_⟩
    have := hoff ((List.range k).map (muRow k)).length
    simp only [List.length_map, List.length_range] at this ⊢
    omega
  · rw [muR, if_neg (by rw [inR_false h]; simp)]
    exact ⟨by simp, fun i hi => absurd hi (by simp), by simp [offR]⟩

end Go.Proofs.Ytlodhgkecpjieaa
