/-
  TlM. By a program (wip/tools/mk.py) out of snippets.
-/
import Derived.Test.YtfjpnennbdefiaaView1
import Derived.Test.YtfjpnennbdefiaaViewI3
namespace Go.Proofs.Ytfjpnennbdefiaa
open Go.RowKit

/-- The least world that looks the same as w and is in the set if w is. -/
def lsC (row : List Int) (s w u : Nat) : Bool := iat row u == iat row w && s.testBit u == s.testBit w
def lstU (row : List Int) (n s w : Nat) : Nat := (List.range n).findIdx (lsC row s w)
def tlRow (row : List Int) (n s : Nat) : List Int := (List.range n).map fun w => ((lstU row n s w : Nat) : Int)
def tlV (rows : List (List Int)) (n s : Nat) : List (List Int) := rows.map fun row => tlRow row n s
theorem lsC_self (row : List Int) (s w : Nat) : lsC row s w w = true := by simp [lsC]
theorem lsC_comm {row : List Int} {s w u : Nat} : lsC row s w u = lsC row s u w := by
  unfold lsC
  rw [Bool.eq_iff_iff]
  simp only [Bool.and_eq_true, beq_iff_eq]
  exact ⟨fun h => ⟨h.1.symm, h.2.symm⟩, fun h => ⟨h.1.symm, h.2.symm⟩⟩
theorem lstU_eq {row : List Int} {n s w u : Nat} (hu : u < n) (h : lsC row s w u = true) (hb : ∀ j, j < u → lsC row s w j = false) : lstU row n s w = u := by
  unfold lstU
  rw [List.findIdx_eq (by simpa using hu)]
  exact ⟨by simpa using h, fun j hj => by simpa using hb j hj⟩
theorem lstU_lt {row : List Int} {n s w : Nat} (hw : w < n) : lstU row n s w < n := by
  have h := List.findIdx_lt_length_of_exists (p := lsC row s w) (xs := List.range n) ⟨w, by simpa using hw, lsC_self _ _ _⟩
  rw [List.length_range] at h
  exact h
theorem lstU_is {row : List Int} {n s w : Nat} (hw : w < n) : lsC row s w (lstU row n s w) = true := by
  have hlt : List.findIdx (lsC row s w) (List.range n) < (List.range n).length := by rw [List.length_range]; exact lstU_lt hw
  have h := List.findIdx_getElem (p := lsC row s w) (xs := List.range n) (w := hlt)
  rw [List.getElem_range] at h
  exact h
theorem tlRow_length (row : List Int) (n s : Nat) : (tlRow row n s).length = n := by simp [tlRow]
theorem tlRow_at {row : List Int} {n s w : Nat} (hw : w < n) : iat (tlRow row n s) w = ((lstU row n s w : Nat) : Int) := by simp [tlRow, iat, hw]
theorem tlV_length (rows : List (List Int)) (n s : Nat) : (tlV rows n s).length = rows.length := by simp [tlV]
theorem tlV_at {rows : List (List Int)} {n s i : Nat} (h : i < rows.length) : rat (tlV rows n s) i = tlRow (rat rows i) n s := by
  simp [tlV, rat, List.getD_eq_getElem?_getD, h]
theorem lstU_same {row : List Int} {n s u w : Nat} (hu : u < n) (hw : w < n) : (lstU row n s u = lstU row n s w) ↔ lsC row s w u = true := by
  constructor
  · intro e
    have h1 := lstU_is (row := row) (s := s) hu
    have h2 := lstU_is (row := row) (s := s) hw
    rw [e] at h1
    unfold lsC at *
    simp only [Bool.and_eq_true, beq_iff_eq] at *
    exact ⟨h1.1.symm.trans h2.1, h1.2.symm.trans h2.2⟩
  · intro e
    unfold lstU
    congr 1
    funext x
    unfold lsC at *
    simp only [Bool.and_eq_true, beq_iff_eq] at e
    rw [e.1, e.2]
theorem tlRows_succ (rows : List (List Int)) (n s a : Nat) (h : a < rows.length) : (rows.take (a + 1)).map (fun row => tlRow row n s) = (rows.take a).map (fun row => tlRow row n s) ++ [tlRow (rat rows a) n s] := by
  rw [List.take_succ_eq_append_getElem h, List.map_append, List.map_singleton, rat_eq h]
theorem tlRow_take_succ (row : List Int) (n s p : Nat) : (List.range (p + 1)).map (fun w => ((lstU row n s w : Nat) : Int)) = (List.range p).map (fun w => ((lstU row n s w : Nat) : Int)) ++ [((lstU row n s p : Nat) : Int)] := by
  simp [List.range_succ]

theorem full_bit {n u : Nat} (h : u < n) : (2 ^ n - 1).testBit u = true := by rw [Nat.testBit_two_pow_sub_one]; simpa using h
theorem knV_tl (row : List Int) (n s : Nat) : knV (tlRow row n (2 ^ n - 1)) n s = knV row n s := by
  unfold knV
  refine bs_congr fun w hw => ?_
  unfold knP
  rw [Bool.eq_iff_iff, List.all_eq_true, List.all_eq_true]
  refine forall_congr' fun u => forall_congr' fun hu => ?_
  have hu' : u < n := List.mem_range.1 hu
  have e : (iat (tlRow row n (2 ^ n - 1)) u != iat (tlRow row n (2 ^ n - 1)) w) = (iat row u != iat row w) := by
    rw [tlRow_at hu', tlRow_at hw, Bool.eq_iff_iff]
    simp only [bne_iff_ne, ne_eq, Int.natCast_inj]
    rw [lstU_same hu' hw, lsC, full_bit hu', full_bit hw]
    simp
  rw [e]
theorem foldl_tl (l : List (List Int)) (n s a : Nat) : (l.map fun row => tlRow row n (2 ^ n - 1)).foldl (fun out row => out &&& knV row n s) a = l.foldl (fun out row => out &&& knV row n s) a := by
  induction l generalizing a with
  | nil => rfl
  | cons r l ih => rw [List.map_cons, List.foldl_cons, List.foldl_cons, knV_tl, ih]
theorem alV_tl (rows : List (List Int)) (n s : Nat) : alV (tlV rows n (2 ^ n - 1)) n s = alV rows n s := by
  unfold alV alTo tlV
  rw [List.take_length, List.take_length, foldl_tl]
theorem knV_full (row : List Int) (n : Nat) : knV row n (2 ^ n - 1) = 2 ^ n - 1 := by
  rw [← bs_true n]
  unfold knV
  refine bs_congr fun w _ => ?_
  unfold knP
  rw [List.all_eq_true]
  intro u hu
  rw [bs_true, full_bit (List.mem_range.1 hu)]
  simp
theorem alV_full (rows : List (List Int)) (n : Nat) : alV rows n (2 ^ n - 1) = 2 ^ n - 1 := by
  unfold alV alTo
  rw [List.take_length]
  induction rows with
  | nil => rfl
  | cons r l ih => rw [List.foldl_cons, knV_full, Nat.and_self, ih]
theorem vv_tl {n : Nat} {rows : List (List Int)} {s : Nat} (h : vv n rows = true) : vv n (tlV rows n s) = true := by
  obtain ⟨h1, h2, h3⟩ := vv_iff.1 h
  refine vv_iff.2 ⟨h1, by rw [tlV_length]; exact h2, fun i hi => ?_⟩
  rw [tlV_length] at hi
  rw [tlV_at hi, tlRow_length]
  refine ⟨rfl, fun z hz => ?_⟩
  obtain ⟨w, hw, rfl⟩ := List.mem_map.1 hz
  have := lstU_lt (row := rat rows i) (s := s) (List.mem_range.1 hw)
  omega
theorem pow1 {n : Nat} (h : 1 ≤ n) : 2 ≤ 2 ^ n := by
  have := Nat.pow_le_pow_right (n := 2) (by omega) h
  simpa using this
/-- What the law of 'ValidView' asks. -/
theorem tellFacts {n : Nat} {rows : List (List Int)} (h : vv n rows = true) : gd n rows ((2 ^ n - 1 : Nat) : Int) = true ∧ vv n (tlV rows n (2 ^ n - 1)) = true ∧ alA n (tlV rows n (2 ^ n - 1)) 1 = alA n rows 1 ∧ alA n rows ((2 ^ n - 1 : Nat) : Int) = ((2 ^ n - 1 : Nat) : Int) := by
  have h2 := vv_tl (s := 2 ^ n - 1) h
  obtain ⟨h1, _, _⟩ := vv_iff.1 h
  have hp := pow1 (n := n) (by omega)
  have hc : ((2 : Int) ^ n) = ((2 ^ n : Nat) : Int) := by simp
  have g : ∀ x : Nat, x ≤ 2 ^ n - 1 → ∀ R, vv n R = true → gd n R x = true := fun x hx R hR => gd_iff.2 ⟨hR, by omega, by rw [Int.toNat_natCast, hc]; omega⟩
  have g1 := fun R hR => g 1 (by omega) R hR
  refine ⟨g _ (Nat.le_refl _) _ h, h2, ?_, ?_⟩
  · unfold alA
    rw [show ((1 : Int)) = ((1 : Nat) : Int) from rfl, g1 _ h, g1 _ h2]
    simp only [Int.toNat_natCast, if_true]
    rw [alV_tl]
  · unfold alA
    rw [g _ (Nat.le_refl _) _ h]
    simp only [Int.toNat_natCast, if_true]
    rw [alV_full]

end Go.Proofs.Ytfjpnennbdefiaa
