/-
  ViewDef. By a program (wip/tools/mk.py) out of snippets.
-/
import Derived.Test.YtfjpnennbdefiaaSS
namespace Go.Proofs.Ytfjpnennbdefiaa
open Go.RowKit

/-- The sum of 2 to each number below n of which p holds. -/
def bs (p : Nat → Bool) : Nat → Nat
  | 0 => 0
  | n + 1 => bs p n + if p n then 2 ^ n else 0
theorem bs_lt (p : Nat → Bool) (n : Nat) : bs p n < 2 ^ n := by
  induction n with
  | zero => simp [bs]
  | succ n ih =>
    have h2 : 2 ^ (n + 1) = 2 ^ n + 2 ^ n := by rw [Nat.pow_succ]; omega
    rw [bs, h2]
    split <;> omega
theorem bs_or (p : Nat → Bool) (n : Nat) : bs p (n + 1) = bs p n ||| (if p n then 2 ^ n else 0) := by
  rw [bs]
  split
  · have := Nat.two_pow_add_eq_or_of_lt (bs_lt p n) 1
    rw [Nat.mul_one] at this
    rw [Nat.add_comm, this, Nat.or_comm]
  · simp
theorem bs_bit (p : Nat → Bool) (n i : Nat) : (bs p n).testBit i = (decide (i < n) && p i) := by
  induction n with
  | zero => simp [bs]
  | succ n ih =>
    rw [bs_or, Nat.testBit_or, ih]
    by_cases h : p n = true
    · rw [if_pos h, Nat.testBit_two_pow]
      by_cases e : i = n
      · subst e; simp [h]
      · have e' : ¬ n = i := fun h => e h.symm
        have e1 : decide (i < n + 1) = decide (i < n) := by rw [decide_eq_decide]; omega
        rw [e1]; simp [e']
    · rw [if_neg h]
      simp only [Nat.zero_testBit, Bool.or_false]
      by_cases e : i = n
      · subst e; simp [h]
      · have e1 : decide (i < n + 1) = decide (i < n) := by rw [decide_eq_decide]; omega
        rw [e1]
theorem bs_congr {p q : Nat → Bool} {n : Nat} (h : ∀ i, i < n → p i = q i) : bs p n = bs q n := by
  induction n with
  | zero => rfl
  | succ n ih => rw [bs, bs, ih (fun i hi => h i (by omega)), h n (by omega)]
theorem bs_true (n : Nat) : bs (fun _ => true) n = 2 ^ n - 1 := by
  induction n with
  | zero => rfl
  | succ n ih =>
    rw [bs, ih, Nat.pow_succ]
    have := Nat.two_pow_pos n
    simp
    omega
theorem bs_succ_true {p : Nat → Bool} {n : Nat} (h : p n = true) : bs p (n + 1) = bs p n + 2 ^ n := by rw [bs, if_pos h]
theorem bs_succ_false {p : Nat → Bool} {n : Nat} (h : p n = false) : bs p (n + 1) = bs p n := by rw [bs, h]; simp
theorem bs_succ_or {p : Nat → Bool} {n : Nat} (h : p n = true) : bs p (n + 1) = bs p n ||| 2 ^ n := by rw [bs_or, if_pos h]

/-- The numbers of a that are not in b. -/
def andn (a b : Nat) : Nat := a ^^^ (a &&& b)
theorem andn_bit (a b i : Nat) : (andn a b).testBit i = (a.testBit i && !b.testBit i) := by
  unfold andn
  rw [Nat.testBit_xor, Nat.testBit_and]
  cases a.testBit i <;> cases b.testBit i <;> rfl
theorem andn_le (a b : Nat) : andn a b ≤ a := by
  have h : andn a b = a &&& andn a b := Nat.eq_of_testBit_eq fun i => by
    rw [Nat.testBit_and, andn_bit]
    cases a.testBit i <;> cases b.testBit i <;> rfl
  rw [h]; exact Nat.and_le_left
theorem bits_andn64 (a b : Nat) (ha : a < 2 ^ 63) (hb : b < 2 ^ 63) : bits .andNot .i64 (a : Int) (b : Int) = (andn a b : Nat) := by
  have e : (BitVec.ofNat 64 a &&& ~~~ BitVec.ofNat 64 b).toNat = andn a b := by
    apply Nat.eq_of_testBit_eq
    intro i
    rw [BitVec.testBit_toNat, andn_bit, BitVec.getLsbD_and, BitVec.getLsbD_not, BitVec.getLsbD_ofNat, BitVec.getLsbD_ofNat]
    by_cases hi : i < 64
    · simp [hi]
    · have : a.testBit i = false := Nat.testBit_lt_two_pow (Nat.lt_of_lt_of_le ha (Nat.pow_le_pow_right (by omega) (by omega)))
      simp [hi, this]
  have hle := andn_le a b
  show IntKind.i64.wrap (((BitVec.ofInt 64 (a : Int) &&& ~~~ BitVec.ofInt 64 (b : Int)).toNat : Nat) : Int) = _
  rw [BitVec.ofInt_natCast, BitVec.ofInt_natCast, e]
  exact IntWalk.i64_in _ (by omega)
theorem andn_zero {a b : Nat} : andn a b = 0 ↔ ∀ i, a.testBit i = true → b.testBit i = true := by
  constructor
  · intro h i hi
    have := andn_bit a b i
    rw [h, hi] at this
    simpa using this
  · intro h
    apply Nat.eq_of_testBit_eq
    intro i
    rw [andn_bit, Nat.zero_testBit]
    cases e : a.testBit i with
    | false => rfl
    | true => rw [h i e]; rfl
theorem andn_bs {p : Nat → Bool} {n s : Nat} : (andn (bs p n) s == 0) = (List.range n).all fun u => !p u || s.testBit u := by
  rw [Bool.eq_iff_iff, beq_iff_eq, andn_zero, List.all_eq_true]
  simp only [bs_bit, List.mem_range, Bool.and_eq_true, decide_eq_true_eq, Bool.or_eq_true, Bool.not_eq_true']
  constructor
  · intro h u hu
    cases e : p u with
    | false => exact .inl rfl
    | true => exact .inr (h u ⟨hu, e⟩)
  · rintro h u ⟨hu, e⟩
    rcases h u hu with h1 | h1
    · rw [e] at h1; cases h1
    · exact h1

/-- The worlds in which one sees the same as in w. -/
def smV (row : List Int) (n w : Nat) : Nat := bs (fun u => iat row u == iat row w) n
/-- The worlds in which one knows s. -/
def knP (row : List Int) (n s w : Nat) : Bool := (List.range n).all fun u => iat row u != iat row w || s.testBit u
def knV (row : List Int) (n s : Nat) : Nat := bs (knP row n s) n
theorem knP_of (row : List Int) (n s w : Nat) : (andn (smV row n w) s == 0) = knP row n s w := by
  unfold smV knP
  rw [andn_bs]
  rfl
theorem knV_lt (row : List Int) (n s : Nat) : knV row n s < 2 ^ n := bs_lt _ _
/-- The worlds in which all of the first k know s. -/
def alTo (rows : List (List Int)) (n s k : Nat) : Nat := (rows.take k).foldl (fun out row => out &&& knV row n s) (2 ^ n - 1)
def alV (rows : List (List Int)) (n s : Nat) : Nat := alTo rows n s rows.length
theorem alTo_zero (rows : List (List Int)) (n s : Nat) : alTo rows n s 0 = 2 ^ n - 1 := rfl
theorem alTo_succ {rows : List (List Int)} {n s k : Nat} (h : k < rows.length) : alTo rows n s (k + 1) = alTo rows n s k &&& knV (rat rows k) n s := by
  unfold alTo
  rw [List.take_succ_eq_append_getElem h, List.foldl_append, rat_eq h]
  rfl
theorem alTo_lt (rows : List (List Int)) (n s k : Nat) : alTo rows n s k < 2 ^ n := by
  have hp := Nat.two_pow_pos n
  unfold alTo
  generalize rows.take k = l
  suffices h : ∀ (l : List (List Int)) (a : Nat), a < 2 ^ n → l.foldl (fun out row => out &&& knV row n s) a < 2 ^ n from h l _ (by omega)
  intro l
  induction l with
  | nil => intro a ha; exact ha
  | cons r l ih => intro a ha; exact ih _ (Nat.lt_of_le_of_lt Nat.and_le_left ha)
/-- How deep. -/
def dpV (rows : List (List Int)) (n w : Nat) : Nat → Nat → Nat
  | 0, _ => 0
  | g + 1, s => if (alV rows n s).testBit w then dpV rows n w g (alV rows n s) + 1 else 0
/-- What is common. -/
def cmF (rows : List (List Int)) (n : Nat) : Nat → Nat → Nat
  | 0, s => s
  | g + 1, s => if s &&& alV rows n s = s then s else cmF rows n g (s &&& alV rows n s)
def cmV (rows : List (List Int)) (n s : Nat) : Nat := cmF rows n s s
theorem cmF_same (rows : List (List Int)) (n : Nat) : ∀ g g' s, s ≤ g → s ≤ g' → cmF rows n g s = cmF rows n g' s := by
  intro g
  induction g with
  | zero =>
    intro g' s h h'
    obtain rfl : s = 0 := by omega
    cases g' with
    | zero => rfl
    | succ g' => simp [cmF]
  | succ g ih =>
    intro g' s h h'
    cases g' with
    | zero =>
      obtain rfl : s = 0 := by omega
      simp [cmF]
    | succ g' =>
      rw [cmF, cmF]
      split
      · rfl
      · rename_i hne
        have : s &&& alV rows n s < s := by
          have := Nat.and_le_left (n := s) (m := alV rows n s)
          omega
        exact ih _ _ (by omega) (by omega)
theorem cmV_step (rows : List (List Int)) (n s : Nat) : cmV rows n s = if s &&& alV rows n s = s then s else cmV rows n (s &&& alV rows n s) := by
  unfold cmV
  cases s with
  | zero => simp [cmF]
  | succ s =>
    rw [cmF]
    split
    · rfl
    · have := Nat.and_le_left (n := s + 1) (m := alV rows n (s + 1))
      exact cmF_same rows n _ _ _ (by omega) (Nat.le_refl _)
theorem cmV_stop {rows : List (List Int)} {n s : Nat} (h : s &&& alV rows n s = s) : cmV rows n s = s := by rw [cmV_step, if_pos h]
theorem cmV_go {rows : List (List Int)} {n s : Nat} : cmV rows n (s &&& alV rows n s) = cmV rows n s := by
  rw [cmV_step rows n s]
  split
  · rename_i h; rw [h, cmV_stop h]
  · rfl
/-- What all know together. -/
def shP (rows : List (List Int)) (n s w : Nat) : Bool := (List.range n).all fun u => (rows.any fun row => iat row u != iat row w) || s.testBit u
def shV (rows : List (List Int)) (n s : Nat) : Nat := bs (shP rows n s) n
/-- The worlds in which the first k see the same as in w. -/
def laTo (rows : List (List Int)) (n w k : Nat) : Nat := (rows.take k).foldl (fun out row => out &&& smV row n w) (2 ^ n - 1)
theorem laTo_succ {rows : List (List Int)} {n w k : Nat} (h : k < rows.length) : laTo rows n w (k + 1) = laTo rows n w k &&& smV (rat rows k) n w := by
  unfold laTo
  rw [List.take_succ_eq_append_getElem h, List.foldl_append, rat_eq h]
  rfl
theorem laTo_bs (rows : List (List Int)) (n w k : Nat) : laTo rows n w k = bs (fun u => !((rows.take k).any fun row => iat row u != iat row w)) n := by
  unfold laTo
  rw [← bs_true]
  generalize rows.take k = l
  suffices h : ∀ (l : List (List Int)) (q : Nat → Bool), l.foldl (fun out row => out &&& smV row n w) (bs q n) = bs (fun u => q u && !(l.any fun row => iat row u != iat row w)) n by
    rw [h l]; exact bs_congr fun i _ => by simp
  intro l
  induction l with
  | nil => intro q; exact bs_congr fun i _ => by simp
  | cons r l ih =>
    intro q
    have e : bs q n &&& smV r n w = bs (fun u => q u && iat r u == iat r w) n := by
      apply Nat.eq_of_testBit_eq
      intro i
      unfold smV
      rw [Nat.testBit_and, bs_bit, bs_bit, bs_bit]
      by_cases hi : i < n <;> simp [hi]
    rw [List.foldl_cons, e, ih]
    refine bs_congr fun i _ => ?_
    rw [List.any_cons, Bool.not_or, bne, Bool.not_not, Bool.and_assoc]
theorem shP_of (rows : List (List Int)) (n s w : Nat) : (andn (laTo rows n w rows.length) s == 0) = shP rows n s w := by
  rw [laTo_bs, andn_bs, List.take_length]
  unfold shP
  congr 1
  funext u
  rw [Bool.not_not]

def rowOk (n : Int) (row : List Int) : Bool := ((row.length : Int) == n) && row.all fun z => inR z 0 (n - 1)
/-- Is it a view? -/
def vv (n : Int) (rows : List (List Int)) : Bool := (inR n 1 16 && inR rows.length 1 4) && rows.all (rowOk n)
/-- Is s a set of its worlds? -/
def gd (n : Int) (rows : List (List Int)) (s : Int) : Bool := vv n rows && inR s 0 (2 ^ n.toNat - 1)
theorem vv_iff {n : Int} {rows : List (List Int)} : vv n rows = true ↔ (1 ≤ n ∧ n ≤ 16) ∧ (1 ≤ rows.length ∧ rows.length ≤ 4) ∧ ∀ i, i < rows.length → ((rat rows i).length : Int) = n ∧ ∀ z ∈ rat rows i, 0 ≤ z ∧ z ≤ n - 1 := by
  unfold vv rowOk
  simp only [Bool.and_eq_true, inR_iff, List.all_eq_true, beq_iff_eq]
  constructor
  · rintro ⟨⟨h1, h2, h3⟩, h4⟩
    exact ⟨h1, ⟨by omega, by omega⟩, fun i hi => h4 _ (rat_mem hi)⟩
  · rintro ⟨h1, ⟨h2, h3⟩, h4⟩
    refine ⟨⟨h1, by omega, by omega⟩, fun row hr => ?_⟩
    obtain ⟨i, hi, rfl⟩ := List.mem_iff_getElem.1 hr
    rw [← rat_eq hi]
    exact h4 i hi
/-- The answers of the functions. -/
def knA (n : Int) (rows : List (List Int)) (a s : Int) : Int := if gd n rows s && inR a 0 ((rows.length : Int) - 1) then (knV (rat rows a.toNat) n.toNat s.toNat : Int) else -1
def alA (n : Int) (rows : List (List Int)) (s : Int) : Int := if gd n rows s then (alV rows n.toNat s.toNat : Int) else -1
def cmA (n : Int) (rows : List (List Int)) (s : Int) : Int := if gd n rows s then (cmV rows n.toNat s.toNat : Int) else -1
def dpA (n : Int) (rows : List (List Int)) (w s : Int) : Int := if gd n rows s && inR w 0 (n - 1) then (dpV rows n.toNat w.toNat 20 s.toNat : Int) else -1
def shA (n : Int) (rows : List (List Int)) (s : Int) : Int := if gd n rows s then (shV rows n.toNat s.toNat : Int) else -1

end Go.Proofs.Ytfjpnennbdefiaa
