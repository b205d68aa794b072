/-
  RlDef. By a program (wip/tools/mk.py) out of snippets.
-/
import Derived.Test.YtblaaeanbhgokaaSS
import Derived.Test.YtblaaeanbhgokaaFn1
namespace Go.Proofs.Ytblaaeanbhgokaa
open Go.RowKit

/-- The rules of the four names: what the kinds say, and what two that meet become. -/
def ruS : Nat → List Int
  | 0 => [0, 1]
  | 1 => [0, 0, 0, 1]
  | 2 => [0, 1, 0, 1]
  | 3 => [0, 1, 0, 1]
  | _ => []
def ruF : Nat → List (List Int)
  | 0 => [[0, 1], [1, 1]]
  | 1 => [[0, 1, 2, 3], [1, 2, 3, 3], [2, 3, 3, 3], [3, 3, 3, 3]]
  | 2 => [[0, 2, 0, 0], [2, 1, 1, 1], [2, 3, 2, 2], [2, 3, 2, 3]]
  | 3 => [[0, 1, 0, 0], [1, 0, 1, 1], [2, 3, 2, 2], [2, 3, 3, 3]]
  | _ => []
def ruG : Nat → List (List Int)
  | 0 => [[0, 1], [1, 1]]
  | 1 => [[0, 0, 0, 3], [0, 0, 3, 3], [0, 3, 3, 3], [3, 3, 3, 3]]
  | 2 => [[0, 2, 2, 2], [2, 1, 3, 3], [0, 1, 2, 2], [0, 1, 2, 3]]
  | 3 => [[2, 3, 2, 2], [3, 2, 3, 3], [0, 1, 2, 3], [0, 1, 2, 3]]
  | _ => []
def ruN : Nat → Nat
  | 0 => 2
  | 1 => 4
  | 2 => 4
  | 3 => 4
  | _ => 0
/-- Which of the four names a text is; 4: none. -/
def rlT (s : ByteArray) : Nat :=
  if s.toList == [115, 111, 109, 101] then 0 else if s.toList == [116, 104, 114, 101, 101] then 1 else if s.toList == [109, 111, 115, 116] then 2 else if s.toList == [111, 100, 100] then 3 else 4
theorem rlT_cases (s : ByteArray) : ((s.toList == [115, 111, 109, 101]) = true ∧ rlT s = 0) ∨ ((s.toList == [115, 111, 109, 101]) = false ∧ (s.toList == [116, 104, 114, 101, 101]) = true ∧ rlT s = 1) ∨
    ((s.toList == [115, 111, 109, 101]) = false ∧ (s.toList == [116, 104, 114, 101, 101]) = false ∧ (s.toList == [109, 111, 115, 116]) = true ∧ rlT s = 2) ∨
    ((s.toList == [115, 111, 109, 101]) = false ∧ (s.toList == [116, 104, 114, 101, 101]) = false ∧ (s.toList == [109, 111, 115, 116]) = false ∧ (s.toList == [111, 100, 100]) = true ∧ rlT s = 3) ∨
    ((s.toList == [115, 111, 109, 101]) = false ∧ (s.toList == [116, 104, 114, 101, 101]) = false ∧ (s.toList == [109, 111, 115, 116]) = false ∧ (s.toList == [111, 100, 100]) = false ∧ rlT s = 4) := by
  unfold rlT
  cases (s.toList == [115, 111, 109, 101]) with
  | true => exact .inl ⟨rfl, rfl⟩
  | false =>
    cases (s.toList == [116, 104, 114, 101, 101]) with
    | true => exact .inr (.inl ⟨rfl, rfl, rfl⟩)
    | false =>
      cases (s.toList == [109, 111, 115, 116]) with
      | true => exact .inr (.inr (.inl ⟨rfl, rfl, rfl, rfl⟩))
      | false =>
        cases (s.toList == [111, 100, 100]) with
        | true => exact .inr (.inr (.inr (.inl ⟨rfl, rfl, rfl, rfl, rfl⟩)))
        | false => exact .inr (.inr (.inr (.inr ⟨rfl, rfl, rfl, rfl, rfl⟩)))
def ruA (t a b : Nat) : Int := iat (rat (ruF t) a) b
def ruB (t a b : Nat) : Int := iat (rat (ruG t) a) b
theorem four {a : Nat} (h : a < 4) : a = 0 ∨ a = 1 ∨ a = 2 ∨ a = 3 := by omega
theorem two {a : Nat} (h : a < 2) : a = 0 ∨ a = 1 := by omega
def tuO (a b : Nat) : Int := if 2 ≤ a ∧ b = 0 then 2 else if 2 ≤ a ∧ b = 1 then 3 else a

theorem turned_any (a b : Nat) (ha : a < 4) (hb : b < 4) (w : World) : Calls Try.prog 106 #[.int .i64 a, .int .i64 b] w fun e w' => e = .returned (.int .i64 (tuO a b)) ∧ w = w' := by
  rcases four ha with rfl | rfl | rfl | rfl <;> rcases four hb with rfl | rfl | rfl | rfl
  all_goals
    go_enter Try.func106, Try.ntmps106
    go_wp2
    go_ret
    exact ⟨rfl, rfl⟩

theorem meeting1_any (a b : Nat) (ha : a < 2) (hb : b < 2) (w : World) : Calls Try.prog 103 #[.int .i64 a, .int .i64 b] w fun e w' => e = .returned (.int .i64 (ruA 0 a b)) ∧ w = w' := by
  rcases two ha with rfl | rfl <;> rcases two hb with rfl | rfl
  all_goals
    go_enter Try.func103, Try.ntmps103
    go_wp2
    go_ret
    exact ⟨rfl, rfl⟩

theorem meeting2_any (a b : Nat) (ha : a < 4) (hb : b < 4) (w : World) : Calls Try.prog 104 #[.int .i64 a, .int .i64 b] w fun e w' => e = .returned (.tuple #[.int .i64 (ruA 1 a b), .int .i64 (ruB 1 a b)]) ∧ w = w' := by
  rcases four ha with rfl | rfl | rfl | rfl <;> rcases four hb with rfl | rfl | rfl | rfl
  all_goals
    go_enter Try.func104, Try.ntmps104
    go_wp2
    go_ret2
    exact ⟨rfl, rfl⟩

theorem meeting3_any (a b : Nat) (ha : a < 4) (hb : b < 4) (w : World) : Calls Try.prog 105 #[.int .i64 a, .int .i64 b] w fun e w' => e = .returned (.int .i64 (ruA 2 a b)) ∧ w = w' := by
  have H := Lib.hid (turned_any a b ha hb w)
  rcases four ha with rfl | rfl | rfl | rfl <;> rcases four hb with rfl | rfl | rfl | rfl
  all_goals
    go_enter Try.func105, Try.ntmps105
    go_wp2_with (go_at_call 106; refine H.out.mono ?_; rintro e w' ⟨rfl, rfl⟩)
    go_ret
    exact ⟨rfl, rfl⟩

theorem tuOdd (a b : Nat) (ha : a < 4) (hb : b < 4) (h : 1 < a ∨ 1 < b) : tuO a b = ruA 3 a b ∧ tuO b a = ruB 3 a b := by
  rcases four ha with rfl | rfl | rfl | rfl <;> rcases four hb with rfl | rfl | rfl | rfl <;> first | (omega; done) | (exact ⟨by kernel_rfl, by kernel_rfl⟩)
theorem meeting4_low (a b : Nat) (ha : a < 2) (hb : b < 2) (w : World) : Calls Try.prog 107 #[.int .i64 a, .int .i64 b] w fun e w' => e = .returned (.tuple #[.int .i64 (ruA 3 a b), .int .i64 (ruB 3 a b)]) ∧ w = w' := by
  rcases two ha with rfl | rfl <;> rcases two hb with rfl | rfl
  all_goals
    go_enter Try.func107, Try.ntmps107
    go_wp2_with fail
    go_ret2
    exact ⟨by kernel_rfl, rfl⟩
theorem meeting4_any (a b : Nat) (ha : a < 4) (hb : b < 4) (w : World) : Calls Try.prog 107 #[.int .i64 a, .int .i64 b] w fun e w' => e = .returned (.tuple #[.int .i64 (ruA 3 a b), .int .i64 (ruB 3 a b)]) ∧ w = w' := by
  by_cases hlow : a < 2 ∧ b < 2
  · exact meeting4_low a b hlow.1 hlow.2 w
  · have H := Lib.hid (turned_any a b ha hb w)
    have H2 := Lib.hid (turned_any b a hb ha w)
    obtain ⟨e1, e2⟩ := tuOdd a b ha hb (by omega)
    rw [e1] at H
    rw [e2] at H2
    clear e1 e2
    generalize ruA 3 a b = x at *
    generalize ruB 3 a b = y at *
    by_cases h1 : a < 2
    · have d1 : decide ((a : Int) ≤ 1) = true := by simp; omega
      have d2 : decide ((b : Int) ≤ 1) = false := by simp; omega
      go_enter Try.func107, Try.ntmps107
      go_wp2_with fail
      refine H.out.mono ?_
      rintro e w' ⟨rfl, rfl⟩
      go_wp2_with fail
      refine H2.out.mono ?_
      rintro e w' ⟨rfl, rfl⟩
      go_wp2_with fail
      go_ret2
      exact ⟨rfl, rfl⟩
    · have d1 : decide ((a : Int) ≤ 1) = false := by simp; omega
      go_enter Try.func107, Try.ntmps107
      go_wp2_with fail
      refine H.out.mono ?_
      rintro e w' ⟨rfl, rfl⟩
      go_wp2_with fail
      refine H2.out.mono ?_
      rintro e w' ⟨rfl, rfl⟩
      go_wp2_with fail
      go_ret2
      exact ⟨rfl, rfl⟩

end Go.Proofs.Ytblaaeanbhgokaa
