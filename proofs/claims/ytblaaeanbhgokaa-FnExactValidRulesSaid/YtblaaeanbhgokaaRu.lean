/-
  Ru. By a program (wip/tools/mk.py) out of snippets.
-/
import Derived.Test.YtblaaeanbhgokaaRuDef
import Derived.Test.YtblaaeanbhgokaaRu0
import Derived.Test.YtblaaeanbhgokaaOrdI
namespace Go.Proofs.Ytblaaeanbhgokaa
open Go.RowKit

theorem square11_any (x n : Int) (B : Nat) (w : World) (hn1 : 1 ≤ n) (hn2 : n ≤ 16) (hc : w.cell? ⟨B, 0, none⟩ = some (.int .i64 n)) :
    Calls Try.prog 102 #[.int .i64 x, .pointer (some ⟨B, 0, none⟩)] w fun e w' => e = .returned (.bool (!inR x 0 (n - 1))) ∧ w' = w := by
  have H := Lib.hid (within_any x 0 (n - 1) w)
  go_enter Try.func102, Try.ntmps102
  go_wp2_with (go_at_call 60; refine H.out.mono ?_; rintro e w' ⟨rfl, rfl⟩)
  go_ret
  exact ⟨rfl, rfl⟩

theorem rowNotK (n : Int) (row : List Int) : (!(((row.length : Int) == n) && row.all fun z => inR z 0 (n - 1))) = (!((row.length : Int) == n) || row.any fun z => !inR z 0 (n - 1)) := by
  rw [Bool.not_and, List.not_all_eq_any_not]
set_option maxHeartbeats 400000 in
theorem square1_any (n : Int) (A : Option Addr) (m c : Nat) (row : List Int) (B : Nat) (w : World) (hn1 : 1 ≤ n) (hn2 : n ≤ 16) (hm : m ≤ 9000000000000000000) (ha : SI w A m row) (hc : w.cell? ⟨B, 0, none⟩ = some (.int .i64 n)) :
    Calls Try.prog 101 #[.slice A m c, .pointer (some ⟨B, 0, none⟩)] w fun e w' => e = .returned (.bool (!(((row.length : Int) == n) && row.all fun z => inR z 0 (n - 1)))) ∧ w' = w := by
  have hmf : ∀ (fn : Fn) (first cap : Array Value) (w : World), (Instr.makeFunc fn first cap).run Try.prog w = .ok (.func fn first cap) w := fun _ _ _ _ => rfl
  have H4 := Lib.hid (containsFunc_any 102 #[.pointer (some ⟨B, 0, none⟩)] (fun z => !inR z 0 (n - 1)) A m c row (fun W => W = w) w hm rfl
    (enters_of Try.func102 (by kernel_rfl) rfl) (fun W hW => by subst hW; exact ha)
    (fun j hj W hW => by subst hW; exact square11_any (iat row j) n B W hn1 hn2 hc))
  rw [rowNotK, ha.1]
  clear ha
  generalize (row.any fun z => !inR z 0 (n - 1)) = r at *
  by_cases e : (m : Int) = n
  · have e1 : ((m : Int) == n) = true := by simpa using e
    go_enter Try.func101, Try.ntmps101
    go_wp2_with (go_at_call 66; refine H4.out.mono ?_; rintro e w' ⟨rfl, rfl⟩)
    go_ret
    exact ⟨by rw [e1]; simp, rfl⟩
  · have e1 : ((m : Int) == n) = false := by simpa using e
    go_enter Try.func101, Try.ntmps101
    go_wp2_with fail
    go_ret
    exact ⟨by rw [e1]; simp, rfl⟩

set_option maxHeartbeats 800000 in
theorem squareOk_any (n : Int) (A : Option Addr) (k c : Nat) (rows : List (List Int)) (w : World) (hn1 : 1 ≤ n) (hn2 : n ≤ 16) (hk : k ≤ 2000000) (hr : ∀ i, i < k → (rat rows i).length ≤ 2000000) (ha : SS w A k rows) :
    Calls Try.prog 84 #[.slice A k c, .int .i64 n] w fun e w' => e = .returned (.bool (sqK n rows)) ∧ Below w.heap.size w w' := by
  have hmf : ∀ (fn : Fn) (first cap : Array Value) (w : World), (Instr.makeFunc fn first cap).run Try.prog w = .ok (.func fn first cap) w := fun _ _ _ _ => rfl
  have hL := ha.1
  have hB := Lib.hid (show Below w.heap.size w (w.alloc (.cells #[.int .i64 n] 3)) from (Below.refl _ _).alloc (Nat.le_refl _) _)
  by_cases e : (k : Int) = n
  · have e1 : ((k : Int) == n) = true := by simpa using e
    have hv := Lib.hid (show sqK n rows = !(rows.any fun row => !(((row.length : Int) == n) && row.all fun z => inR z 0 (n - 1))) by
      unfold sqK
      rw [hL, e1, Bool.true_and, ← List.not_all_eq_any_not, Bool.not_not])
    have hcell : (w.alloc (.cells #[.int .i64 n] 3)).cell? ⟨w.heap.size, 0, none⟩ = some (.int .i64 n) := by simp
    have H4 := Lib.hid (containsFuncSS_any 101 #[.pointer (some ⟨w.heap.size, 0, none⟩)] (fun row => !(((row.length : Int) == n) && row.all fun z => inR z 0 (n - 1))) A k c rows (fun W => W = w.alloc (.cells #[.int .i64 n] 3)) _ (by omega) rfl
      (enters_of Try.func101 (by kernel_rfl) rfl) (fun W hW => by subst hW; exact ha.alloc _)
      (fun j hj W A' n' c' hW hs => by subst hW; exact square1_any n A' n' c' _ w.heap.size _ hn1 hn2 (by have := hr j hj; rw [hs.1] at this; omega) hs hcell))
    generalize (rows.any fun row => !(((row.length : Int) == n) && row.all fun z => inR z 0 (n - 1))) = r at H4 hv
    clear ha hcell hr e
    go_enter Try.func84, Try.ntmps84
    go_wp2_with fail
    refine H4.out.mono ?_
    rintro e w' ⟨rfl, rfl⟩
    go_wp2_with fail
    go_ret
    exact ⟨by rw [hv.out]; rfl, hB.out⟩
  · have e1 : ((k : Int) == n) = false := by simpa using e
    have hv := Lib.hid (show sqK n rows = false by unfold sqK; rw [hL, e1]; rfl)
    clear ha hr e
    go_enter Try.func84, Try.ntmps84
    go_wp2_with fail
    go_ret
    exact ⟨by rw [hv.out]; rfl, hB.out⟩

theorem rules1_any (x : Int) (w : World) : Calls Try.prog 83 #[.int .i64 x] w fun e w' => e = .returned (.bool (!inR x 0 1)) ∧ w' = w := by
  have H := Lib.hid (bitOk_any x w)
  go_enter Try.func83, Try.ntmps83
  go_wp2_with fail
  refine H.out.mono ?_
  rintro e w' ⟨rfl, rfl⟩
  go_wp2_with fail
  go_ret
  exact ⟨rfl, rfl⟩

/-- The value of rules. -/
def RuV (A1 : Option Addr) (n1 c1 : Nat) (A2 : Option Addr) (n2 c2 : Nat) (A3 : Option Addr) (n3 c3 : Nat) : Value := .agg #[.slice A1 n1 c1, .slice A2 n2 c2, .slice A3 n3 c3]
set_option maxHeartbeats 1600000 in
theorem implValidRules_any (A1 : Option Addr) (n1 c1 : Nat) (A2 : Option Addr) (n2 c2 : Nat) (A3 : Option Addr) (n3 c3 : Nat) (says : List Int) (f s : List (List Int)) (w : World) (h1 : n1 ≤ 2000000) (h2 : n2 ≤ 2000000) (h3 : n3 ≤ 2000000)
    (hr2 : ∀ i, i < n2 → (rat f i).length ≤ 2000000) (hr3 : ∀ i, i < n3 → (rat s i).length ≤ 2000000) (ha1 : SI w A1 n1 says) (ha2 : SS w A2 n2 f) (ha3 : SS w A3 n3 s) :
    Calls Try.prog 44 #[.agg #[.slice A1 n1 c1, .slice A2 n2 c2, .slice A3 n3 c3]] w fun e w' => e = .returned (.bool (vru says f s)) ∧ Below w.heap.size w w' := by
  obtain ⟨W, hW⟩ : ∃ W, W = w.alloc (.cells #[.slice A1 n1 c1, .slice A2 n2 c2, .slice A3 n3 c3] 62) := ⟨_, rfl⟩
  have hB : Below w.heap.size w W := by rw [hW]; exact (Below.refl _ _).alloc (Nat.le_refl _) _
  have hz : w.heap.size < W.heap.size := by rw [hW]; simp
  have d2 : W.cell? ⟨w.heap.size, 2, none⟩ = some (.slice A3 n3 c3) := by rw [hW]; simp
  have hS1 := ha1.below hB (Nat.le_refl _)
  have hS2 := ha2.below hB (Nat.le_refl _)
  have hS3 := ha3.below hB (Nat.le_refl _)
  have HL := Lib.hid ha1.1
  have HB := Lib.hid hB
  have HZ := Lib.hid hz
  have D2 := Lib.hid d2
  have W1 := Lib.hid (fun w => within_any n1 1 4 w)
  cases e1 : inR n1 1 4 with
  | false =>
    rw [e1] at W1
    have hv := Lib.hid (vru_len (f := f) (s := s) (show inR says.length 1 4 = false by rw [HL.out]; exact e1))
    clear e1 ha1 ha2 ha3 hS1 hS2 hS3 hB hz d2
    go_enter Try.func44, Try.ntmps44
    go_wp2_with fail
    refine (W1.out _).mono ?_
    rintro e w' ⟨rfl, rfl⟩
    go_wp2_with fail
    rw [← hW]
    go_ret
    exact ⟨by rw [hv.out]; rfl, HB.out⟩
  | true =>
    have E1 := Lib.hid e1
    rw [e1] at W1
    obtain ⟨hn1, hn2⟩ := inR_iff.1 e1
    have CF := Lib.hid (containsFunc_any 83 #[] (fun z => !inR z 0 1) A1 n1 c1 says (fun V => V = W) W (by omega) rfl
      (enters_of Try.func83 (by kernel_rfl) rfl) (fun V hV => by subst hV; exact hS1)
      (fun j hj V hV => by subst hV; exact rules1_any (iat says j) V))
    have HA := Lib.hid (show (says.any fun z => !inR z 0 1) = !(says.all fun z => inR z 0 1) by rw [List.not_all_eq_any_not])
    have hvv := Lib.hid (show vru says f s = ((says.all fun z => inR z 0 1) && (sqK n1 f && sqK n1 s)) by simp only [vru, HL.out, e1, Bool.true_and])
    have S2 := Lib.hid (squareOk_any n1 A2 n2 c2 f W (by omega) (by omega) h2 hr2 hS2)
    have S3 := Lib.hid (fun w' (hb : Below W.heap.size W w') => squareOk_any n1 A3 n3 c3 s w' (by omega) (by omega) h3 hr3 (hS3.below hb (Nat.le_refl _)))
    rw [HA.out] at CF
    generalize (says.all fun z => inR z 0 1) = r at *
    generalize sqK n1 f = q2 at *
    generalize sqK n1 s = q3 at *
    clear e1 ha1 ha2 ha3 hS1 hS2 hS3 hB hz d2 hr2 hr3 HA
    rw [hvv.out]
    cases r with
    | false =>
      go_enter Try.func44, Try.ntmps44
      go_wp2_with fail
      refine (W1.out _).mono ?_
      rintro e w' ⟨rfl, rfl⟩
      go_wp2_with fail
      rw [← hW]
      clear hW
      refine CF.out.mono ?_
      rintro e w' ⟨rfl, rfl⟩
      go_wp2_with fail
      go_ret
      exact ⟨rfl, HB.out⟩
    | true =>
      cases q2 with
      | false =>
        go_enter Try.func44, Try.ntmps44
        go_wp2_with fail
        refine (W1.out _).mono ?_
        rintro e w' ⟨rfl, rfl⟩
        go_wp2_with fail
        rw [← hW]
        refine CF.out.mono ?_
        rintro e w' ⟨rfl, hw'⟩
        subst hw'
        have d1 : w'.cell? ⟨w.heap.size, 1, none⟩ = some (.slice A2 n2 c2) := by rw [hW]; simp
        clear hW
        go_wp2_with fail
        refine S2.out.mono ?_
        rintro e w3 ⟨rfl, b3⟩
        have B3 := Lib.hid (bstep HB.out b3)
        clear b3
        go_wp2_with fail
        go_ret
        exact ⟨rfl, B3.out⟩
      | true =>
        go_enter Try.func44, Try.ntmps44
        go_wp2_with fail
        refine (W1.out _).mono ?_
        rintro e w' ⟨rfl, rfl⟩
        go_wp2_with fail
        rw [← hW]
        refine CF.out.mono ?_
        rintro e w' ⟨rfl, hw'⟩
        subst hw'
        have d1 : w'.cell? ⟨w.heap.size, 1, none⟩ = some (.slice A2 n2 c2) := by rw [hW]; simp
        clear hW
        go_wp2_with fail
        refine S2.out.mono ?_
        rintro e w3 ⟨rfl, b3⟩
        have B3 := Lib.hid (bstep HB.out b3)
        have d2 := (b3.cell (p := ⟨w.heap.size, 2, none⟩) HZ.out).trans D2.out
        have S33 := Lib.hid (S3.out _ b3)
        clear b3 d1
        go_wp2_with fail
        refine S33.out.mono ?_
        rintro e w4 ⟨rfl, b4⟩
        have B4 := Lib.hid (bstep B3.out b4)
        clear b4
        go_wp2_with fail
        go_ret
        exact ⟨by cases q3 <;> rfl, B4.out⟩

set_option maxHeartbeats 3200000 in
theorem specvalidRules_any (A1 : Option Addr) (n1 c1 : Nat) (A2 : Option Addr) (n2 c2 : Nat) (A3 : Option Addr) (n3 c3 : Nat) (says : List Int) (f s : List (List Int)) (w : World) (h1 : n1 ≤ 2000000) (h2 : n2 ≤ 2000000) (h3 : n3 ≤ 2000000)
    (hr2 : ∀ i, i < n2 → (rat f i).length ≤ 2000000) (hr3 : ∀ i, i < n3 → (rat s i).length ≤ 2000000) (ha1 : SI w A1 n1 says) (ha2 : SS w A2 n2 f) (ha3 : SS w A3 n3 s) :
    Calls Try.prog 81 #[.agg #[.slice A1 n1 c1, .slice A2 n2 c2, .slice A3 n3 c3]] w fun e w' => e = .returned (.bool (vru says f s)) ∧ Below w.heap.size w w' := by
  obtain ⟨W, hW⟩ : ∃ W, W = w.alloc (.cells #[.slice A1 n1 c1, .slice A2 n2 c2, .slice A3 n3 c3] 62) := ⟨_, rfl⟩
  have hB : Below w.heap.size w W := by rw [hW]; exact (Below.refl _ _).alloc (Nat.le_refl _) _
  have d0 : W.cell? ⟨w.heap.size, 0, none⟩ = some (.slice A1 n1 c1) := by rw [hW]; simp
  have d1 : W.cell? ⟨w.heap.size, 1, none⟩ = some (.slice A2 n2 c2) := by rw [hW]; simp
  have d2 : W.cell? ⟨w.heap.size, 2, none⟩ = some (.slice A3 n3 c3) := by rw [hW]; simp
  have HS1 := Lib.hid (ha1.below hB (Nat.le_refl _))
  have HS2 := Lib.hid (ha2.below hB (Nat.le_refl _))
  have HS3 := Lib.hid (ha3.below hB (Nat.le_refl _))
  have HL := Lib.hid ha1.1
  have HL2 := Lib.hid ha2.1
  have HL3 := Lib.hid ha3.1
  have HB := Lib.hid hB
  have HR2 := Lib.hid hr2
  have HR3 := Lib.hid hr3
  have W1 := Lib.hid (fun w => inRange_any n1 1 4 w)
  clear ha1 ha2 ha3 hB hr2 hr3
  cases e1 : inR n1 1 4 with
  | false =>
    rw [e1] at W1
    have hv := Lib.hid (vru_len (f := f) (s := s) (show inR says.length 1 4 = false by rw [HL.out]; exact e1))
    clear e1 d0 d1 d2
    go_enter Try.func81, Try.ntmps81
    go_wp2_with fail
    refine (W1.out _).mono ?_
    rintro e w' ⟨rfl, rfl⟩
    go_wp2_with fail
    rw [← hW]
    go_ret
    exact ⟨by rw [hv.out]; rfl, HB.out⟩
  | true =>
    have E1 := Lib.hid e1
    rw [e1] at W1
    obtain ⟨hn1, hn4⟩ := inR_iff.1 e1
    clear e1
    by_cases e2 : n2 = n1
    · subst e2
      have f2 : ((n2 : Int) == (n2 : Int)) = true := by simp
      by_cases e3 : n3 = n2
      · subst e3
        have HF := Lib.hid (fun (h : ∀ a, a < n3 → okAt says f s a) => vru_of (says := says) (f := f) (s := s) (by rw [HL.out]; exact E1.out) (by rw [HL.out]; exact HL2.out) (by rw [HL.out]; exact HL3.out) (by rw [HL.out]; exact h))
        have HN := Lib.hid (fun a (ha : a < n3) (h : ¬ okAt says f s a) => vru_no (says := says) (f := f) (s := s) (a := a) (by rw [HL.out]; exact ha) h)
        go_enter Try.func81, Try.ntmps81
        go_wp2_with fail
        refine (W1.out _).mono ?_
        rintro e w' ⟨rfl, rfl⟩
        go_wp2_with fail
        rw [← hW]
        clear hW
        go_loopg [4] n3 (fun gg s4 wr => ∃ a : Nat, a ≤ n3 ∧ n3 - a ≤ gg ∧ s4 = .int .i64 a ∧ W = wr ∧ Aside (∀ j, j < a → okAt says f s j))
        case atStart => exact ⟨0, by omega, by omega, rfl, rfl, fun j hj => absurd hj (by omega)⟩
        case round =>
          obtain ⟨a, ha, hg, rfl, rfl, A0⟩ := hrel
          by_cases hlt : a < n3
          · obtain ⟨b1, o1, rfl, hx⟩ := HS1.out.at_ hlt
            obtain ⟨b2, o2, R2, m2, k2, rfl, hc2, hs2⟩ := HS2.out.at_ hlt
            obtain ⟨b3, o3, R3, m3, k3, rfl, hc3, hs3⟩ := HS3.out.at_ hlt
            have hm2 : m2 ≤ 2000000 := by have := HR2.out a hlt; rw [hs2.1] at this; exact this
            have hm3 : m3 ≤ 2000000 := by have := HR3.out a hlt; rw [hs3.1] at this; exact this
            have HNa := Lib.hid (HN.out a hlt)
            have HK := Lib.hid (show okAt says f s a ↔ inR (iat says a) 0 1 = true ∧ (rat f a).length = n3 ∧ (rat s a).length = n3 ∧ ∀ j, j < n3 → inR (iat (rat f a) j) 0 ((n3 : Int) - 1) = true ∧ inR (iat (rat s a) j) 0 ((n3 : Int) - 1) = true by unfold okAt; rw [HL.out])
            have HX := Lib.hid (fun w => inRange_any (iat says a) 0 1 w)
            cases ex : inR (iat says a) 0 1 with
            | false =>
              rw [ex] at HX
              have E := Lib.hid (HNa.out (fun h => by have := (HK.out.1 h).1; rw [ex] at this; cases this))
              clear ex
              generalize iat says a = x at *
              go_wp2_with fail
              refine (HX.out _).mono ?_
              rintro e w' ⟨rfl, rfl⟩
              go_wp2_with fail
              go_ret
              exact ⟨by rw [E.out]; rfl, HB.out⟩
            | true =>
              have EX := Lib.hid ex
              rw [ex] at HX
              clear ex
              obtain ⟨x, hxx⟩ : ∃ x, x = iat says a := ⟨_, rfl⟩
              rw [← hxx] at HX hx
              clear hxx
              by_cases q2 : m2 = n3
              · subst q2
                by_cases q3 : m3 = m2
                · subst q3
                  have g2 : ((m3 : Int) == (m3 : Int)) = true := by simp
                  obtain ⟨p2, r2, rfl, hy⟩ := hs2.2 (by omega)
                  obtain ⟨p3, r3, rfl, hzz⟩ := hs3.2 (by omega)
                  have HY := Lib.hid hy
                  have HZ := Lib.hid hzz
                  have HS2l := Lib.hid hs2.1
                  have HS3l := Lib.hid hs3.1
                  clear hs2 hs3 hy hzz
                  go_wp2_with fail
                  refine (HX.out _).mono ?_
                  rintro e w' ⟨rfl, rfl⟩
                  go_wp2_with fail
                  go_loopg [5] m3 (fun g2 s5 wr => ∃ j : Nat, j ≤ m3 ∧ m3 - j ≤ g2 ∧ s5 = .int .i64 j ∧ W = wr ∧ Aside (∀ t, t < j → inR (iat (rat f a) t) 0 ((m3 : Int) - 1) = true ∧ inR (iat (rat s a) t) 0 ((m3 : Int) - 1) = true))
                  case atStart => exact ⟨0, by omega, by omega, rfl, rfl, fun j hj => absurd hj (by omega)⟩
                  case round =>
                    obtain ⟨j, hj, hg2, rfl, rfl, A1'⟩ := hrel
                    by_cases hlj : j < m3
                    · have h4 := HY.out j hlj
                      have h5 := HZ.out j hlj
                      have HU := Lib.hid (fun w => inRange_any (iat (rat f a) j) 0 ((m3 : Int) - 1) w)
                      have HV := Lib.hid (fun w => inRange_any (iat (rat s a) j) 0 ((m3 : Int) - 1) w)
                      cases eu : inR (iat (rat f a) j) 0 ((m3 : Int) - 1) with
                      | false =>
                        rw [eu] at HU
                        have E := Lib.hid (HNa.out (fun h => by have := ((HK.out.1 h).2.2.2 j hlj).1; rw [eu] at this; cases this))
                        clear eu
                        generalize iat (rat f a) j = u at *
                        generalize iat (rat s a) j = v at *
                        go_wp2_with fail
                        refine (HU.out _).mono ?_
                        rintro e w' ⟨rfl, rfl⟩
                        go_wp2_with fail
                        go_ret
                        exact ⟨by rw [E.out]; rfl, HB.out⟩
                      | true =>
                        have EU := Lib.hid eu
                        rw [eu] at HU
                        clear eu
                        cases ev : inR (iat (rat s a) j) 0 ((m3 : Int) - 1) with
                        | false =>
                          rw [ev] at HV
                          have E := Lib.hid (HNa.out (fun h => by have := ((HK.out.1 h).2.2.2 j hlj).2; rw [ev] at this; cases this))
                          clear ev
                          generalize iat (rat f a) j = u at *
                          generalize iat (rat s a) j = v at *
                          go_wp2_with fail
                          refine (HU.out _).mono ?_
                          rintro e w' ⟨rfl, rfl⟩
                          go_wp2_with fail
                          refine (HV.out _).mono ?_
                          rintro e w' ⟨rfl, rfl⟩
                          go_wp2_with fail
                          go_ret
                          exact ⟨by rw [E.out]; rfl, HB.out⟩
                        | true =>
                          have EV := Lib.hid ev
                          rw [ev] at HV
                          clear ev
                          have A2' := Lib.hid (show ∀ t, t < j + 1 → inR (iat (rat f a) t) 0 ((m3 : Int) - 1) = true ∧ inR (iat (rat s a) t) 0 ((m3 : Int) - 1) = true by
                            intro t ht
                            by_cases e : t = j
                            · subst e; exact ⟨EU.out, EV.out⟩
                            · exact A1'.out t (by omega))
                          clear A1' EU EV
                          obtain ⟨u, hu⟩ : ∃ u, u = iat (rat f a) j := ⟨_, rfl⟩
                          obtain ⟨v, hv⟩ : ∃ v, v = iat (rat s a) j := ⟨_, rfl⟩
                          rw [← hu] at h4 HU
                          rw [← hv] at h5 HV
                          clear hu hv
                          go_wp2_with fail
                          refine (HU.out _).mono ?_
                          rintro e w' ⟨rfl, rfl⟩
                          go_wp2_with fail
                          refine (HV.out _).mono ?_
                          rintro e w' ⟨rfl, rfl⟩
                          go_wp2_with fail
                          go_roundg (m3 - (j + 1))
                          case measure => omega
                          case rel => exact ⟨j + 1, by omega, by omega, by go_num, rfl, A2'.out⟩
                    · obtain rfl : j = m3 := by omega
                      have A2' := Lib.hid (show ∀ t, t < a + 1 → okAt says f s t by
                        intro t ht
                        by_cases e : t = a
                        · subst e; exact HK.out.2 ⟨EX.out, HS2l.out, HS3l.out, A1'.out⟩
                        · exact A0.out t (by omega))
                      clear A1'
                      go_wp2_with fail
                      go_roundg (j - (a + 1))
                      case measure => omega
                      case rel => exact ⟨a + 1, by omega, by omega, by go_num, rfl, A2'.out⟩
                · have g3 : ((m3 : Int) == (m2 : Int)) = false := by simp; omega
                  have g2 : ((m2 : Int) == (m2 : Int)) = true := by simp
                  have E := Lib.hid (HNa.out (fun h => by have := (HK.out.1 h).2.2.1; rw [hs3.1] at this; omega))
                  clear hs2 hs3
                  go_wp2_with fail
                  refine (HX.out _).mono ?_
                  rintro e w' ⟨rfl, rfl⟩
                  go_wp2_with fail
                  go_ret
                  exact ⟨by rw [E.out]; rfl, HB.out⟩
              · have g2 : ((m2 : Int) == (n3 : Int)) = false := by simp; omega
                have E := Lib.hid (HNa.out (fun h => by have := (HK.out.1 h).2.1; rw [hs2.1] at this; omega))
                clear hs2 hs3
                go_wp2_with fail
                refine (HX.out _).mono ?_
                rintro e w' ⟨rfl, rfl⟩
                go_wp2_with fail
                go_ret
                exact ⟨by rw [E.out]; rfl, HB.out⟩
          · obtain rfl : a = n3 := by omega
            have E := Lib.hid (HF.out A0.out)
            clear A0
            go_wp2_with fail
            go_ret
            exact ⟨by rw [E.out]; rfl, HB.out⟩
      · have f3 : ((n3 : Int) == (n2 : Int)) = false := by simp; omega
        have hv := Lib.hid (vru_s (says := says) (f := f) (s := s) (by rw [HL.out, HL3.out]; exact e3))
        go_enter Try.func81, Try.ntmps81
        go_wp2_with fail
        refine (W1.out _).mono ?_
        rintro e w' ⟨rfl, rfl⟩
        go_wp2_with fail
        rw [← hW]
        go_ret
        exact ⟨by rw [hv.out]; rfl, HB.out⟩
    · have f2 : ((n2 : Int) == (n1 : Int)) = false := by simp; omega
      have hv := Lib.hid (vru_f (says := says) (f := f) (s := s) (by rw [HL.out, HL2.out]; exact e2))
      go_enter Try.func81, Try.ntmps81
      go_wp2_with fail
      refine (W1.out _).mono ?_
      rintro e w' ⟨rfl, rfl⟩
      go_wp2_with fail
      rw [← hW]
      go_ret
      exact ⟨by rw [hv.out]; rfl, HB.out⟩

theorem specValidRules_any (A1 : Option Addr) (n1 c1 : Nat) (A2 : Option Addr) (n2 c2 : Nat) (A3 : Option Addr) (n3 c3 : Nat) (says : List Int) (f s : List (List Int)) (w : World) (h1 : n1 ≤ 2000000) (h2 : n2 ≤ 2000000) (h3 : n3 ≤ 2000000)
    (hr2 : ∀ i, i < n2 → (rat f i).length ≤ 2000000) (hr3 : ∀ i, i < n3 → (rat s i).length ≤ 2000000) (ha1 : SI w A1 n1 says) (ha2 : SS w A2 n2 f) (ha3 : SS w A3 n3 s) :
    Calls Try.prog 42 #[.agg #[.slice A1 n1 c1, .slice A2 n2 c2, .slice A3 n3 c3]] w fun e w' => e = .returned (.bool (vru says f s)) ∧ Below w.heap.size w w' := by
  have hB := Lib.hid (show Below w.heap.size w (w.alloc (.cells #[.slice A1 n1 c1, .slice A2 n2 c2, .slice A3 n3 c3] 62)) from (Below.refl _ _).alloc (Nat.le_refl _) _)
  have C := Lib.hid (specvalidRules_any A1 n1 c1 A2 n2 c2 A3 n3 c3 says f s (w.alloc (.cells #[.slice A1 n1 c1, .slice A2 n2 c2, .slice A3 n3 c3] 62)) h1 h2 h3 hr2 hr3 (ha1.alloc _) (ha2.alloc _) (ha3.alloc _))
  clear ha1 ha2 ha3 hr2 hr3
  go_enter Try.func42, Try.ntmps42
  go_wp2_with fail
  refine C.out.mono ?_
  rintro e w' ⟨rfl, b1⟩
  have b1' := Lib.hid (bstep hB.out b1)
  clear b1
  go_wp2_with fail
  go_ret
  exact ⟨rfl, b1'.out⟩

set_option maxHeartbeats 800000 in
theorem szRules_any (A1 : Option Addr) (n1 c1 : Nat) (A2 : Option Addr) (n2 c2 : Nat) (A3 : Option Addr) (n3 c3 : Nat) (says : List Int) (f s : List (List Int)) (w : World) (h1 : n1 ≤ 9223372036854775807) (h2 : n2 ≤ 9223372036854775807) (h3 : n3 ≤ 9223372036854775807)
    (hr2 : ∀ i, i < n2 → (rat f i).length ≤ 9223372036854775807) (hr3 : ∀ i, i < n3 → (rat s i).length ≤ 9223372036854775807) (ha2 : SS w A2 n2 f) (ha3 : SS w A3 n3 s) :
    Calls Try.prog 41 #[.agg #[.slice A1 n1 c1, .slice A2 n2 c2, .slice A3 n3 c3], .int .i64 1048576] w fun e w' => ∃ z : Int, e = .returned (.int .i64 z) ∧ Below w.heap.size w w' ∧ (0 ≤ z → n1 ≤ 2000000 ∧ (n2 ≤ 2000000 ∧ ∀ i, i < n2 → (rat f i).length ≤ 2000000) ∧ (n3 ≤ 2000000 ∧ ∀ i, i < n3 → (rat s i).length ≤ 2000000)) := by
  have HA2 := Lib.hid (ha2.alloc (.cells #[.slice A1 n1 c1, .slice A2 n2 c2, .slice A3 n3 c3] 59))
  have HA3 := Lib.hid (ha3.alloc (.cells #[.slice A1 n1 c1, .slice A2 n2 c2, .slice A3 n3 c3] 59))
  have HB := Lib.hid (show Below w.heap.size w (w.alloc (.cells #[.slice A1 n1 c1, .slice A2 n2 c2, .slice A3 n3 c3] 59)) from (Below.refl _ _).alloc (Nat.le_refl _) _)
  have C1 := Lib.hid (fun w => szIntS_any A1 n1 c1 1048576 w (by omega) (by omega) h1)
  have C2 := Lib.hid (fun l w h0 h1 h => szIntSS_any A2 n2 c2 f l w h0 h1 h2 hr2 h)
  have C3 := Lib.hid (fun l w h0 h1 h => szIntSS_any A3 n3 c3 s l w h0 h1 h3 hr3 h)
  clear ha2 ha3 hr2 hr3
  by_cases h : (1048576 : Int) < n1
  · rw [if_pos h] at C1
    go_enter Try.func41, Try.ntmps41
    go_wp2_with fail
    refine (C1.out _).mono ?_
    rintro e w' ⟨rfl, rfl⟩
    go_wp2_with fail
    go_ret
    exact ⟨-1, rfl, HB.out, fun h => absurd h (by omega)⟩
  · rw [if_neg h] at C1
    have hp : ¬ (1048576 : Int) - n1 < 0 := by omega
    go_enter Try.func41, Try.ntmps41
    go_wp2_with fail
    refine (C1.out _).mono ?_
    rintro e w' ⟨rfl, rfl⟩
    go_wp2_with fail
    refine (C2.out _ _ (by omega) (by omega) HA2.out).mono ?_
    rintro e w' ⟨z2, rfl, rfl, hz0, hz1, hz2⟩
    have HZ2 := Lib.hid hz2
    clear hz2
    by_cases k2 : z2 < 0
    · go_wp2_with fail
      go_ret
      exact ⟨-1, rfl, HB.out, fun h => absurd h (by omega)⟩
    · have HZ2' := Lib.hid (HZ2.out (by omega))
      go_wp2_with fail
      refine (C3.out _ _ (by omega) (by omega) HA3.out).mono ?_
      rintro e w' ⟨z3, rfl, rfl, hy0, hy1, hy2⟩
      have HZ3 := Lib.hid hy2
      clear hy2
      by_cases k3 : z3 < 0
      · go_wp2_with fail
        go_ret
        exact ⟨-1, rfl, HB.out, fun h => absurd h (by omega)⟩
      · have HZ3' := Lib.hid (HZ3.out (by omega))
        go_wp2_with fail
        go_ret
        exact ⟨z3, rfl, HB.out, fun _ => ⟨by omega, ⟨by have := HZ2'.out.1; omega, fun i hi => by have := HZ2'.out.2 i hi; omega⟩, ⟨by have := HZ3'.out.1; omega, fun i hi => by have := HZ3'.out.2 i hi; omega⟩⟩⟩

set_option maxHeartbeats 800000 in
theorem eqRules_true (A1 : Option Addr) (n1 c1 : Nat) (A2 : Option Addr) (n2 c2 : Nat) (A3 : Option Addr) (n3 c3 : Nat) (B1 : Option Addr) (e1 : Nat) (B2 : Option Addr) (e2 : Nat) (B3 : Option Addr) (e3 : Nat) (says : List Int) (f s : List (List Int)) (w : World) (h1 : n1 ≤ 2000000) (h2 : n2 ≤ 2000000) (h3 : n3 ≤ 2000000)
    (hr2 : ∀ i, i < n2 → (rat f i).length ≤ 2000000) (hr3 : ∀ i, i < n3 → (rat s i).length ≤ 2000000) (ha1 : SI w A1 n1 says) (ha2 : SS w A2 n2 f) (ha3 : SS w A3 n3 s) (hb1 : SI w B1 n1 says) (hb2 : SS w B2 n2 f) (hb3 : SS w B3 n3 s) :
    Calls Try.prog 45 #[.agg #[.slice A1 n1 c1, .slice A2 n2 c2, .slice A3 n3 c3], .agg #[.slice B1 n1 e1, .slice B2 n2 e2, .slice B3 n3 e3]] w fun e w' => e = .returned (.bool true) ∧ Below w.heap.size w w' := by
  obtain ⟨W, hW⟩ : ∃ W, W = (w.alloc (.cells #[.slice A1 n1 c1, .slice A2 n2 c2, .slice A3 n3 c3] 62)).alloc (.cells #[.slice B1 n1 e1, .slice B2 n2 e2, .slice B3 n3 e3] 62) := ⟨_, rfl⟩
  have hB : Below w.heap.size w W := by rw [hW]; exact ((Below.refl _ _).alloc (Nat.le_refl _) _).alloc (by simp) _
  have HBe := Lib.hid hB
  have C1 := Lib.hid (fun m => eqIntS_true A1 B1 n1 c1 e1 says (W.drewN m) (by omega) (SI.drewN (ha1.below hB (Nat.le_refl _)) m) (SI.drewN (hb1.below hB (Nat.le_refl _)) m))
  have C2 := Lib.hid (fun m => eqIntSS_true A2 B2 n2 c2 e2 f (W.drewN m) (by omega) hr2 ((ha2.below hB (Nat.le_refl _)).drewN m) ((hb2.below hB (Nat.le_refl _)).drewN m))
  have C3 := Lib.hid (fun m => eqIntSS_true A3 B3 n3 c3 e3 s (W.drewN m) (by omega) hr3 ((ha3.below hB (Nat.le_refl _)).drewN m) ((hb3.below hB (Nat.le_refl _)).drewN m))
  have d1 : W.cell? ⟨w.heap.size, 1, none⟩ = some (.slice A2 n2 c2) := by rw [hW, World.cell?_alloc_past _ _ _ (by simp)]; simp
  have d2 : W.cell? ⟨w.heap.size, 2, none⟩ = some (.slice A3 n3 c3) := by rw [hW, World.cell?_alloc_past _ _ _ (by simp)]; simp
  have g1 : W.cell? ⟨w.heap.size + 1, 1, none⟩ = some (.slice B2 n2 e2) := by rw [hW, World.cell?_alloc_at _ _ _ _ (by simp)]; simp
  have g2 : W.cell? ⟨w.heap.size + 1, 2, none⟩ = some (.slice B3 n3 e3) := by rw [hW, World.cell?_alloc_at _ _ _ _ (by simp)]; simp
  clear ha1 ha2 ha3 hb1 hb2 hb3 hr2 hr3 hB
  go_enter Try.func45, Try.ntmps45
  go_wp2_with fail
  rw [← hW]
  clear hW
  refine (C1.out 0).mono ?_
  rintro e w' ⟨rfl, q1, rfl⟩
  have C2' := Lib.hid (C2.out (0 + q1))
  rw [← World.drewN_drewN] at C2'
  go_wp2_with fail
  refine C2'.out.mono ?_
  rintro e w' ⟨rfl, q2, rfl⟩
  have C3' := Lib.hid (C3.out (q1 + q2))
  go_wp2_with fail
  refine C3'.out.mono ?_
  rintro e w' ⟨rfl, q3, rfl⟩
  go_wp2_with fail
  go_ret
  exact ⟨rfl, by first | exact bDrewN HBe.out _ | exact bDrewN (bDrewN HBe.out _) _ | exact bDrewN (bDrewN (bDrewN HBe.out _) _) _ | exact bDrewN (bDrewN (bDrewN (bDrewN HBe.out _) _) _) _⟩

end Go.Proofs.Ytblaaeanbhgokaa
