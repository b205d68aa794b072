/-
  Calls. By a program (wip/tools/mk.py) out of snippets.
-/
import Derived.Test.YtjiplangdkpehaaPairs
import Derived.Test.YtjiplangdkpehaaQd
import Derived.Test.YtjiplangdkpehaaFn2
namespace Go.Proofs.Ytjiplangdkpehaa
open Go.RowKit

/-- Is a pair a call of people from 0 to m? -/
def pOk (m x y : Int) : Bool := inR x 0 m && (inR y 0 m && !(x == y))
def cOk (m : Int) (zs : List Int) (k : Nat) : Bool := (List.range k).all fun i => pOk m (iat zs (i * 2)) (iat zs (i * 2 + 1))
/-- Are k pairs calls of n people? -/
def vcl (n : Int) (zs : List Int) (k : Nat) : Bool := inR n 1 6 && (decide (k ≤ 12) && cOk (n - 1) zs k)
theorem cOk_not {m : Int} {zs : List Int} {k i : Nat} (hi : i < k) (h : pOk m (iat zs (i * 2)) (iat zs (i * 2 + 1)) = false) : cOk m zs k = false := by
  unfold cOk
  rw [List.all_eq_false]
  exact ⟨i, List.mem_range.2 hi, by simp [h]⟩
theorem cOk_of {m : Int} {zs : List Int} {k : Nat} (h : ∀ i, i < k → pOk m (iat zs (i * 2)) (iat zs (i * 2 + 1)) = true) : cOk m zs k = true := by
  unfold cOk
  rw [List.all_eq_true]
  exact fun i hi => h i (List.mem_range.1 hi)
theorem cOk_at {m : Int} {zs : List Int} {k : Nat} (h : cOk m zs k = true) {i : Nat} (hi : i < k) : (0 ≤ iat zs (i * 2) ∧ iat zs (i * 2) ≤ m) ∧ (0 ≤ iat zs (i * 2 + 1) ∧ iat zs (i * 2 + 1) ≤ m) ∧ iat zs (i * 2) ≠ iat zs (i * 2 + 1) := by
  unfold cOk at h
  rw [List.all_eq_true] at h
  have := h i (List.mem_range.2 hi)
  unfold pOk at this
  simpa [inR_iff] using this

theorem vcl_wrap {n : Int} {zs : List Int} {k : Nat} : vcl n zs k = (inR n 1 6 && (decide (k ≤ 12) && cOk (wrap64 (n - 1)) zs k)) := by
  by_cases h : 1 ≤ n ∧ n ≤ 6
  · rw [show wrap64 (n - 1) = n - 1 from IntWalk.wrap64_in _ (by omega)]; rfl
  · simp [vcl, inR_false h]
set_option maxHeartbeats 1600000 in
theorem specvalidCalls_any (n : Int) (A : Option Addr) (k c : Nat) (zs : List Int) (w : World) (hk : k ≤ 2000000) (ha : SI w A (k * 2) zs) :
    Calls Try.prog 41 #[.int .i64 n, .slice A k c] w fun e w' => Qt w (.bool (vcl n zs k)) e w' := by
  have HN := Lib.hid (show ∀ i, i < k → pOk (wrap64 (n - 1)) (iat zs (i * 2)) (iat zs (i * 2 + 1)) = false → vcl n zs k = false by
    intro i hi h
    rw [vcl_wrap, cOk_not hi h]; simp)
  have HV := Lib.hid (show (∀ i, i < k → pOk (wrap64 (n - 1)) (iat zs (i * 2)) (iat zs (i * 2 + 1)) = true) → vcl n zs k = (inR n 1 6 && decide ((k : Int) ≤ 12)) by
    intro h
    rw [vcl_wrap, cOk_of h, Bool.and_true]
    congr 1
    rw [decide_eq_decide]; omega)
  go_enter Try.func41, Try.ntmps41
  go_wp2_with fail
  go_loopg [5] k (fun gg s5 wr => ∃ i m : Nat, i ≤ k ∧ k - i ≤ gg ∧ s5 = .int .i64 i ∧ wr = w.drewN m ∧ Aside (∀ j, j < i → pOk (wrap64 (n - 1)) (iat zs (j * 2)) (iat zs (j * 2 + 1)) = true))
  case atStart => exact ⟨0, 0, by omega, by omega, rfl, rfl, fun j hj => absurd hj (by omega)⟩
  case round =>
    obtain ⟨i, m, hi, hg, rfl, rfl, A0⟩ := hrel
    by_cases hlt : i < k
    · obtain ⟨b, off, rfl, h1, h2⟩ := ha.pair hlt
      have HNi := Lib.hid (HN.out i hlt)
      have HR := Lib.hid (show ∀ p, pOk (wrap64 (n - 1)) (iat zs (i * 2)) (iat zs (i * 2 + 1)) = p → p = true → ∀ j, j < i + 1 → pOk (wrap64 (n - 1)) (iat zs (j * 2)) (iat zs (j * 2 + 1)) = true by
        rintro p rfl hp j hj
        by_cases e : j = i
        · subst e; exact hp
        · exact A0.out j (by omega))
      generalize iat zs (i * 2) = x at *
      generalize iat zs (i * 2 + 1) = y at *
      have HX := Lib.hid (fun w => inRange_any x 0 (wrap64 (n - 1)) w)
      have HY := Lib.hid (fun w => inRange_any y 0 (wrap64 (n - 1)) w)
      clear ha A0
      cases ex : inR x 0 (wrap64 (n - 1)) with
      | false =>
        rw [ex] at HX
        have E := Lib.hid (HNi.out (by simp [pOk, ex]))
        clear ex HR
        go_wp2_with fail
        go_quiet (first | (go_at_call_of 49 (Value.int .i64 x); exact quietP (HX.out _)))
        go_wp2_with fail
        go_ret
        exact ⟨by rw [E.out]; rfl, m + nq, by first | rfl | exact World.drewN_drewN _ _ _⟩
      | true =>
        have EX := Lib.hid ex
        rw [ex] at HX
        clear ex
        cases ey : inR y 0 (wrap64 (n - 1)) with
        | false =>
          rw [ey] at HY
          have E := Lib.hid (HNi.out (by simp [pOk, ey]))
          clear ey HR
          go_wp2_with fail
          go_quiet (first | (go_at_call_of 49 (Value.int .i64 x); exact quietP (HX.out _)) | (go_at_call_of 49 (Value.int .i64 y); exact quietP (HY.out _)))
          go_wp2_with fail
          go_ret
          exact ⟨by rw [E.out]; rfl, m + nq, by first | rfl | exact World.drewN_drewN _ _ _⟩
        | true =>
          have EY := Lib.hid ey
          rw [ey] at HY
          clear ey
          cases exy : (x == y) with
          | true =>
            have E := Lib.hid (HNi.out (by simp [pOk, exy]))
            clear HR
            go_wp2_with fail
            go_quiet (first | (go_at_call_of 49 (Value.int .i64 x); exact quietP (HX.out _)) | (go_at_call_of 49 (Value.int .i64 y); exact quietP (HY.out _)))
            go_wp2_with fail
            go_ret
            exact ⟨by rw [E.out]; rfl, m + nq, by first | rfl | exact World.drewN_drewN _ _ _⟩
          | false =>
            have E := Lib.hid (HR.out true (by simp [pOk, exy, EX.out, EY.out]) rfl)
            clear HR
            go_wp2_with fail
            go_quiet (first | (go_at_call_of 49 (Value.int .i64 x); exact quietP (HX.out _)) | (go_at_call_of 49 (Value.int .i64 y); exact quietP (HY.out _)))
            go_wp2_with fail
            go_roundg (k - (i + 1))
            case measure => omega
            case rel => exact ⟨i + 1, _, by omega, by omega, by go_num, by first | rfl | exact World.drewN_drewN _ _ _, E.out⟩
    · obtain rfl : i = k := by omega
      have E := Lib.hid (HV.out A0.out)
      have H2 := Lib.hid (fun w => inRange_any n 1 6 w)
      clear ha A0
      cases e1 : inR n 1 6 with
      | false =>
        rw [e1] at E H2
        clear e1
        go_wp2_with fail
        refine (H2.out _).mono ?_
        rintro e w' ⟨rfl, rfl⟩
        go_wp2_with fail
        go_ret
        exact ⟨by rw [E.out]; rfl, m, rfl⟩
      | true =>
        rw [e1] at E H2
        clear e1
        go_wp2_with fail
        refine (H2.out _).mono ?_
        rintro e w' ⟨rfl, rfl⟩
        go_wp2_with fail
        go_ret
        exact ⟨by rw [E.out]; rfl, m, rfl⟩

theorem specValidCalls_any (n : Int) (A : Option Addr) (k c : Nat) (zs : List Int) (w : World) (hk : k ≤ 2000000) (ha : SI w A (k * 2) zs) :
    Calls Try.prog 14 #[.int .i64 n, .slice A k c] w fun e w' => Qt w (.bool (vcl n zs k)) e w' := by
  have C := Lib.hid (specvalidCalls_any n A k c zs w hk ha)
  clear ha
  go_enter Try.func14, Try.ntmps14
  go_wp2_with fail
  refine C.out.mono ?_
  rintro e w' ⟨rfl, m, rfl⟩
  go_wp2_with fail
  go_ret
  exact ⟨rfl, m, rfl⟩

set_option maxHeartbeats 400000 in
theorem indexFuncP_any (g : Nat) (caps : Array Value) (p : Nat → Bool) (A : Option Addr) (n c : Nat) (zs : List Int) (C : World → Prop) (w : World) (hn : n ≤ 9000000000000000000) (hw : C w)
    (eg : ∀ args w, (callFunc g args).run Try.prog w = .ok (.enter g args) w)
    (ha : ∀ W, C W → SI W A (n * 2) zs) (hf : ∀ k, k < n → ∀ W, C W → Calls Try.prog g (#[.agg #[.int .i64 (iat zs (k * 2)), .int .i64 (iat zs (k * 2 + 1))]] ++ caps) W fun e w' => e = .returned (.bool (p k)) ∧ C w') :
    Calls Try.prog 60 #[.slice A n c, .func (.func g) #[] caps] w fun e w' => ∃ r : Int, e = .returned (.int .i64 r) ∧ -1 ≤ r ∧ r ≤ n ∧ decide (0 ≤ r) = (List.range n).any p ∧ C w' := by
  have HF := Lib.hid hf; clear hf
  go_enter Try.func60, Try.ntmps60
  go_wp2
  go_loopg [8] n (fun gg s8 wr => ∃ k : Nat, k ≤ n ∧ n - k ≤ gg ∧ s8 = .int .i64 k ∧ C wr ∧ Aside (∀ j, j < k → p j = false))
  case atStart => exact ⟨0, Nat.zero_le _, by omega, rfl, hw, fun j hj => absurd hj (Nat.not_lt_zero _)⟩
  case round =>
    obtain ⟨k, hk, hg, rfl, hC, A0⟩ := hrel
    have HC := Lib.hid hC
    by_cases hlt : k < n
    · obtain ⟨b, off, rfl, h1, h2⟩ := (ha _ hC).pair hlt
      have hcall := Lib.hid (HF.out k hlt wr hC)
      clear ha hC
      generalize iat zs (k * 2) = x at *
      generalize iat zs (k * 2 + 1) = y at *
      cases hq : p k with
      | true =>
        rw [hq] at hcall
        have HQ := Lib.hid hq; clear hq
        go_wp2_with (go_at_fn g; refine (hcall.out).mono ?_; rintro e w' ⟨rfl, hC'⟩)
        go_ret
        refine ⟨(k : Int), rfl, by omega, by omega, ?_, hC'⟩
        have : (List.range n).any p = true := List.any_eq_true.2 ⟨k, List.mem_range.2 hlt, HQ.out⟩
        rw [this]; simp
      | false =>
        rw [hq] at hcall
        have HQ := Lib.hid hq; clear hq
        go_wp2_with (go_at_fn g; refine (hcall.out).mono ?_; rintro e w' ⟨rfl, hC'⟩)
        go_roundg (n - (k + 1))
        case measure => omega
        case rel =>
          refine ⟨k + 1, by omega, by omega, by go_num, hC', (show Aside _ from fun j hj => ?_)⟩
          by_cases e : j = k
          · subst e; exact HQ.out
          · exact A0.out j (by omega)
    · obtain rfl : k = n := by omega
      clear ha hC
      go_wp2
      go_ret
      refine ⟨-1, rfl, by omega, by omega, ?_, HC.out⟩
      have : (List.range k).any p = false := by
        rw [List.any_eq_false]
        intro j hj
        simp [A0.out j (List.mem_range.1 hj)]
      rw [this]; rfl

theorem containsFuncP_any (g : Nat) (caps : Array Value) (p : Nat → Bool) (A : Option Addr) (n c : Nat) (zs : List Int) (C : World → Prop) (w : World) (hn : n ≤ 9000000000000000000) (hw : C w)
    (eg : ∀ args w, (callFunc g args).run Try.prog w = .ok (.enter g args) w)
    (ha : ∀ W, C W → SI W A (n * 2) zs) (hf : ∀ k, k < n → ∀ W, C W → Calls Try.prog g (#[.agg #[.int .i64 (iat zs (k * 2)), .int .i64 (iat zs (k * 2 + 1))]] ++ caps) W fun e w' => e = .returned (.bool (p k)) ∧ C w') :
    Calls Try.prog 44 #[.slice A n c, .func (.func g) #[] caps] w fun e w' => e = .returned (.bool ((List.range n).any p)) ∧ C w' := by
  have H := Lib.hid (indexFuncP_any g caps p A n c zs C w hn hw eg ha hf)
  generalize (List.range n).any p = z at H
  clear eg ha hf
  go_enter Try.func44, Try.ntmps44
  go_wp2_with fail
  refine H.out.mono ?_
  rintro e w' ⟨r, rfl, hr0, hr1, hr2, hC'⟩
  have HR := Lib.hid hr2; clear hr2
  go_wp2_with fail
  go_ret
  exact ⟨by rw [← HR.out]; rfl, hC'⟩

set_option maxHeartbeats 400000 in
theorem validCalls1_any (x y n : Int) (B : Nat) (w : World) (hn1 : 1 ≤ n) (hn2 : n ≤ 6) (hc : w.cell? ⟨B, 0, none⟩ = some (.int .i64 n)) :
    Calls Try.prog 45 #[.agg #[.int .i64 x, .int .i64 y], .pointer (some ⟨B, 0, none⟩)] w fun e w' => e = .returned (.bool (!pOk (n - 1) x y)) ∧ Below w.heap.size w w' := by
  have HB := Lib.hid (show Below w.heap.size w (w.alloc (.cells #[.int .i64 x, .int .i64 y] 44)) from (Below.refl _ _).alloc (Nat.le_refl _) _)
  have hlt := World.block_lt_of_cell? w _ hc
  have hc2 : (w.alloc (.cells #[.int .i64 x, .int .i64 y] 44)).cell? ⟨B, 0, none⟩ = some (.int .i64 n) := (World.cell?_alloc_lt _ _ _ hlt).trans hc
  have HX := Lib.hid (fun w => within_any x 0 (n - 1) w)
  have HY := Lib.hid (fun w => within_any y 0 (n - 1) w)
  clear hlt hc
  cases ex : inR x 0 (n - 1) with
  | false =>
    rw [ex] at HX
    have E := Lib.hid (show pOk (n - 1) x y = false by simp [pOk, ex])
    clear ex
    go_enter Try.func45, Try.ntmps45
    go_wp2_with fail
    refine (HX.out _).mono ?_
    rintro e w' ⟨rfl, rfl⟩
    go_wp2_with fail
    go_ret
    exact ⟨by rw [E.out]; rfl, HB.out⟩
  | true =>
    have EX := Lib.hid ex
    rw [ex] at HX
    clear ex
    cases ey : inR y 0 (n - 1) with
    | false =>
      rw [ey] at HY
      have E := Lib.hid (show pOk (n - 1) x y = false by simp [pOk, ey])
      clear ey
      go_enter Try.func45, Try.ntmps45
      go_wp2_with fail
      refine (HX.out _).mono ?_
      rintro e w' ⟨rfl, rfl⟩
      go_wp2_with fail
      refine (HY.out _).mono ?_
      rintro e w' ⟨rfl, rfl⟩
      go_wp2_with fail
      go_ret
      exact ⟨by rw [E.out]; rfl, HB.out⟩
    | true =>
      rw [ey] at HY
      have E := Lib.hid (show (!pOk (n - 1) x y) = (x == y) by simp [pOk, EX.out, ey])
      clear ey
      go_enter Try.func45, Try.ntmps45
      go_wp2_with fail
      refine (HX.out _).mono ?_
      rintro e w' ⟨rfl, rfl⟩
      go_wp2_with fail
      refine (HY.out _).mono ?_
      rintro e w' ⟨rfl, rfl⟩
      go_wp2_with fail
      go_ret
      exact ⟨by rw [E.out]; rfl, HB.out⟩

set_option maxHeartbeats 800000 in
theorem implValidCalls_any (n : Int) (A : Option Addr) (k c : Nat) (zs : List Int) (w : World) (hk : k ≤ 2000000) (ha : SI w A (k * 2) zs) :
    Calls Try.prog 16 #[.int .i64 n, .slice A k c] w fun e w' => e = .returned (.bool (vcl n zs k)) ∧ Below w.heap.size w w' := by
  have hmf : ∀ (fn : Fn) (first cap : Array Value) (w : World), (Instr.makeFunc fn first cap).run Try.prog w = .ok (.func fn first cap) w := fun _ _ _ _ => rfl
  obtain ⟨W, hW⟩ : ∃ W, W = w.alloc (.cells #[.int .i64 n] 3) := ⟨_, rfl⟩
  have hB : Below w.heap.size w W := by rw [hW]; exact (Below.refl _ _).alloc (Nat.le_refl _) _
  have hz : w.heap.size < W.heap.size := by rw [hW]; simp
  have c0 : W.cell? ⟨w.heap.size, 0, none⟩ = some (.int .i64 n) := by rw [hW]; simp
  have hS : SI W A (k * 2) zs := ha.below hB (Nat.le_refl _)
  have HB := Lib.hid hB
  have H1 := Lib.hid (fun w => within_any n 1 6 w)
  cases e1 : inR n 1 6 with
  | false =>
    rw [e1] at H1
    have hv := Lib.hid (show vcl n zs k = false by simp [vcl, e1])
    clear e1 ha hB hz c0 hS
    go_enter Try.func16, Try.ntmps16
    go_wp2_with fail
    refine (H1.out _).mono ?_
    rintro e w' ⟨rfl, rfl⟩
    go_wp2_with fail
    rw [← hW]
    go_ret
    exact ⟨by rw [hv.out]; rfl, HB.out⟩
  | true =>
    have E1 := Lib.hid e1
    rw [e1] at H1
    obtain ⟨hn1, hn2⟩ := inR_iff.1 e1
    by_cases hk12 : k ≤ 12
    · have hk12' : (k : Int) ≤ 12 := by omega
      have hv := Lib.hid (show vcl n zs k = !((List.range k).any fun i => !pOk (n - 1) (iat zs (i * 2)) (iat zs (i * 2 + 1))) by
        simp only [vcl, e1, hk12, decide_true, Bool.true_and, cOk]
        rw [← List.not_all_eq_any_not, Bool.not_not])
      have H4 := Lib.hid (containsFuncP_any 45 #[.pointer (some ⟨w.heap.size, 0, none⟩)] (fun i => !pOk (n - 1) (iat zs (i * 2)) (iat zs (i * 2 + 1))) A k c zs (fun V => Below W.heap.size W V) W (by omega) (Below.refl _ _)
        (enters_of Try.func45 (by kernel_rfl) rfl) (fun V hV => hS.below hV (Nat.le_refl _))
        (fun j hj V hV => (validCalls1_any (iat zs (j * 2)) (iat zs (j * 2 + 1)) n w.heap.size V hn1 hn2 ((hV.cell (p := ⟨w.heap.size, 0, none⟩) hz).trans c0)).mono fun e w' ⟨he, hb⟩ => ⟨he, bstep hV hb⟩))
      generalize ((List.range k).any fun i => !pOk (n - 1) (iat zs (i * 2)) (iat zs (i * 2 + 1))) = r at H4 hv
      rw [hW] at H4
      clear e1 ha hB hz c0 hS
      go_enter Try.func16, Try.ntmps16
      go_wp2_with fail
      refine (H1.out _).mono ?_
      rintro e w' ⟨rfl, rfl⟩
      go_wp2_with fail
      refine H4.out.mono ?_
      rintro e w' ⟨rfl, b1⟩
      rw [← hW] at b1
      have b1' := Lib.hid (bstep HB.out b1)
      clear b1
      go_wp2_with fail
      go_ret
      exact ⟨by rw [hv.out]; rfl, b1'.out⟩
    · have hk12' : ¬ (k : Int) ≤ 12 := by omega
      have hv := Lib.hid (show vcl n zs k = false by simp [vcl, hk12])
      clear e1 ha hB hz c0 hS
      go_enter Try.func16, Try.ntmps16
      go_wp2_with fail
      refine (H1.out _).mono ?_
      rintro e w' ⟨rfl, rfl⟩
      go_wp2_with fail
      rw [← hW]
      go_ret
      exact ⟨by rw [hv.out]; rfl, HB.out⟩

end Go.Proofs.Ytjiplangdkpehaa
