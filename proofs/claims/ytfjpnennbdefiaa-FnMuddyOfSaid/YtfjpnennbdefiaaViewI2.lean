/-
  ViewI2. By a program (wip/tools/mk.py) out of snippets.
-/
import Derived.Test.YtfjpnennbdefiaaViewI
namespace Go.Proofs.Ytfjpnennbdefiaa
open Go.RowKit

set_option maxHeartbeats 800000 in
theorem lookOf_any (n : Int) (A : Option Addr) (k c : Nat) (w : World) :
    Calls Try.prog 26 #[.agg #[.int .i64 n, .slice A k c]] w fun e w' => e = .returned (.agg #[.int .i64 n, .slice A k c]) ∧ Below w.heap.size w w' := by
  go_enter Try.func26, Try.ntmps26
  go_wp2
  refine bodyPost_ret (v := .agg #[.int .i64 n, .slice A k c]) ?_ rfl ⟨rfl, ?_⟩
  · have hres : Try.f26.results = #[.cell 2 48] := by kernel_rfl
    simp only [results, hres]
    go_simp
  · exact ((Below.refl _ _).alloc (Nat.le_refl _) _).alloc (by simp) _

theorem all1_any (u : Int) (w : World) : Calls Try.prog 45 #[.int .i64 u] w fun e w' => e = .returned (.bool true) ∧ w' = w := by
  go_enter Try.func45, Try.ntmps45
  go_wp2
  go_ret
  exact ⟨rfl, rfl⟩

set_option maxHeartbeats 800000 in
theorem lookall_any (n k c s : Nat) (A : Option Addr) (rows : List (List Int)) (w : World) (hG : GV n k rows) (hs : s < 65536) (ha : SS w A k rows) :
    Calls Try.prog 27 #[.agg #[.int .i64 n, .slice A k c], .int .i64 s] w fun e w' => e = .returned (.int .i64 (alV rows n s : Nat)) ∧ Below w.heap.size w w' := by
  have hL : rows.length = k := ha.1
  have HAL := Lib.hid (show alV rows n s = alTo rows n s k by unfold alV; rw [hL])
  have HL := Lib.hid hL; clear hL
  obtain ⟨W, hW⟩ : ∃ W, W = w.alloc (.cells #[.int .i64 n, .slice A k c] 48) := ⟨_, rfl⟩
  have hB : Below w.heap.size w W := by rw [hW]; exact (Below.refl _ _).alloc (Nat.le_refl _) _
  have hz : W.heap.size = w.heap.size + 1 := by rw [hW]; simp
  have c0 : W.cell? ⟨w.heap.size, 0, none⟩ = some (.int .i64 n) := by rw [hW]; simp
  have c1 : W.cell? ⟨w.heap.size, 1, none⟩ = some (.slice A k c) := by rw [hW]; simp
  have HF := Lib.hid (filter_any 45 #[] (fun _ => true) n (fun V => V = W) W hG.n2 rfl
    (enters_of Try.func45 (by kernel_rfl) rfl) (fun u hu V hV => by subst hV; exact all1_any _ _))
  rw [bs_true] at HF
  have HK := Lib.hid (fun (a : Nat) (haK : a < k) (w' : World) (hw : Below w.heap.size w w') => lookknows_any n k c a s A rows w' hG haK hs (ha.below hw (Nat.le_refl _)))
  have hn := hG.n2
  have hk := hG.k2
  have HN := Lib.hid (pow16 hG.n2)
  have hp := Nat.two_pow_pos n
  rw [hW] at HF
  have HB := Lib.hid hB
  have HZ := Lib.hid hz
  have C0 := Lib.hid c0
  have C1 := Lib.hid c1
  clear ha hG hz c0 c1 hB
  go_enter Try.func27, Try.ntmps27
  go_wp2_with fail
  refine HF.out.mono ?_
  rintro e w' ⟨rfl, rfl⟩
  go_wp2_with fail
  rw [← hW]
  clear hW HF
  go_loopg [5, 13] k (fun gg s5 s13 wr => ∃ j : Nat, j ≤ k ∧ k - j ≤ gg ∧ s13 = .int .i64 j ∧ s5 = .int .i64 (alTo rows n s j : Nat) ∧ Below W.heap.size W wr)
  case atStart => exact ⟨0, Nat.zero_le _, by omega, rfl, by rw [alTo_zero], Below.refl _ _⟩
  case round =>
    obtain ⟨j, hj, hg, rfl, rfl, hbw⟩ := hrel
    have c0 := (hbw.cell (p := ⟨w.heap.size, 0, none⟩) (by show w.heap.size < _; have := HZ.out; omega)).trans C0.out
    have c1 := (hbw.cell (p := ⟨w.heap.size, 1, none⟩) (by show w.heap.size < _; have := HZ.out; omega)).trans C1.out
    have HBW := Lib.hid hbw
    have HBw := Lib.hid (HB.out.trans (hbw.mono HB.out.size))
    clear hbw
    by_cases hlt : j < k
    · have ht := alTo_lt rows n s j
      have hkl := knV_lt (rat rows j) n s
      have HS := Lib.hid (alTo_succ (n := n) (s := s) (show j < rows.length by rw [HL.out]; exact hlt))
      have hb := bits_and64 (alTo rows n s j) (knV (rat rows j) n s) (by have := HN.out; omega) (by have := HN.out; omega)
      have HKj := Lib.hid (HK.out j hlt wr HBw.out)
      generalize alTo rows n s j = x at *
      generalize knV (rat rows j) n s = y at *
      clear ht hkl
      go_wp2_with fail
      refine HKj.out.mono ?_
      rintro e w2 ⟨rfl, hb2⟩
      have HB2 := Lib.hid (bstep HBW.out hb2)
      clear hb2
      go_wp2_with fail
      go_roundg (k - (j + 1))
      case measure => omega
      case rel => exact ⟨j + 1, by omega, by omega, by go_num, by rw [HS.out], HB2.out⟩
    · obtain rfl : j = k := by omega
      go_wp2
      go_ret
      exact ⟨by rw [HAL.out]; rfl, HBw.out⟩

set_option maxHeartbeats 400000 in
theorem indexFuncSS_any (g : Nat) (caps : Array Value) (p : List Int → Bool) (A : Option Addr) (n c : Nat) (rows : List (List Int)) (C : World → Prop) (w : World) (hn : n ≤ 9000000000000000000) (hw : C w)
    (eg : ∀ args w, (callFunc g args).run Try.prog w = .ok (.enter g args) w)
    (ha : ∀ W, C W → SS W A n rows) (hf : ∀ k, k < n → ∀ W A' n' c', C W → SI W A' n' (rat rows k) → Calls Try.prog g (#[.slice A' n' c'] ++ caps) W fun e w' => e = .returned (.bool (p (rat rows k))) ∧ C w') :
    Calls Try.prog 43 #[.slice A n c, .func (.func g) #[] caps] w fun e w' => ∃ r : Int, e = .returned (.int .i64 r) ∧ -1 ≤ r ∧ r ≤ n ∧ decide (0 ≤ r) = rows.any p ∧ C w' := by
  have hlen := Lib.hid (ha w hw).len
  have HF := Lib.hid hf; clear hf
  go_enter Try.func43, Try.ntmps43
  go_wp2
  go_loopg [8] n (fun gg s8 wr => ∃ k : Nat, k ≤ n ∧ n - k ≤ gg ∧ s8 = .int .i64 k ∧ C wr ∧ Aside (∀ j, j < k → p (rat rows j) = false))
  case atStart => exact ⟨0, Nat.zero_le _, by omega, rfl, hw, fun j hj => absurd hj (Nat.not_lt_zero _)⟩
  case round =>
    obtain ⟨k, hk, hg, rfl, hC, A0⟩ := hrel
    have HC := Lib.hid hC
    by_cases hlt : k < n
    · obtain ⟨b, off, A', n', c', rfl, h1, h2⟩ := (ha _ hC).at_ hlt
      have hcall := Lib.hid (HF.out k hlt wr A' n' c' hC h2)
      clear ha hC h2
      cases hq : p (rat rows k) with
      | true =>
        rw [hq] at hcall
        have HQ := Lib.hid hq; clear hq
        go_wp2_with (go_at_fn g; refine (hcall.out).mono ?_; rintro e w' ⟨rfl, hC'⟩)
        go_ret
        refine ⟨(k : Int), rfl, by omega, by omega, ?_, hC'⟩
        have : rows.any p = true := List.any_eq_true.2 ⟨_, rat_mem (by rw [hlen.out]; exact hlt), HQ.out⟩
        rw [this]; simp
      | false =>
        rw [hq] at hcall
        have HQ := Lib.hid hq; clear hq
        go_wp2_with (go_at_fn g; refine (hcall.out).mono ?_; rintro e w' ⟨rfl, hC'⟩)
        go_roundg (n - (k + 1))
        case measure => omega
        case rel =>
          refine ⟨k + 1, by omega, by omega, by go_num, hC', (show Aside _ from fun j hj => ?_)⟩
          by_cases e : j = k
          · subst e; exact HQ.out
          · exact A0.out j (by omega)
    · obtain rfl : k = n := by omega
      clear ha hC
      go_wp2
      go_ret
      refine ⟨-1, rfl, by omega, by omega, ?_, HC.out⟩
      have : rows.any p = false := by
        rw [List.any_eq_false]
        intro x hx
        obtain ⟨j, hj, rfl⟩ := List.mem_iff_getElem.1 hx
        have := A0.out j (by rw [hlen.out] at hj; exact hj)
        rw [rat_eq hj] at this
        simp [this]
      rw [this]; rfl

theorem containsFuncSS_any (g : Nat) (caps : Array Value) (p : List Int → Bool) (A : Option Addr) (n c : Nat) (rows : List (List Int)) (C : World → Prop) (w : World) (hn : n ≤ 9000000000000000000) (hw : C w)
    (eg : ∀ args w, (callFunc g args).run Try.prog w = .ok (.enter g args) w)
    (ha : ∀ W, C W → SS W A n rows) (hf : ∀ k, k < n → ∀ W A' n' c', C W → SI W A' n' (rat rows k) → Calls Try.prog g (#[.slice A' n' c'] ++ caps) W fun e w' => e = .returned (.bool (p (rat rows k))) ∧ C w') :
    Calls Try.prog 19 #[.slice A n c, .func (.func g) #[] caps] w fun e w' => e = .returned (.bool (rows.any p)) ∧ C w' := by
  have H := Lib.hid (indexFuncSS_any g caps p A n c rows C w hn hw eg ha hf)
  generalize rows.any p = z at H
  clear eg ha hf
  go_enter Try.func19, Try.ntmps19
  go_wp2_with fail
  refine H.out.mono ?_
  rintro e w' ⟨r, rfl, hr0, hr1, hr2, hC'⟩
  have HR := Lib.hid hr2; clear hr2
  go_wp2_with fail
  go_ret
  exact ⟨by rw [← HR.out]; rfl, hC'⟩

theorem validView11_any (x n : Int) (B : Nat) (w : World) (hn1 : 1 ≤ n) (hn2 : n ≤ 16) (hc : w.cell? ⟨B, 0, none⟩ = some (.int .i64 n)) :
    Calls Try.prog 22 #[.int .i64 x, .pointer (some ⟨B, 0, none⟩)] w fun e w' => e = .returned (.bool (!inR x 0 (n - 1))) ∧ w' = w := by
  have H := Lib.hid (within_any x 0 (n - 1) w)
  go_enter Try.func22, Try.ntmps22
  go_wp2_with (go_at_call 18; refine H.out.mono ?_; rintro e w' ⟨rfl, rfl⟩)
  go_ret
  exact ⟨rfl, rfl⟩

theorem rowNot (n : Int) (row : List Int) : (!rowOk n row) = (!((row.length : Int) == n) || row.any fun z => !inR z 0 (n - 1)) := by
  unfold rowOk
  rw [Bool.not_and, List.not_all_eq_any_not]
set_option maxHeartbeats 400000 in
theorem validView1_any (n : Int) (A : Option Addr) (m c : Nat) (row : List Int) (B : Nat) (w : World) (hn1 : 1 ≤ n) (hn2 : n ≤ 16) (hm : m ≤ 9000000000000000000) (ha : SI w A m row) (hc : w.cell? ⟨B, 0, none⟩ = some (.int .i64 n)) :
    Calls Try.prog 20 #[.slice A m c, .pointer (some ⟨B, 0, none⟩)] w fun e w' => e = .returned (.bool (!rowOk n row)) ∧ w' = w := by
  have hmf : ∀ (fn : Fn) (first cap : Array Value) (w : World), (Instr.makeFunc fn first cap).run Try.prog w = .ok (.func fn first cap) w := fun _ _ _ _ => rfl
  have H4 := Lib.hid (containsFunc_any 22 #[.pointer (some ⟨B, 0, none⟩)] (fun z => !inR z 0 (n - 1)) A m c row (fun W => W = w) w hm rfl
    (enters_of Try.func22 (by kernel_rfl) rfl) (fun W hW => by subst hW; exact ha)
    (fun j hj W hW => by subst hW; exact validView11_any (iat row j) n B W hn1 hn2 hc))
  have HR := Lib.hid (rowNot n row)
  rw [ha.1] at HR
  clear ha
  generalize (row.any fun z => !inR z 0 (n - 1)) = r at *
  by_cases e : (m : Int) = n
  · have e1 : ((m : Int) == n) = true := by simpa using e
    rw [e1] at HR
    go_enter Try.func20, Try.ntmps20
    go_wp2_with (go_at_call 21; refine H4.out.mono ?_; rintro e w' ⟨rfl, rfl⟩)
    go_ret
    exact ⟨by rw [HR.out]; simp, rfl⟩
  · have e1 : ((m : Int) == n) = false := by simpa using e
    rw [e1] at HR
    go_enter Try.func20, Try.ntmps20
    go_wp2_with fail
    go_ret
    exact ⟨by rw [HR.out]; simp, rfl⟩

set_option maxHeartbeats 800000 in
theorem implValidView_any (n : Int) (A : Option Addr) (k c : Nat) (rows : List (List Int)) (w : World) (hk : k ≤ 2000000) (hr : ∀ i, i < k → (rat rows i).length ≤ 2000000) (ha : SS w A k rows) :
    Calls Try.prog 7 #[.agg #[.int .i64 n, .slice A k c]] w fun e w' => e = .returned (.bool (vv n rows)) ∧ Below w.heap.size w w' := by
  have hmf : ∀ (fn : Fn) (first cap : Array Value) (w : World), (Instr.makeFunc fn first cap).run Try.prog w = .ok (.func fn first cap) w := fun _ _ _ _ => rfl
  have hL := ha.1
  have hB := Lib.hid (show Below w.heap.size w (w.alloc (.cells #[.int .i64 n, .slice A k c] 25)) from (Below.refl _ _).alloc (Nat.le_refl _) _)
  have h2 := Lib.hid (within_any n 1 16)
  have h3 := Lib.hid (within_any k 1 4)
  cases e1 : inR n 1 16 with
  | false =>
    have hv := Lib.hid (show vv n rows = false by simp [vv, e1])
    rw [e1] at h2
    clear e1 ha hL hr
    go_enter Try.func7, Try.ntmps7
    go_wp2_with (go_at_call 18; refine (h2.out _).mono ?_; rintro e w' ⟨rfl, rfl⟩)
    go_ret
    exact ⟨by rw [hv.out]; rfl, hB.out⟩
  | true =>
    have hn := inR_iff.1 e1
    have e1' := Lib.hid e1
    rw [e1] at h2
    clear e1
    cases e2 : inR k 1 4 with
    | false =>
      have hv := Lib.hid (show vv n rows = false by simp [vv, hL, e2])
      rw [e2] at h3
      clear e2 ha hL hr
      go_enter Try.func7, Try.ntmps7
      go_wp2_with (first | (go_at_call_of 18 (Value.int .i64 n); refine (h2.out _).mono ?_; rintro e w' ⟨rfl, rfl⟩) | (go_at_call_of 18 (Value.int .i64 (k : Int)); refine (h3.out _).mono ?_; rintro e w' ⟨rfl, rfl⟩))
      go_ret
      exact ⟨by rw [hv.out]; rfl, hB.out⟩
    | true =>
      have hv := Lib.hid (show vv n rows = !(rows.any fun row => !rowOk n row) by
        simp only [vv, e1'.out, hL, e2, Bool.true_and]
        rw [← List.not_all_eq_any_not, Bool.not_not])
      rw [e2] at h3
      clear e2
      have hcell : (w.alloc (.cells #[.int .i64 n, .slice A k c] 25)).cell? ⟨w.heap.size, 0, none⟩ = some (.int .i64 n) := by simp
      have H4 := Lib.hid (containsFuncSS_any 20 #[.pointer (some ⟨w.heap.size, 0, none⟩)] (fun row => !rowOk n row) A k c rows (fun W => W = w.alloc (.cells #[.int .i64 n, .slice A k c] 25)) _ (by omega) rfl
        (enters_of Try.func20 (by kernel_rfl) rfl) (fun W hW => by subst hW; exact ha.alloc _)
        (fun j hj W A' n' c' hW hs => by subst hW; exact validView1_any n A' n' c' _ w.heap.size _ hn.1 hn.2 (by have := hr j hj; rw [hs.1] at this; omega) hs hcell))
      generalize (rows.any fun row => !rowOk n row) = r at H4 hv
      clear ha hcell hr
      go_enter Try.func7, Try.ntmps7
      go_wp2_with (first | (go_at_call_of 18 (Value.int .i64 n); refine (h2.out _).mono ?_; rintro e w' ⟨rfl, rfl⟩) | (go_at_call_of 18 (Value.int .i64 (k : Int)); refine (h3.out _).mono ?_; rintro e w' ⟨rfl, rfl⟩) | (go_at_call 19; refine H4.out.mono ?_; rintro e w' ⟨rfl, rfl⟩))
      go_ret
      exact ⟨by rw [hv.out]; rfl, hB.out⟩

end Go.Proofs.Ytfjpnennbdefiaa
