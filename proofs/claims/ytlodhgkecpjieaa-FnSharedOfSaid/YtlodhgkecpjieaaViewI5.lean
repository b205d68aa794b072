/-
  ViewI5. By a program (wip/tools/mk.py) out of snippets.
-/
import Derived.Test.YtlodhgkecpjieaaViewI4
namespace Go.Proofs.Ytlodhgkecpjieaa
open Go.RowKit

theorem shared11_any (u : Int) (w : World) : Calls Try.prog 71 #[.int .i64 u] w fun e w' => e = .returned (.bool true) ∧ w' = w := by
  go_enter Try.func71, Try.ntmps71
  go_wp2
  go_ret
  exact ⟨rfl, rfl⟩

theorem laTo_lt (rows : List (List Int)) (n w k : Nat) : laTo rows n w k < 2 ^ n := by
  rw [laTo_bs]; exact bs_lt _ _
set_option maxHeartbeats 1600000 in
theorem shared1_any (n k c s v g h : Nat) (A : Option Addr) (rows : List (List Int)) (V : World) (hG : GV n k rows) (hs : s < 65536) (hv : v < n) (ha : SS V A k rows) (hgs : g < V.heap.size) (hhs : h < V.heap.size)
    (h0 : V.cell? ⟨g, 0, none⟩ = some (.int .i64 n)) (h1 : V.cell? ⟨g, 1, none⟩ = some (.slice A k c)) (h2 : V.cell? ⟨h, 0, none⟩ = some (.int .i64 s)) :
    Calls Try.prog 70 #[.int .i64 v, .pointer (some ⟨g, 0, none⟩), .pointer (some ⟨h, 0, none⟩)] V fun e w' => e = .returned (.bool (shP rows n s v)) ∧ Below V.heap.size V w' := by
  have HL := Lib.hid ha.1
  have HF := Lib.hid (filter_any 71 #[] (fun _ => true) n (fun w' => w' = V) V hG.n2 rfl
    (enters_of Try.func71 (by kernel_rfl) rfl) (fun u hu w' hV => by subst hV; exact shared11_any _ _))
  have H0 : bs (fun _ => true) n = laTo rows n v 0 := by rw [bs_true]; rfl
  rw [H0] at HF
  have HK := Lib.hid (fun (a : Nat) (haK : a < k) (w' : World) (hw : Below V.heap.size V w') => same_any n k c a v A rows w' hG haK hv (ha.below hw (Nat.le_refl _)))
  have hk := hG.k2
  have hn := hG.n2
  have hlr : rows.length = k := ha.1
  have HR := Lib.hid (shP_of rows n s v)
  rw [hlr] at HR
  have C0 := Lib.hid h0
  have C1 := Lib.hid h1
  have C2 := Lib.hid h2
  have HGs := Lib.hid hgs
  have HHs := Lib.hid hhs
  clear ha hG H0 hlr
  go_enter Try.func70, Try.ntmps70
  go_wp2_with fail
  refine HF.out.mono ?_
  rintro e w' ⟨rfl, rfl⟩
  go_wp2_with fail
  clear h0 h1 h2 hgs hhs HF
  go_loopg [5, 13] k (fun gg s5 s13 wr => ∃ j : Nat, j ≤ k ∧ k - j ≤ gg ∧ s13 = .int .i64 j ∧ s5 = .int .i64 (laTo rows n v j : Nat) ∧ Below w'.heap.size w' wr)
  case atStart => exact ⟨0, Nat.zero_le _, by omega, rfl, rfl, Below.refl _ _⟩
  case round =>
    obtain ⟨j, hj, hg, rfl, rfl, hbw⟩ := hrel
    have HBW := Lib.hid hbw
    by_cases hlt : j < k
    · have c0 := (hbw.cell (p := ⟨g, 0, none⟩) HGs.out).trans C0.out
      have c1 := (hbw.cell (p := ⟨g, 1, none⟩) HGs.out).trans C1.out
      have ht := laTo_lt rows n v j
      have hq := pow16 hn
      have hkl : smV (rat rows j) n v < 2 ^ n := bs_lt _ _
      have HS := Lib.hid (laTo_succ (n := n) (w := v) (show j < rows.length by rw [HL.out]; exact hlt))
      have hb := bits_and64 (laTo rows n v j) (smV (rat rows j) n v) (by omega) (by omega)
      have HKj := Lib.hid (HK.out j hlt wr hbw)
      generalize laTo rows n v j = x at *
      generalize smV (rat rows j) n v = y at *
      clear ht hkl hq hbw
      go_wp2_with fail
      refine HKj.out.mono ?_
      rintro e w2 ⟨rfl, hb2⟩
      have HB2 := Lib.hid (bstep HBW.out hb2)
      clear hb2
      go_wp2_with fail
      go_roundg (k - (j + 1))
      case measure => omega
      case rel => exact ⟨j + 1, by omega, by omega, by go_num, by rw [HS.out], HB2.out⟩
    · obtain rfl : j = k := by omega
      have c2 := (hbw.cell (p := ⟨h, 0, none⟩) HHs.out).trans C2.out
      have ht := laTo_lt rows n v j
      have hq := pow16 hn
      have hb := bits_andn64 (laTo rows n v j) s (by omega) (by omega)
      generalize laTo rows n v j = x at *
      generalize andn x s = d at *
      have HD := Lib.hid (show ((d : Int) == 0) = shP rows n s v by rw [← HR.out]; cases e : d == 0 <;> simp at e ⊢ <;> omega)
      clear hbw
      go_wp2_with fail
      go_ret
      exact ⟨by rw [← HD.out]; rfl, HBW.out⟩

set_option maxHeartbeats 1600000 in
theorem implSharedOf_any (n s : Int) (A : Option Addr) (k c : Nat) (rows : List (List Int)) (w : World) (hk : k ≤ 2000000) (hr : ∀ i, i < k → (rat rows i).length ≤ 2000000) (ha : SS w A k rows) :
    Calls Try.prog 35 #[.agg #[.int .i64 n, .slice A k c], .int .i64 s] w fun e w' => e = .returned (.int .i64 (shA n rows s)) ∧ Below w.heap.size w w' := by
  have hmf : ∀ (fn : Fn) (first cap : Array Value) (w : World), (Instr.makeFunc fn first cap).run Try.prog w = .ok (.func fn first cap) w := fun _ _ _ _ => rfl
  obtain ⟨W, hW⟩ : ∃ W, W = (w.alloc (.cells #[.int .i64 n, .slice A k c] 27)).alloc (.cells #[.int .i64 s] 3) := ⟨_, rfl⟩
  have hB : Below w.heap.size w W := by rw [hW]; exact ((Below.refl _ _).alloc (Nat.le_refl _) _).alloc (by simp) _
  have hz : W.heap.size = w.heap.size + 2 := by rw [hW]; simp
  have c0 : W.cell? ⟨w.heap.size, 0, none⟩ = some (.int .i64 n) := by rw [hW, World.cell?_alloc_past _ _ _ (by simp)]; simp
  have c1 : W.cell? ⟨w.heap.size, 1, none⟩ = some (.slice A k c) := by rw [hW, World.cell?_alloc_past _ _ _ (by simp)]; simp
  have c2 : W.cell? ⟨w.heap.size + 1, 0, none⟩ = some (.int .i64 s) := by rw [hW, World.cell?_alloc_at _ _ _ _ (by simp)]; simp
  have hS : SS W A k rows := ha.below hB (Nat.le_refl _)
  have C := Lib.hid (implsetOk_any n s A k c rows W hk hr hS)
  have HL := Lib.hid ha.1
  have HB := Lib.hid hB
  have HZ := Lib.hid hz
  have C0 := Lib.hid c0
  have C1 := Lib.hid c1
  have C2 := Lib.hid c2
  have HS := Lib.hid hS
  clear ha hr hB hz c0 c1 c2 hS
  cases e : gd n rows s with
  | false =>
    rw [e] at C
    have hv := Lib.hid (show shA n rows s = -1 by simp [shA, e])
    clear e
    go_enter Try.func35, Try.ntmps35
    go_wp2_with fail
    rw [← hW]
    clear hW
    refine C.out.mono ?_
    rintro e w' ⟨rfl, b1⟩
    have b1' := Lib.hid (bstep HB.out b1)
    clear b1
    go_wp2_with fail
    go_ret
    exact ⟨by rw [hv.out]; rfl, b1'.out⟩
  | true =>
    rw [e] at C
    have E := Lib.hid e
    obtain ⟨N, S, rfl, rfl, hG, hS1, _⟩ := gd_of e HL.out
    have hk2 := hG.k2
    have hn2 := hG.n2
    have hv := Lib.hid (show shA N rows S = (bs (shP rows N S) N : Nat) by simp [shA, E.out, shV])
    have HF := Lib.hid (fun (g : Nat) (w4 : World) (hb : Below W.heap.size W w4) (hg : g < w4.heap.size) (d0 : w4.cell? ⟨g, 0, none⟩ = some (.int .i64 N)) (d1 : w4.cell? ⟨g, 1, none⟩ = some (.slice A k c)) =>
      filter_any 70 #[.pointer (some ⟨g, 0, none⟩), .pointer (some ⟨w.heap.size + 1, 0, none⟩)] (shP rows N S) N (fun V => Below w4.heap.size w4 V) w4 hG.n2 (Below.refl _ _)
        (enters_of Try.func70 (by kernel_rfl) rfl) (fun u hu V hV => by
          have hsz := hV.size
          have hsz2 := hb.size
          have := HZ.out
          have e0 : (⟨g, 0, none⟩ : Addr).block < w4.heap.size := hg
          have e1 : (⟨w.heap.size + 1, 0, none⟩ : Addr).block < W.heap.size := by show w.heap.size + 1 < _; omega
          exact (shared1_any N k c S u g (w.heap.size + 1) A rows V hG hS1 hu ((HS.out.below hb (Nat.le_refl _)).below hV (Nat.le_refl _)) (by omega) (by omega)
            ((hV.cell (p := ⟨g, 0, none⟩) hg).trans d0) ((hV.cell (p := ⟨g, 1, none⟩) hg).trans d1) (((bstep hb hV).cell (p := ⟨w.heap.size + 1, 0, none⟩) e1).trans C2.out)).mono fun e w' ⟨he, hb⟩ => ⟨he, hV.trans (hb.mono hsz)⟩))
    clear e hG
    go_enter Try.func35, Try.ntmps35
    go_wp2_with fail
    rw [← hW]
    clear hW
    refine C.out.mono ?_
    rintro e w' ⟨rfl, b1⟩
    have c0 := (b1.cell (p := ⟨w.heap.size, 0, none⟩) (by show w.heap.size < _; have := HZ.out; omega)).trans C0.out
    have c1 := (b1.cell (p := ⟨w.heap.size, 1, none⟩) (by show w.heap.size < _; have := HZ.out; omega)).trans C1.out
    have B1 := Lib.hid b1
    clear b1
    go_wp2_with fail
    refine (lookOf_any N A k c _).mono ?_
    rintro e w2 ⟨rfl, b2⟩
    have B2 := Lib.hid (bstep B1.out b2)
    have B3 : Below W.heap.size W (w2.alloc (.cells #[.int .i64 N, .slice A k c] 60)) := B2.out.alloc B2.out.size _
    have d0 : (w2.alloc (.cells #[.int .i64 N, .slice A k c] 60)).cell? ⟨w2.heap.size, 0, none⟩ = some (.int .i64 N) := by simp
    have d1 : (w2.alloc (.cells #[.int .i64 N, .slice A k c] 60)).cell? ⟨w2.heap.size, 1, none⟩ = some (.slice A k c) := by simp
    have HFw := Lib.hid (HF.out w2.heap.size _ B3 (by simp) d0 d1)
    have HB3 := Lib.hid (HB.out.trans (B3.mono HB.out.size))
    clear b2 c0 c1 d0 d1 B3
    go_wp2_with fail
    refine HFw.out.mono ?_
    rintro e w5 ⟨rfl, b5⟩
    have B5 := Lib.hid (bstep HB3.out b5)
    clear b5
    go_wp2_with fail
    go_ret
    exact ⟨by rw [hv.out]; rfl, B5.out⟩

end Go.Proofs.Ytlodhgkecpjieaa
