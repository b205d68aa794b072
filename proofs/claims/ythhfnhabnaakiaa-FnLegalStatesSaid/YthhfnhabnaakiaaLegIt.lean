/-
  LegIt. By a program (wip/tools/mk.py) out of snippets.
-/
import Derived.Test.YthhfnhabnaakiaaLegI
namespace Go.Proofs.Ythhfnhabnaakiaa
open Go.RowKit

theorem grown_set {A : World} {S m : Nat} {v : Value} : A.grownBy (A.setCell ⟨S, m, none⟩ v) (some S) := ⟨rfl, rfl, rfl, by simp, fun k _ hne => Below.heap_setCell _ _ _ _ (by intro e; exact hne (by rw [e]))⟩
theorem grown_drew {A : World} {S q : Nat} : A.grownBy (A.drewN q) (some S) := ⟨rfl, rfl, rfl, Nat.le_refl _, fun _ _ _ => rfl⟩
theorem grown_below {A B : World} {S : Nat} (h : Below A.heap.size A B) : A.grownBy B (some S) := ⟨h.os, h.tape, h.output, h.size, fun k hk _ => h.block k hk⟩
theorem NewI.sameB {w w' : World} {base b o n : Nat} {zs : List Int} (h : NewI w base (some ⟨b, o, none⟩) n zs) (hs : w.heap.size ≤ w'.heap.size) (hb : w'.heap[b]? = w.heap[b]?) : NewI w' base (some ⟨b, o, none⟩) n zs :=
  ⟨h.1, fun hn => by
    obtain ⟨b1, o1, e, h1, h2, h3, h4⟩ := h.2 hn
    cases e
    exact ⟨b, o, rfl, h1, Nat.lt_of_lt_of_le h2 hs, fun i hi => (World.cell?_of_block (a := ⟨b, o + i, none⟩) hb).trans (h3 i hi), fun i hi => (World.frozen?_of_block (a := ⟨b, o + i, none⟩) hb).trans (h4 i hi)⟩⟩

set_option maxRecDepth 20000 in
set_option maxHeartbeats 6400000 in
theorem states1_gives (K N nb kb : Nat) (W : World) (hK : 2 ≤ K) (hK5 : K ≤ 5) (hN : 2 ≤ N) (hN5 : N ≤ 5) (h1024 : K ^ N ≤ 1024) (hcn : W.cell? ⟨nb, 0, none⟩ = some (.int .i64 N)) (hck : W.cell? ⟨kb, 0, none⟩ = some (.int .i64 K)) :
    GivesRows Try.prog 66 #[.pointer (some ⟨nb, 0, none⟩), .pointer (some ⟨kb, 0, none⟩)] [nb, kb] (K ^ N) (stL K N) W := by
  intro l J hJ hC hst hY
  obtain ⟨i0, hi, hz0, hz1, hz2⟩ := info_parts info3
  have hM := (pow_le_big hK hK5 (Nat.le_refl N) hN5).1
  have HODO := Lib.hid (odo_true hK hK5 hN hN5 h1024)
  have HCN := Lib.hid (fun S i A (h : J S i A) => (World.cell?_of_block (a := ⟨nb, 0, none⟩) (hC S i A h nb (by simp))).trans hcn)
  have HCK := Lib.hid (fun S i A (h : J S i A) => (World.cell?_of_block (a := ⟨kb, 0, none⟩) (hC S i A h kb (by simp))).trans hck)
  have HJ := Lib.hid hJ
  have HST := Lib.hid hst
  have HY := Lib.hid hY
  have CC := Lib.hid (fun A c zs w h => cloneR_any A N c zs w (by omega) (by omega) h)
  have hnbl : nb < W.heap.size := World.block_lt_of_cell? W _ hcn
  have hkbl : kb < W.heap.size := World.block_lt_of_cell? W _ hck
  clear hJ hC hst hY
  obtain ⟨M, hMM⟩ : ∃ M, M = K ^ N := ⟨_, rfl⟩
  rw [← hMM] at hM h1024 HY ⊢
  have HM := Lib.hid hMM
  clear hMM
  refine callsIn_wide.2 ?_
  show Calls Try.prog 66 #[.func (.yield l) #[] #[], .pointer (some ⟨nb, 0, none⟩), .pointer (some ⟨kb, 0, none⟩)] W _
  go_enter Try.func66, Try.ntmps66
  refine wp_scope_top 0 (fun g a wr => ∃ (i S : Nat) (u3 u5 u6 u7 u8 u9 u10 u11 u12 u13 u14 u15 u16 u17 u18 u19 u20 u21 u22 u23 u24 u25 u26 u27 u28 u29 u30 u31 u32 u33 : Value), g = M - i ∧ i < M ∧ a = { tmps := #[.func (.yield l) #[] #[], .pointer (some ⟨nb, 0, none⟩), .pointer (some ⟨kb, 0, none⟩), u3, .slice (some ⟨S, 0, none⟩) N N, u5, u6, u7, u8, u9, u10, u11, u12, u13, u14, u15, u16, u17, u18, u19, u20, u21, u22, u23, u24, u25, u26, u27, u28, u29, u30, u31, u32, u33], defers := [] } ∧ W.heap.size ≤ S ∧ NewI wr S (some ⟨S, 0, none⟩) N (stL K N i) ∧ J S i wr) rfl rfl ?first ?pass
  case first =>
    go_wp2_with (at_make; refine wpList_make_full _ rfl _ _ 23 rfl W.heap.size 3 i0 (.int .i64 0) 1 Try.underlying23 hi hz0 hz1 _ _ _ _ N rfl rfl rfl rfl ?b1 ?b2 (Nat.le_refl _) ?_)
    case b1 => rw [hz2]; omega
    case b2 => unfold maxLen; omega
    intro w1 hown hgrow
    rw [madeInts] at hown
    have hb1 : Below W.heap.size W w1 := (Below.refl _ _).grown hgrow (Nat.le_refl _) (fun k h => by cases h)
    have hlt := (World.ownsRow.lt hown W.heap.size rfl).2
    have hNI := NewI.of_own hown
    rw [← loL_zero K N 0, show loL K N 0 0 = stL K N 0 by simp [loL, stL]] at hNI
    have HNI := Lib.hid hNI
    have HJ0 := Lib.hid (HST.out W.heap.size w1 (Nat.le_refl _) hlt hb1)
    clear hNI hown hgrow hb1
    go_wp2_with fail
    exact ⟨M, 0, W.heap.size, _, _, _, _, _, _, _, _, _, _, _, _, _, _, _, _, _, _, _, _, _, _, _, _, _, _, _, _, _, _, by omega, by omega, rfl, Nat.le_refl _, HNI.out, HJ0.out⟩
  case pass =>
    rintro g a wr ⟨i, S, u3, u5, u6, u7, u8, u9, u10, u11, u12, u13, u14, u15, u16, u17, u18, u19, u20, u21, u22, u23, u24, u25, u26, u27, u28, u29, u30, u31, u32, u33, rfl, hiM, rfl, hWS, hNI, hJs⟩
    have hcn1 := HCN.out S i wr hJs
    have hck1 := HCK.out S i wr hJs
    have hSlt : S < wr.heap.size := by
      obtain ⟨b, o, e, _, h2, _⟩ := hNI.2 (by omega)
      cases e
      exact h2
    have hkS : ¬ (kb = S) := by omega
    have hnS : ¬ (nb = S) := by omega
    have hkS' : ¬ (S = kb) := by omega
    have hnS' : ¬ (S = nb) := by omega
    refine wp_seq ?_
    refine wp_seq ?_
    refine (wpIn_wide (n := 0)).1 ?_
    gi_wp2_with (refine ⟨trivial, rfl, ?_⟩; gi_at_call 56; refine (callsIn_wide.2 (CC.out _ _ _ _ hNI.si)).mono ?_; rintro e W1 ⟨g1, c1, rfl, hrow, hb⟩; obtain ⟨fn, tmps, assign, body, hy, hR⟩ := HY.out S i _ wr W1 hiM hSlt hJs hb hrow)
    refine ⟨rfl, ?_⟩
    refine hR.mono ?_
    rintro e W2 ⟨rfl, hJ2, hS2, hz2'⟩
    have hNI2 : NewI W2 S (some ⟨S, 0, none⟩) N (stL K N i) := (hNI.below hb (Nat.le_refl _)).sameB hz2' hS2
    have hcn2 := HCN.out S (i + 1) W2 hJ2
    have hck2 := HCK.out S (i + 1) W2 hJ2
    rw [← zL_zero] at hNI2
    have HN2 := Lib.hid hNI2
    have HJ2 := Lib.hid hJ2
    clear hNI2 hJ2 hS2 hz2' hy hR hrow hb hNI hJs hcn1 hck1 hSlt
    gi_wp2_with fail
    go_wp2_with fail
    go_loopg [5] N (fun gg s5 wx => ∃ j : Nat, j ≤ N ∧ N - j ≤ gg ∧ s5 = .int .i64 ((N : Int) - 1 - j) ∧ NewI wx S (some ⟨S, 0, none⟩) N (zL K N j i) ∧ Hid (i % K ^ j = K ^ j - 1) ∧ J S (i + 1) wx)
    case atStart => exact ⟨0, by omega, by omega, by go_num, HN2.out, Lib.hid (by simp; omega), HJ2.out⟩
    case round =>
      clear HN2 HJ2 hcn2 hck2
      obtain ⟨j, hj, hg, rfl, hN3, hmod, hJ3⟩ := hrel
      obtain ⟨o1, o2, o3⟩ := odo_at HODO.out (by rw [← HM.out]; exact hiM) hj hmod.out
      have HJ3 := Lib.hid hJ3
      have hcn3 := HCN.out S (i + 1) wr hJ3
      have hck3 := HCK.out S (i + 1) wr hJ3
      clear hJ3
      by_cases hlt : j < N
      · obtain ⟨m, hm⟩ : ∃ m : Nat, m = N - 1 - j := ⟨_, rfl⟩
        rw [show ((N : Int) - 1 - j) = (m : Int) by omega]
        obtain ⟨d, hd⟩ : ∃ d : Nat, d = i / K ^ j % K := ⟨_, rfl⟩
        have hd5 : d < K := by rw [hd]; exact Nat.mod_lt _ (by omega)
        have hmN : m < N := by omega
        have hz : iat (zL K N j i) m = (d : Int) := by rw [zL_at hmN, if_neg (by omega), hd, show N - 1 - m = j by omega]
        obtain ⟨b1, of1, e1, _, hs1, hc1, hf1⟩ := hN3.2 (by omega)
        cases e1
        have hcell := hc1 m hmN
        have hfz := hf1 m hmN
        rw [Nat.zero_add] at hcell hfz
        rw [hz] at hcell
        have hst := hN3.set_ hmN (x := (d : Int) + 1)
        rw [Nat.zero_add] at hst
        have hst0 := fun q => (hst.below (bDrewN (Below.refl _ _) q) (Nat.le_refl _)).set_ hmN (x := 0)
        simp only [Nat.zero_add, List.set_set] at hst0
        have hw1 : IntKind.i64.wrap ((d : Int) + 1) = (d : Int) + 1 := by rw [IntKind.wrap_i64]; omega
        have HJ4 := Lib.hid (fun q => HJ.out _ _ _ _ (HJ.out _ _ _ _ HJ3.out (grown_set (m := m) (v := .int .i64 ((d : Int) + 1)))) (grown_drew (q := q)))
        have HJ5 := Lib.hid (fun q => HJ.out _ _ _ _ (HJ4.out q) (grown_set (m := m) (v := .int .i64 0)))
        rw [← hd, ← hm] at o2 o3
        have hge : decide ((0 : Int) ≤ (m : Int)) = true := by simp
        have hmm := Lib.hid hm
        clear hc1 hf1 hN3 o1 hmod hz hd hm
        by_cases hdK : d + 1 < K
        · obtain ⟨o4, o5⟩ := o2 hlt hdK
          rw [show ((d + 1 : Nat) : Int) = (d : Int) + 1 by simp] at o5
          rw [o5] at hst
          have HS := Lib.hid (fun q => hst.below (bDrewN (Below.refl _ _) q) (Nat.le_refl _))
          clear o2 o3 o5 hst hst0
          go_wp2_with fail
          go_quiet (fail)
          go_wp2_with fail
          refine wp_goto ?_
          refine And.intro rfl ?_
          exact ⟨M - (i + 1), by omega, i + 1, S, _, _, _, _, _, _, _, _, _, _, _, _, _, _, _, _, _, _, _, _, _, _, _, _, _, _, _, _, _, _, rfl, by have := HM.out; omega, rfl, hWS, HS.out _, HJ4.out _⟩
        · obtain ⟨o4, o5, o6⟩ := o3 hlt hdK
          have O4 := Lib.hid o4
          simp only [o5] at hst0
          have HS := Lib.hid hst0
          have hdK2 : ¬ ((d : Int) + 1 < K) := by omega
          clear o2 o3 o4 o5 hst hst0
          go_wp2_with fail
          go_quiet (fail)
          go_wp2_with fail
          go_roundg (N - (j + 1))
          case measure => omega
          case rel => exact ⟨j + 1, by omega, by omega, by congr 1; have := hmm.out; omega, HS.out _, O4, HJ5.out _⟩
      · obtain rfl : j = N := by omega
        have o4 := o1 rfl
        rw [← HM.out] at o4
        clear o1 o2 o3 hN3 hmod
        go_wp2_with fail
        simp only [Exit.jump]
        go_end0
        exact ⟨⟨_, rfl⟩, S, by rw [← o4]; exact HJ3.out⟩

end Go.Proofs.Ythhfnhabnaakiaa
