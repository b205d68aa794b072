/-
  Plan2. By a program (wip/tools/mk.py) out of snippets.
-/
import Derived.Test.YtjiplangdkpehaaPlan
import Derived.Lib.AppendZeros
namespace Go.Proofs.Ytjiplangdkpehaa
open Go.RowKit

/-- 'append(out, pairs...)', pairs whatever slice of pairs that is not nil. -/
theorem appAllP {ops : Array Oper} {rest : List Oper} {o : Oper} {a : Act} {Q : Exit → Act → World → Prop} (w : World) (base : Nat) (A0 : Option Addr) (n0 c0 : Nat) (xs : List Int) (ad : Addr) (n c : Nat) (zs : List Int) (hgd : o.guard = none) (s y : Operand)
    (ho : o.op = .call { callee := .builtin .append, args := #[s, y], argTypes := #[25, 25] }) (hs : a.eval s = .slice A0 n0 c0) (hown : w.ownsRow base 44 2 (.slice A0 n0 c0) n0 (xs.map (Value.int .i64)))
    (hy : a.eval y = .slice (some ad) n c) (hr : SI w (some ad) (n * 2) zs) (hn : n0 + n ≤ 100000000) (hbase : base ≤ w.heap.size)
    (h : ∀ A' c' w', w'.ownsRow base 44 2 (.slice A' (n0 + n) c') (n0 + n) ((xs ++ zs).map (Value.int .i64)) → Below base w w' → w.grownBy w' (Value.slice A0 n0 c0).ownBlock → wpList Try.prog ops Q rest (a.put o.dst (.slice A' (n0 + n) c')) w') :
    wpList Try.prog ops Q (o :: rest) a w := by
  obtain ⟨i0, hi, hz0, hz1, hz2⟩ := info_parts infoPair
  have hb : ∀ w', w.grownBy w' (Value.slice A0 n0 c0).ownBlock → Below base w w' := fun w' hg => (Below.refl base w).grown hg hbase (fun k hk => (World.ownsRow.lt hown k hk).1)
  have hc : ∀ j u, (zs.map (Value.int .i64))[j]? = some u → w.cell? (ad.add j) = some u := by
    by_cases hn0 : n = 0
    · subst hn0
      have hz : zs = [] := List.eq_nil_of_length_eq_zero (by rw [hr.1])
      subst hz
      simp
    · obtain ⟨b, off, e, hc⟩ := hr.2 (by omega)
      cases e
      intro j u hu
      have hj : j < zs.length := by have := (List.getElem?_eq_some_iff.1 hu).1; simpa using this
      rw [Addr.add_lit, hc j (by rw [← hr.1]; exact hj)]
      simp [hj] at hu
      rw [← hu]
      simp [iat, hj]
  refine wpList_append_own _ hgd s y 25 ho base 44 i0 (.agg #[.int .i64 0, .int .i64 0]) 2 16 Try.underlying25 hi hz0 hz1 hz2 rfl (by decide) _ n0 _ hs hown ad n c (zs.map (Value.int .i64)) hy (by simp [hr.1]) hc (ints_oneCell _ _) (by unfold maxLen; omega) (by omega) hbase ?_
  intro v' w' hown' hg hnil
  rw [← List.map_append] at hown'
  have hv : ∃ A' c', v' = .slice A' (n0 + n) c' := by
    rcases hown'.2 with ⟨rfl, h1⟩ | ⟨g, cap, cur, rfl, _⟩
    · exact ⟨none, 0, by rw [h1]⟩
    · exact ⟨_, _, rfl⟩
  obtain ⟨A', c', rfl⟩ := hv
  exact h _ _ _ hown' (hb _ hg) hg

set_option maxHeartbeats 1600000 in
/-- slices.Grow of nil. -/
theorem growNil_any (n : Nat) (w : World) (hn0 : 0 < n) (hn : n ≤ 1000) :
    Calls Try.prog 62 #[.slice none 0 0, .int .i64 n] w fun e w' => ∃ c, e = .returned (.slice (some ⟨w.heap.size, 0, none⟩) 0 c) ∧ w'.ownsRow w.heap.size 44 2 (.slice (some ⟨w.heap.size, 0, none⟩) 0 c) 0 [] ∧ Below w.heap.size w w' := by
  obtain ⟨i0, hi, hz0, hz1, hz2⟩ := info_parts infoPair
  have hrun := Go.Lib.run_append_nil_zeros (P := Try.prog) w 25 3 25 44 i0 (.agg #[.int .i64 0, .int .i64 0]) .i64 .i64 Try.underlying25 Try.underlying3 hi hz0 n hn0 (by rw [hz1]; omega) (by omega) (by rw [hz2]; omega)
  have hge := grownCap_ge w n 0 44
  have hown := World.ownsRow_made (base := w.heap.size) (e := 44) (size := 2) w.drew (Builtin.zeroCells (Value.agg #[.int .i64 0, .int .i64 0]).cells n ++ Builtin.zeroCells (Value.agg #[.int .i64 0, .int .i64 0]).cells (grownCap w n 0 44 - n)) (grownCap w n 0 44) (by simp) (grownCap_le_maxLen w n 0 _ (by unfold maxLen; omega)) (by rw [Array.size_append, size_zeroCells, size_zeroCells]; show n * 2 + (_ - n) * 2 = _ * 2; omega)
  have hB : Below w.heap.size w (w.drew.alloc (.cells (Builtin.zeroCells (Value.agg #[.int .i64 0, .int .i64 0]).cells n ++ Builtin.zeroCells (Value.agg #[.int .i64 0, .int .i64 0]).cells (grownCap w n 0 44 - n)) 44)) := (bDrewN (Below.refl _ _) 1).alloc (by simp) _
  have HO := Lib.hid hown
  have HB := Lib.hid hB
  generalize Builtin.zeroCells (Value.agg #[.int .i64 0, .int .i64 0]).cells n ++ Builtin.zeroCells (Value.agg #[.int .i64 0, .int .i64 0]).cells (grownCap w n 0 44 - n) = cs at *
  generalize grownCap w n 0 44 = cap at *
  have HRun := Lib.hid hrun
  clear hrun hown hB
  go_enter Try.func62, Try.ntmps62
  go_wp2_with (at_builtin; refine Go.Lib.wpList_append_run w rfl _ _ _ _ rfl _ _ rfl rfl _ _ HRun.out ?_)
  go_ret
  exact ⟨cap, rfl, HO.out, HB.out⟩

set_option maxHeartbeats 3200000 in
/-- slices.Concat of three lists of pairs, none of them nil. -/
theorem concat3_any (b n1 c1 n2 c2 n3 c3 : Nat) (a1 a2 a3 : Addr) (z1 z2 z3 : List Int) (w : World) (hn0 : 0 < n1 + n2 + n3) (hn1 : n1 ≤ 100) (hn2 : n2 ≤ 100) (hn3 : n3 ≤ 100) (h1 : w.cell? ⟨b, 0, none⟩ = some (.slice (some a1) n1 c1)) (h2 : w.cell? ⟨b, 1, none⟩ = some (.slice (some a2) n2 c2)) (h3 : w.cell? ⟨b, 2, none⟩ = some (.slice (some a3) n3 c3))
    (s1 : SI w (some a1) (n1 * 2) z1) (s2 : SI w (some a2) (n2 * 2) z2) (s3 : SI w (some a3) (n3 * 2) z3) :
    Calls Try.prog 51 #[.slice (some ⟨b, 0, none⟩) 3 3] w fun e w' => ∃ A c, e = .returned (.slice A (n1 + n2 + n3) c) ∧ n1 + n2 + n3 ≤ c ∧ NewI w' w.heap.size A ((n1 + n2 + n3) * 2) (z1 ++ z2 ++ z3) ∧ Below w.heap.size w w' := by
  have HG := Lib.hid (growNil_any (n1 + n2 + n3) w hn0 (by omega))
  rw [show ((n1 + n2 + n3 : Nat) : Int) = (n1 : Int) + (n2 : Int) + (n3 : Int) by omega] at HG
  have hbl := World.block_lt_of_cell? w _ h1
  have hbl' : b < w.heap.size := hbl
  have S1 := Lib.hid s1
  have S2 := Lib.hid s2
  have S3 := Lib.hid s3
  clear s1 s2 s3 hbl
  go_enter Try.func51, Try.ntmps51
  go_wp2_with fail
  refine wp_loop_rounds 4 ?_
  rw [rounds_succ]
  go_wp2_with fail
  rw [rounds_succ]
  go_wp2_with fail
  rw [rounds_succ]
  go_wp2_with fail
  rw [rounds_succ]
  go_wp2_with fail
  refine HG.out.mono ?_
  rintro e w1 ⟨c, rfl, ho, hb⟩
  have k1 := (hb.cell (p := ⟨b, 0, none⟩) hbl').trans h1
  have k2 := (hb.cell (p := ⟨b, 1, none⟩) hbl').trans h2
  have k3 := (hb.cell (p := ⟨b, 2, none⟩) hbl').trans h3
  have HO := Lib.hid ho
  have HB := Lib.hid hb
  have hsz := hb.size
  clear h1 h2 h3 HG ho hb
  go_wp2_with fail
  refine wp_loop_rounds 4 ?_
  rw [rounds_succ]
  go_wp2_with (at_builtin; refine appAllP w1 w.heap.size _ 0 _ [] a1 n1 c1 z1 rfl _ _ rfl rfl HO.out rfl (S1.out.below HB.out (Nat.le_refl _)) (by omega) hsz ?_; intro A2 d2 w2 ho2 hb2 hg2; rw [Nat.zero_add, List.nil_append] at ho2; have HO2 := Lib.hid ho2; have HB2 := Lib.hid (HB.out.trans hb2); clear ho2 hg2; have q2 := (hb2.cell (p := ⟨b, 1, none⟩) hbl').trans k2; have q3 := (hb2.cell (p := ⟨b, 2, none⟩) hbl').trans k3; have hsz2 := Nat.le_trans hsz hb2.size; clear hb2)
  rw [rounds_succ]
  go_wp2_with (at_builtin; refine appAllP w2 w.heap.size A2 n1 d2 z1 a2 n2 c2 z2 rfl _ _ rfl rfl HO2.out rfl (S2.out.below HB2.out (Nat.le_refl _)) (by omega) hsz2 ?_; intro A3 d3 w3 ho3 hb3 hg3; have HO3 := Lib.hid ho3; have HB3 := Lib.hid (HB2.out.trans hb3); clear ho3 hg3; have t3 := (hb3.cell (p := ⟨b, 2, none⟩) hbl').trans q3; have hsz3 := Nat.le_trans hsz2 hb3.size; clear hb3)
  rw [rounds_succ]
  go_wp2_with (at_builtin; refine appAllP w3 w.heap.size A3 (n1 + n2) d3 (z1 ++ z2) a3 n3 c3 z3 rfl _ _ rfl rfl HO3.out rfl (S3.out.below HB3.out (Nat.le_refl _)) (by omega) hsz3 ?_; intro A4 d4 w4 ho4 hb4 hg4; have HO4 := Lib.hid ho4; have HB4 := Lib.hid (HB3.out.trans hb4); clear ho4 hg4 hb4)
  rw [rounds_succ]
  go_wp2_with fail
  go_ret
  have h := HO4.out
  exact ⟨A4, d4, rfl, own_cap h, NewI.of_ownP h, HB4.out⟩

theorem clipP_any (A : Option Addr) (n c : Nat) (w : World) (hc : n ≤ c) (hn : n ≤ 1000000) :
    Calls Try.prog 50 #[.slice A n c] w fun e w' => e = .returned (.slice A n n) ∧ w = w' := by
  go_enter Try.func50, Try.ntmps50
  go_wp2
  go_ret
  exact ⟨rfl, rfl⟩

end Go.Proofs.Ytjiplangdkpehaa
