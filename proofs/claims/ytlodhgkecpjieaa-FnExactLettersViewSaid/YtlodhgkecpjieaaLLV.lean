/-
  LLV. By a program (wip/tools/mk.py) out of snippets.
-/
import Derived.Test.YtlodhgkecpjieaaLet4
namespace Go.Proofs.Ytlodhgkecpjieaa
open Go.RowKit

set_option maxRecDepth 20000 in
set_option maxHeartbeats 3200000 in
theorem lawExactLettersView (n : Int) (w : World) (_hn : (Lit.int .i64 n).wf = true) :
    Calls Try.prog 4 #[.int .i64 n] w fun e w' => e = .returned (.bool true) ∧ Below w.heap.size w w' := by
  have CS := Lib.hid (fun w => specLettersView_any n w)
  have CI := Lib.hid (fun w => implLettersView_any n w)
  obtain ⟨hk, hr, ho⟩ := lvR_fits n
  generalize lvW n = V at *
  generalize inR n 1 15 = ok at *
  generalize lvR n = rows at *
  obtain ⟨k, hkl⟩ : ∃ k, k = rows.length := ⟨_, rfl⟩
  rw [← hkl] at CS CI hk hr ho
  have HR := Lib.hid hr
  have HO := Lib.hid ho
  have HL := Lib.hid hkl.symm
  obtain ⟨o, hoo⟩ : ∃ o, o = offR rows k := ⟨_, rfl⟩
  rw [← hoo] at ho
  have HOO := Lib.hid hoo
  clear hr hkl hoo
  go_enter Try.func4, Try.ntmps4
  go_wp2_with fail
  refine (CS.out _).mono ?_
  rintro e w1 ⟨A1, c1, rfl, F1, b1⟩
  replace F1 := Lib.hid F1
  have B1 := Lib.hid b1
  clear b1
  go_wp2_with fail
  obtain ⟨W1, hW1⟩ : ∃ W, W = w1.alloc (.cells #[.int .i64 V, .slice A1 k c1] 27) := ⟨_, rfl⟩
  have S1 := Lib.hid (show FR W1 w.heap.size w1.heap.size A1 k rows by rw [hW1]; exact F1.out.alloc _)
  have z1 : W1.heap.size = w1.heap.size + 1 := by rw [hW1]; simp
  have B1' := Lib.hid (show Below w.heap.size w W1 by rw [hW1]; exact B1.out.alloc B1.out.size _)
  have p0 : W1.cell? ⟨w1.heap.size, 0, none⟩ = some (.int .i64 V) := by rw [hW1]; simp
  have p1 : W1.cell? ⟨w1.heap.size, 1, none⟩ = some (.slice A1 k c1) := by rw [hW1]; simp
  rw [← hW1]
  obtain ⟨s1, hs1⟩ : ∃ s, s = w1.heap.size := ⟨_, rfl⟩
  rw [← hs1] at z1 p0 p1 S1
  rw [← hs1]
  clear hs1 hW1 B1 F1
  refine (CI.out _).mono ?_
  rintro e w2 ⟨A2, c2, rfl, F2, b2⟩
  replace F2 := Lib.hid F2
  have S2 := Lib.hid (S1.out.later b2)
  have B2 := Lib.hid (bstep B1'.out b2)
  replace p0 := (b2.cell (p := ⟨s1, 0, none⟩) (by show s1 < _; omega)).trans p0
  replace p1 := (b2.cell (p := ⟨s1, 1, none⟩) (by show s1 < _; omega)).trans p1
  have z2 := b2.size
  have hlt12 : s1 < w2.heap.size := by omega
  have hne12 : ¬ (s1 = w2.heap.size) := by omega
  clear b2 S1 B1'
  go_wp2_with fail
  obtain ⟨W2, hW2⟩ : ∃ W, W = w2.alloc (.cells #[.int .i64 V, .slice A2 k c2] 27) := ⟨_, rfl⟩
  have S2' := Lib.hid (show FR W2 w.heap.size s1 A1 k rows by rw [hW2]; exact S2.out.alloc _)
  have F2' := Lib.hid (show FR W2 W1.heap.size w2.heap.size A2 k rows by rw [hW2]; exact F2.out.alloc _)
  have z2' : W2.heap.size = w2.heap.size + 1 := by rw [hW2]; simp
  have B2' := Lib.hid (show Below w.heap.size w W2 by rw [hW2]; exact B2.out.alloc B2.out.size _)
  have q0 : W2.cell? ⟨w2.heap.size, 0, none⟩ = some (.int .i64 V) := by rw [hW2]; simp
  have q1 : W2.cell? ⟨w2.heap.size, 1, none⟩ = some (.slice A2 k c2) := by rw [hW2]; simp
  replace p0 : W2.cell? ⟨s1, 0, none⟩ = some (.int .i64 V) := by rw [hW2, World.cell?_alloc_lt _ _ _ (by show s1 < _; omega)]; exact p0
  replace p1 : W2.cell? ⟨s1, 1, none⟩ = some (.slice A1 k c1) := by rw [hW2, World.cell?_alloc_lt _ _ _ (by show s1 < _; omega)]; exact p1
  rw [← hW2]
  obtain ⟨s2, hs2⟩ : ∃ s, s = w2.heap.size := ⟨_, rfl⟩
  rw [← hs2] at z2' q0 q1 F2' z2
  rw [← hs2]
  clear hs2 hW2 S2 F2 B2 hlt12 hne12
  have HE := Lib.hid (fun A c w h1 h2 => eqView_true V A A1 k c c1 rows w hk HR.out h1 h2)
  refine (HE.out A2 c2 W2 F2'.out.ss S2'.out.ss).mono ?_
  rintro e w3 ⟨rfl, b3⟩
  have F3 := Lib.hid (F2'.out.later b3)
  have S3 := Lib.hid (S2'.out.later b3)
  have B3 := Lib.hid (bstep B2'.out b3)
  replace p0 := (b3.cell (p := ⟨s1, 0, none⟩) (by show s1 < _; omega)).trans p0
  replace p1 := (b3.cell (p := ⟨s1, 1, none⟩) (by show s1 < _; omega)).trans p1
  replace q0 := (b3.cell (p := ⟨s2, 0, none⟩) (by show s2 < _; omega)).trans q0
  replace q1 := (b3.cell (p := ⟨s2, 1, none⟩) (by show s2 < _; omega)).trans q1
  have z3 := b3.size
  have HMk := Lib.hid (fun w h => markView_any V A2 k c2 W1.heap.size s2 rows 1 w hk HR.out HO.out (by omega) (by omega) h)
  have HHd := Lib.hid (fun w h => heldView_any V A2 k c2 rows 1 w hk HL.out HR.out HO.out (by omega) (by omega) h)
  rw [← HOO.out] at HMk HHd
  clear b3 S2' F2' B2' HR HO HL HOO
  have hwl : w.heap.size ≤ s1 := S3.out.2.1
  have hokk : ok = true ∨ ok = false := by cases ok <;> simp
  rcases hokk with rfl | rfl
  all_goals
    go_wp2_with fail
    refine (HMk.out _ F3.out).mono ?_
    rintro e w4 ⟨rfl, F4, n4⟩
    replace F4 := Lib.hid F4
    have S4 := Lib.hid (S3.out.wn n4 (.inl (by omega)))
    have B4 := Lib.hid (B3.out.trans ((n4.below (by omega)).mono (by omega)))
    replace p0 := (n4.cell (p := ⟨s1, 0, none⟩) (by show s1 < _; omega) (by show s1 < _ ∨ _; omega)).trans p0
    replace p1 := (n4.cell (p := ⟨s1, 1, none⟩) (by show s1 < _; omega) (by show s1 < _ ∨ _; omega)).trans p1
    replace q0 := (n4.cell (p := ⟨s2, 0, none⟩) (by show s2 < _; omega) (by show s2 < _ ∨ s2 ≤ s2; omega)).trans q0
    replace q1 := (n4.cell (p := ⟨s2, 1, none⟩) (by show s2 < _; omega) (by show s2 < _ ∨ s2 ≤ s2; omega)).trans q1
    have z4 := n4.size
    clear n4 F3 S3 B3
    go_wp2_with fail
    refine (HHd.out _ F4.out.ss).mono ?_
    rintro e w5 ⟨rfl, b5⟩
    have F5 := Lib.hid (F4.out.later b5)
    have S5 := Lib.hid (S4.out.later b5)
    have B5 := Lib.hid (bstep B4.out b5)
    replace p0 := (b5.cell (p := ⟨s1, 0, none⟩) (by show s1 < _; omega)).trans p0
    replace p1 := (b5.cell (p := ⟨s1, 1, none⟩) (by show s1 < _; omega)).trans p1
    replace q0 := (b5.cell (p := ⟨s2, 0, none⟩) (by show s2 < _; omega)).trans q0
    replace q1 := (b5.cell (p := ⟨s2, 1, none⟩) (by show s2 < _; omega)).trans q1
    have z5 := b5.size
    clear b5 F4 S4 B4
    go_wp2_with fail
    refine (CI.out _).mono ?_
    rintro e w6 ⟨A3, c3, rfl, F6, b6⟩
    replace F6 := Lib.hid F6
    have G6 := Lib.hid (F5.out.later b6)
    have S6 := Lib.hid (S5.out.later b6)
    have B6 := Lib.hid (bstep B5.out b6)
    replace p0 := (b6.cell (p := ⟨s1, 0, none⟩) (by show s1 < _; omega)).trans p0
    replace p1 := (b6.cell (p := ⟨s1, 1, none⟩) (by show s1 < _; omega)).trans p1
    replace q0 := (b6.cell (p := ⟨s2, 0, none⟩) (by show s2 < _; omega)).trans q0
    replace q1 := (b6.cell (p := ⟨s2, 1, none⟩) (by show s2 < _; omega)).trans q1
    have z6 := b6.size
    have hlt16 : s1 < w6.heap.size := by omega
    have hne16 : ¬ (s1 = w6.heap.size) := by omega
    have hlt26 : s2 < w6.heap.size := by omega
    have hne26 : ¬ (s2 = w6.heap.size) := by omega
    clear b6 F5 S5 B5
    go_wp2_with fail
    obtain ⟨W6, hW6⟩ : ∃ W, W = w6.alloc (.cells #[.int .i64 V, .slice A3 k c3] 27) := ⟨_, rfl⟩
    have S6' := Lib.hid (show FR W6 w.heap.size s1 A1 k rows by rw [hW6]; exact S6.out.alloc _)
    have G6' := Lib.hid (show FR W6 W1.heap.size s2 A2 k (mkRows 1 rows) by rw [hW6]; exact G6.out.alloc _)
    have F6' := Lib.hid (show SS W6 A3 k rows by rw [hW6]; exact F6.out.ss.alloc _)
    have B6' := Lib.hid (show Below w.heap.size w W6 by rw [hW6]; exact B6.out.alloc B6.out.size _)
    have z6' : W6.heap.size = w6.heap.size + 1 := by rw [hW6]; simp
    replace p0 : W6.cell? ⟨s1, 0, none⟩ = some (.int .i64 V) := by rw [hW6, World.cell?_alloc_lt _ _ _ (by show s1 < _; omega)]; exact p0
    replace p1 : W6.cell? ⟨s1, 1, none⟩ = some (.slice A1 k c1) := by rw [hW6, World.cell?_alloc_lt _ _ _ (by show s1 < _; omega)]; exact p1
    replace q0 : W6.cell? ⟨s2, 0, none⟩ = some (.int .i64 V) := by rw [hW6, World.cell?_alloc_lt _ _ _ (by show s2 < _; omega)]; exact q0
    replace q1 : W6.cell? ⟨s2, 1, none⟩ = some (.slice A2 k c2) := by rw [hW6, World.cell?_alloc_lt _ _ _ (by show s2 < _; omega)]; exact q1
    rw [← hW6]
    clear hW6 S6 G6 F6 B6
    refine (HE.out A3 c3 W6 F6'.out S6'.out.ss).mono ?_
    rintro e w7 ⟨rfl, b7⟩
    have G7 := Lib.hid (G6'.out.later b7)
    have B7 := Lib.hid (bstep B6'.out b7)
    replace q0 := (b7.cell (p := ⟨s2, 0, none⟩) (by show s2 < _; omega)).trans q0
    replace q1 := (b7.cell (p := ⟨s2, 1, none⟩) (by show s2 < _; omega)).trans q1
    clear b7 S6' G6' F6' B6' p0 p1
    go_wp2_with fail
    refine (HHd.out _ G7.out.ss).mono ?_
    rintro e w8 ⟨rfl, b8⟩
    have B8 := Lib.hid (bstep B7.out b8)
    clear b8
    go_wp2_with fail
    go_ret
    exact ⟨rfl, B8.out⟩

end Go.Proofs.Ytlodhgkecpjieaa
