/-
  Let4. By a program (wip/tools/mk.py) out of snippets.
-/
import Derived.Test.YtlodhgkecpjieaaLet3
namespace Go.Proofs.Ytlodhgkecpjieaa
open Go.RowKit

theorem lvW_in {n : Nat} (h1 : 1 ≤ n) (h2 : n ≤ 15) : lvW n = (n : Int) + 1 ∧ lvR n = [lx (n + 1), ly (n + 1)] ∧ inR n 1 15 = true := by
  have : inR (n : Int) 1 15 = true := inR_true (by omega)
  simp [lvW, lvR, this, lx, ly]
theorem lvW_out {n : Int} (h : ¬ (1 ≤ n ∧ n ≤ 15)) : lvW n = 0 ∧ lvR n = [] ∧ inR n 1 15 = false := by
  have : inR n 1 15 = false := inR_false h
  simp [lvW, lvR, this]

set_option maxHeartbeats 800000 in
theorem specLettersView_any (n : Int) (w : World) :
    Calls Try.prog 20 #[.int .i64 n] w fun e w' => ∃ A c, e = .returned (.tuple #[.agg #[.int .i64 (lvW n), .slice A (lvR n).length c], .bool (inR n 1 15)]) ∧ FR w' w.heap.size w'.heap.size A (lvR n).length (lvR n) ∧ Below w.heap.size w w' := by
  have HI := Lib.hid (fun w' => inRange_any n 1 15 w')
  obtain ⟨W, hW⟩ : ∃ W, W = w.alloc (.cells #[.int .i64 0, .slice none 0 0] 27) := ⟨_, rfl⟩
  have hB : Below w.heap.size w W := by rw [hW]; exact (Below.refl _ _).alloc (Nat.le_refl _) _
  have hz : W.heap.size = w.heap.size + 1 := by rw [hW]; simp
  have d0 : W.cell? ⟨w.heap.size, 0, none⟩ = some (.int .i64 0) := by rw [hW]; simp
  have d1 : W.cell? ⟨w.heap.size, 1, none⟩ = some (.slice none 0 0) := by rw [hW]; simp
  have g0 : W.frozen? ⟨w.heap.size, 0, none⟩ = false := by rw [hW]; go_simp
  have g1 : W.frozen? ⟨w.heap.size, 1, none⟩ = false := by rw [hW]; go_simp
  by_cases h : 1 ≤ n ∧ n ≤ 15
  · obtain ⟨k, rfl⟩ : ∃ k : Nat, n = k := ⟨n.toNat, by omega⟩
    obtain ⟨e1, e2, e3⟩ := lvW_in (n := k) (by omega) (by omega)
    have HM := Lib.hid (speclettersOf_any k W (by omega))
    rw [e1, e2, e3]
    rw [e3] at HI
    simp only [List.length_cons, List.length_nil, Nat.zero_add, Nat.reduceAdd]
    generalize [lx (k + 1), ly (k + 1)] = rows at *
    generalize (k : Int) + 1 = P at *
    clear e1 e2 e3 h
    go_enter Try.func20, Try.ntmps20
    go_wp2_with fail
    rw [← hW]
    clear hW
    refine (HI.out _).mono ?_
    rintro e w' ⟨rfl, rfl⟩
    go_wp2_with fail
    refine HM.out.mono ?_
    rintro e w2 ⟨A, c, rfl, hF, hb⟩
    have HF := Lib.hid hF
    have HB2 := Lib.hid (hB.trans (hb.mono (by omega)))
    have l0 := (hb.cell (p := ⟨w.heap.size, 0, none⟩) (by show w.heap.size < _; omega)).trans d0
    have l1 := (hb.cell (p := ⟨w.heap.size, 1, none⟩) (by show w.heap.size < _; omega)).trans d1
    have m0 := (hb.frozen (p := ⟨w.heap.size, 0, none⟩) (by show w.heap.size < _; omega)).trans g0
    have m1 := (hb.frozen (p := ⟨w.heap.size, 1, none⟩) (by show w.heap.size < _; omega)).trans g1
    clear hF hb d0 d1 g0 g1 hB
    go_wp2_with fail
    refine bodyPost_ret (v := .tuple #[.agg #[.int .i64 P, .slice A 2 c], .bool true]) ?_ rfl ⟨A, c, rfl, ?_, ?_⟩
    · have hres : Try.f20.results = #[.cell 2 27, .tmp 3] := by kernel_rfl
      simp [results, hres]
      go_simp
    · exact ((HF.out.setLow (by show w.heap.size < _; omega) _).setLow (by show w.heap.size < _; omega) _).mono (by omega) (by simp) (Nat.le_refl _)
    · exact (HB2.out.setCell (Nat.le_refl _) _).setCell (Nat.le_refl _) _
  · obtain ⟨e1, e2, e3⟩ := lvW_out h
    rw [e1, e2, e3]
    rw [e3] at HI
    clear e1 e2 e3 h
    go_enter Try.func20, Try.ntmps20
    go_wp2_with fail
    rw [← hW]
    clear hW
    refine (HI.out _).mono ?_
    rintro e w' ⟨rfl, rfl⟩
    go_wp2_with fail
    refine bodyPost_ret (v := .tuple #[.agg #[.int .i64 0, .slice none 0 0], .bool false]) ?_ rfl ⟨none, 0, rfl, ?_, ?_⟩
    · have hres : Try.f20.results = #[.cell 2 27, .tmp 3] := by kernel_rfl
      simp [results, hres]
      go_simp
    · exact FR.empty _ _ (by simp; omega)
    · exact (hB.setCell (Nat.le_refl _) _).setCell (Nat.le_refl _) _

set_option maxHeartbeats 800000 in
theorem implLettersView_any (n : Int) (w : World) :
    Calls Try.prog 21 #[.int .i64 n] w fun e w' => ∃ A c, e = .returned (.tuple #[.agg #[.int .i64 (lvW n), .slice A (lvR n).length c], .bool (inR n 1 15)]) ∧ FR w' w.heap.size w'.heap.size A (lvR n).length (lvR n) ∧ Below w.heap.size w w' := by
  by_cases h : 1 ≤ n ∧ n ≤ 15
  · obtain ⟨k, rfl⟩ : ∃ k : Nat, n = k := ⟨n.toNat, by omega⟩
    obtain ⟨e1, e2, e3⟩ := lvW_in (n := k) (by omega) (by omega)
    rw [e1, e2, e3]
    simp only [List.length_cons, List.length_nil, Nat.zero_add, Nat.reduceAdd]
    exact implLettersView_in k w (by omega) (by omega)
  · have HI := Lib.hid (fun w' => within_any n 1 15 w')
    obtain ⟨e1, e2, e3⟩ := lvW_out h
    rw [e1, e2, e3]
    rw [e3] at HI
    clear e1 e2 e3 h
    go_enter Try.func21, Try.ntmps21
    go_wp2_with fail
    refine (HI.out _).mono ?_
    rintro e w' ⟨rfl, rfl⟩
    go_wp2_with fail
    refine bodyPost_ret (v := .tuple #[.agg #[.int .i64 0, .slice none 0 0], .bool false]) ?_ rfl ⟨none, 0, rfl, ?_, ?_⟩
    · have hres : Try.f21.results = #[.cell 2 27, .tmp 3] := by kernel_rfl
      simp [results, hres]
      go_simp
    · exact FR.empty _ _ (by simp)
    · first
        | exact (((Below.refl _ _).alloc (Nat.le_refl _) _).setCell (Nat.le_refl _) _).setCell (Nat.le_refl _) _
        | exact (Below.refl _ _).alloc (Nat.le_refl _) _

end Go.Proofs.Ytlodhgkecpjieaa
