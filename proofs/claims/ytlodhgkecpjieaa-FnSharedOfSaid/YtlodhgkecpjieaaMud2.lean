/-
  Mud2. By a program (wip/tools/mk.py) out of snippets.
-/
import Derived.Test.YtlodhgkecpjieaaMud
namespace Go.Proofs.Ytlodhgkecpjieaa
open Go.RowKit

theorem FR.setLow {w : World} {lo hi : Nat} {A : Option Addr} {k : Nat} {rows : List (List Int)} (h : FR w lo hi A k rows) {p : Addr} (hp : p.block < lo) (v : Value) : FR (w.setCell p v) lo hi A k rows :=
  h.wn (lo' := p.block) (hi' := p.block + 1) ⟨rfl, rfl, rfl, by simp, fun i _ ho => Below.heap_setCell _ _ _ _ (by omega)⟩ (.inr (by omega))
theorem muW_in {n : Nat} (h1 : 1 ≤ n) (h2 : n ≤ 4) : muW n = ((2 ^ n : Nat) : Int) ∧ muR n = (List.range n).map (muRow n) ∧ inR n 1 4 = true := by
  have : inR (n : Int) 1 4 = true := inR_true (by omega)
  simp [muW, muR, this]
theorem muW_out {n : Int} (h : ¬ (1 ≤ n ∧ n ≤ 4)) : muW n = 0 ∧ muR n = [] ∧ inR n 1 4 = false := by
  have : inR n 1 4 = false := inR_false h
  simp [muW, muR, this]

set_option maxHeartbeats 800000 in
theorem specMuddyView_any (n : Int) (w : World) :
    Calls Try.prog 24 #[.int .i64 n] w fun e w' => ∃ A c, e = .returned (.tuple #[.agg #[.int .i64 (muW n), .slice A (muR n).length c], .bool (inR n 1 4)]) ∧ FR w' w.heap.size w'.heap.size A (muR n).length (muR n) ∧ Below w.heap.size w w' := by
  have HI := Lib.hid (fun w' => inRange_any n 1 4 w')
  obtain ⟨W, hW⟩ : ∃ W, W = w.alloc (.cells #[.int .i64 0, .slice none 0 0] 27) := ⟨_, rfl⟩
  have hB : Below w.heap.size w W := by rw [hW]; exact (Below.refl _ _).alloc (Nat.le_refl _) _
  have hz : W.heap.size = w.heap.size + 1 := by rw [hW]; simp
  have d0 : W.cell? ⟨w.heap.size, 0, none⟩ = some (.int .i64 0) := by rw [hW]; simp
  have d1 : W.cell? ⟨w.heap.size, 1, none⟩ = some (.slice none 0 0) := by rw [hW]; simp
  have g0 : W.frozen? ⟨w.heap.size, 0, none⟩ = false := by rw [hW]; go_simp
  have g1 : W.frozen? ⟨w.heap.size, 1, none⟩ = false := by rw [hW]; go_simp
  by_cases h : 1 ≤ n ∧ n ≤ 4
  · obtain ⟨k, rfl⟩ : ∃ k : Nat, n = k := ⟨n.toNat, by omega⟩
    obtain ⟨e1, e2, e3⟩ := muW_in (n := k) (by omega) (by omega)
    have HM := Lib.hid (specmuddy_any k W (by omega) (by omega))
    rw [e1, e2, e3]
    rw [e3] at HI
    simp only [List.length_map, List.length_range]
    generalize (List.range k).map (muRow k) = rows at *
    generalize 2 ^ k = P at *
    clear e1 e2 e3 h
    go_enter Try.func24, Try.ntmps24
    go_wp2_with fail
    rw [← hW]
    clear hW
    refine (HI.out _).mono ?_
    rintro e w' ⟨rfl, rfl⟩
    go_wp2_with fail
    refine HM.out.mono ?_
    rintro e w2 ⟨A, c, rfl, hF, hb⟩
    have HF := Lib.hid hF
    have HB2 := Lib.hid (hB.trans (hb.mono (by omega)))
    have l0 := (hb.cell (p := ⟨w.heap.size, 0, none⟩) (by show w.heap.size < _; omega)).trans d0
    have l1 := (hb.cell (p := ⟨w.heap.size, 1, none⟩) (by show w.heap.size < _; omega)).trans d1
    have m0 := (hb.frozen (p := ⟨w.heap.size, 0, none⟩) (by show w.heap.size < _; omega)).trans g0
    have m1 := (hb.frozen (p := ⟨w.heap.size, 1, none⟩) (by show w.heap.size < _; omega)).trans g1
    clear hF hb d0 d1 g0 g1 hB
    go_wp2_with fail
    refine bodyPost_ret (v := .tuple #[.agg #[.int .i64 P, .slice A k c], .bool true]) ?_ rfl ⟨A, c, rfl, ?_, ?_⟩
    · have hres : Try.f24.results = #[.cell 2 27, .tmp 3] := by kernel_rfl
      simp [results, hres]
      go_simp
    · exact ((HF.out.setLow (by show w.heap.size < _; omega) _).setLow (by show w.heap.size < _; omega) _).mono (by omega) (by simp) (Nat.le_refl _)
    · exact (HB2.out.setCell (Nat.le_refl _) _).setCell (Nat.le_refl _) _
  · obtain ⟨e1, e2, e3⟩ := muW_out h
    rw [e1, e2, e3]
    rw [e3] at HI
    clear e1 e2 e3 h
    go_enter Try.func24, Try.ntmps24
    go_wp2_with fail
    rw [← hW]
    clear hW
    refine (HI.out _).mono ?_
    rintro e w' ⟨rfl, rfl⟩
    go_wp2_with fail
    refine bodyPost_ret (v := .tuple #[.agg #[.int .i64 0, .slice none 0 0], .bool false]) ?_ rfl ⟨none, 0, rfl, ?_, ?_⟩
    · have hres : Try.f24.results = #[.cell 2 27, .tmp 3] := by kernel_rfl
      simp [results, hres]
      go_simp
    · exact FR.empty _ _ (by simp; omega)
    · exact (hB.setCell (Nat.le_refl _) _).setCell (Nat.le_refl _) _

end Go.Proofs.Ytlodhgkecpjieaa
