/-
  RlS2. By a program (wip/tools/mk.py) out of snippets.
-/
import Derived.Test.YtblaaeanbhgokaaRlS
namespace Go.Proofs.Ytblaaeanbhgokaa
open Go.RowKit

set_option maxHeartbeats 1600000 in
theorem specRulesOf_any (s : ByteArray) (w : World) : Calls Try.prog 46 #[.string s] w (RlPost w (rlT s)) := by
  obtain ⟨W, hW⟩ : ∃ W, W = w.alloc (.cells #[.slice none 0 0, .slice none 0 0, .slice none 0 0] 62) := ⟨_, rfl⟩
  obtain ⟨s2, hs2⟩ : ∃ s, s = w.heap.size := ⟨_, rfl⟩
  have hB : Below w.heap.size w W := by rw [hW]; exact (Below.refl _ _).alloc (Nat.le_refl _) _
  have q0 : W.cell? ⟨s2, 0, none⟩ = some (.slice none 0 0) := by rw [hW, hs2]; simp
  have q1 : W.cell? ⟨s2, 1, none⟩ = some (.slice none 0 0) := by rw [hW, hs2]; simp
  have q2 : W.cell? ⟨s2, 2, none⟩ = some (.slice none 0 0) := by rw [hW, hs2]; simp
  have p0 : W.frozen? ⟨s2, 0, none⟩ = false := by rw [hW, hs2]; go_simp
  have p1 : W.frozen? ⟨s2, 1, none⟩ = false := by rw [hW, hs2]; go_simp
  have p2 : W.frozen? ⟨s2, 2, none⟩ = false := by rw [hW, hs2]; go_simp
  have hz : W.heap.size = s2 + 1 := by rw [hW, hs2]; simp
  have hres := Lib.hid (show Try.f46.results = #[.cell 2 62, .tmp 3] by kernel_rfl)
  have C := Lib.hid (specrulesOf_any s W)
  have HB := Lib.hid hB
  have Q0 := Lib.hid q0
  have Q1 := Lib.hid q1
  have Q2 := Lib.hid q2
  have P0 := Lib.hid p0
  have P1 := Lib.hid p1
  have P2 := Lib.hid p2
  have HZ := Lib.hid hz
  have HS2 := Lib.hid hs2
  clear hB q0 q1 q2 p0 p1 p2 hz
  go_enter Try.func46, Try.ntmps46
  go_wp2_with fail
  rw [← hW, ← hs2]
  clear hW hs2
  refine C.out.mono ?_
  unfold RlPost
  rintro e w1 ⟨A, a, B, b, C', c, rfl, h1, h0, h2, h3, b1⟩
  generalize hn : ruN (rlT s) = n at *
  generalize hs : ruS (rlT s) = zs at *
  generalize hf : ruF (rlT s) = f at *
  generalize hg : ruG (rlT s) = g at *
  generalize hok : decide (rlT s < 4) = ok at *
  have HN := Lib.hid hn
  have HSs := Lib.hid hs
  have HF := Lib.hid hf
  have HG := Lib.hid hg
  have HO := Lib.hid hok
  clear hn hs hf hg hok
  have H1 := Lib.hid h1
  have H0 := Lib.hid h0
  have H2 := Lib.hid h2
  have H3 := Lib.hid h3
  have B1 := Lib.hid b1
  have hlt : s2 < W.heap.size := by rw [HZ.out]; exact Nat.lt_succ_self _
  have r0 := (b1.cell (p := ⟨s2, 0, none⟩) hlt).trans Q0.out
  have r1 := (b1.cell (p := ⟨s2, 1, none⟩) hlt).trans Q1.out
  have r2 := (b1.cell (p := ⟨s2, 2, none⟩) hlt).trans Q2.out
  have t0 := (b1.frozen (p := ⟨s2, 0, none⟩) hlt).trans P0.out
  have t1 := (b1.frozen (p := ⟨s2, 1, none⟩) hlt).trans P1.out
  have t2 := (b1.frozen (p := ⟨s2, 2, none⟩) hlt).trans P2.out
  clear h1 h0 h2 h3 b1 C hlt
  go_wp2_with fail
  have hsl : w.heap.size ≤ s2 := by rw [HS2.out]; exact Nat.le_refl _
  have hsW : s2 < W.heap.size := by rw [HZ.out]; exact Nat.lt_succ_self _
  refine bodyPost_ret (v := .tuple #[.agg #[.slice A n a, .slice B n b, .slice C' n c], .bool ok]) ?_ rfl ?_
  · simp only [results, hres.out]
    go_simp
  · have hoff : 0 < n → ∀ b o, A = some ⟨b, o, none⟩ → b ≠ s2 := fun h b o e => by have := H0.out h b o e; omega
    unfold RlPost
    rw [HN.out, HSs.out, HF.out, HG.out, HO.out]
    exact ⟨A, a, B, b, C', c, rfl, ((H1.out.setOff hoff).setOff hoff).setOff hoff, fun h b o e => by have := H0.out h b o e; omega, (((H2.out.setLow hsW).setLow hsW).setLow hsW).lower HB.out.size, (((H3.out.setLow hsW).setLow hsW).setLow hsW).lower HB.out.size, (((HB.out.trans (B1.out.mono HB.out.size)).setCell (p := ⟨s2, 0, none⟩) hsl _).setCell (p := ⟨s2, 1, none⟩) hsl _).setCell (p := ⟨s2, 2, none⟩) hsl _⟩

end Go.Proofs.Ytblaaeanbhgokaa
