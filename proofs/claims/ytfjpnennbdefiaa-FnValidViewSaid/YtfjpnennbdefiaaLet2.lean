/-
  Let2. By a program (wip/tools/mk.py) out of snippets.
-/
import Derived.Test.YtfjpnennbdefiaaLet
import Derived.Deep.RegionLaw
namespace Go.Proofs.Ytfjpnennbdefiaa
open Go.RowKit

def lx (i : Nat) : List Int := (List.range i).map fun (w : Nat) => ((w / 2 : Nat) : Int)
def ly (i : Nat) : List Int := (List.range i).map fun (w : Nat) => (((w + 1) / 2 : Nat) : Int)
theorem lx_length (i : Nat) : (lx i).length = i := by simp [lx]
theorem ly_length (i : Nat) : (ly i).length = i := by simp [ly]
theorem lx_succ (i : Nat) : lx (i + 1) = lx i ++ [((i / 2 : Nat) : Int)] := by simp [lx, List.range_succ]
theorem ly_succ (i : Nat) : ly (i + 1) = ly i ++ [(((i + 1) / 2 : Nat) : Int)] := by simp [ly, List.range_succ]
theorem LS.start (w : World) (P : Int) : LS w P (((((w.alloc (.cells #[.int .i64 0, .slice none 0 0] 25)).alloc (.cells #[] 3)).alloc (.cells #[] 3)).alloc (.cells #[.slice (some ⟨w.heap.size + 1, 0, none⟩) 0 0, .slice (some ⟨w.heap.size + 1 + 1, 0, none⟩) 0 0] 41)).alloc (.cells #[.int .i64 P, .slice (some ⟨w.heap.size + 1 + 1 + 1, 0, none⟩) 2 2] 25)) (lx 0) (ly 0) (w.heap.size + 1) 0 (w.heap.size + 2) 0 := by
  have keep : ∀ {W : World} {b : Nat} {o : Obj}, W.ownsRow (w.heap.size + 1) 3 1 (.slice (some ⟨b, 0, none⟩) 0 0) 0 [] → (W.alloc o).ownsRow (w.heap.size + 1) 3 1 (.slice (some ⟨b, 0, none⟩) 0 0) 0 [] := fun h => h.alloc _
  have a1 : ((w.alloc (.cells #[.int .i64 0, .slice none 0 0] 25)).alloc (.cells #[] 3)).ownsRow (w.heap.size + 1) 3 1 (.slice (some ⟨w.heap.size + 1, 0, none⟩) 0 0) 0 [] := by
    have := own_empty (w.alloc (.cells #[.int .i64 0, .slice none 0 0] 25)) (w.heap.size + 1) (by simp)
    simpa using this
  have a2 : (((w.alloc (.cells #[.int .i64 0, .slice none 0 0] 25)).alloc (.cells #[] 3)).alloc (.cells #[] 3)).ownsRow (w.heap.size + 1) 3 1 (.slice (some ⟨w.heap.size + 2, 0, none⟩) 0 0) 0 [] := by
    have := own_empty ((w.alloc (.cells #[.int .i64 0, .slice none 0 0] 25)).alloc (.cells #[] 3)) (w.heap.size + 1) (by first | (simp; done) | (simp; omega))
    simpa using this
  refine ⟨keep (keep (keep a1)), keep (keep a2), by omega, by omega, by omega, ?_, ?_, ?_, ?_, by go_simp, by go_simp, ?_, ?_, by go_simp, by go_simp, by simp, ?_⟩
  · rw [World.cell?_alloc_past _ _ _ (by first | (simp; done) | (simp; omega)), World.cell?_alloc_at _ _ _ _ (by simp)]; rfl
  · rw [World.cell?_alloc_past _ _ _ (by first | (simp; done) | (simp; omega)), World.cell?_alloc_at _ _ _ _ (by simp)]; rfl
  · rw [World.cell?_alloc_at _ _ _ _ (by simp)]; rfl
  · rw [World.cell?_alloc_at _ _ _ _ (by simp)]; rfl
  · rw [World.cell?_alloc_past _ _ _ (by simp; omega), World.cell?_alloc_past _ _ _ (by simp; omega), World.cell?_alloc_past _ _ _ (by simp; omega), World.cell?_alloc_past _ _ _ (by simp), World.cell?_alloc_at _ _ _ _ rfl]; rfl
  · rw [World.cell?_alloc_past _ _ _ (by simp; omega), World.cell?_alloc_past _ _ _ (by simp; omega), World.cell?_alloc_past _ _ _ (by simp; omega), World.cell?_alloc_past _ _ _ (by simp), World.cell?_alloc_at _ _ _ _ rfl]; rfl
  · exact (((((Below.refl _ _).alloc (Nat.le_refl _) _).alloc (by simp) _).alloc (by simp; omega) _).alloc (by simp; omega) _).alloc (by simp; omega) _

/-- 'append' at a step of a region that draws, where it is known what it runs to. -/
theorem stepRun {ops : Array Oper} {o : Oper} {a : Act} {K : Act → World → Prop} {Q : Exit → Act → World → Prop} {E : Prop} (W : World) (s y : Operand) (u v r : Value) (w4 : World) (ty : TypeId) (hgd : o.guard = none)
    (ho : o.op = .call { callee := .builtin .append, args := #[s, y], argTypes := #[41, 41] }) (hty : o.type = ty) (hs : a.eval s = u) (hy : a.eval y = v)
    (hr : (Builtin.append_ #[41, 41] ty #[u, v]).run Try.prog W = .ok r w4) (h : K (a.put o.dst r) w4) :
    if Region.wanted o (yielded ops a.tmps) = true then Oper.wp Try.prog o a W K Q else E := by
  have hw : Region.wanted o (yielded ops a.tmps) = true := by simp [Region.wanted, hgd]
  rw [if_pos hw]
  subst hty
  unfold Oper.wp execOp
  simp only [ho, resolve, invoke, builtin, Sem.run_bind, Sem.run_pure, Result.andThen_ok, List.map_toArray, List.map_cons, List.map_nil, hs, hy, hr]
  exact h
theorem via {P G : Prop} (h : P → G) (p : P) : G := h p

set_option maxRecDepth 20000 in
set_option maxHeartbeats 3200000 in
theorem speclettersOf_any (n : Nat) (w : World) (hn : n ≤ 15) :
    Calls Try.prog 42 #[.int .i64 n] w fun e w' => ∃ A c, e = .returned (.agg #[.int .i64 ((n : Int) + 1), .slice A 2 c]) ∧ FR w' w.heap.size w'.heap.size A 2 [lx (n + 1), ly (n + 1)] ∧ Below w.heap.size w w' := by
  have L0 := Lib.hid (LS.start w ((n : Int) + 1))
  go_enter Try.func42, Try.ntmps42
  go_wp2_with fail
  go_loopg [4] (n + 1) (fun gg s4 wr => ∃ (i b0 c0 b1 c1 : Nat), i ≤ n + 1 ∧ n + 1 - i ≤ gg ∧ s4 = .int .i64 i ∧ LS w ((n : Int) + 1) wr (lx i) (ly i) b0 c0 b1 c1)
  case atStart => exact ⟨0, _, _, _, _, by omega, by omega, rfl, L0.out⟩
  case round =>
    clear L0
    obtain ⟨i, b0, c0, b1, c1, hi, hg, rfl, hL⟩ := hrel
    have HL := Lib.hid hL
    clear hL
    by_cases hlt : i ≤ n
    · obtain ⟨x, hx⟩ : ∃ x, x = i / 2 := ⟨_, rfl⟩
      obtain ⟨g, c', w4, hr, hA⟩ := HL.out.app0 (x : Int) 41 (by rw [lx_length]; omega)
      have e1 := HL.out.V1
      have e2 := HL.out.G0
      have e3 := hA.V1
      have e4 := hA.G0
      have e5 := hA.F0
      have hsz := HL.out.lt
      have hL5 := hA.put0
      have hll : (lx i ++ [(x : Int)]).length = i + 1 := by simp [lx_length]
      rw [hll, show lx i ++ [(x : Int)] = lx (i + 1) by rw [lx_succ, hx]] at hL5
      have HL5 := Lib.hid hL5
      rw [lx_length] at hr e2 e4
      have HRun := Lib.hid hr
      have hq : (i : Int) / 2 = (x : Int) := by omega
      have hxb : x ≤ 16 := by omega
      have hwx : IntKind.i64.wrap (x : Int) = (x : Int) := by rw [IntKind.wrap_i64]; omega
      have hlt1 : w.heap.size + 3 < wr.heap.size := by omega
      have hlt2 : w.heap.size + 4 < wr.heap.size := by omega
      clear hA hx hr hL5 hll
      go_wp2_with fail
      apply via
      · intro hend
        go_region_law (refine stepRun ((wr.alloc (.cells #[.int .i64 x] 3)).drew) (.tmp 21) (.tmp 24) (.slice (some ⟨b0, 0, none⟩) i c0) (.slice (some ⟨wr.heap.size, 0, none⟩) 1 1) (.slice (some ⟨g, 0, none⟩) (i + 1) c') w4 41 rfl rfl rfl (by simp [Act.eval, Act.put]) (by simp [Act.eval, Act.put]) HRun.out ?_)
        all_goals exact hend
      obtain ⟨W5, hW5⟩ : ∃ W, W = w4.setCell ⟨w.heap.size + 3, 0, none⟩ (.slice (some ⟨g, 0, none⟩) (i + 1) c') := ⟨_, rfl⟩
      rw [← hW5] at HL5
      rw [← hW5]
      clear hW5 e1 e2 e3 e4 e5 hsz HL HRun hq hxb hwx hlt1 hlt2
      obtain ⟨x2, hx⟩ : ∃ x, x = (i + 1) / 2 := ⟨_, rfl⟩
      obtain ⟨g2, c2', w6, hr, hA⟩ := HL5.out.app1 (x2 : Int) 41 (by rw [ly_length]; omega)
      have e1 := HL5.out.V1
      have e2 := HL5.out.G1
      have e3 := hA.V1
      have e4 := hA.G1
      have e5 := hA.F1
      have hsz := HL5.out.lt
      have hL6 := hA.put1
      have hll : (ly i ++ [(x2 : Int)]).length = i + 1 := by simp [ly_length]
      rw [hll, show ly i ++ [(x2 : Int)] = ly (i + 1) by rw [ly_succ, hx]] at hL6
      have HL6 := Lib.hid hL6
      rw [ly_length] at hr e2 e4
      have HRun := Lib.hid hr
      have hq : ((i : Int) + 1) / 2 = (x2 : Int) := by omega
      have hq2 : ((i : Int) + 1).tdiv 2 = (x2 : Int) := by rw [Int.tdiv_eq_ediv_of_nonneg (by omega)]; exact hq
      have hw1 : IntKind.i64.wrap ((i : Int) + 1) = (i : Int) + 1 := by rw [IntKind.wrap_i64]; omega
      have hxb : x2 ≤ 16 := by omega
      have hwx : IntKind.i64.wrap (x2 : Int) = (x2 : Int) := by rw [IntKind.wrap_i64]; omega
      have hlt1 : w.heap.size + 3 < W5.heap.size := by omega
      have hlt2 : w.heap.size + 4 < W5.heap.size := by omega
      clear hA hx hr hL6 hll
      go_wp2_with fail
      apply via
      · intro hend
        go_region_law (refine stepRun ((W5.alloc (.cells #[.int .i64 x2] 3)).drew) (.tmp 32) (.tmp 36) (.slice (some ⟨b1, 0, none⟩) i c1) (.slice (some ⟨W5.heap.size, 0, none⟩) 1 1) (.slice (some ⟨g2, 0, none⟩) (i + 1) c2') w6 41 rfl rfl rfl (by simp [Act.eval, Act.put]) (by simp [Act.eval, Act.put]) HRun.out ?_)
        all_goals exact hend
      go_wp2_with fail
      go_roundg (n + 1 - (i + 1))
      case measure => omega
      case rel => exact ⟨i + 1, g, c', g2, c2', by omega, by omega, by go_num, HL6.out⟩
    · obtain rfl : i = n + 1 := by omega
      have k0 := HL.out.V0
      have k1 := HL.out.V1
      have l0 := HL.out.d0
      have l1 := HL.out.d1
      have m0 := HL.out.g0
      have m1 := HL.out.g1
      go_wp2_with fail
      refine bodyPost_ret (v := .agg #[.int .i64 ((n : Int) + 1), .slice (some ⟨w.heap.size + 3, 0, none⟩) 2 2]) ?_ rfl ⟨_, 2, rfl, HL.out.done⟩
      have hres : Try.f42.results = #[.cell 2 25] := by kernel_rfl
      simp only [results, hres]
      go_simp

end Go.Proofs.Ytfjpnennbdefiaa
