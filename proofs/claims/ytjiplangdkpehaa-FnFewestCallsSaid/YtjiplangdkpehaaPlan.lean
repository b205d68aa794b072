/-
  Plan. By a program (wip/tools/mk.py) out of snippets.
-/
import Derived.Test.YtjiplangdkpehaaPairs
import Derived.Test.YtjiplangdkpehaaFn2
import Derived.Test.YtjiplangdkpehaaFnBase
namespace Go.Proofs.Ytjiplangdkpehaa
open Go.RowKit

/-- 'append(out, pairs..)' onto a row of the call's own. -/
theorem appLP {ops : Array Oper} {rest : List Oper} {o : Oper} {a : Act} {Q : Exit → Act → World → Prop} (w : World) (base : Nat) (A : Option Addr) (n c : Nat) (xs news : List Int) (m : Nat) (cs : Array Value) (hcs : cs = (news.map (Value.int .i64)).toArray) (hnl : news.length = m * 2) (hm0 : 0 < m) (hgd : o.guard = none) (s y : Operand)
    (ho : o.op = .call { callee := .builtin .append, args := #[s, y], argTypes := #[25, 25] }) (hs : a.eval s = .slice A n c) (hown : w.ownsRow base 44 2 (.slice A n c) n (xs.map (Value.int .i64)))
    (hy : a.eval y = .slice (some ⟨w.heap.size, 0, none⟩) m m) (hn : n + m ≤ 100000000) (hbase : base ≤ w.heap.size)
    (h : ∀ g c' w', w'.ownsRow base 44 2 (.slice (some ⟨g, 0, none⟩) (n + m) c') (n + m) ((xs ++ news).map (Value.int .i64)) → Below base w w' → wpList Try.prog ops Q rest (a.put o.dst (.slice (some ⟨g, 0, none⟩) (n + m) c')) w') :
    wpList Try.prog ops Q (o :: rest) a (w.alloc (.cells cs 44)) := by
  subst hcs
  obtain ⟨i0, hi, hz0, hz1, hz2⟩ := info_parts infoPair
  refine wpList_append_lies _ hgd s y 25 ho base 44 i0 (.agg #[.int .i64 0, .int .i64 0]) 2 16 Try.underlying25 hi hz0 hz1 hz2 rfl (by decide) _ n _ hs (hown.alloc _) ⟨w.heap.size, 0, none⟩ m m (news.map (Value.int .i64)) hy (by simp [hnl]) (fun j u hu => ?_) (fun u hu => ?_) hm0 (by unfold maxLen; omega) (by omega) (by simp; omega) (w.heap.size + 1) (by simp) ?_
  · rw [Addr.add_lit, Nat.zero_add, World.cell?_alloc_at _ _ _ _ rfl]
    simpa using hu
  · obtain ⟨z, _, rfl⟩ := List.mem_map.1 hu
    rfl
  intro g cap w' hown' hg _ _
  rw [← List.map_append] at hown'
  refine h _ _ _ hown' ?_
  refine ((Below.refl base w).alloc hbase _).grown hg (by simp; omega) (fun k hk => ?_)
  exact (World.ownsRow.lt hown k hk).1
theorem own_emptyP (w : World) (base : Nat) (hb : base ≤ w.heap.size) : (w.alloc (.cells #[] 44)).ownsRow base 44 2 (.slice (some ⟨w.heap.size, 0, none⟩) 0 0) 0 (([] : List Int).map (Value.int .i64)) := by
  have := World.ownsRow_made (base := base) (e := 44) (size := 2) w #[] 0 hb (by unfold maxLen; omega) rfl
  simpa using this
theorem NewI.of_ownP {w : World} {base n c : Nat} {A : Option Addr} {zs : List Int} (h : w.ownsRow base 44 2 (.slice A n c) n (zs.map (Value.int .i64))) : NewI w base A (n * 2) zs := by
  have hl : zs.length = n * 2 := by have := h.1; simpa using this
  refine ⟨hl, fun hn => ?_⟩
  obtain ⟨g, cap, e, hb, hg⟩ := h.form (by omega)
  cases e
  refine ⟨g, 0, rfl, hb, hg, fun i hi => ?_, fun i _ => by rw [Nat.zero_add]; exact World.ownsRow.frozenAt h i⟩
  rw [Nat.zero_add, World.ownsRow.cellAt h i (by omega)]
  simp [iat, hl, hi]
theorem own_capP {w : World} {base n c : Nat} {A : Option Addr} {xs : List Value} {e size : Nat} (h : w.ownsRow base e size (.slice A n c) n xs) : n ≤ c := own_cap h
/-- A literal list of pairs, just laid. -/
theorem NewI_litP (w : World) (news : List Int) (m : Nat) (cs : Array Value) (hcs : cs = (news.map (Value.int .i64)).toArray) (hnl : news.length = m * 2) : NewI (w.alloc (.cells cs 44)) w.heap.size (some ⟨w.heap.size, 0, none⟩) (m * 2) news := by
  subst hcs
  refine ⟨hnl, fun _ => ⟨w.heap.size, 0, rfl, Nat.le_refl _, by simp, fun i hi => ?_, fun i _ => by go_simp⟩⟩
  rw [Nat.zero_add, World.cell?_alloc_at _ _ _ _ rfl]
  simp [iat, hnl, hi]

def outerL (k : Nat) : List Int := (List.range k).flatMap fun (i : Nat) => [0, (i : Int) + 4]
def planL (n : Nat) : List Int := if n = 2 then [0, 1] else if n = 3 then [0, 1, 0, 2, 0, 1] else if n < 4 then [] else outerL (n - 4) ++ [0, 1, 2, 3, 0, 2, 1, 3] ++ outerL (n - 4)
def planN (n : Nat) : Nat := if n = 2 then 1 else if n = 3 then 3 else if n < 4 then 0 else (n - 4) + 4 + (n - 4)
theorem outerL_succ (k : Nat) : outerL (k + 1) = outerL k ++ [0, (k : Int) + 4] := by simp [outerL, List.range_succ]
theorem outerL_length (k : Nat) : (outerL k).length = k * 2 := by
  induction k with
  | zero => rfl
  | succ k ih => rw [outerL_succ, List.length_append, ih]; simp; omega

set_option maxHeartbeats 3200000 in
theorem specPlanOf_in (n : Nat) (w : World) (hn1 : 1 ≤ n) (hn : n ≤ 6) :
    Calls Try.prog 19 #[.int .i64 n] w fun e w' => ∃ A c, e = .returned (.slice A (planN n) c) ∧ planN n ≤ c ∧ NewI w' w.heap.size A (planN n * 2) (planL n) ∧ Below w.heap.size w w' := by
  have HI := Lib.hid (show Calls Try.prog 49 #[.int .i64 n, .int .i64 1, .int .i64 6] w fun e w' => e = .returned (.bool true) ∧ w = w' by
    have := inRange_any n 1 6 w
    rwa [inR_true (by omega)] at this)
  have hb0 : Below w.heap.size w (w.alloc (.cells #[] 44)) := (Below.refl _ _).alloc (Nat.le_refl _) _
  have HB0 := Lib.hid hb0
  by_cases h2 : n = 2
  · subst h2
    have HN := Lib.hid (show NewI ((w.alloc (.cells #[] 44)).alloc (.cells #[.int .i64 0, .int .i64 1] 44)) w.heap.size (some ⟨w.heap.size + 1, 0, none⟩) (planN 2 * 2) (planL 2) by
      have h := NewI_litP (w.alloc (.cells #[] 44)) [0, 1] 1 #[.int .i64 0, .int .i64 1] rfl rfl
      rw [show (w.alloc (.cells #[] 44)).heap.size = w.heap.size + 1 by simp] at h
      exact h.mono (by omega))
    have HB := Lib.hid (hb0.alloc hb0.size (.cells #[.int .i64 0, .int .i64 1] 44))
    have hcast : ((2 : Nat) : Int) = 2 := rfl
    clear hb0
    go_enter Try.func19, Try.ntmps19
    go_wp2_with fail
    refine HI.out.mono ?_
    rintro e w' ⟨rfl, rfl⟩
    go_wp2_with fail
    go_ret
    exact ⟨_, _, rfl, Nat.le_refl _, HN.out, HB.out⟩
  · by_cases h3 : n = 3
    · subst h3
      have HN := Lib.hid (show NewI ((w.alloc (.cells #[] 44)).alloc (.cells #[.int .i64 0, .int .i64 1, .int .i64 0, .int .i64 2, .int .i64 0, .int .i64 1] 44)) w.heap.size (some ⟨w.heap.size + 1, 0, none⟩) (planN 3 * 2) (planL 3) by
        have h := NewI_litP (w.alloc (.cells #[] 44)) [0, 1, 0, 2, 0, 1] 3 #[.int .i64 0, .int .i64 1, .int .i64 0, .int .i64 2, .int .i64 0, .int .i64 1] rfl rfl
        rw [show (w.alloc (.cells #[] 44)).heap.size = w.heap.size + 1 by simp] at h
        exact h.mono (by omega))
      have HB := Lib.hid (hb0.alloc hb0.size (.cells #[.int .i64 0, .int .i64 1, .int .i64 0, .int .i64 2, .int .i64 0, .int .i64 1] 44))
      have hcast : ((3 : Nat) : Int) = 3 := rfl
      clear hb0
      go_enter Try.func19, Try.ntmps19
      go_wp2_with fail
      refine HI.out.mono ?_
      rintro e w' ⟨rfl, rfl⟩
      go_wp2_with fail
      go_ret
      exact ⟨_, _, rfl, Nat.le_refl _, HN.out, HB.out⟩
    · have o0 := own_emptyP w w.heap.size (Nat.le_refl _)
      have e2 : ((n : Int) == 2) = false := by simp; omega
      have e3 : ((n : Int) == 3) = false := by simp; omega
      have HP := Lib.hid (show planL n = if n < 4 then [] else outerL (n - 4) ++ [0, 1, 2, 3, 0, 2, 1, 3] ++ outerL (n - 4) by unfold planL; rw [if_neg h2, if_neg h3])
      have HPN := Lib.hid (show planN n = if n < 4 then 0 else (n - 4) + 4 + (n - 4) by unfold planN; rw [if_neg h2, if_neg h3])
      clear h2 h3
      go_enter Try.func19, Try.ntmps19
      go_wp2_with fail
      refine HI.out.mono ?_
      rintro e w' ⟨rfl, rfl⟩
      go_wp2_with fail
      go_loopg [3, 4] (n - 4) (fun gg s3 s4 wr => ∃ (p g cc : Nat), p ≤ n - 4 ∧ n - 4 - p ≤ gg ∧ s4 = .int .i64 ((p : Int) + 4) ∧ s3 = .slice (some ⟨g, 0, none⟩) p cc ∧ wr.ownsRow w.heap.size 44 2 (.slice (some ⟨g, 0, none⟩) p cc) p ((outerL p).map (Value.int .i64)) ∧ Below w.heap.size w wr)
      case atStart => exact ⟨0, w.heap.size, 0, by omega, by omega, rfl, rfl, o0, hb0⟩
      case round =>
        clear o0 hb0
        obtain ⟨p, g, cc, hp, hg, rfl, rfl, hown, hbw⟩ := hrel
        have HOw := Lib.hid hown
        have HBw := Lib.hid hbw
        have hsz := hbw.size
        clear hown hbw
        by_cases hlt : p + 4 < n
        · have hlt' : (p : Int) + 4 < (n : Int) := by omega
          have HS := Lib.hid (outerL_succ p)
          go_wp2_with (at_builtin; refine appLP wr w.heap.size _ p _ (outerL p) [0, (p : Int) + 4] 1 _ rfl rfl (by omega) rfl _ _ rfl rfl HOw.out rfl (by omega) hsz ?_; intro g2 c2 w4 ho4 hb4)
          go_roundg (n - 4 - (p + 1))
          case measure => omega
          case rel => exact ⟨p + 1, g2, c2, by omega, by omega, by first | (go_num; done) | (congr 1; omega), rfl, by rw [HS.out]; exact ho4, HBw.out.trans hb4⟩
        · have hlt' : ¬ (p : Int) + 4 < (n : Int) := by omega
          by_cases h4 : 4 ≤ n
          · obtain rfl : p = n - 4 := by omega
            have h4' : (4 : Int) ≤ (n : Int) := by omega
            obtain ⟨q, hq⟩ : ∃ q, q = n - 4 := ⟨_, rfl⟩
            rw [← hq] at HOw
            have hqn : n = q + 4 := by omega
            rw [← hq]
            rw [if_neg (by omega), ← hq] at HP HPN
            clear hlt hlt' hp hg
            subst hqn
            clear hq
            go_wp2_with (at_builtin; refine appLP wr w.heap.size _ q _ (outerL q) [0, 1, 2, 3, 0, 2, 1, 3] 4 _ rfl rfl (by omega) rfl _ _ rfl rfl HOw.out rfl (by omega) hsz ?_; intro g2 c2 w4 ho4 hb4)
            have HO4 := Lib.hid ho4
            have HB4 := Lib.hid (HBw.out.trans hb4)
            clear ho4 hb4 HOw
            go_loopg [3, 5] q (fun gg s3 s5 wr => ∃ (p g cc : Nat), p ≤ q ∧ q - p ≤ gg ∧ s5 = .int .i64 ((p : Int) + 4) ∧ s3 = .slice (some ⟨g, 0, none⟩) (q + 4 + p) cc ∧ wr.ownsRow w.heap.size 44 2 (.slice (some ⟨g, 0, none⟩) (q + 4 + p) cc) (q + 4 + p) ((outerL q ++ [0, 1, 2, 3, 0, 2, 1, 3] ++ outerL p).map (Value.int .i64)) ∧ Below w.heap.size w wr)
            case atStart => exact ⟨0, g2, c2, by omega, by omega, rfl, rfl, by simpa [outerL] using HO4.out, HB4.out⟩
            case round =>
              clear HO4 HB4 hsz
              obtain ⟨p, g, cc, hp, hg, rfl, rfl, hown, hbw⟩ := hrel
              have HOw := Lib.hid hown
              have HBw := Lib.hid hbw
              have hsz := hbw.size
              clear hown hbw
              by_cases hlt : p < q
              · have hlt' : (p : Int) + 4 < ((q + 4 : Nat) : Int) := by omega
                have HS := Lib.hid (show outerL q ++ [0, 1, 2, 3, 0, 2, 1, 3] ++ outerL (p + 1) = outerL q ++ [0, 1, 2, 3, 0, 2, 1, 3] ++ outerL p ++ [0, (p : Int) + 4] by rw [outerL_succ]; simp only [List.append_assoc])
                go_wp2_with (at_builtin; refine appLP wr w.heap.size _ (q + 4 + p) _ (outerL q ++ [0, 1, 2, 3, 0, 2, 1, 3] ++ outerL p) [0, (p : Int) + 4] 1 _ rfl rfl (by omega) rfl _ _ rfl rfl HOw.out rfl (by omega) hsz ?_; intro g2 c2 w4 ho4 hb4)
                go_roundg (q - (p + 1))
                case measure => omega
                case rel => exact ⟨p + 1, g2, c2, by omega, by omega, by first | (go_num; done) | (congr 1; omega), rfl, by rw [HS.out]; exact ho4, HBw.out.trans hb4⟩
              · obtain rfl : p = q := by omega
                have hlt' : ¬ (p : Int) + 4 < ((p + 4 : Nat) : Int) := by omega
                have HN := Lib.hid (NewI.of_ownP HOw.out)
                have hcap := own_cap HOw.out
                go_wp2_with fail
                go_ret
                rw [HPN.out, HP.out]
                exact ⟨_, _, rfl, hcap, HN.out, HBw.out⟩
          · obtain rfl : p = 0 := by omega
            have h4' : ¬ (4 : Int) ≤ (n : Int) := by omega
            have HN := Lib.hid (NewI.of_ownP HOw.out)
            rw [if_pos (by omega)] at HP HPN
            have hn4 : ¬ ((4 : Int) < (n : Int)) := by omega
            clear hlt hlt'
            go_wp2_with fail
            refine wp_loop_rounds 1 ?_
            rw [rounds_succ]
            go_wp2_with fail
            go_ret
            rw [HPN.out, HP.out]
            exact ⟨_, _, rfl, by omega, HN.out, HBw.out⟩

end Go.Proofs.Ytjiplangdkpehaa
