/-
  RlI3. By a program (wip/tools/mk.py) out of snippets.
-/
import Derived.Test.YtblaaeanbhgokaaRlI2
import Derived.Test.YtblaaeanbhgokaaRb
import Derived.Laws.EntriesVeiled
namespace Go.Proofs.Ytblaaeanbhgokaa
open Go.RowKit

theorem lit_new {w' : World} {base b n : Nat} {zs : List Int} {T : TypeId} (hb : base ≤ b) (h : w'.heap[b]? = some (.cells (ints zs) T)) (hl : zs.length = n) : NewI w' base (some ⟨b, 0, none⟩) n zs := by
  refine ⟨hl, fun _ => ⟨b, 0, rfl, hb, (Array.getElem?_eq_some_iff.1 h).1, fun i hi => ?_, fun i hi => ?_⟩⟩
  · have hi' : i < zs.length := by omega
    simp [World.cell?, h, ints, iat, List.getD_eq_getElem?_getD, hi']
  · simp [World.frozen?, h]
theorem heapN (w : World) (o : Obj) : (w.alloc o).heap[w.heap.size]? = some o := by
  show (w.heap.push o)[w.heap.size]? = some o
  simp
theorem two_made (w : World) (n : Nat) : NewI ((w.alloc (.cells (ints (List.replicate n 0)) 3)).alloc (.cells (ints (List.replicate n 0)) 3)).drew w.heap.size (some ⟨w.heap.size, 0, none⟩) n (List.replicate n 0) ∧
    NewI ((w.alloc (.cells (ints (List.replicate n 0)) 3)).alloc (.cells (ints (List.replicate n 0)) 3)).drew w.heap.size (some ⟨w.heap.size + 1, 0, none⟩) n (List.replicate n 0) ∧ Below w.heap.size w ((w.alloc (.cells (ints (List.replicate n 0)) 3)).alloc (.cells (ints (List.replicate n 0)) 3)).drew := by
  have h1 := heapN (w.alloc (.cells (ints (List.replicate n 0)) 3)) (.cells (ints (List.replicate n 0)) 3)
  rw [World.size_alloc] at h1
  exact ⟨lit_new (Nat.le_refl _) ((Below.heap_alloc _ _ _ (by simp)).trans (heapN w _)) (by simp), lit_new (by omega) h1 (by simp), bDrewN (((Below.refl _ _).alloc (Nat.le_refl _) _).alloc (by simp) _) 1⟩
theorem NewI.sameR {w w' : World} {base b o n : Nat} {zs : List Int} (h : NewI w base (some ⟨b, o, none⟩) n zs) (hs : w.heap.size ≤ w'.heap.size) (hb : w'.heap[b]? = w.heap[b]?) : NewI w' base (some ⟨b, o, none⟩) n zs :=
  ⟨h.1, fun hn => by
    obtain ⟨b1, o1, e, h1, h2, h3, h4⟩ := h.2 hn
    cases e
    exact ⟨b, o, rfl, h1, Nat.lt_of_lt_of_le h2 hs, fun i hi => (World.cell?_of_block (a := ⟨b, o + i, none⟩) hb).trans (h3 i hi), fun i hi => (World.frozen?_of_block (a := ⟨b, o + i, none⟩) hb).trans (h4 i hi)⟩⟩
theorem NewI.rowOk {w : World} {base b n : Nat} {zs : List Int} (h : NewI w base (some ⟨b, 0, none⟩) n zs) (hn : 0 < n) : RowOk w base w.heap.size (.slice (some ⟨b, 0, none⟩) n n) zs := by
  obtain ⟨b1, o1, e, h1, h2, h3, h4⟩ := h.2 hn
  cases e
  have hl := h.1
  exact ⟨b, n, by rw [hl], by omega, h1, h2, fun j hj => by have := h3 j (by omega); rwa [Nat.zero_add] at this, fun j hj => by have := h4 j (by omega); rwa [Nat.zero_add] at this⟩
/-- A step of the inner loop: a number into each row. -/
theorem two_set {w : World} {base r1 r2 n j : Nat} {xs ys : List Int} (h1 : NewI w base (some ⟨r1, 0, none⟩) n (upto xs j n)) (h2 : NewI w base (some ⟨r2, 0, none⟩) n (upto ys j n)) (hne : r1 ≠ r2) (hj : j < n) (hx : xs.length = n) (hy : ys.length = n) :
    NewI ((w.setCell ⟨r1, j, none⟩ (.int .i64 (iat xs j))).setCell ⟨r2, j, none⟩ (.int .i64 (iat ys j))) base (some ⟨r1, 0, none⟩) n (upto xs (j + 1) n) ∧ NewI ((w.setCell ⟨r1, j, none⟩ (.int .i64 (iat xs j))).setCell ⟨r2, j, none⟩ (.int .i64 (iat ys j))) base (some ⟨r2, 0, none⟩) n (upto ys (j + 1) n) := by
  have a1 := h1.set_ hj (x := iat xs j)
  rw [Nat.zero_add, upto_set hx hj] at a1
  have a2 := (h2.sameR (w' := w.setCell ⟨r1, j, none⟩ (.int .i64 (iat xs j))) (by simp) (Below.heap_setCell _ _ _ _ (by simpa using hne.symm))).set_ hj (x := iat ys j)
  rw [Nat.zero_add, upto_set hy hj] at a2
  exact ⟨a1.sameR (by simp) (Below.heap_setCell _ _ _ _ (by simpa using hne)), a2⟩
theorem appVs {ops : Array Oper} {rest : List Oper} {o : Oper} {a : Act} {Q : Exit → Act → World → Prop} (w : World) (sz : Nat) (hsz : w.heap.size = sz) (base : Nat) (A : Option Addr) (n c : Nat) (vs : List Value) (A1 : Option Addr) (n1 c1 : Nat) (hgd : o.guard = none) (s y : Operand)
    (ho : o.op = .call { callee := .builtin .append, args := #[s, y], argTypes := #[35, 35] }) (hs : a.eval s = .slice A n c) (hown : w.ownsRow base 22 1 (.slice A n c) n vs)
    (hy : a.eval y = .slice (some ⟨sz, 0, none⟩) 1 1) (hn : n ≤ 100000000) (hbase : base ≤ w.heap.size)
    (h : ∀ g c' w', w'.ownsRow base 22 1 (.slice (some ⟨g, 0, none⟩) (n + 1) c') (n + 1) (vs ++ [.slice A1 n1 c1]) → (w.alloc (.cells #[.slice A1 n1 c1] 22)).grownBy w' (Value.slice A n c).ownBlock → ((Value.slice A n c).ownBlock = some g ∨ g = w.heap.size + 1) → wpList Try.prog ops Q rest (a.put o.dst (.slice (some ⟨g, 0, none⟩) (n + 1) c')) w') :
    wpList Try.prog ops Q (o :: rest) a (w.alloc (.cells #[.slice A1 n1 c1] 22)) := by
  subst hsz
  exact appV w base A n c vs A1 n1 c1 hgd s y ho hs hown hy hn hbase h
theorem take_rat {F : List (List Int)} {i : Nat} (h : i < F.length) : F.take (i + 1) = F.take i ++ [rat F i] := by
  rw [rat_eq h, List.take_succ_eq_append_getElem h]

theorem ruSym0 (a b : Nat) (ha : a < 2) (hb : b < 2) : ruA 0 b a = ruB 0 a b := by
  rcases two ha with rfl | rfl <;> rcases two hb with rfl | rfl <;> kernel_rfl
theorem ruSym2 (a b : Nat) (ha : a < 4) (hb : b < 4) : ruA 2 b a = ruB 2 a b := by
  rcases four ha with rfl | rfl | rfl | rfl <;> rcases four hb with rfl | rfl | rfl | rfl <;> kernel_rfl
theorem ruFacts (t : Nat) (ht : t < 4) : (2 ≤ ruN t ∧ ruN t ≤ 4) ∧ (ruS t).length = ruN t ∧ (ruF t).length = ruN t ∧ (ruG t).length = ruN t ∧ ∀ i, i < ruN t → (rat (ruF t) i).length = ruN t ∧ (rat (ruG t) i).length = ruN t := by
  rcases four ht with rfl | rfl | rfl | rfl
  · exact ⟨by simp [ruN], rfl, rfl, rfl, fun i hi => by rcases two (show i < 2 from hi) with rfl | rfl <;> exact ⟨rfl, rfl⟩⟩
  all_goals exact ⟨by simp [ruN], rfl, rfl, rfl, fun i hi => by rcases four (show i < 4 from hi) with rfl | rfl | rfl | rfl <;> exact ⟨rfl, rfl⟩⟩

set_option maxRecDepth 20000 in
set_option maxHeartbeats 6400000 in
theorem implrulesV_any (t g : Nat) (W : World) (ht : t < 4) (hg : W.heap[g]? = some (.cells (ints (ruS t)) 3)) :
    Calls Try.prog 87 #[ruV t g] W fun e w' => ∃ (b1 : Nat) (vs1 : List Value) (b2 : Nat) (vs2 : List Value) (L : Nat), e = .returned (.agg #[.slice (some ⟨g, 0, none⟩) (ruN t) (ruN t), .slice (some ⟨b1, 0, none⟩) (ruN t) (ruN t), .slice (some ⟨b2, 0, none⟩) (ruN t) (ruN t)]) ∧
      FH w' L w'.heap.size b1 (ruN t) vs1 (ruF t) ∧ FH w' L w'.heap.size b2 (ruN t) vs2 (ruG t) ∧ (∀ b, InO (some ⟨b1, 0, none⟩) (ruN t) (ruN t) vs1 b → ¬ InO (some ⟨b2, 0, none⟩) (ruN t) (ruN t) vs2 b) ∧ W.heap.size ≤ L ∧ L ≤ b1 ∧ L ≤ b2 ∧ Below W.heap.size W w' := by
  obtain ⟨V0, hV0⟩ : ∃ V, V = W.alloc (.cells #[.slice none 0 0, .slice none 0 0, .slice none 0 0] 62) := ⟨_, rfl⟩
  have hB : Below W.heap.size W V0 := by rw [hV0]; exact (Below.refl _ _).alloc (Nat.le_refl _) _
  have hres := Lib.hid (show Try.f87.results = #[.cell 2 62] by kernel_rfl)
  have HG := Lib.hid hg
  have ta1 : ∀ v w, (Instr.typeAssert (.iface 107 v) 90 110 true).run Try.prog w = .ok (.tuple #[.agg #[.slice none 0 0, .nilFunc], .bool false]) w := fun _ _ => by kernel_rfl
  have ta2 : ∀ v w, (Instr.typeAssert (.iface 107 v) 90 107 true).run Try.prog w = .ok (.tuple #[v, .bool true]) w := fun _ _ => by kernel_rfl
  have ta3 : ∀ v w, (Instr.typeAssert (.iface 110 v) 90 110 true).run Try.prog w = .ok (.tuple #[v, .bool true]) w := fun _ _ => by kernel_rfl
  have TA1 := Lib.hid ta1
  have TA2 := Lib.hid ta2
  have TA3 := Lib.hid ta3
  clear ta1 ta2 ta3
  go_enter Try.func87, Try.ntmps87
  go_upto_block 0 with fail
  rw [← hV0]
  go_cut [3, 4, 5, 6] from 13 to 25 (fun v3 v4 v5 v6 wx => v3 = .slice (some ⟨g, 0, none⟩) (ruN t) (ruN t) ∧ (∃ (gf : Nat) (lb : Array Value), v4 = .func (.func gf) #[] lb ∧ (∀ args w, (callFunc gf args).run Try.prog w = .ok (.enter gf args) w) ∧
    ∀ (a b : Nat) (w' : World), a < ruN t → b < ruN t → Below wx.heap.size wx w' → Calls Try.prog gf (#[.int .i64 a, .int .i64 b] ++ lb) w' fun e w'' => e = .returned (.tuple #[.int .i64 (ruA t a b), .int .i64 (ruB t a b)]) ∧ ∃ q, w'' = w'.drewN q) ∧ Below V0.heap.size V0 wx)
  case first =>
    rcases four ht with rfl | rfl | rfl | rfl
    · have ta1 := TA1.out
      have ta2 := TA2.out
      simp only [ruV]
      go_wp2_with fail
      go_meet
      refine ⟨rfl, ⟨_, _, rfl, enters_of Try.func108 (by kernel_rfl) rfl, fun a b w' ha hb hw => ?_⟩, by rw [hV0]; exact (Below.refl _ _).alloc (Nat.le_refl _) _⟩
      refine (rulesOf1_any (W.heap.size + 1) 103 2 (ruA 0) a b ha hb w' ((hw.cell (p := ⟨W.heap.size + 1, 1, none⟩) (by simp)).trans (by rw [World.cell?_alloc_at _ _ _ _ (by simp)]; rfl)) (enters_of Try.func103 (by kernel_rfl) rfl) (fun x y hx hy W => meeting1_any x y hx hy W)).mono ?_
      rintro e w'' ⟨rfl, q, rfl⟩
      exact ⟨by rw [ruSym0 a b ha hb], q, rfl⟩
    · have ta3 := TA3.out
      simp only [ruV]
      go_wp2_with fail
      go_quiet (fail)
      go_wp2_with fail
      go_meet
      refine ⟨rfl, ⟨_, _, rfl, enters_of Try.func104 (by kernel_rfl) rfl, fun a b w' ha hb hw => ?_⟩, by rw [hV0]; exact bDrewN ((Below.refl _ _).alloc (Nat.le_refl _) _) _⟩
      refine (meeting2_any a b ha hb w').mono ?_
      rintro e w'' ⟨rfl, rfl⟩
      exact ⟨rfl, 0, rfl⟩
    · have ta1 := TA1.out
      have ta2 := TA2.out
      simp only [ruV]
      go_wp2_with fail
      go_meet
      refine ⟨rfl, ⟨_, _, rfl, enters_of Try.func108 (by kernel_rfl) rfl, fun a b w' ha hb hw => ?_⟩, by rw [hV0]; exact (Below.refl _ _).alloc (Nat.le_refl _) _⟩
      refine (rulesOf1_any (W.heap.size + 1) 105 4 (ruA 2) a b ha hb w' ((hw.cell (p := ⟨W.heap.size + 1, 1, none⟩) (by simp)).trans (by rw [World.cell?_alloc_at _ _ _ _ (by simp)]; rfl)) (enters_of Try.func105 (by kernel_rfl) rfl) (fun x y hx hy W => meeting3_any x y hx hy W)).mono ?_
      rintro e w'' ⟨rfl, q, rfl⟩
      exact ⟨by rw [ruSym2 a b ha hb], q, rfl⟩
    · have ta3 := TA3.out
      simp only [ruV]
      go_wp2_with fail
      go_quiet (fail)
      go_wp2_with fail
      go_meet
      refine ⟨rfl, ⟨_, _, rfl, enters_of Try.func107 (by kernel_rfl) rfl, fun a b w' ha hb hw => ?_⟩, by rw [hV0]; exact bDrewN ((Below.refl _ _).alloc (Nat.le_refl _) _) _⟩
      refine (meeting4_any a b ha hb w').mono ?_
      rintro e w'' ⟨rfl, rfl⟩
      exact ⟨rfl, 0, rfl⟩
  case rest =>
    obtain ⟨rfl, ⟨gf, lb, rfl, eg, hcall⟩, bx⟩ := hcut
    obtain ⟨hn24, hls, hlf, hlg, hrow⟩ := ruFacts t ht
    have HCall := Lib.hid hcall
    have HRow := Lib.hid hrow
    have HLf := Lib.hid hlf
    have HLg := Lib.hid hlg
    have HBx := Lib.hid bx
    have HB := Lib.hid hB
    have HV0 := Lib.hid hV0
    obtain ⟨hn2, hn4⟩ := hn24
    have HA := Lib.hid (fun a b => show ruA t a b = iat (rat (ruF t) a) b from rfl)
    have HBb := Lib.hid (fun a b => show ruB t a b = iat (rat (ruG t) a) b from rfl)
    generalize ruV t g = vv at *
    generalize hNn : ruN t = n at *
    generalize hFf : ruF t = F at *
    generalize hGg : ruG t = G at *
    have HNn := Lib.hid hNn
    have HFf := Lib.hid hFf
    have HGg := Lib.hid hGg
    clear hNn hFf hGg
    generalize ruA t = fa at *
    generalize ruB t = fb at *
    obtain ⟨i0, hi0, hz0, hz1, hz2⟩ := info_parts info3
    obtain ⟨cs, hcs, hmk⟩ : ∃ cs : Array Value, cs = ints (List.replicate n 0) ∧ ∀ W : World, (Instr.makeSlice 22 (.int .i64 (n : Int)) (.int .i64 (n : Int))).run Try.prog W = .ok (.slice (some ⟨W.heap.size, 0, none⟩) n n) (W.alloc (.cells cs 3)) := by
      refine ⟨madeCells (Value.int .i64 0).cells (n * i0.size), ?_, fun W => ?_⟩
      rotate_left
      · have := run_make (P := Try.prog) W 22 3 i0 (.int .i64 0) Try.underlying22 hi0 hz0 .i64 .i64 n n (by omega) (by omega) (by rw [hz2]; omega) (by omega)
        simp only [Int.toNat_natCast] at this
        exact this
      · rw [hz1, Nat.mul_one]
        exact Array.ext' (by show (madeCells #[.int .i64 0] n).toList = _; rw [madeInts]; rfl)
    have HCS := Lib.hid hcs
    obtain ⟨s2, hs2⟩ : ∃ s, s = W.heap.size := ⟨_, rfl⟩
    rw [← hs2]
    have HS2 := Lib.hid hs2
    clear hcs hcall hrow hlf hlg bx hB hV0 hs2 hls hg ht
    go_wp2_with fail
    obtain ⟨s7, hs7⟩ : ∃ s, s = wc.heap.size := ⟨_, rfl⟩
    obtain ⟨V, hV⟩ : ∃ V, V = wc.alloc (.cells #[.slice (some ⟨g, 0, none⟩) n n, .slice none 0 0, .slice none 0 0] 62) := ⟨_, rfl⟩
    have hzV : V.heap.size = s7 + 1 := by rw [hV, hs7]; simp
    have R0 : RR V s7 g n F G V 0 none 0 [] 0 none 0 [] := by
      refine ⟨by rw [hV, hs7]; simp, by rw [hV, hs7]; simp, by rw [hV, hs7]; simp, by rw [hV, hs7]; go_simp, by rw [hV, hs7]; go_simp, by rw [hV, hs7]; go_simp, OV.nil _ _ (Nat.le_refl _), OV.nil _ _ (Nat.le_refl _), fun b hb => ?_, by omega, Wn.refl _ _ _⟩
      rcases hb with e | ⟨j, hj, _⟩
      · cases e
      · omega
    have HR0 := Lib.hid R0
    have HWV := Lib.hid (show Below wc.heap.size wc V by rw [hV]; exact (Below.refl _ _).alloc (Nat.le_refl _) _)
    have HVV := Lib.hid (show Below V0.heap.size V0 V from HBx.out.trans (HWV.out.mono HBx.out.size))
    have HS70 := Lib.hid (show V0.heap.size ≤ s7 by rw [hs7]; exact HBx.out.size)
    have HCV := Lib.hid (fun (a b : Nat) (w' : World) (ha : a < n) (hb : b < n) (h : Below s7 V w') => HCall.out a b w' ha hb (HWV.out.trans (by rw [← hs7]; exact h)))
    rw [← hV, ← hs7]
    have HS7 := Lib.hid hs7
    have HZV := Lib.hid hzV
    clear hV hs7 R0 hzV
    go_loopg [30] n (fun gg s30 wr => ∃ (i : Nat) (A1 : Option Addr) (c1 : Nat) (vs1 : List Value) (A2 : Option Addr) (c2 : Nat) (vs2 : List Value), i ≤ n ∧ n - i ≤ gg ∧ s30 = .int .i64 i ∧ RR V s7 g n F G wr i A1 c1 vs1 i A2 c2 vs2)
    case atStart => exact ⟨0, none, 0, [], none, 0, [], by omega, by omega, rfl, HR0.out⟩
    case round =>
      clear HR0
      obtain ⟨i, A1, c1, vs1, A2, c2, vs2, hin, hgg, rfl, hR⟩ := hrel
      obtain ⟨w1, rfl⟩ : ∃ x, x = wr := ⟨_, rfl⟩
      have HR := Lib.hid hR
      clear hR
      by_cases hlt : i < n
      · go_upto_region 14 with fail
        go_cut [9, 10] from 33 to 38 (fun v9 v10 wx => ∃ r1 r2 : Nat, v9 = .slice (some ⟨r1, 0, none⟩) n n ∧ v10 = .slice (some ⟨r2, 0, none⟩) n n ∧ r1 ≠ r2 ∧ NewI wx w1.heap.size (some ⟨r1, 0, none⟩) n (List.replicate n 0) ∧ NewI wx w1.heap.size (some ⟨r2, 0, none⟩) n (List.replicate n 0) ∧ Below w1.heap.size w1 wx)
        case first =>
          have HTM := Lib.hid (two_made w1 n)
          rw [← HCS.out] at HTM
          go_region
          all_goals
            go_wp2_with fail
            go_meet
          · exact ⟨w1.heap.size, w1.heap.size + 1, rfl, rfl, by omega, HTM.out.1, HTM.out.2.1, HTM.out.2.2⟩
          · exact ⟨w1.heap.size + 1, w1.heap.size, rfl, rfl, by omega, HTM.out.2.1, HTM.out.1, HTM.out.2.2⟩
        case rest =>
          obtain ⟨r1, r2, rfl, rfl, hne, hN1, hN2, hbx⟩ := hcut
          obtain ⟨w2, rfl⟩ : ∃ x, x = wc := ⟨_, rfl⟩
          have HN1 := Lib.hid hN1
          have HN2 := Lib.hid hN2
          have HBX := Lib.hid hbx
          have hne' : ¬ (r2 = r1) := fun e => hne e.symm
          have hne2 : ¬ (r1 = r2) := hne
          have h17 : s7 ≤ w1.heap.size := Nat.le_of_lt HR.out.lt7
          have HCl := Lib.hid (fun (j : Nat) (w' : World) (hj : j < n) (hb : Below w1.heap.size w1 w') => HCV.out i j w' hlt hj ((HR.out.wn.below (by rw [HZV.out]; omega)).trans (hb.mono h17)))
          have HFi := Lib.hid (fun j => HA.out i j)
          have HGi := Lib.hid (fun j => HBb.out i j)
          have HLi := Lib.hid (HRow.out i hlt)
          clear hN1 hN2 hbx hne
          go_wp2_with fail
          go_loopg [41] n (fun g2 s41 wr => ∃ j : Nat, j ≤ n ∧ n - j ≤ g2 ∧ s41 = .int .i64 j ∧ NewI wr w1.heap.size (some ⟨r1, 0, none⟩) n (upto (rat F i) j n) ∧ NewI wr w1.heap.size (some ⟨r2, 0, none⟩) n (upto (rat G i) j n) ∧ Below w1.heap.size w1 wr)
          case atStart => exact ⟨0, by omega, by omega, rfl, by rw [upto_zero]; exact HN1.out, by rw [upto_zero]; exact HN2.out, HBX.out⟩
          case round =>
            clear HN1 HN2 HBX
            obtain ⟨j, hjn, hg2, rfl, hM1, hM2, hbw⟩ := hrel
            obtain ⟨w3, rfl⟩ : ∃ x, x = wr := ⟨_, rfl⟩
            have HBw := Lib.hid hbw
            have HM1 := Lib.hid hM1
            have HM2 := Lib.hid hM2
            by_cases hj : j < n
            · have CJ := Lib.hid (HCl.out j w3 hj hbw)
              obtain ⟨b1, o1, e1, hp1, _, hc1, hf1⟩ := hM1.2 (by omega)
              cases e1
              obtain ⟨b2, o2, e2, hp2, _, hc2, hf2⟩ := hM2.2 (by omega)
              cases e2
              have k1 := hc1 j hj
              have k2 := hc2 j hj
              have m1 := hf1 j hj
              have m2 := hf2 j hj
              rw [Nat.zero_add] at k1 k2 m1 m2
              rw [HFi.out j, HGi.out j] at CJ
              have HSt := Lib.hid (fun q => two_set (HM1.out.below (bDrewN (Below.refl w3.heap.size w3) q) (Nat.le_refl _)) (HM2.out.below (bDrewN (Below.refl w3.heap.size w3) q) (Nat.le_refl _)) hne2 hj HLi.out.1 HLi.out.2)
              generalize iat (rat F i) j = x at *
              generalize iat (rat G i) j = y at *
              generalize iat (upto (rat F i) j n) j = x' at *
              generalize iat (upto (rat G i) j n) j = y' at *
              clear hc1 hc2 hf1 hf2 hM1 hM2 hbw
              go_wp2_with (go_at_fn gf; refine CJ.out.mono ?_; rintro e w5 ⟨rfl, q, rfl⟩)
              go_roundg (n - (j + 1))
              case measure => omega
              case rel => exact ⟨j + 1, by omega, by omega, by go_num, (HSt.out _).1, (HSt.out _).2, ((bDrewN HBw.out _).setCell (p := ⟨r1, j, none⟩) hp1 _).setCell (p := ⟨r2, j, none⟩) hp2 _⟩
            · obtain rfl : j = n := by omega
              have N1 := HM1.out
              have N2 := HM2.out
              rw [upto_full HLi.out.1] at N1
              rw [upto_full HLi.out.2] at N2
              have V1 := Lib.hid (N1.rowOk (by omega))
              have V2 := Lib.hid (N2.rowOk (by omega))
              have hRy := HR.out.later hbw
              have k0 := hRy.k0
              have k1 := hRy.k1
              have k2 := hRy.k2
              have OW1 := Lib.hid hRy.o1.own
              have hbase : V.heap.size ≤ w3.heap.size := hRy.o1.le
              have hk1 : (w3.alloc (.cells #[.slice (some ⟨r1, 0, none⟩) j j] 22)).cell? ⟨s7, 1, none⟩ = some (.slice A1 i c1) := (World.cell?_alloc_lt _ _ _ hRy.lt7).trans k1
              have h7w : s7 < w3.heap.size := hRy.lt7
              have HMid := Lib.hid (RR.mid HR.out HBw.out (take_rat (by rw [HLf.out]; exact hlt)) V1.out V2.out hne2)
              have HGt := Lib.hid (take_rat (F := G) (i := i) (by rw [HLg.out]; exact hlt))
              clear N1 N2 hM1 hM2 hbw hRy
              go_wp2_with (first
                | (at_builtin; refine appV w3 V.heap.size A1 i c1 vs1 (some ⟨r1, 0, none⟩) j j rfl _ _ rfl rfl OW1.out rfl (by omega) hbase ?_; intro b c' w4 h1 h2 h3; obtain ⟨hM4, ⟨d1, e1, d2⟩, v4, x1, x2, hb4⟩ := HMid.out w4 b c' h1 h2 h3; have M4 := Lib.hid hM4; have V4 := Lib.hid v4; have X1 := Lib.hid x1; have X2 := Lib.hid x2; clear hM4 v4 x1 x2 h1 h2 h3 OW1 HMid)
                | (at_builtin; refine appVs (w4.setCell ⟨s7, 1, none⟩ (.slice (some ⟨b, 0, none⟩) (i + 1) c')) w4.heap.size (by simp) V.heap.size A2 i c2 vs2 (some ⟨r2, 0, none⟩) j j rfl _ _ rfl rfl M4.out.o2.own rfl (by omega) hb4 ?_; intro b5 c5 w5 h1 h2 h3; obtain ⟨hM5, d3, e3⟩ := M4.out.push2 (t := 22) HGt.out V4.out X1.out X2.out h1 h2 h3; have M5 := Lib.hid hM5; clear hM5 h1 h2 h3))
              go_roundg (j - (i + 1))
              case measure => omega
              case rel => exact ⟨i + 1, _, _, _, _, _, _, by omega, by omega, by go_num, M5.out⟩
      · obtain rfl : i = n := by omega
        have R := HR.out
        obtain ⟨b1, rfl, hb1, _⟩ := own_form R.o1.own (by omega)
        obtain ⟨b2, rfl, hb2, _⟩ := own_form R.o2.own (by omega)
        have hcap1 := own_cap R.o1.own
        have hcap2 := own_cap R.o2.own
        have k0 := R.k0
        have k1 := R.k1
        have k2 := R.k2
        have f0 := R.f0
        have f1 := R.f1
        have f2 := R.f2
        have h7 := R.lt7
        have CL := Lib.hid (fun (b c : Nat) (w : World) (hc : i ≤ c) => clipSS_any b 0 i c w (by omega) hc (by omega))
        clear R
        go_upto_region 23 with fail
        go_cut [] from 71 to 78 (fun wx => wx.cell? ⟨s7, 0, none⟩ = some (.slice (some ⟨g, 0, none⟩) i i) ∧ wx.cell? ⟨s7, 1, none⟩ = some (.slice (some ⟨b1, 0, none⟩) i i) ∧ wx.cell? ⟨s7, 2, none⟩ = some (.slice (some ⟨b2, 0, none⟩) i i) ∧ w1.grownBy wx (some s7))
        case first =>
          go_region_with (go_at_call 109; refine (CL.out _ _ _ (by assumption)).mono ?_; rintro e w' ⟨rfl, rfl⟩)
          all_goals
            go_wp2_with fail
            go_meet
          all_goals exact two_cell k0 k1 k2
        case rest =>
          obtain ⟨c0', c1', c2', hgw⟩ := hcut
          obtain ⟨w2, rfl⟩ : ∃ x, x = wc := ⟨_, rfl⟩
          have HGw := Lib.hid hgw
          have hV0s : V0.heap.size = s2 + 1 := by rw [HV0.out, HS2.out]; simp
          have h27 : s2 < s7 := by have := HS70.out; omega
          have hbox : w2.heap[s2]? = some (.cells #[.slice none 0 0, .slice none 0 0, .slice none 0 0] 62) := by
            rw [hgw.block s2 (by omega) (fun e => by cases e; omega), HR.out.wn.block s2 (by rw [HZV.out]; omega) (.inl h27), HVV.out.block s2 (by omega), HV0.out, HS2.out]
            exact heapN W _
          have q0 : w2.cell? ⟨s2, 0, none⟩ = some (.slice none 0 0) := by simp [World.cell?, hbox]
          have q1 : w2.cell? ⟨s2, 1, none⟩ = some (.slice none 0 0) := by simp [World.cell?, hbox]
          have q2 : w2.cell? ⟨s2, 2, none⟩ = some (.slice none 0 0) := by simp [World.cell?, hbox]
          have p0 : w2.frozen? ⟨s2, 0, none⟩ = false := by simp [World.frozen?, hbox]
          have p1 : w2.frozen? ⟨s2, 1, none⟩ = false := by simp [World.frozen?, hbox]
          have p2 : w2.frozen? ⟨s2, 2, none⟩ = false := by simp [World.frozen?, hbox]
          clear hbox hgw hV0s k0 k1 k2 f0 f1 f2 hcap1 hcap2 CL
          go_wp2_with fail
          refine bodyPost_ret (v := .agg #[.slice (some ⟨g, 0, none⟩) i i, .slice (some ⟨b1, 0, none⟩) i i, .slice (some ⟨b2, 0, none⟩) i i]) ?_ rfl ?_
          · simp only [results, hres.out]
            go_simp
          · have hV0s : V0.heap.size = s2 + 1 := by rw [HV0.out, HS2.out]; simp
            have hWV : W.heap.size ≤ s2 := by rw [HS2.out]; exact Nat.le_refl _
            have hVz := HZV.out
            have hgw := HGw.out
            have hsz : w1.heap.size ≤ (((w2.setCell ⟨s2, 0, none⟩ (.slice (some ⟨g, 0, none⟩) i i)).setCell ⟨s2, 1, none⟩ (.slice (some ⟨b1, 0, none⟩) i i)).setCell ⟨s2, 2, none⟩ (.slice (some ⟨b2, 0, none⟩) i i)).heap.size := by have := hgw.size; simpa using this
            have hkk : ∀ k, V.heap.size ≤ k → k < w1.heap.size → (((w2.setCell ⟨s2, 0, none⟩ (.slice (some ⟨g, 0, none⟩) i i)).setCell ⟨s2, 1, none⟩ (.slice (some ⟨b1, 0, none⟩) i i)).setCell ⟨s2, 2, none⟩ (.slice (some ⟨b2, 0, none⟩) i i)).heap[k]? = w1.heap[k]? := fun k h1 h2 => by
              have hks : k ≠ s2 := by omega
              rw [Below.heap_setCell _ _ _ _ hks, Below.heap_setCell _ _ _ _ hks, Below.heap_setCell _ _ _ _ hks]
              exact hgw.block k h2 (fun e => by cases e; omega)
            have O1 := HR.out.o1
            have O2' := HR.out.o2
            rw [List.take_of_length_le (by rw [HLf.out]; exact Nat.le_refl _)] at O1
            rw [List.take_of_length_le (by rw [HLg.out]; exact Nat.le_refl _)] at O2'
            have bw : Below W.heap.size W w1 := (HB.out.trans (HVV.out.mono (by omega))).trans ((HR.out.wn.below (by omega)).mono (by omega))
            rw [HNn.out, HFf.out, HGg.out]
            exact ⟨b1, vs1, b2, vs2, V.heap.size, rfl, O1.fh2 hsz hkk, O2'.fh2 hsz hkk, fun b h1 h2 => HR.out.dj b h1 h2, by omega, hb1, hb2, (((bw.grown hgw bw.size (fun k e => by cases e; omega)).setCell (p := ⟨s2, 0, none⟩) hWV _).setCell (p := ⟨s2, 1, none⟩) hWV _).setCell (p := ⟨s2, 2, none⟩) hWV _⟩

end Go.Proofs.Ytblaaeanbhgokaa
