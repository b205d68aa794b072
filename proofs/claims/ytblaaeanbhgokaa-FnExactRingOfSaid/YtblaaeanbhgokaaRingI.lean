/-
  RingI. By a program (wip/tools/mk.py) out of snippets.
-/
import Derived.Test.YtblaaeanbhgokaaRingB
import Derived.Test.YtblaaeanbhgokaaMarks1
import Derived.Deep.DeepCutAuto
import Derived.Deep.CutBlock
namespace Go.Proofs.Ytblaaeanbhgokaa
open Go.RowKit

def RingIPost (w : World) (n : Nat) (zs : List Int) (e : Ending) (w' : World) : Prop :=
  if ringOk n zs then ∃ (b : Nat) (vs : List Value) (L c1 : Nat) (A2 : Option Addr) (c2 : Nat), e = .returned (.tuple #[.agg #[.slice (some ⟨b, 0, none⟩) n c1, .slice A2 n c2], .bool true]) ∧ FH w' L w'.heap.size b n vs (ringR n) ∧ NewI w' w.heap.size A2 n zs ∧ (∀ M o, A2 = some ⟨M, o, none⟩ → M < L ∧ M ≠ b) ∧ w.heap.size ≤ L ∧ w.heap.size ≤ b ∧ Below w.heap.size w w'
  else e = .returned (.tuple #[.agg #[.slice none 0 0, .slice none 0 0], .bool false]) ∧ Below w.heap.size w w'
set_option maxRecDepth 20000 in
set_option maxHeartbeats 6400000 in
theorem implRingOf_any (A : Option Addr) (n c : Nat) (zs : List Int) (w : World) (hn : n ≤ 2000000) (ha : SI w A n zs) :
    Calls Try.prog 27 #[.slice A n c] w (RingIPost w n zs) := by
  obtain ⟨W, hW⟩ : ∃ W, W = w.alloc (.cells #[.slice none 0 0, .slice none 0 0] 37) := ⟨_, rfl⟩
  obtain ⟨s2, hs2⟩ : ∃ s, s = w.heap.size := ⟨_, rfl⟩
  have hB : Below w.heap.size w W := by rw [hW]; exact (Below.refl _ _).alloc (Nat.le_refl _) _
  have q0 : W.cell? ⟨s2, 0, none⟩ = some (.slice none 0 0) := by rw [hW, hs2]; simp
  have q1 : W.cell? ⟨s2, 1, none⟩ = some (.slice none 0 0) := by rw [hW, hs2]; simp
  have p0 : W.frozen? ⟨s2, 0, none⟩ = false := by rw [hW, hs2]; go_simp
  have p1 : W.frozen? ⟨s2, 1, none⟩ = false := by rw [hW, hs2]; go_simp
  have hlt : W.heap.size = s2 + 1 := by rw [hW, hs2]; simp
  have HS := Lib.hid (ha.below hB (Nat.le_refl _))
  have HB := Lib.hid hB
  have HZ := Lib.hid hlt
  have HS2 := Lib.hid hs2
  have hres := Lib.hid (show Try.f27.results = #[.cell 2 37, .tmp 3] by kernel_rfl)
  have CR := Lib.hid (within_any n 3 6 W)
  have CM := Lib.hid (marksOk_any A n c zs W hn HS.out)
  cases hok : ringOk n zs with
  | false =>
    have HOK := Lib.hid hok
    have hsl : w.heap.size ≤ s2 := by rw [hs2]; exact Nat.le_refl _
    clear ha hB hlt
    cases hr : inR n 3 6 with
    | false =>
      rw [hr] at CR
      clear hr hok
      go_enter Try.func27, Try.ntmps27
      go_wp2_with fail
      rw [← hW, ← hs2]
      clear hW hs2
      refine CR.out.mono ?_
      rintro e w' ⟨rfl, rfl⟩
      go_wp2_with fail
      refine bodyPost_ret (v := .tuple #[.agg #[.slice none 0 0, .slice none 0 0], .bool false]) ?_ rfl (show RingIPost w n zs _ _ from ?_)
      · simp only [results, hres.out]
        go_simp
      · unfold RingIPost
        rw [HOK.out]
        exact ⟨rfl, (HB.out.setCell (p := ⟨s2, 0, none⟩) hsl _).setCell (p := ⟨s2, 1, none⟩) hsl _⟩
    | true =>
      have hal : zs.all (fun z => inR z 0 20) = false := by unfold ringOk at hok; rw [hr] at hok; simpa using hok
      rw [hr] at CR
      rw [hal] at CM
      clear hr hok hal
      go_enter Try.func27, Try.ntmps27
      go_wp2_with fail
      rw [← hW, ← hs2]
      clear hW hs2
      refine CR.out.mono ?_
      rintro e w' ⟨rfl, rfl⟩
      go_wp2_with fail
      refine CM.out.mono ?_
      rintro e w' ⟨rfl, rfl⟩
      go_wp2_with fail
      refine bodyPost_ret (v := .tuple #[.agg #[.slice none 0 0, .slice none 0 0], .bool false]) ?_ rfl (show RingIPost w n zs _ _ from ?_)
      · simp only [results, hres.out]
        go_simp
      · unfold RingIPost
        rw [HOK.out]
        exact ⟨rfl, (HB.out.setCell (p := ⟨s2, 0, none⟩) hsl _).setCell (p := ⟨s2, 1, none⟩) hsl _⟩
  | true =>
    have HOK := Lib.hid hok
    have hr : inR n 3 6 = true := by unfold ringOk at hok; simp only [Bool.and_eq_true] at hok; exact hok.1
    have hal : zs.all (fun z => inR z 0 20) = true := by unfold ringOk at hok; simp only [Bool.and_eq_true] at hok; exact hok.2
    have h36 : 3 ≤ n ∧ n ≤ 6 := by have := inR_iff.1 hr; omega
    obtain ⟨h3, h6⟩ := h36
    rw [hr] at CR
    rw [hal] at CM
    have Q0 := Lib.hid q0
    have Q1 := Lib.hid q1
    have P0 := Lib.hid p0
    have P1 := Lib.hid p1
    obtain ⟨i0, hi, hz0, hz1, hz2⟩ := info_parts info22
    obtain ⟨cs, hcs, hmk⟩ : ∃ cs : Array Value, cs.size = n * 1 ∧ ∀ W : World, (Instr.makeSlice 35 (.int .i64 0) (.int .i64 (n : Int))).run Try.prog W = .ok (.slice (some ⟨W.heap.size, 0, none⟩) 0 n) (W.alloc (.cells cs 22)) := by
      refine ⟨madeCells (Value.slice none 0 0).cells (n * i0.size), ?_, fun W => ?_⟩
      rotate_left
      · have := run_make (P := Try.prog) W 35 22 i0 (.slice none 0 0) Try.underlying35 hi hz0 .i64 .i64 0 n (Int.le_refl _) (by omega) (by rw [hz2]; omega) (by omega)
        simp only [Int.toNat_zero, Int.toNat_natCast] at this
        exact this
      · rw [size_madeCells, hz1]
    have HCS := Lib.hid hcs
    clear hr hal hok ha hB hlt q0 q1 p0 p1 hcs
    go_enter Try.func27, Try.ntmps27
    go_wp2_with fail
    rw [← hW, ← hs2]
    clear hW hs2
    refine CR.out.mono ?_
    rintro e w' ⟨rfl, rfl⟩
    go_wp2_with fail
    refine CM.out.mono ?_
    rintro e w' ⟨rfl, rfl⟩
    go_upto_region 4 with fail
    go_cut [5] from 18 to 23 (fun v5 wx => ∃ (s5 L h : Nat) (A2 : Option Addr) (c2 : Nat), v5 = .pointer (some ⟨s5, 0, none⟩) ∧ RG w W s2 s5 (s2 + 1) L A2 n c2 zs wx (some ⟨h, 0, none⟩) 0 n [] [])
    case first =>
      have bA := bDrewN (Below.refl W.heap.size W) 1
      have bB := fun o => (bDrewN (Below.refl W.heap.size W) 1).alloc (Nat.le_refl _) o
      have bC := fun o o' => ((bDrewN (Below.refl W.heap.size W) 1).alloc (Nat.le_refl _) o).alloc (by simp) o'
      have HA := Lib.hid bA
      have HB1 := Lib.hid bB
      have HC1 := Lib.hid bC
      clear bA bB bC
      go_region_law (first
        | (go_simp; go_at_call 54; refine (clone_any A n c zs _ (by omega) hn (HS.out.below (by first | exact HA.out | exact HB1.out _ | exact HC1.out _ _) (Nat.le_refl _))).mono ?_; rintro e w3 ⟨A3, c3, rfl, hc3, hN3, b3⟩; obtain ⟨b9, o9, rfl, _⟩ := hN3.2 (by omega); have HN3 := Lib.hid hN3; have B3 := Lib.hid b3; first | (obtain ⟨t0, t1, u0, u1⟩ := boxC (k := W.heap.size) b3 rfl; clear hN3 b3) | (obtain ⟨t0, t1, u0, u1⟩ := boxB (k := W.heap.size) b3 rfl; clear hN3 b3) | (obtain ⟨t0, t1, u0, u1⟩ := boxA (k := W.heap.size) b3 rfl; have z3 : W.heap.size < w3.heap.size := (by have h9 := b3.size; rw [show (W.alloc (.cells #[.slice none 0 0, .slice none 0 0] 37)).drew.heap.size = (W.alloc (.cells #[.slice none 0 0, .slice none 0 0] 37)).heap.size from rfl, World.size_alloc] at h9; omega); clear hN3 b3) | clear hN3 b3)
        | (go_simp; go_at_call 55; refine (clip_any b9 o9 n c3 _ (by omega) hc3 (by omega)).mono ?_; rintro e w' ⟨rfl, rfl⟩))
      all_goals
        go_wp2_with fail
        go_meet
        first
          | exact RG1 HZ.out (by rw [HS2.out]; exact Nat.le_refl _) HB.out HCS.out h6 (by omega) HN3.out B3.out
          | exact RG2 HZ.out (by rw [HS2.out]; exact Nat.le_refl _) HB.out HCS.out h6 (by omega) HN3.out B3.out
          | exact RG3 HZ.out (by rw [HS2.out]; exact Nat.le_refl _) HB.out HCS.out h6 (by omega) HN3.out B3.out
          | exact RG4 HZ.out (by rw [HS2.out]; exact Nat.le_refl _) HB.out HCS.out h6 (by omega) HN3.out B3.out
          | exact RG5 HZ.out (by rw [HS2.out]; exact Nat.le_refl _) HB.out HCS.out h6 (by omega) HN3.out B3.out
          | exact RG6 HZ.out (by rw [HS2.out]; exact Nat.le_refl _) HB.out HCS.out h6 (by omega) HN3.out B3.out
    case rest =>
      obtain ⟨s5, L, h, A2, c2, rfl, hG0⟩ := hcut
      have HG0 := Lib.hid hG0
      clear hG0 hmk HCS CR CM HS
      go_wp2_with fail
      go_loopg [25] n (fun gg s25 wr => ∃ (i : Nat) (A : Option Addr) (c : Nat) (vs : List Value), i ≤ n ∧ n - i ≤ gg ∧ s25 = .int .i64 i ∧ RG w W s2 s5 (s2 + 1) L A2 n c2 zs wr A i c vs ((List.range i).map (ringRow n)))
      case atStart => exact ⟨0, _, n, [], by omega, by omega, rfl, HG0.out⟩
      case round =>
        clear HG0
        obtain ⟨i, A, c, vs, hin, hg, rfl, hG⟩ := hrel
        have HG := Lib.hid hG
        have hwi : IntKind.i64.wrap ((i : Int) + 1) = (i : Int) + 1 := by rw [IntKind.wrap_i64]; omega
        by_cases hlt : i < n
        · obtain ⟨x, hx⟩ : ∃ x, x = (i + n - 1) % n := ⟨_, rfl⟩
          obtain ⟨y, hy⟩ : ∃ y, y = (i + 1) % n := ⟨_, rfl⟩
          have HRow := Lib.hid (show (List.range (i + 1)).map (ringRow n) = (List.range i).map (ringRow n) ++ [[(x : Int), (y : Int)]] by rw [ringR_succ, hx, hy]; rfl)
          have hn0 : ((n : Int) == 0) = false := by simp; omega
          have hn0' : ¬ (n = 0) := by omega
          have hw1 : IntKind.i64.wrap ((i : Int) + n) = (i : Int) + n := by rw [IntKind.wrap_i64]; omega
          have hw2 : IntKind.i64.wrap ((i : Int) + n - 1) = (i : Int) + n - 1 := by rw [IntKind.wrap_i64]; omega
          have hm1 : ((i : Int) + n - 1).tmod n = (x : Int) := by
            rw [hx, show (i : Int) + n - 1 = ((i + n - 1 : Nat) : Int) by omega]
            exact (Int.ofNat_tmod _ _).symm
          have hm2 : ((i : Int) + 1).tmod n = (y : Int) := by
            rw [hy, show (i : Int) + 1 = ((i + 1 : Nat) : Int) by omega]
            exact (Int.ofNat_tmod _ _).symm
          have hx6 : x < n := by rw [hx]; exact Nat.mod_lt _ (by omega)
          have hy6 : y < n := by rw [hy]; exact Nat.mod_lt _ (by omega)
          have hwx : IntKind.i64.wrap (x : Int) = (x : Int) := by rw [IntKind.wrap_i64]; omega
          have hwy : IntKind.i64.wrap (y : Int) = (y : Int) := by rw [IntKind.wrap_i64]; omega
          clear hx hy
          have k0 := hG.c0
          have GD := Lib.hid (hG.later (bDrewN (Below.refl wr.heap.size wr) 1))
          have hA1 : Below wr.heap.size wr (wr.alloc (.cells #[.int .i64 x, .int .i64 y] 3)) := (Below.refl _ _).alloc (Nat.le_refl _) _
          have hA2 : Below wr.heap.size wr ((wr.alloc (.cells #[.int .i64 x, .int .i64 y] 3)).alloc (.cells #[.slice (some ⟨wr.heap.size, 0, none⟩) 2 2] 22)) := hA1.alloc (by simp) _
          have k1 := (hG.later hA1).c0
          have k2 := (hG.later hA2).c0
          have hlt5 := hG.lt
          have htl := hG.tl
          clear hA1 hA2 hG
          go_wp2_with fail
          go_region_law (refine step_append_lies _ rfl _ _ 35 rfl (s2 + 1) 22 i0 (.slice none 0 0) 1 24 Try.underlying35 hi hz0 hz1 hz2 rfl (by decide) _ i _ rfl (keptN GD.out.ov.own (((Below.refl _ _).alloc (Nat.le_refl _) (.cells #[.int .i64 x, .int .i64 y] 3)).alloc (by simp) (.cells #[.slice (some ⟨wr.heap.size, 0, none⟩) 2 2] 22))) ⟨wr.heap.size + 1, 0, none⟩ 1 1 [.slice (some ⟨wr.heap.size, 0, none⟩) 2 2] rfl rfl (World.news_of_block (cs := #[.slice (some ⟨wr.heap.size, 0, none⟩) 2 2]) (t := 22) (fr := (0, 0)) (by have h := heapNew (wr.alloc (.cells #[.int .i64 x, .int .i64 y] 3)) (.cells #[.slice (some ⟨wr.heap.size, 0, none⟩) 2 2] 22); rw [World.size_alloc] at h; exact h)) (by intro u hu; simp at hu; subst hu; rfl) (by omega) (by unfold maxLen; omega) (by omega) (by simp; omega) (wr.heap.size + 1 + 1) (by simp) ?_; intro g c' w4 h1 h2 h3 h4; obtain ⟨hG7, hf7, u7, hu7⟩ := GD.out.push (x := x) (y := y) (t := 22) h1 h2 h3; have G7 := Lib.hid hG7; clear hG7 h1 h2 h3 h4)
          all_goals
            go_wp2_with fail
            go_roundg (n - (i + 1))
            case measure => omega
            case rel => exact ⟨i + 1, _, _, _, by omega, by omega, by go_num, by rw [HRow.out]; exact G7.out⟩
        · obtain rfl : i = n := by omega
          obtain ⟨b, rfl, hb1, _⟩ := own_form hG.ov.own (by omega)
          have t0 := (World.cell?_of_block (a := ⟨s2, 0, none⟩) hG.tb).trans Q0.out
          have t1 := (World.cell?_of_block (a := ⟨s2, 1, none⟩) hG.tb).trans Q1.out
          have u0 := (World.frozen?_of_block (a := ⟨s2, 0, none⟩) hG.tb).trans P0.out
          have u1 := (World.frozen?_of_block (a := ⟨s2, 1, none⟩) hG.tb).trans P1.out
          have c0 := hG.c0
          have c1 := hG.c1
          have hsl : w.heap.size ≤ s2 := by rw [HS2.out]; exact Nat.le_refl _
          clear hG hwi
          go_wp2_with fail
          refine bodyPost_ret (v := .tuple #[.agg #[.slice (some ⟨b, 0, none⟩) i c, .slice A2 i c2], .bool true]) ?_ rfl (show RingIPost w i zs _ _ from ?_)
          · simp only [results, hres.out]
            go_simp
          · unfold RingIPost
            rw [HOK.out]
            have G := HG.out
            have htl := G.tl
            have hb : ∀ g, (Value.slice (some ⟨b, 0, none⟩) i c).ownBlock = some g → g ≠ s2 := fun g e => by have := (World.ownsRow.lt G.ov.own g e).1; omega
            have hl5 : s2 < L := by omega
            exact ⟨b, vs, L, c, A2, c2, rfl, ((G.ov.set (p := ⟨s2, 0, none⟩) hl5 hb _).set (p := ⟨s2, 1, none⟩) hl5 hb _).fh, ((G.nw.lowN (Nat.lt_succ_self s2)).lowN (Nat.lt_succ_self s2)).mono (by omega), fun M o e => ⟨(G.mb M o e).1.1, fun e2 => (G.mb M o e).2 (by rw [e2]; rfl)⟩, by omega, by omega, (G.bl.setCell (p := ⟨s2, 0, none⟩) hsl _).setCell (p := ⟨s2, 1, none⟩) hsl _⟩

end Go.Proofs.Ytblaaeanbhgokaa
