/-
  RingS. By a program (wip/tools/mk.py) out of snippets.
-/
import Derived.Test.YtblaaeanbhgokaaRingG
import Derived.Test.YtblaaeanbhgokaaFn1
import Derived.Test.YtblaaeanbhgokaaFn2
import Derived.Deep.AppendLies
import Derived.Deep.RegionLaw
namespace Go.Proofs.Ytblaaeanbhgokaa
open Go.RowKit

theorem keptN {w w' : World} {base e size n : Nat} {v : Value} {xs : List Value} (h : w.ownsRow base e size v n xs) (hb : Below w.heap.size w w') : w'.ownsRow base e size v n xs :=
  h.kept (row := none) ⟨hb.os, hb.tape, hb.output, hb.size, fun i hi _ => hb.block i hi⟩ (by cases hv : v.ownBlock with
    | none => exact .inl rfl
    | some k => exact .inr (by simp))
theorem heapNew (w : World) (o : Obj) : (w.alloc o).heap[w.heap.size]? = some o := by
  show (w.heap.push o)[w.heap.size]? = some o
  simp
/-- What RingOf answers with. -/
def RingPost (w : World) (n : Nat) (zs : List Int) (e : Ending) (w' : World) : Prop :=
  if ringOk n zs then ∃ (A1 : Option Addr) (c1 : Nat) (A2 : Option Addr) (c2 : Nat), e = .returned (.tuple #[.agg #[.slice A1 n c1, .slice A2 n c2], .bool true]) ∧ SS w' A1 n (ringR n) ∧ SI w' A2 n zs ∧ Below w.heap.size w w'
  else e = .returned (.tuple #[.agg #[.slice none 0 0, .slice none 0 0], .bool false]) ∧ Below w.heap.size w w'
set_option maxRecDepth 20000 in
set_option maxHeartbeats 6400000 in
theorem specRingOf_any (A : Option Addr) (n c : Nat) (zs : List Int) (w : World) (hn : n ≤ 2000000) (ha : SI w A n zs) :
    Calls Try.prog 26 #[.slice A n c] w (RingPost w n zs) := by
  obtain ⟨W, hW⟩ : ∃ W, W = w.alloc (.cells #[.slice none 0 0, .slice none 0 0] 37) := ⟨_, rfl⟩
  obtain ⟨s2, hs2⟩ : ∃ s, s = w.heap.size := ⟨_, rfl⟩
  have hB : Below w.heap.size w W := by rw [hW]; exact (Below.refl _ _).alloc (Nat.le_refl _) _
  have q0 : W.cell? ⟨s2, 0, none⟩ = some (.slice none 0 0) := by rw [hW, hs2]; simp
  have q1 : W.cell? ⟨s2, 1, none⟩ = some (.slice none 0 0) := by rw [hW, hs2]; simp
  have p0 : W.frozen? ⟨s2, 0, none⟩ = false := by rw [hW, hs2]; go_simp
  have p1 : W.frozen? ⟨s2, 1, none⟩ = false := by rw [hW, hs2]; go_simp
  have hlt : W.heap.size = s2 + 1 := by rw [hW, hs2]; simp
  have HS := Lib.hid (ha.below hB (Nat.le_refl _))
  have HB := Lib.hid hB
  have HZ := Lib.hid hlt
  have HS2 := Lib.hid hs2
  have hres := Lib.hid (show Try.f26.results = #[.cell 2 37, .tmp 3] by kernel_rfl)
  have CR := Lib.hid (inRange_any n 3 6 W)
  cases hr : inR n 3 6 with
  | false =>
    have hok : ringOk n zs = false := by unfold ringOk; rw [hr]; rfl
    rw [hr] at CR
    have HOK := Lib.hid hok
    clear hok hr ha hB hlt
    go_enter Try.func26, Try.ntmps26
    go_wp2_with fail
    rw [← hW, ← hs2]
    clear hW hs2
    refine CR.out.mono ?_
    rintro e w' ⟨rfl, rfl⟩
    go_wp2_with fail
    refine bodyPost_ret (v := .tuple #[.agg #[.slice none 0 0, .slice none 0 0], .bool false]) ?_ rfl (show RingPost w n zs _ _ from ?_)
    · simp only [results, hres.out]
      go_simp
    · unfold RingPost
      rw [HOK.out]
      have hsl : w.heap.size ≤ s2 := by rw [HS2.out]; exact Nat.le_refl _
      exact ⟨rfl, (HB.out.setCell (p := ⟨s2, 0, none⟩) hsl _).setCell (p := ⟨s2, 1, none⟩) hsl _⟩
  | true =>
    have h36 : 3 ≤ n ∧ n ≤ 6 := by have := inR_iff.1 hr; omega
    rw [hr] at CR
    have HR := Lib.hid hr
    obtain ⟨h3, h6⟩ := h36
    have Q0 := Lib.hid q0
    have Q1 := Lib.hid q1
    have P0 := Lib.hid p0
    have P1 := Lib.hid p1
    have HO := Lib.hid (own_empty W W.heap.size (Nat.le_refl _))
    have HSa := Lib.hid (HS.out.alloc (.cells #[] 3))
    clear hr ha hB hlt q0 q1 p0 p1
    go_enter Try.func26, Try.ntmps26
    go_wp2_with fail
    rw [← hW, ← hs2]
    clear hW hs2
    refine CR.out.mono ?_
    rintro e w' ⟨rfl, rfl⟩
    go_wp2_with (at_builtin; refine appAll _ W.heap.size _ 0 0 [] _ n _ zs rfl _ _ rfl rfl HO.out rfl HSa.out (by omega) (by simp) ?_; intro A2 c2 w2 ho2 hb2 hg2)
    simp only [Nat.zero_add, List.nil_append] at ho2
    obtain ⟨s5, hs5⟩ : ∃ s, s = w2.heap.size := ⟨_, rfl⟩
    obtain ⟨W5, hW5⟩ : ∃ X, X = w2.alloc (.cells #[.slice none 0 0, .slice A2 n c2] 37) := ⟨_, rfl⟩
    have b1 : Below W.heap.size W w2 := ((Below.refl _ _).alloc (Nat.le_refl _) (.cells #[] 3)).trans hb2
    have b5 : Below w2.heap.size w2 W5 := by rw [hW5]; exact (Below.refl _ _).alloc (Nat.le_refl _) _
    have hs25 : s2 < s5 := by have := b1.size; have := HZ.out; omega
    have hsz5 : W5.heap.size = s5 + 1 := by rw [hW5, hs5]; simp
    have G0 : RG w W s2 s5 (s5 + 1) (s5 + 1) A2 n c2 zs W5 none 0 0 [] [] := by
      refine ⟨by rw [hW5, hs5]; simp, by rw [hW5, hs5]; simp, by rw [hW5, hs5]; go_simp, by rw [hW5, hs5]; go_simp, O2.nil _ _ _ (Nat.le_refl _) (by omega), fun b e => (by cases e), ((NewI.of_own ho2).mono (by rw [HZ.out]; exact Nat.le_refl _)).below b5 (Nat.le_refl _), fun b o e => ⟨(?_ : b < s5 + 1 ∧ b ≠ s5), by simp [Value.ownBlock]⟩, ?_, ⟨by omega, Nat.le_refl _, hs25, Nat.lt_succ_self _⟩, by rw [HS2.out]; exact Nat.le_refl _, (HB.out.trans (b1.mono HB.out.size)).trans (b5.mono ?_)⟩
      · subst e
        have := World.ownsRow.lt ho2 b rfl
        omega
      · rw [b5.block s2 (by omega), b1.block s2 (by have := HZ.out; omega)]
      · have := b1.size; have := HB.out.size; omega
    have HG0 := Lib.hid G0
    have c0 := G0.c0
    have c1 := G0.c1
    rw [← hW5, ← hs5]
    clear hW5 hs5 b1 b5 G0 ho2 hb2 hg2 HO HSa hsz5
    obtain ⟨i0, hi, hz0, hz1, hz2⟩ := info_parts info22
    go_loopg [6] n (fun gg s6 wr => ∃ (i : Nat) (A : Option Addr) (c : Nat) (vs : List Value), i ≤ n ∧ n - i ≤ gg ∧ s6 = .int .i64 i ∧ RG w W s2 s5 (s5 + 1) (s5 + 1) A2 n c2 zs wr A i c vs ((List.range i).map (ringRow n)))
    case atStart => exact ⟨0, none, 0, [], by omega, by omega, rfl, HG0.out⟩
    case round =>
      clear HG0 c0 c1
      obtain ⟨i, A, c, vs, hin, hg, rfl, hG⟩ := hrel
      have HG := Lib.hid hG
      have hwi : IntKind.i64.wrap ((i : Int) + 1) = (i : Int) + 1 := by rw [IntKind.wrap_i64]; omega
      by_cases hlt : i < n
      · obtain ⟨x, hx⟩ : ∃ x, x = (i + n - 1) % n := ⟨_, rfl⟩
        obtain ⟨y, hy⟩ : ∃ y, y = (i + 1) % n := ⟨_, rfl⟩
        have HRow := Lib.hid (show (List.range (i + 1)).map (ringRow n) = (List.range i).map (ringRow n) ++ [[(x : Int), (y : Int)]] by rw [ringR_succ, hx, hy]; rfl)
        have hn0 : ((n : Int) == 0) = false := by simp; omega
        have hn0' : ¬ (n = 0) := by omega
        have hw1 : IntKind.i64.wrap ((i : Int) + n) = (i : Int) + n := by rw [IntKind.wrap_i64]; omega
        have hw2 : IntKind.i64.wrap ((i : Int) + n - 1) = (i : Int) + n - 1 := by rw [IntKind.wrap_i64]; omega
        have hm1 : ((i : Int) + n - 1).tmod n = (x : Int) := by
          rw [hx, show (i : Int) + n - 1 = ((i + n - 1 : Nat) : Int) by omega]
          exact (Int.ofNat_tmod _ _).symm
        have hm2 : ((i : Int) + 1).tmod n = (y : Int) := by
          rw [hy, show (i : Int) + 1 = ((i + 1 : Nat) : Int) by omega]
          exact (Int.ofNat_tmod _ _).symm
        have hx6 : x < n := by rw [hx]; exact Nat.mod_lt _ (by omega)
        have hy6 : y < n := by rw [hy]; exact Nat.mod_lt _ (by omega)
        have hwx : IntKind.i64.wrap (x : Int) = (x : Int) := by rw [IntKind.wrap_i64]; omega
        have hwy : IntKind.i64.wrap (y : Int) = (y : Int) := by rw [IntKind.wrap_i64]; omega
        clear hx hy
        have k0 := hG.c0
        have GD := Lib.hid (hG.later (bDrewN (Below.refl wr.heap.size wr) 1))
        have hA1 : Below wr.heap.size wr (wr.alloc (.cells #[.int .i64 x, .int .i64 y] 3)) := (Below.refl _ _).alloc (Nat.le_refl _) _
        have hA2 : Below wr.heap.size wr ((wr.alloc (.cells #[.int .i64 x, .int .i64 y] 3)).alloc (.cells #[.slice (some ⟨wr.heap.size, 0, none⟩) 2 2] 22)) := hA1.alloc (by simp) _
        have k1 := (hG.later hA1).c0
        have k2 := (hG.later hA2).c0
        have hlt5 := hG.lt
        clear hA1 hA2 hG
        go_wp2_with fail
        go_region_law (refine step_append_lies _ rfl _ _ 35 rfl (s5 + 1) 22 i0 (.slice none 0 0) 1 24 Try.underlying35 hi hz0 hz1 hz2 rfl (by decide) _ i _ rfl (keptN GD.out.ov.own (((Below.refl _ _).alloc (Nat.le_refl _) (.cells #[.int .i64 x, .int .i64 y] 3)).alloc (by simp) (.cells #[.slice (some ⟨wr.heap.size, 0, none⟩) 2 2] 22))) ⟨wr.heap.size + 1, 0, none⟩ 1 1 [.slice (some ⟨wr.heap.size, 0, none⟩) 2 2] rfl rfl (World.news_of_block (cs := #[.slice (some ⟨wr.heap.size, 0, none⟩) 2 2]) (t := 22) (fr := (0, 0)) (by have h := heapNew (wr.alloc (.cells #[.int .i64 x, .int .i64 y] 3)) (.cells #[.slice (some ⟨wr.heap.size, 0, none⟩) 2 2] 22); rw [World.size_alloc] at h; exact h)) (by intro u hu; simp at hu; subst hu; rfl) (by omega) (by unfold maxLen; omega) (by omega) (by simp; omega) (wr.heap.size + 1 + 1) (by simp) ?_; intro g c' w4 h1 h2 h3 h4; obtain ⟨hG7, hf7, u7, hu7⟩ := GD.out.push (x := x) (y := y) (t := 22) h1 h2 h3; have G7 := Lib.hid hG7; clear hG7 h1 h2 h3 h4)
        all_goals
          go_wp2_with fail
          go_roundg (n - (i + 1))
          case measure => omega
          case rel => exact ⟨i + 1, _, _, _, by omega, by omega, by go_num, by rw [HRow.out]; exact G7.out⟩
      · obtain rfl : i = n := by omega
        obtain ⟨b, rfl, _, _⟩ := own_form hG.ov.own (by omega)
        have hss : SS wr (some ⟨b, 0, none⟩) i (ringR i) := hG.ov.fh.ss
        have CV := Lib.hid (validNet_any i c c2 (some ⟨b, 0, none⟩) A2 (ringR i) zs wr (ring_rn h3 h6) hss hG.nw.si)
        have c0 := hG.c0
        have c1 := hG.c1
        have hok : ringOk i zs = zs.all (fun z => inR z 0 20) := by unfold ringOk; rw [HR.out]; rfl
        have HOK := Lib.hid hok
        have hsl : w.heap.size ≤ s2 := by rw [HS2.out]; exact Nat.le_refl _
        have HSS := Lib.hid hss
        clear hok hG hss hwi
        cases hall : zs.all (fun z => inR z 0 20) with
        | false =>
          rw [hall] at CV HOK
          clear hall
          go_wp2_with fail
          refine CV.out.mono ?_
          rintro e w6 ⟨rfl, b6⟩
          have G6 := Lib.hid (HG.out.later b6)
          have t0 := (World.cell?_of_block (a := ⟨s2, 0, none⟩) G6.out.tb).trans Q0.out
          have t1 := (World.cell?_of_block (a := ⟨s2, 1, none⟩) G6.out.tb).trans Q1.out
          have u0 := (World.frozen?_of_block (a := ⟨s2, 0, none⟩) G6.out.tb).trans P0.out
          have u1 := (World.frozen?_of_block (a := ⟨s2, 1, none⟩) G6.out.tb).trans P1.out
          clear b6
          go_wp2_with fail
          refine bodyPost_ret (v := .tuple #[.agg #[.slice none 0 0, .slice none 0 0], .bool false]) ?_ rfl (show RingPost w i zs _ _ from ?_)
          · simp only [results, hres.out]
            go_simp
          · unfold RingPost
            rw [HOK.out]
            exact ⟨rfl, (G6.out.bl.setCell (p := ⟨s2, 0, none⟩) hsl _).setCell (p := ⟨s2, 1, none⟩) hsl _⟩
        | true =>
          rw [hall] at CV HOK
          clear hall
          go_wp2_with fail
          refine CV.out.mono ?_
          rintro e w6 ⟨rfl, b6⟩
          have G6 := Lib.hid (HG.out.later b6)
          have t0 := (World.cell?_of_block (a := ⟨s2, 0, none⟩) G6.out.tb).trans Q0.out
          have t1 := (World.cell?_of_block (a := ⟨s2, 1, none⟩) G6.out.tb).trans Q1.out
          have u0 := (World.frozen?_of_block (a := ⟨s2, 0, none⟩) G6.out.tb).trans P0.out
          have u1 := (World.frozen?_of_block (a := ⟨s2, 1, none⟩) G6.out.tb).trans P1.out
          clear b6 c0 c1
          have c0 := G6.out.c0
          have c1 := G6.out.c1
          go_wp2_with fail
          refine bodyPost_ret (v := .tuple #[.agg #[.slice (some ⟨b, 0, none⟩) i c, .slice A2 i c2], .bool true]) ?_ rfl (show RingPost w i zs _ _ from ?_)
          · simp only [results, hres.out]
            go_simp
          · unfold RingPost
            rw [HOK.out]
            have G := G6.out
            have hb : ∀ g, (Value.slice (some ⟨b, 0, none⟩) i c).ownBlock = some g → g ≠ s2 := fun g e => by have := (World.ownsRow.lt G.ov.own g e).1; have := G.tl; omega
            have hl5 : s2 < s5 + 1 := by have := G.tl; omega
            exact ⟨_, _, _, _, rfl, ((G.ov.set (p := ⟨s2, 0, none⟩) hl5 hb _).set (p := ⟨s2, 1, none⟩) hl5 hb _).fh.ss, ((G.nw.lowN (Nat.lt_succ_self s2)).lowN (Nat.lt_succ_self s2)).si, (G.bl.setCell (p := ⟨s2, 0, none⟩) hsl _).setCell (p := ⟨s2, 1, none⟩) hsl _⟩

end Go.Proofs.Ytblaaeanbhgokaa
