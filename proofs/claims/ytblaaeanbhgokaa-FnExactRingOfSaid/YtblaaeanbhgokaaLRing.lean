/-
  LRing. By a program (wip/tools/mk.py) out of snippets.
-/
import Derived.Test.YtblaaeanbhgokaaRingL
namespace Go.Proofs.Ytblaaeanbhgokaa
open Go.RowKit

theorem specRing2 (A : Option Addr) (n c : Nat) (zs : List Int) (w : World) (hn : n ≤ 2000000) (ha : SI w A n zs) :
    Calls Try.prog 26 #[.slice A n c] w fun e w' => ∃ (A1 : Option Addr) (c1 : Nat) (A2 : Option Addr) (c2 : Nat), e = .returned (.tuple #[.agg #[.slice A1 (if ringOk n zs then n else 0) c1, .slice A2 (if ringOk n zs then n else 0) c2], .bool (ringOk n zs)]) ∧ SS w' A1 (if ringOk n zs then n else 0) (if ringOk n zs then ringR n else []) ∧ SI w' A2 (if ringOk n zs then n else 0) (if ringOk n zs then zs else []) ∧ Below w.heap.size w w' := by
  refine (specRingOf_any A n c zs w hn ha).mono ?_
  intro e w' h
  unfold RingPost at h
  cases hok : ringOk n zs with
  | true =>
    rw [hok, if_pos rfl] at h
    simpa using h
  | false =>
    rw [hok, if_neg (by simp)] at h
    obtain ⟨rfl, hb⟩ := h
    exact ⟨none, 0, none, 0, rfl, ⟨rfl, fun h => absurd h (by simp)⟩, ⟨rfl, fun h => absurd h (by simp)⟩, hb⟩
theorem implRing2 (A : Option Addr) (n c : Nat) (zs : List Int) (w : World) (hn : n ≤ 2000000) (ha : SI w A n zs) :
    Calls Try.prog 27 #[.slice A n c] w fun e w' => ∃ (A1 : Option Addr) (c1 : Nat) (A2 : Option Addr) (c2 : Nat), e = .returned (.tuple #[.agg #[.slice A1 (if ringOk n zs then n else 0) c1, .slice A2 (if ringOk n zs then n else 0) c2], .bool (ringOk n zs)]) ∧ GN w' w.heap.size w'.heap.size A1 (if ringOk n zs then n else 0) A2 (if ringOk n zs then ringR n else []) (if ringOk n zs then zs else []) ∧ Below w.heap.size w w' := by
  refine (implRingOf_any A n c zs w hn ha).mono ?_
  intro e w' h
  unfold RingIPost at h
  cases hok : ringOk n zs with
  | true =>
    rw [hok, if_pos rfl] at h
    obtain ⟨b, vs, L, c1, A2, c2, rfl, hf, hg, hs, h1, h2, hb⟩ := h
    refine ⟨some ⟨b, 0, none⟩, c1, A2, c2, rfl, ⟨Nat.le_refl _, hb.size, ringR_length n, hg.1, fun hp => ⟨b, vs, L, rfl, ⟨h2, hf.lt, h1⟩, hf, hg, fun M o e => ?_⟩⟩, hb⟩
    obtain ⟨M', o', e', _, h4, _⟩ := hg.2 hp
    rw [e'] at e
    cases e
    exact ⟨(hs _ _ e').1, h4, (hs _ _ e').2⟩
  | false =>
    rw [hok, if_neg (by simp)] at h
    obtain ⟨rfl, hb⟩ := h
    exact ⟨none, 0, none, 0, rfl, ⟨Nat.le_refl _, hb.size, rfl, rfl, fun h => absurd h (by simp)⟩, hb⟩
theorem ringFit (n : Nat) (zs : List Int) (hz : zs.length = n) : (if ringOk n zs then n else 0) ≤ 6 ∧ (if ringOk n zs then zs else []).length = (if ringOk n zs then n else 0) ∧ (if ringOk n zs then ringR n else []).length = (if ringOk n zs then n else 0) ∧ (∀ i, i < (if ringOk n zs then n else 0) → (rat (if ringOk n zs then ringR n else []) i).length ≤ 2000000) ∧ offR (if ringOk n zs then ringR n else []) (if ringOk n zs then n else 0) ≤ 100 := by
  cases hok : ringOk n zs with
  | false =>
    simp only [if_neg (show ¬ (false = true) by simp)]
    exact ⟨by omega, rfl, rfl, fun i hi => absurd hi (by omega), by simp [offR]⟩
  | true =>
    simp only [if_pos]
    have h36 : 3 ≤ n ∧ n ≤ 6 := by
      unfold ringOk at hok
      rw [Bool.and_eq_true] at hok
      have := inR_iff.1 hok.1
      omega
    refine ⟨by omega, hz, ringR_length n, fun i hi => by rw [ringR_at hi]; simp [ringRow], ?_⟩
    have : ∀ k, k ≤ n → offR (ringR n) k ≤ 2 * k := by
      intro k
      induction k with
      | zero => intro _; simp [offR]
      | succ k ih =>
        intro hk
        have h1 := ih (by omega)
        have h2 : offR (ringR n) (k + 1) = offR (ringR n) k + (rat (ringR n) k).length := rfl
        rw [h2, ringR_at (by omega)]
        simp only [ringRow, List.length_cons, List.length_nil]
        omega
    have := this n (Nat.le_refl _)
    omega

set_option maxRecDepth 20000 in
set_option maxHeartbeats 6400000 in
theorem lawExactRingOf (A : Option Addr) (n c : Nat) (zs : List Int) (w : World) (ha : SI w A n zs) (hwf : ∀ z ∈ zs, (Lit.int .i64 z).wf = true) :
    Calls Try.prog 7 #[.slice A n c] w fun e w' => e = .returned (.bool true) ∧ Below w.heap.size w w' := by
  by_cases hbig : 1048576 < n
  · clear ha
    go_enter Try.func7, Try.ntmps7
    go_wp2_with fail
    go_ret
    exact ⟨rfl, Below.refl _ _⟩
  · have hn : n ≤ 2000000 := by omega
    have CS := Lib.hid (fun A c w h => specRing2 A n c zs w hn h)
    have CI := Lib.hid (fun A c w h => implRing2 A n c zs w hn h)
    have CT := Lib.hid (fun w' (hb : Below w.heap.size w w') => toIntS_any A n c zs w' hn (ha.below hb (Nat.le_refl _)))
    obtain ⟨hm, hm2, hm3, hr, ho⟩ := ringFit n zs ha.1
    generalize (if ringOk n zs then n else 0) = m at *
    generalize (if ringOk n zs then ringR n else []) = rows at *
    generalize (if ringOk n zs then zs else []) = ms at *
    generalize ringOk n zs = ok at *
    have HR := Lib.hid hr
    obtain ⟨o, hoo⟩ : ∃ o, o = offR rows m := ⟨_, rfl⟩
    rw [← hoo] at ho
    have HE := Lib.hid (fun A1 c1 A2 c2 B1 d1 B2 d2 w h1 h2 h3 h4 => eqNet_true A1 m c1 A2 c2 B1 d1 B2 d2 rows ms w (by omega) HR.out h1 h2 h3 h4)
    have HMk := Lib.hid (fun A1 c1 A2 c2 lo hi w h => markNet_any A1 m c1 lo hi A2 c2 rows ms 1 w (by omega) HR.out (by omega) (by omega) (by omega) h)
    have HHd := Lib.hid (fun A1 c1 A2 c2 w h h' => heldNet_any A1 m c1 A2 c2 rows 1 w (by omega) hm3 HR.out (by omega) (by omega) (by omega) h h')
    rw [← hoo] at HMk HHd
    have hne : (ok != ok) = false := by cases ok <;> rfl
    clear hr hoo ha hwf hm2 hm3 HR
    go_enter Try.func7, Try.ntmps7
    go_wp2_with fail
    refine (CT.out _ (Below.refl _ _)).mono ?_
    rintro e w1 ⟨A0, c0, rfl, h0, b1⟩
    have H0 := Lib.hid h0.si
    have B1 := Lib.hid b1
    clear h0 b1
    go_wp2_with fail
    refine (CS.out A0 c0 _ H0.out).mono ?_
    rintro e w2 ⟨AP, cP, AQ, cQ, rfl, sP, sQ, b2⟩
    have B2 := Lib.hid (bstep B1.out b2)
    have SP := Lib.hid sP
    have SQ := Lib.hid sQ
    clear H0 B1 sP sQ b2
    go_wp2_with fail
    obtain ⟨V, hV⟩ : ∃ W, W = w2.alloc (.cells #[.slice AP m cP, .slice AQ m cQ] 37) := ⟨_, rfl⟩
    have VP := Lib.hid (show SS V AP m rows by rw [hV]; exact SP.out.alloc _)
    have VQ := Lib.hid (show SI V AQ m ms by rw [hV]; exact SQ.out.below (B := w2.heap.size) ((Below.refl _ _).alloc (Nat.le_refl _) _) (Nat.le_refl _))
    have zV : V.heap.size = w2.heap.size + 1 := by rw [hV]; simp
    have BV := Lib.hid (show Below w.heap.size w V by rw [hV]; exact B2.out.alloc B2.out.size _)
    have p0 : V.cell? ⟨w2.heap.size, 0, none⟩ = some (.slice AP m cP) := by rw [hV]; simp
    have p1 : V.cell? ⟨w2.heap.size, 1, none⟩ = some (.slice AQ m cQ) := by rw [hV]; simp
    rw [← hV]
    obtain ⟨s1, hs1⟩ : ∃ s, s = w2.heap.size := ⟨_, rfl⟩
    rw [← hs1] at zV p0 p1
    rw [← hs1]
    have P0 := Lib.hid p0
    have P1 := Lib.hid p1
    have ZV := Lib.hid (show s1 < V.heap.size by omega)
    have zl : w.heap.size ≤ V.heap.size := BV.out.size
    clear hs1 hV B2 SP SQ p0 p1 zV
    refine (CT.out _ BV.out).mono ?_
    rintro e w3 ⟨AX, cX, rfl, hX', b3⟩
    have hX := Lib.hid hX'.z
    have B3 := Lib.hid b3
    have p0 := (b3.cell (p := ⟨s1, 0, none⟩) ZV.out).trans P0.out
    have p1 := (b3.cell (p := ⟨s1, 1, none⟩) ZV.out).trans P1.out
    have z3 := b3.size
    clear b3 hX'
    go_wp2_with fail
    refine (CI.out AX cX _ hX.out.si).mono ?_
    rintro e w4 ⟨AG, cG, AM, cM, rfl, hG', b4⟩
    have B4 := Lib.hid (bstep B3.out b4)
    replace hX := Lib.hid (hX.out.later b4)
    have hG := Lib.hid hG'
    have p0 := (B4.out.cell (p := ⟨s1, 0, none⟩) ZV.out).trans P0.out
    have p1 := (B4.out.cell (p := ⟨s1, 1, none⟩) ZV.out).trans P1.out
    have z4 := b4.size
    have hlt14 : s1 < w4.heap.size := by have := ZV.out; omega
    have hne14 : ¬ (s1 = w4.heap.size) := by omega
    clear b4 hG' B3
    go_wp2_with fail
    obtain ⟨W4, hW4⟩ : ∃ W, W = w4.alloc (.cells #[.slice AG m cG, .slice AM m cM] 37) := ⟨_, rfl⟩
    have bb4 : Below w4.heap.size w4 W4 := by rw [hW4]; exact (Below.refl _ _).alloc (Nat.le_refl _) _
    have B5 := Lib.hid (bstep B4.out bb4)
    have hX5 := Lib.hid (hX.out.later bb4)
    have hG5 := Lib.hid (hG.out.later bb4)
    have p0 := (B5.out.cell (p := ⟨s1, 0, none⟩) ZV.out).trans P0.out
    have p1 := (B5.out.cell (p := ⟨s1, 1, none⟩) ZV.out).trans P1.out
    have q0 : W4.cell? ⟨w4.heap.size, 0, none⟩ = some (.slice AG m cG) := by rw [hW4]; simp
    have q1 : W4.cell? ⟨w4.heap.size, 1, none⟩ = some (.slice AM m cM) := by rw [hW4]; simp
    have z5 : W4.heap.size = w4.heap.size + 1 := by rw [hW4]; simp
    rw [← hW4]
    obtain ⟨s2, hs2⟩ : ∃ s, s = w4.heap.size := ⟨_, rfl⟩
    rw [← hs2] at z5 q0 q1 hG5 z4
    rw [← hs2]
    clear hs2 hW4 bb4 hX hG B4 hlt14 hne14
    have hs12 : s1 < s2 := by have := ZV.out; omega
    refine (HE.out AG cG AM cM AP cP AQ cQ W4 hG5.out.ss hG5.out.si (VP.out.below B5.out (Nat.le_refl _)) (VQ.out.below B5.out (Nat.le_refl _))).mono ?_
    rintro e w6 ⟨rfl, b6⟩
    have B6 := Lib.hid (bstep B5.out b6)
    have hX6 := Lib.hid (hX5.out.later b6)
    have hG6 := Lib.hid (hG5.out.later b6)
    have p0 := (B6.out.cell (p := ⟨s1, 0, none⟩) ZV.out).trans P0.out
    have p1 := (B6.out.cell (p := ⟨s1, 1, none⟩) ZV.out).trans P1.out
    replace q0 := (b6.cell (p := ⟨s2, 0, none⟩) (by show s2 < _; omega)).trans q0
    replace q1 := (b6.cell (p := ⟨s2, 1, none⟩) (by show s2 < _; omega)).trans q1
    have z6 := b6.size
    clear b6 hX5 hG5 B5
    go_wp2_with fail
    refine (CT.out _ (bstep BV.out B6.out)).mono ?_
    rintro e w7 ⟨A7, c7, rfl, h7, b7⟩
    have B7 := Lib.hid (bstep B6.out b7)
    have hX7 := Lib.hid (hX6.out.later b7)
    have hG7 := Lib.hid (hG6.out.later b7)
    have h77 := Lib.hid h7.si
    have p0 := (B7.out.cell (p := ⟨s1, 0, none⟩) ZV.out).trans P0.out
    have p1 := (B7.out.cell (p := ⟨s1, 1, none⟩) ZV.out).trans P1.out
    replace q0 := (b7.cell (p := ⟨s2, 0, none⟩) (by show s2 < _; omega)).trans q0
    replace q1 := (b7.cell (p := ⟨s2, 1, none⟩) (by show s2 < _; omega)).trans q1
    have z7 := b7.size
    clear b7 h7 hX6 hG6 B6
    go_wp2_with fail
    refine (eqIntS_true AX A7 n cX c7 zs _ (by omega) hX7.out.si h77.out).mono ?_
    rintro e w8 ⟨rfl, u8, hu8⟩
    have b8 : Below w7.heap.size w7 w8 := by rw [hu8]; exact bDrewN (Below.refl _ _) u8
    have B8 := Lib.hid (bstep B7.out b8)
    have hX8 := Lib.hid (hX7.out.later b8)
    have hG8 := Lib.hid (hG7.out.later b8)
    have p0 := (B8.out.cell (p := ⟨s1, 0, none⟩) ZV.out).trans P0.out
    have p1 := (B8.out.cell (p := ⟨s1, 1, none⟩) ZV.out).trans P1.out
    replace q0 := (b8.cell (p := ⟨s2, 0, none⟩) (by show s2 < _; omega)).trans q0
    replace q1 := (b8.cell (p := ⟨s2, 1, none⟩) (by show s2 < _; omega)).trans q1
    have z8 := b8.size
    clear b8 hu8 h77 hX7 hG7 B7
    go_wp2_with fail
    refine (markZ AX n cX _ _ zs 1 _ (by omega) (by omega) (by omega) hX8.out).mono ?_
    rintro e w9 ⟨rfl, _, g9⟩
    have n9 : Wn V.heap.size w3.heap.size w8 w9 := Wn.of_grown g9 hX8.out.row
    have B9 := Lib.hid (B8.out.trans (n9.below (by omega)))
    have hG9 := Lib.hid (hG8.out.wn n9 (.inr (Nat.le_refl _)))
    have p0 := (B9.out.cell (p := ⟨s1, 0, none⟩) ZV.out).trans P0.out
    have p1 := (B9.out.cell (p := ⟨s1, 1, none⟩) ZV.out).trans P1.out
    replace q0 := (n9.cell (p := ⟨s2, 0, none⟩) (by show s2 < _; omega) (by show s2 < _ ∨ _ ≤ s2; omega)).trans q0
    replace q1 := (n9.cell (p := ⟨s2, 1, none⟩) (by show s2 < _; omega) (by show s2 < _ ∨ _ ≤ s2; omega)).trans q1
    have z9 := n9.size
    clear n9 g9 hX8 hG8 B8
    have hk1 : ¬ (1 + (n : Int) < 0) := by omega
    go_wp2_with fail
    refine (HE.out AG cG AM cM AP cP AQ cQ w9 hG9.out.ss hG9.out.si (VP.out.below B9.out (Nat.le_refl _)) (VQ.out.below B9.out (Nat.le_refl _))).mono ?_
    rintro e w10 ⟨rfl, b10⟩
    have B10 := Lib.hid (bstep B9.out b10)
    have hG10 := Lib.hid (hG9.out.later b10)
    have p0 := (B10.out.cell (p := ⟨s1, 0, none⟩) ZV.out).trans P0.out
    have p1 := (B10.out.cell (p := ⟨s1, 1, none⟩) ZV.out).trans P1.out
    replace q0 := (b10.cell (p := ⟨s2, 0, none⟩) (by show s2 < _; omega)).trans q0
    replace q1 := (b10.cell (p := ⟨s2, 1, none⟩) (by show s2 < _; omega)).trans q1
    have z10 := b10.size
    clear b10 hG9 B9
    go_wp2_with fail
    refine (HMk.out AG cG AM cM _ _ w10 hG10.out).mono ?_
    rintro e w11 ⟨rfl, hG11', n11⟩
    have hG11 := Lib.hid hG11'
    have B11 := Lib.hid (B10.out.trans ((n11.below (by omega)).mono (by omega)))
    have p0 := (B11.out.cell (p := ⟨s1, 0, none⟩) ZV.out).trans P0.out
    have p1 := (B11.out.cell (p := ⟨s1, 1, none⟩) ZV.out).trans P1.out
    replace q0 := (n11.cell (p := ⟨s2, 0, none⟩) (by show s2 < _; omega) (by show s2 < _ ∨ s2 ≤ s2; omega)).trans q0
    replace q1 := (n11.cell (p := ⟨s2, 1, none⟩) (by show s2 < _; omega) (by show s2 < _ ∨ s2 ≤ s2; omega)).trans q1
    have z11 := n11.size
    clear n11 hG11' hG10 B10
    have hk2 : ¬ (1 + (o : Int) + (m : Int) < 0) := by omega
    go_wp2_with fail
    refine (HHd.out AG cG AM cM w11 hG11.out.ss hG11.out.si).mono ?_
    rintro e w12 ⟨rfl, b12⟩
    have B12 := Lib.hid (bstep B11.out b12)
    have hG12 := Lib.hid (hG11.out.later b12)
    have p0 := (B12.out.cell (p := ⟨s1, 0, none⟩) ZV.out).trans P0.out
    have p1 := (B12.out.cell (p := ⟨s1, 1, none⟩) ZV.out).trans P1.out
    replace q0 := (b12.cell (p := ⟨s2, 0, none⟩) (by show s2 < _; omega)).trans q0
    replace q1 := (b12.cell (p := ⟨s2, 1, none⟩) (by show s2 < _; omega)).trans q1
    have z12 := b12.size
    clear b12 hG11 B11
    go_wp2_with fail
    refine (CT.out _ (bstep BV.out B12.out)).mono ?_
    rintro e w13 ⟨A13, c13, rfl, h13, b13⟩
    have B13 := Lib.hid (bstep B12.out b13)
    have hG13 := Lib.hid (hG12.out.later b13)
    have h133 := Lib.hid h13.si
    have p0 := (B13.out.cell (p := ⟨s1, 0, none⟩) ZV.out).trans P0.out
    have p1 := (B13.out.cell (p := ⟨s1, 1, none⟩) ZV.out).trans P1.out
    replace q0 := (b13.cell (p := ⟨s2, 0, none⟩) (by show s2 < _; omega)).trans q0
    replace q1 := (b13.cell (p := ⟨s2, 1, none⟩) (by show s2 < _; omega)).trans q1
    have z13 := b13.size
    clear b13 h13 hG12 B12
    go_wp2_with fail
    refine (CI.out A13 c13 _ h133.out).mono ?_
    rintro e w14 ⟨AH, cH, AI, cI, rfl, hH', b14⟩
    have B14 := Lib.hid (bstep B13.out b14)
    have hG14 := Lib.hid (hG13.out.later b14)
    have hH := Lib.hid hH'
    have p0 := (B14.out.cell (p := ⟨s1, 0, none⟩) ZV.out).trans P0.out
    have p1 := (B14.out.cell (p := ⟨s1, 1, none⟩) ZV.out).trans P1.out
    replace q0 := (b14.cell (p := ⟨s2, 0, none⟩) (by show s2 < _; omega)).trans q0
    replace q1 := (b14.cell (p := ⟨s2, 1, none⟩) (by show s2 < _; omega)).trans q1
    have z14 := b14.size
    have hlt114 : s1 < w14.heap.size := by omega
    have hne114 : ¬ (s1 = w14.heap.size) := by omega
    have hlt214 : s2 < w14.heap.size := by omega
    have hne214 : ¬ (s2 = w14.heap.size) := by omega
    clear b14 hH' hG13 B13 h133
    go_wp2_with fail
    obtain ⟨W14, hW14⟩ : ∃ W, W = w14.alloc (.cells #[.slice AH m cH, .slice AI m cI] 37) := ⟨_, rfl⟩
    have bb14 : Below w14.heap.size w14 W14 := by rw [hW14]; exact (Below.refl _ _).alloc (Nat.le_refl _) _
    have B15 := Lib.hid (bstep B14.out bb14)
    have hG15 := Lib.hid (hG14.out.later bb14)
    have hH15 := Lib.hid (hH.out.later bb14)
    have p0 := (B15.out.cell (p := ⟨s1, 0, none⟩) ZV.out).trans P0.out
    have p1 := (B15.out.cell (p := ⟨s1, 1, none⟩) ZV.out).trans P1.out
    replace q0 := (bb14.cell (p := ⟨s2, 0, none⟩) (by show s2 < _; omega)).trans q0
    replace q1 := (bb14.cell (p := ⟨s2, 1, none⟩) (by show s2 < _; omega)).trans q1
    have z15 := bb14.size
    rw [← hW14]
    clear hW14 bb14 hG14 hH B14 hlt114 hne114 hlt214 hne214
    refine (HE.out AH cH AI cI AP cP AQ cQ W14 hH15.out.ss hH15.out.si (VP.out.below B15.out (Nat.le_refl _)) (VQ.out.below B15.out (Nat.le_refl _))).mono ?_
    rintro e w16 ⟨rfl, b16⟩
    have B16 := Lib.hid (bstep B15.out b16)
    have hG16 := Lib.hid (hG15.out.later b16)
    replace q0 := (b16.cell (p := ⟨s2, 0, none⟩) (by show s2 < _; omega)).trans q0
    replace q1 := (b16.cell (p := ⟨s2, 1, none⟩) (by show s2 < _; omega)).trans q1
    clear b16 hG15 hH15 B15 p0 p1
    go_wp2_with fail
    refine (HHd.out AG cG AM cM w16 hG16.out.ss hG16.out.si).mono ?_
    rintro e w17 ⟨rfl, b17⟩
    have B17 := Lib.hid (bstep BV.out (bstep B16.out b17))
    clear b17
    go_wp2_with fail
    go_ret
    exact ⟨rfl, B17.out⟩

end Go.Proofs.Ytblaaeanbhgokaa
