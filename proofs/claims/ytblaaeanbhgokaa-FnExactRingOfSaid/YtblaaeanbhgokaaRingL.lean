/-
  RingL. By a program (wip/tools/mk.py) out of snippets.
-/
import Derived.Test.YtblaaeanbhgokaaRingI
import Derived.Test.YtblaaeanbhgokaaRb
import Derived.Test.YtblaaeanbhgokaaBase
import Derived.Test.YtblaaeanbhgokaaO2
namespace Go.Proofs.Ytblaaeanbhgokaa
open Go.RowKit

/-- A net that the call made: in the blocks from lo on and below hi. -/
structure GN (w : World) (lo hi : Nat) (A1 : Option Addr) (n : Nat) (A2 : Option Addr) (rows : List (List Int)) (zs : List Int) : Prop where
  top : hi ≤ w.heap.size
  le : lo ≤ hi
  l1 : rows.length = n
  l2 : zs.length = n
  g : 0 < n → ∃ b vs L, A1 = some ⟨b, 0, none⟩ ∧ (lo ≤ b ∧ b < hi ∧ lo ≤ L) ∧ FH w L hi b n vs rows ∧ NewI w lo A2 n zs ∧ (∀ M o, A2 = some ⟨M, o, none⟩ → M < L ∧ M < hi ∧ M ≠ b)
theorem GN.later {w w' : World} {lo hi : Nat} {A1 : Option Addr} {n : Nat} {A2 : Option Addr} {rows : List (List Int)} {zs : List Int} (h : GN w lo hi A1 n A2 rows zs) (hb : Below w.heap.size w w') : GN w' lo hi A1 n A2 rows zs :=
  ⟨Nat.le_trans h.top hb.size, h.le, h.l1, h.l2, fun hn => by
    obtain ⟨b, vs, L, e, hl, f, g, k⟩ := h.g hn
    exact ⟨b, vs, L, e, hl, f.later hb, g.below hb (Nat.le_refl _), k⟩⟩
theorem GN.ss {w : World} {lo hi : Nat} {A1 : Option Addr} {n : Nat} {A2 : Option Addr} {rows : List (List Int)} {zs : List Int} (h : GN w lo hi A1 n A2 rows zs) : SS w A1 n rows :=
  ⟨h.l1, fun hn => by
    obtain ⟨b, vs, L, e, hl, f, g, k⟩ := h.g hn
    subst e
    exact f.ss.2 hn⟩
theorem GN.si {w : World} {lo hi : Nat} {A1 : Option Addr} {n : Nat} {A2 : Option Addr} {rows : List (List Int)} {zs : List Int} (h : GN w lo hi A1 n A2 rows zs) : SI w A2 n zs :=
  ⟨h.l2, fun hn => by
    obtain ⟨b, vs, L, e, hl, f, g, k⟩ := h.g hn
    exact g.si.2 hn⟩
/-- What lies elsewhere was written. -/
theorem GN.wn {w w' : World} {lo hi lo' hi' : Nat} {A1 : Option Addr} {n : Nat} {A2 : Option Addr} {rows : List (List Int)} {zs : List Int} (h : GN w lo hi A1 n A2 rows zs) (hw : Wn lo' hi' w w') (hd : hi ≤ lo' ∨ hi' ≤ lo) : GN w' lo hi A1 n A2 rows zs :=
  ⟨Nat.le_trans h.top hw.size, h.le, h.l1, h.l2, fun hn => by
    have ht := h.top
    obtain ⟨b, vs, L, e, ⟨h1, h2, h3⟩, f, g, k⟩ := h.g hn
    refine ⟨b, vs, L, e, ⟨h1, h2, h3⟩, f.same hw.size (hw.block b (by omega) (by omega)) (fun i hi g' e' => ?_), ⟨g.1, fun _ => ?_⟩, k⟩
    · obtain ⟨b', e2, h4, h5⟩ := (f.rf.ok i (by rw [f.len]; exact hi)).blk
      rw [e2] at e'
      injection e' with e'
      subst e'
      exact hw.block _ (by omega) (by omega)
    · obtain ⟨M, o, e2, h4, h5, h6, h7⟩ := g.2 hn
      have hM := k M o e2
      exact ⟨M, o, e2, h4, Nat.lt_of_lt_of_le h5 hw.size, fun i hi => (hw.cell (p := ⟨M, o + i, none⟩) h5 (by show M < lo' ∨ hi' ≤ M; omega)).trans (h6 i hi), fun i hi => (hw.frozen (p := ⟨M, o + i, none⟩) h5 (by show M < lo' ∨ hi' ≤ M; omega)).trans (h7 i hi)⟩⟩

set_option maxHeartbeats 800000 in
theorem eqNet_true (A1 : Option Addr) (n c1 : Nat) (A2 : Option Addr) (c2 : Nat) (B1 : Option Addr) (e1 : Nat) (B2 : Option Addr) (e2 : Nat) (rows : List (List Int)) (zs : List Int) (w : World) (h1 : n ≤ 2000000)
    (hr : ∀ i, i < n → (rat rows i).length ≤ 2000000) (ha1 : SS w A1 n rows) (ha2 : SI w A2 n zs) (hb1 : SS w B1 n rows) (hb2 : SI w B2 n zs) :
    Calls Try.prog 28 #[.agg #[.slice A1 n c1, .slice A2 n c2], .agg #[.slice B1 n e1, .slice B2 n e2]] w fun e w' => e = .returned (.bool true) ∧ Below w.heap.size w w' := by
  obtain ⟨W, hW⟩ : ∃ W, W = (w.alloc (.cells #[.slice A1 n c1, .slice A2 n c2] 37)).alloc (.cells #[.slice B1 n e1, .slice B2 n e2] 37) := ⟨_, rfl⟩
  have hB : Below w.heap.size w W := by rw [hW]; exact ((Below.refl _ _).alloc (Nat.le_refl _) _).alloc (by simp) _
  have HBe := Lib.hid hB
  have C1 := Lib.hid (fun m => eqIntSS_true A1 B1 n c1 e1 rows (W.drewN m) (by omega) hr ((ha1.below hB (Nat.le_refl _)).drewN m) ((hb1.below hB (Nat.le_refl _)).drewN m))
  have C2 := Lib.hid (fun m => eqIntS_true A2 B2 n c2 e2 zs (W.drewN m) (by omega) (SI.drewN (ha2.below hB (Nat.le_refl _)) m) (SI.drewN (hb2.below hB (Nat.le_refl _)) m))
  have d1 : W.cell? ⟨w.heap.size, 1, none⟩ = some (.slice A2 n c2) := by rw [hW, World.cell?_alloc_past _ _ _ (by simp)]; simp
  have g1 : W.cell? ⟨w.heap.size + 1, 1, none⟩ = some (.slice B2 n e2) := by rw [hW, World.cell?_alloc_at _ _ _ _ (by simp)]; simp
  clear ha1 ha2 hb1 hb2 hr hB
  go_enter Try.func28, Try.ntmps28
  go_wp2_with fail
  rw [← hW]
  clear hW
  refine (C1.out 0).mono ?_
  rintro e w' ⟨rfl, q1, rfl⟩
  have C2' := Lib.hid (C2.out (0 + q1))
  rw [← World.drewN_drewN] at C2'
  go_wp2_with fail
  refine C2'.out.mono ?_
  rintro e w' ⟨rfl, q2, rfl⟩
  go_wp2_with fail
  go_ret
  exact ⟨rfl, by first | exact bDrewN HBe.out _ | exact bDrewN (bDrewN HBe.out _) _ | exact bDrewN (bDrewN (bDrewN HBe.out _) _) _⟩

set_option maxRecDepth 20000 in
set_option maxHeartbeats 800000 in
theorem markNet_any (A1 : Option Addr) (n c1 lo hi : Nat) (A2 : Option Addr) (c2 : Nat) (rows : List (List Int)) (zs : List Int) (k0 : Int) (w : World) (hk : n ≤ 2000000) (hr : ∀ i, i < n → (rat rows i).length ≤ 2000000) (ho : offR rows n ≤ 1000000000) (hk0 : 0 ≤ k0) (hk1 : k0 ≤ 1000000000) (ha : GN w lo hi A1 n A2 rows zs) :
    Calls Try.prog 29 #[.agg #[.slice A1 n c1, .slice A2 n c2], .int .i64 k0] w fun e w' => e = .returned (.int .i64 (k0 + (offR rows n : Nat) + n)) ∧ GN w' lo hi A1 n A2 (mkRows k0 rows) (seqFrom (k0 + (offR rows n : Nat)) n) ∧ Wn lo hi w w' := by
  obtain ⟨W, hW⟩ : ∃ W, W = w.alloc (.cells #[.slice A1 n c1, .slice A2 n c2] 37) := ⟨_, rfl⟩
  have hB : Below w.heap.size w W := by rw [hW]; exact (Below.refl _ _).alloc (Nat.le_refl _) _
  have d1 : W.cell? ⟨w.heap.size, 1, none⟩ = some (.slice A2 n c2) := by rw [hW]; simp
  have HA := Lib.hid (ha.later hB)
  have HB := Lib.hid (show Wn lo hi w W from Wn.of_below hB (Nat.le_refl _))
  have HT := Lib.hid ha.top
  have hsz : w.heap.size < W.heap.size := by rw [hW]; simp
  by_cases h0 : n = 0
  · subst h0
    have C := Lib.hid (markIntSS_any A1 0 c1 lo hi rows k0 W (by omega) (fun i hi => absurd hi (by omega)) ho hk0 hk1 ⟨HA.out.l1, HA.out.le, HA.out.top, fun h => absurd h (by omega)⟩)
    have hoff : offR rows 0 = 0 := rfl
    have e0 : k0 + ((0 : Nat) : Int) = k0 := by simp
    rw [hoff, e0] at C
    rw [hoff, e0, e0]
    clear e0 hoff
    have HG := Lib.hid (fun (w' : World) (hw : Wn lo hi W w') => (show GN w' lo hi A1 0 A2 (mkRows k0 rows) (seqFrom k0 0) from ⟨Nat.le_trans HA.out.top hw.size, HA.out.le, by rw [mkRows_length, HA.out.l1], rfl, fun h => absurd h (by omega)⟩))
    clear ha hr hB ho
    go_enter Try.func29, Try.ntmps29
    go_wp2_with fail
    rw [← hW]
    clear hW
    refine C.out.mono ?_
    rintro e w1 ⟨rfl, _, n1⟩
    replace d1 := (n1.cell (p := ⟨w.heap.size, 1, none⟩) hsz (.inr HT.out)).trans d1
    have C2 := Lib.hid (markIntS_any A2 0 c2 0 [] k0 w1 (by omega) (by omega) (by omega) ⟨rfl, fun h => absurd h (by omega)⟩)
    rw [show k0 + ((0 : Nat) : Int) = k0 by simp] at C2
    have N1 := Lib.hid n1
    clear n1 C
    go_wp2_with fail
    refine C2.out.mono ?_
    rintro e w2 ⟨rfl, _, g2⟩
    have N2 := Lib.hid (N1.out.trans (Wn.of_grown g2 (fun b e => by cases e)))
    clear g2 C2
    go_wp2_with fail
    go_ret
    exact ⟨rfl, HG.out _ N2.out, HB.out.trans N2.out⟩
  · obtain ⟨b, vs, L, rfl, ⟨hl1, hl2, hl3⟩, hf, hn, hsep⟩ := HA.out.g (by omega)
    obtain ⟨M, o, rfl, hm1, hm2, hm3, hm4⟩ := hn.2 (by omega)
    obtain ⟨hs1, hs2, hs3⟩ := hsep M o rfl
    have hrows : ∀ j, j < n → ∃ g, blk (vat vs j) = some g ∧ L ≤ g ∧ g < hi := fun j hj => (hf.rf.ok j (by rw [hf.len]; exact hj)).blk
    have C := Lib.hid (markIntSSb_any b n c1 L hi vs rows k0 W hk hr ho hk0 hk1 hf)
    have HN := Lib.hid hn
    have HR := Lib.hid hrows
    have HL := Lib.hid ha.l1
    have hle := ha.le
    obtain ⟨oo, hoo⟩ : ∃ o, o = offR rows n := ⟨_, rfl⟩
    rw [← hoo] at C ho ⊢
    clear hoo
    clear ha hr hB hf hn hsep hm3 hm4 hrows
    go_enter Try.func29, Try.ntmps29
    go_wp2_with fail
    rw [← hW]
    clear hW
    refine C.out.mono ?_
    rintro e w1 ⟨rfl, f1, wb1⟩
    have n1 : Wn L hi W w1 := wb1.wn HR.out
    replace d1 := (n1.cell (p := ⟨w.heap.size, 1, none⟩) hsz (.inr HT.out)).trans d1
    have hN1 : NewI w1 lo (some ⟨M, o, none⟩) n zs := ⟨HN.out.1, fun hp => by
      obtain ⟨M', o', e, h1, h2, h3, h4⟩ := HN.out.2 hp
      obtain ⟨rfl, rfl⟩ : M = M' ∧ o = o' := by cases e; exact ⟨rfl, rfl⟩
      exact ⟨M, o, rfl, h1, Nat.lt_of_lt_of_le h2 n1.size, fun i hi => (n1.cell (p := ⟨M, o + i, none⟩) h2 (.inl hs1)).trans (h3 i hi), fun i hi => (n1.frozen (p := ⟨M, o + i, none⟩) h2 (.inl hs1)).trans (h4 i hi)⟩⟩
    have C2 := Lib.hid (markIntS_any (some ⟨M, o, none⟩) n c2 lo zs (k0 + (oo : Nat)) w1 hk (by omega) (by omega) hN1)
    have F1 := Lib.hid f1
    have N1 := Lib.hid (show Wn lo hi W w1 from ⟨n1.os, n1.tape, n1.output, n1.size, fun i h1 h2 => n1.block i h1 (by omega)⟩)
    clear n1 C f1 wb1 hN1
    go_wp2_with fail
    refine C2.out.mono ?_
    rintro e w2 ⟨rfl, hN2, g2⟩
    rw [wBlock_some M o (by omega)] at g2
    have N2 := Lib.hid (N1.out.trans (Wn.of_grown g2 (fun b e => by cases e; omega)))
    have htop := F1.out.top
    have F2 := Lib.hid (F1.out.same g2.size (g2.block b F1.out.lt (fun e => by cases e; omega)) (fun i hi g e => by
      obtain ⟨g', e2, h1, h2⟩ := HR.out i hi
      rw [e2] at e
      injection e with e
      subst e
      exact g2.block _ (by omega) (fun e => by cases e; omega)))
    have HN2 := Lib.hid hN2
    clear g2 C2 hN2
    go_wp2_with fail
    go_ret
    exact ⟨rfl, ⟨F2.out.top, hle, by rw [mkRows_length, HL.out], seqFrom_length _ _, fun _ => ⟨b, vs, L, rfl, ⟨hl1, hl2, hl3⟩, F2.out, HN2.out, fun M' o' e => by cases e; exact ⟨hs1, hs2, hs3⟩⟩⟩, HB.out.trans N2.out⟩

set_option maxHeartbeats 800000 in
theorem heldNet_any (A1 : Option Addr) (n c1 : Nat) (A2 : Option Addr) (c2 : Nat) (rows : List (List Int)) (k0 : Int) (w : World) (hk : n ≤ 2000000) (hl : rows.length = n) (hr : ∀ i, i < n → (rat rows i).length ≤ 2000000) (ho : offR rows n ≤ 1000000000) (hk0 : 0 ≤ k0) (hk1 : k0 ≤ 1000000000) (ha : SS w A1 n (mkRows k0 rows)) (hb : SI w A2 n (seqFrom (k0 + (offR rows n : Nat)) n)) :
    Calls Try.prog 30 #[.agg #[.slice A1 n c1, .slice A2 n c2], .int .i64 k0] w fun e w' => e = .returned (.int .i64 (k0 + (offR rows n : Nat) + n)) ∧ Below w.heap.size w w' := by
  obtain ⟨W, hW⟩ : ∃ W, W = w.alloc (.cells #[.slice A1 n c1, .slice A2 n c2] 37) := ⟨_, rfl⟩
  have hB : Below w.heap.size w W := by rw [hW]; exact (Below.refl _ _).alloc (Nat.le_refl _) _
  have d1 : W.cell? ⟨w.heap.size, 1, none⟩ = some (.slice A2 n c2) := by rw [hW]; simp
  have HB := Lib.hid hB
  have C := Lib.hid (heldIntSS_any A1 n c1 rows k0 W hk hl hr ho hk0 hk1 (ha.below hB (Nat.le_refl _)))
  have C2 := Lib.hid (fun m => heldIntS_any A2 n c2 (k0 + (offR rows n : Nat)) (W.drewN m) hk (by omega) (by omega) (SI.drewN (hb.below hB (Nat.le_refl _)) m))
  clear ha hb hr hl hB
  generalize offR rows n = oo at *
  go_enter Try.func30, Try.ntmps30
  go_wp2_with fail
  rw [← hW]
  clear hW
  refine C.out.mono ?_
  rintro e w' ⟨rfl, q, rfl⟩
  go_wp2_with fail
  refine (C2.out q).mono ?_
  rintro e w' ⟨rfl, q2, rfl⟩
  go_wp2_with fail
  go_ret
  exact ⟨rfl, by first | exact bDrewN (bDrewN HB.out _) _ | exact bDrewN HB.out _⟩

end Go.Proofs.Ytblaaeanbhgokaa
