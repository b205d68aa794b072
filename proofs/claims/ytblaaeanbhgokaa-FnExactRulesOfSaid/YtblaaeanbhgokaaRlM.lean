/-
  RlM. By a program (wip/tools/mk.py) out of snippets.
-/
import Derived.Test.YtblaaeanbhgokaaRlL
import Derived.Test.YtblaaeanbhgokaaRlE
import Derived.Test.YtblaaeanbhgokaaRb
import Derived.Test.YtblaaeanbhgokaaBase
namespace Go.Proofs.Ytblaaeanbhgokaa
open Go.RowKit

set_option maxRecDepth 20000 in
set_option maxHeartbeats 1600000 in
theorem markRules_any (A1 : Option Addr) (n c1 lo hi : Nat) (A2 : Option Addr) (c2 : Nat) (A3 : Option Addr) (c3 : Nat) (zs : List Int) (F G : List (List Int)) (w : World) (hk : n ≤ 4) (hf : ∀ i, i < n → (rat F i).length ≤ 4) (hg : ∀ i, i < n → (rat G i).length ≤ 4) (o1 o2 : Nat) (ho1 : o1 = offR F n) (ho2 : o2 = offR G n) (h16 : o1 ≤ 16) (h17 : o2 ≤ 16) (ha : GRu w lo hi A1 n A2 A3 zs F G) :
    Calls Try.prog 48 #[.agg #[.slice A1 n c1, .slice A2 n c2, .slice A3 n c3], .int .i64 1] w fun e w' => e = .returned (.int .i64 (1 + n + o1 + o2)) ∧ GRu w' lo hi A1 n A2 A3 (seqFrom 1 n) (mkRows (1 + n) F) (mkRows (1 + n + o1) G) ∧ Wn lo hi w w' := by
  obtain ⟨W, hW⟩ : ∃ W, W = w.alloc (.cells #[.slice A1 n c1, .slice A2 n c2, .slice A3 n c3] 62) := ⟨_, rfl⟩
  have hB : Below w.heap.size w W := by rw [hW]; exact (Below.refl _ _).alloc (Nat.le_refl _) _
  have d1 : W.cell? ⟨w.heap.size, 1, none⟩ = some (.slice A2 n c2) := by rw [hW]; simp
  have d2 : W.cell? ⟨w.heap.size, 2, none⟩ = some (.slice A3 n c3) := by rw [hW]; simp
  have HA := Lib.hid (ha.later hB)
  have HB := Lib.hid (show Wn lo hi w W from Wn.of_below hB (Nat.le_refl _))
  have HT := Lib.hid ha.top
  have hsz : w.heap.size < W.heap.size := by rw [hW]; simp
  by_cases h0 : n = 0
  · subst h0
    obtain rfl : o1 = 0 := by rw [ho1]; rfl
    obtain rfl : o2 = 0 := by rw [ho2]; rfl
    have C1 := Lib.hid (markIntS_any A1 0 c1 0 [] 1 W (by omega) (by omega) (by omega) ⟨rfl, fun h => absurd h (by omega)⟩)
    have C2 := Lib.hid (fun w h => markIntSS_any A2 0 c2 lo hi F 1 w (by omega) (fun i hi => absurd hi (by omega)) (by simp [offR]) (by omega) (by omega) h)
    have C3 := Lib.hid (fun w h => markIntSS_any A3 0 c3 lo hi G 1 w (by omega) (fun i hi => absurd hi (by omega)) (by simp [offR]) (by omega) (by omega) h)
    have hoff1 : offR F 0 = 0 := rfl
    have hoff2 : offR G 0 = 0 := rfl
    rw [hoff1] at C2
    rw [hoff2] at C3
    have e0 : (1 : Int) + ((0 : Nat) : Int) = 1 := by simp
    rw [e0] at C1 C2 C3
    rw [e0, e0, e0]
    have HG := Lib.hid (fun (w' : World) (hw : Wn lo hi W w') => (show GRu w' lo hi A1 0 A2 A3 (seqFrom 1 0) (mkRows 1 F) (mkRows 1 G) from ⟨Nat.le_trans HA.out.top hw.size, HA.out.le, rfl, by rw [mkRows_length, HA.out.l2], by rw [mkRows_length, HA.out.l3], fun h => absurd h (by omega)⟩))
    clear ha hf hg hB ho1 ho2 hoff1 hoff2 e0 h16 h17
    go_enter Try.func48, Try.ntmps48
    go_wp2_with fail
    rw [← hW]
    clear hW
    refine C1.out.mono ?_
    rintro e w1 ⟨rfl, _, g1⟩
    have n1 : Wn lo hi W w1 := Wn.of_grown g1 (fun b e => by cases e)
    have C2' := Lib.hid (C2.out w1 ⟨HA.out.l2, HA.out.le, Nat.le_trans HA.out.top n1.size, fun h => absurd h (by omega)⟩)
    replace d1 := (n1.cell (p := ⟨w.heap.size, 1, none⟩) hsz (.inr HT.out)).trans d1
    replace d2 := (n1.cell (p := ⟨w.heap.size, 2, none⟩) hsz (.inr HT.out)).trans d2
    have z1 := n1.size
    have N1 := Lib.hid n1
    clear n1 g1 C1 C2
    go_wp2_with fail
    refine C2'.out.mono ?_
    rintro e w2 ⟨rfl, _, n2⟩
    have N2 := Lib.hid (N1.out.trans n2)
    have C3' := Lib.hid (C3.out w2 ⟨HA.out.l3, HA.out.le, Nat.le_trans HA.out.top N2.out.size, fun h => absurd h (by omega)⟩)
    replace d2 := (n2.cell (p := ⟨w.heap.size, 2, none⟩) (by show w.heap.size < _; omega) (.inr HT.out)).trans d2
    clear n2 C2' C3 N1 d1
    go_wp2_with fail
    refine C3'.out.mono ?_
    rintro e w3 ⟨rfl, _, n3⟩
    have N3 := Lib.hid (N2.out.trans n3)
    clear n3 C3' N2
    go_wp2_with fail
    go_ret
    exact ⟨rfl, HG.out _ N3.out, HB.out.trans N3.out⟩
  · obtain ⟨gS, b1, vs1, b2, vs2, L, rfl, rfl, rfl, ⟨l1, l2, l3, l4, l5, l6, l7⟩, hs, f1, f2, hd⟩ := HA.out.g (by omega)
    have hr1 : ∀ i, i < n → ∃ g, blk (vat vs1 i) = some g ∧ L ≤ g ∧ g < hi := fun i hi' => (f1.rf.ok i (by rw [f1.len]; exact hi')).blk
    have hr2 : ∀ i, i < n → ∃ g, blk (vat vs2 i) = some g ∧ L ≤ g ∧ g < hi := fun i hi' => (f2.rf.ok i (by rw [f2.len]; exact hi')).blk
    have HR1 := Lib.hid hr1
    have HR2 := Lib.hid hr2
    have HD := Lib.hid hd
    have F1 := Lib.hid f1
    have F2 := Lib.hid f2
    have C1 := Lib.hid (markIntS_any (some ⟨gS, 0, none⟩) n c1 lo zs 1 W (by omega) (by omega) (by omega) hs)
    have C2 := Lib.hid (fun w h => markIntSSb_any b1 n c2 L hi vs1 F (1 + n) w (by omega) (fun i hi' => by have := hf i hi'; omega) (by omega) (by omega) (by omega) h)
    have C3 := Lib.hid (fun w h => markIntSSb_any b2 n c3 L hi vs2 G (1 + n + o1) w (by omega) (fun i hi' => by have := hg i hi'; omega) (by omega) (by omega) (by omega) h)
    rw [← ho1] at C2
    rw [← ho2] at C3
    have HL2 := Lib.hid ha.l2
    have HL3 := Lib.hid ha.l3
    have hle := ha.le
    have htopW := HA.out.top
    clear ha hf hg hB ho1 ho2 hs f1 f2 hd hr1 hr2
    go_enter Try.func48, Try.ntmps48
    go_wp2_with fail
    rw [← hW]
    clear hW
    refine C1.out.mono ?_
    rintro e w1 ⟨rfl, hN1, g1⟩
    rw [wBlock_some gS 0 (by omega)] at g1
    have n1 : Wn lo hi W w1 := Wn.of_grown g1 (fun b e => by cases e; omega)
    have F11 := Lib.hid (F1.out.same g1.size (g1.block b1 F1.out.lt (fun e => by cases e; omega)) (fun i hi' g e => by
      obtain ⟨g', e2, h1, h2⟩ := HR1.out i hi'
      rw [e2] at e
      injection e with e
      subst e
      exact g1.block _ (by omega) (fun e => by cases e; omega)))
    have F21 := Lib.hid (F2.out.same g1.size (g1.block b2 F2.out.lt (fun e => by cases e; omega)) (fun i hi' g e => by
      obtain ⟨g', e2, h1, h2⟩ := HR2.out i hi'
      rw [e2] at e
      injection e with e
      subst e
      exact g1.block _ (by omega) (fun e => by cases e; omega)))
    have HN1 := Lib.hid hN1
    have C2' := Lib.hid (C2.out w1 F11.out)
    replace d1 := (n1.cell (p := ⟨w.heap.size, 1, none⟩) hsz (.inr HT.out)).trans d1
    replace d2 := (n1.cell (p := ⟨w.heap.size, 2, none⟩) hsz (.inr HT.out)).trans d2
    have z1 := n1.size
    have N1 := Lib.hid n1
    clear n1 g1 C1 C2 hN1 F1 F2
    go_wp2_with fail
    refine C2'.out.mono ?_
    rintro e w2 ⟨rfl, f12, wb2⟩
    have n2 : Wn L hi w1 w2 := wb2.wn HR1.out
    have n2' : Wn lo hi w1 w2 := ⟨n2.os, n2.tape, n2.output, n2.size, fun i h1 h2 => n2.block i h1 (by omega)⟩
    have F12 := Lib.hid f12
    have HN2 := Lib.hid (HN1.out.sameR n2.size (n2.block gS (by omega) (.inl l2)))
    have F22 := Lib.hid (F21.out.same n2.size (wb2.block b2 F21.out.lt (fun j hj e => HD.out b2 (.inr ⟨j, hj, e⟩) (.inl rfl))) (fun i hi' g e => by
      obtain ⟨g', e2, h1, h2⟩ := HR2.out i hi'
      have e3 := e
      rw [e2] at e
      injection e with e
      subst e
      exact wb2.block _ (by omega) (fun j hj e4 => HD.out _ (.inr ⟨j, hj, e4⟩) (.inr ⟨i, hi', e3⟩))))
    have C3' := Lib.hid (C3.out w2 F22.out)
    replace d2 := (n2.cell (p := ⟨w.heap.size, 2, none⟩) (by show w.heap.size < _; omega) (.inr HT.out)).trans d2
    have N2 := Lib.hid (N1.out.trans n2')
    have z2 := n2.size
    clear n2 n2' wb2 f12 C2' C3 N1 d1 F11 F21 HN1
    go_wp2_with fail
    refine C3'.out.mono ?_
    rintro e w3 ⟨rfl, f23, wb3⟩
    have n3 : Wn L hi w2 w3 := wb3.wn HR2.out
    have n3' : Wn lo hi w2 w3 := ⟨n3.os, n3.tape, n3.output, n3.size, fun i h1 h2 => n3.block i h1 (by omega)⟩
    have F23 := Lib.hid f23
    have HN3 := Lib.hid (HN2.out.sameR n3.size (n3.block gS (by omega) (.inl l2)))
    have F13 := Lib.hid (F12.out.same n3.size (wb3.block b1 F12.out.lt (fun j hj e => HD.out b1 (.inl rfl) (.inr ⟨j, hj, e⟩))) (fun i hi' g e => by
      obtain ⟨g', e2, h1, h2⟩ := HR1.out i hi'
      have e3 := e
      rw [e2] at e
      injection e with e
      subst e
      exact wb3.block _ (by omega) (fun j hj e4 => HD.out _ (.inr ⟨i, hi', e3⟩) (.inr ⟨j, hj, e4⟩))))
    have N3 := Lib.hid (N2.out.trans n3')
    have z3 := n3.size
    clear n3 n3' wb3 f23 C3' N2 F12 F22 HN2
    go_wp2_with fail
    go_ret
    exact ⟨rfl, ⟨by omega, hle, seqFrom_length _ _, by rw [mkRows_length, HL2.out], by rw [mkRows_length, HL3.out], fun _ => ⟨gS, b1, vs1, b2, vs2, L, rfl, rfl, rfl, ⟨l1, l2, l3, l4, l5, l6, l7⟩, HN3.out, F13.out, F23.out, HD.out⟩⟩, HB.out.trans N3.out⟩

set_option maxHeartbeats 800000 in
theorem heldRules_any (A1 : Option Addr) (n c1 : Nat) (A2 : Option Addr) (c2 : Nat) (A3 : Option Addr) (c3 : Nat) (F G : List (List Int)) (w : World) (hk : n ≤ 4) (hlf : F.length = n) (hlg : G.length = n) (hf : ∀ i, i < n → (rat F i).length ≤ 4) (hg : ∀ i, i < n → (rat G i).length ≤ 4) (o1 o2 : Nat) (ho1 : o1 = offR F n) (ho2 : o2 = offR G n) (h16 : o1 ≤ 16) (h17 : o2 ≤ 16) (ha : SI w A1 n (seqFrom 1 n)) (hb : SS w A2 n (mkRows (1 + n) F)) (hc : SS w A3 n (mkRows (1 + n + o1) G)) :
    Calls Try.prog 49 #[.agg #[.slice A1 n c1, .slice A2 n c2, .slice A3 n c3], .int .i64 1] w fun e w' => e = .returned (.int .i64 (1 + n + o1 + o2)) ∧ Below w.heap.size w w' := by
  obtain ⟨W, hW⟩ : ∃ W, W = w.alloc (.cells #[.slice A1 n c1, .slice A2 n c2, .slice A3 n c3] 62) := ⟨_, rfl⟩
  have hB : Below w.heap.size w W := by rw [hW]; exact (Below.refl _ _).alloc (Nat.le_refl _) _
  have d1 : W.cell? ⟨w.heap.size, 1, none⟩ = some (.slice A2 n c2) := by rw [hW]; simp
  have d2 : W.cell? ⟨w.heap.size, 2, none⟩ = some (.slice A3 n c3) := by rw [hW]; simp
  have HB := Lib.hid hB
  have C1 := Lib.hid (heldIntS_any A1 n c1 1 W (by omega) (by omega) (by omega) (ha.below hB (Nat.le_refl _)))
  have C2 := Lib.hid (fun m => heldIntSS_any A2 n c2 F (1 + n) (W.drewN m) (by omega) hlf (fun i hi => by have := hf i hi; omega) (by omega) (by omega) (by omega) ((hb.below hB (Nat.le_refl _)).drewN m))
  have C3 := Lib.hid (fun m => heldIntSS_any A3 n c3 G (1 + n + o1) (W.drewN m) (by omega) hlg (fun i hi => by have := hg i hi; omega) (by omega) (by omega) (by omega) ((hc.below hB (Nat.le_refl _)).drewN m))
  rw [← ho1] at C2
  rw [← ho2] at C3
  clear ha hb hc hf hg hlf hlg hB ho1 ho2
  go_enter Try.func49, Try.ntmps49
  go_wp2_with fail
  rw [← hW]
  clear hW
  refine C1.out.mono ?_
  rintro e w' ⟨rfl, q1, rfl⟩
  go_wp2_with fail
  refine (C2.out q1).mono ?_
  rintro e w' ⟨rfl, q2, rfl⟩
  have C3' := Lib.hid (C3.out (q1 + q2))
  go_wp2_with fail
  refine C3'.out.mono ?_
  rintro e w' ⟨rfl, q3, rfl⟩
  go_wp2_with fail
  go_ret
  exact ⟨rfl, by first | exact bDrewN HB.out _ | exact bDrewN (bDrewN HB.out _) _ | exact bDrewN (bDrewN (bDrewN HB.out _) _) _⟩

end Go.Proofs.Ytblaaeanbhgokaa
