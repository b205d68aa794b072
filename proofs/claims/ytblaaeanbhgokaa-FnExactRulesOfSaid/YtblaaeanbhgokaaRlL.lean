/-
  RlL. By a program (wip/tools/mk.py) out of snippets.
-/
import Derived.Test.YtblaaeanbhgokaaRlI3
namespace Go.Proofs.Ytblaaeanbhgokaa
open Go.RowKit

/-- Rules that the call made: in the blocks from lo on and below hi. -/
structure GRu (w : World) (lo hi : Nat) (A1 : Option Addr) (n : Nat) (A2 A3 : Option Addr) (zs : List Int) (F G : List (List Int)) : Prop where
  top : hi ≤ w.heap.size
  le : lo ≤ hi
  l1 : zs.length = n
  l2 : F.length = n
  l3 : G.length = n
  g : 0 < n → ∃ gS b1 vs1 b2 vs2 L, A1 = some ⟨gS, 0, none⟩ ∧ A2 = some ⟨b1, 0, none⟩ ∧ A3 = some ⟨b2, 0, none⟩ ∧ (lo ≤ gS ∧ gS < L ∧ L ≤ b1 ∧ L ≤ b2 ∧ gS < hi ∧ b1 < hi ∧ b2 < hi) ∧ NewI w lo (some ⟨gS, 0, none⟩) n zs ∧ FH w L hi b1 n vs1 F ∧ FH w L hi b2 n vs2 G ∧ ∀ b, InO (some ⟨b1, 0, none⟩) n n vs1 b → ¬ InO (some ⟨b2, 0, none⟩) n n vs2 b
def RuIPost (w : World) (t : Nat) (e : Ending) (w' : World) : Prop :=
  ∃ (A : Option Addr) (a : Nat) (B : Option Addr) (b : Nat) (C : Option Addr) (c : Nat), e = .returned (.tuple #[.agg #[.slice A (ruN t) a, .slice B (ruN t) b, .slice C (ruN t) c], .bool (decide (t < 4))]) ∧ GRu w' w.heap.size w'.heap.size A (ruN t) B C (ruS t) (ruF t) (ruG t) ∧ Below w.heap.size w w'
theorem FH.up {w : World} {lo hi hi' b k : Nat} {vs : List Value} {rows : List (List Int)} (h : FH w lo hi b k vs rows) (h1 : hi ≤ hi') (h2 : hi' ≤ w.heap.size) : FH w lo hi' b k vs rows := ⟨h.len, h2, h.lt, h.cell, h.ob, h.rf.top h1⟩
set_option maxHeartbeats 1600000 in
theorem implRulesOf_any (s : ByteArray) (w : World) : Calls Try.prog 47 #[.string s] w (RuIPost w (rlT s)) := by
  obtain ⟨W, hW⟩ : ∃ W, W = w.alloc (.cells #[.slice none 0 0, .slice none 0 0, .slice none 0 0] 62) := ⟨_, rfl⟩
  obtain ⟨s2, hs2⟩ : ∃ s, s = w.heap.size := ⟨_, rfl⟩
  have hB : Below w.heap.size w W := by rw [hW]; exact (Below.refl _ _).alloc (Nat.le_refl _) _
  have hbox : W.heap[s2]? = some (.cells #[.slice none 0 0, .slice none 0 0, .slice none 0 0] 62) := by rw [hW, hs2]; exact heapN w _
  have hz : W.heap.size = s2 + 1 := by rw [hW, hs2]; simp
  have hres := Lib.hid (show Try.f47.results = #[.cell 2 62, .tmp 3] by kernel_rfl)
  have CM := Lib.hid (implmeetingOf_any s W)
  have HB := Lib.hid hB
  have HBox := Lib.hid hbox
  have HZ := Lib.hid hz
  have HS2 := Lib.hid hs2
  clear hB hbox hz
  by_cases ht : rlT s < 4
  · simp only [if_pos ht] at CM
    go_enter Try.func47, Try.ntmps47
    go_wp2_with fail
    rw [← hW, ← hs2]
    clear hW hs2
    refine CM.out.mono ?_
    rintro e w1 ⟨rfl, hw1⟩
    have CR := Lib.hid (implrulesV_any (rlT s) W.heap.size w1 ht (by rw [hw1]; exact heapN W _))
    have HW1 := Lib.hid hw1
    obtain ⟨T, x, hTx⟩ : ∃ T x, ruV (rlT s) W.heap.size = .iface T x := ⟨_, _, rfl⟩
    rw [hTx] at CR ⊢
    clear hTx CM
    have hB1 : Below W.heap.size W w1 := by rw [hw1]; exact (Below.refl _ _).alloc (Nat.le_refl _) _
    have hS1 : w1.heap[W.heap.size]? = some (.cells (ints (ruS (rlT s))) 3) := by rw [hw1]; exact heapN W _
    have HB1 := Lib.hid hB1
    have HS1 := Lib.hid hS1
    clear hw1 HW1 hS1
    go_wp2_with fail
    refine CR.out.mono ?_
    rintro e w2 ⟨b1, vs1, b2, vs2, L, rfl, hf1, hf2, hdj, hL, hL1, hL2, hb2⟩
    have hbox : w2.heap[s2]? = some (.cells #[.slice none 0 0, .slice none 0 0, .slice none 0 0] 62) := by
      have h1 := HZ.out
      have h2 := hB1.size
      rw [hb2.block s2 (by omega), hB1.block s2 (by omega)]
      exact HBox.out
    have q0 : w2.cell? ⟨s2, 0, none⟩ = some (.slice none 0 0) := by simp [World.cell?, hbox]
    have q1 : w2.cell? ⟨s2, 1, none⟩ = some (.slice none 0 0) := by simp [World.cell?, hbox]
    have q2 : w2.cell? ⟨s2, 2, none⟩ = some (.slice none 0 0) := by simp [World.cell?, hbox]
    have p0 : w2.frozen? ⟨s2, 0, none⟩ = false := by simp [World.frozen?, hbox]
    have p1 : w2.frozen? ⟨s2, 1, none⟩ = false := by simp [World.frozen?, hbox]
    have p2 : w2.frozen? ⟨s2, 2, none⟩ = false := by simp [World.frozen?, hbox]
    obtain ⟨hn24, hls, hlf, hlg, _⟩ := ruFacts (rlT s) ht
    have HF1 := Lib.hid hf1
    have HF2 := Lib.hid hf2
    have HDj := Lib.hid hdj
    have HBb := Lib.hid hb2
    have HN24 := Lib.hid hn24
    have HLs := Lib.hid hls
    have HLf := Lib.hid hlf
    have HLg := Lib.hid hlg
    have HT := Lib.hid ht
    have HL := Lib.hid (show w1.heap.size ≤ L ∧ L ≤ b1 ∧ L ≤ b2 from ⟨hL, hL1, hL2⟩)
    generalize hNn : ruN (rlT s) = n at *
    have HNn := Lib.hid hNn
    clear hbox hf1 hf2 hdj hb2 hn24 hls hlf hlg ht CR hNn hL hL1 hL2 hB1
    go_wp2_with fail
    refine bodyPost_ret (v := .tuple #[.agg #[.slice (some ⟨W.heap.size, 0, none⟩) n n, .slice (some ⟨b1, 0, none⟩) n n, .slice (some ⟨b2, 0, none⟩) n n], .bool true]) ?_ rfl ?_
    · simp only [results, hres.out]
      go_simp
    · unfold RuIPost
      rw [decide_eq_true HT.out, HNn.out]
      obtain ⟨hL, hL1, hL2⟩ := HL.out
      have hz := HZ.out
      have hsl : w.heap.size ≤ s2 := by rw [HS2.out]; exact Nat.le_refl _
      have h1s := HB1.out.size
      have h2s := HBb.out.size
      have hlt1 := HF1.out.lt
      have hlt2 := HF2.out.lt
      have hW1 : W.heap.size < w1.heap.size := (Array.getElem?_eq_some_iff.1 HS1.out).1
      have hsz : (((w2.setCell ⟨s2, 0, none⟩ (.slice (some ⟨W.heap.size, 0, none⟩) n n)).setCell ⟨s2, 1, none⟩ (.slice (some ⟨b1, 0, none⟩) n n)).setCell ⟨s2, 2, none⟩ (.slice (some ⟨b2, 0, none⟩) n n)).heap.size = w2.heap.size := by simp
      have hkk : ∀ k, k ≠ s2 → (((w2.setCell ⟨s2, 0, none⟩ (.slice (some ⟨W.heap.size, 0, none⟩) n n)).setCell ⟨s2, 1, none⟩ (.slice (some ⟨b1, 0, none⟩) n n)).setCell ⟨s2, 2, none⟩ (.slice (some ⟨b2, 0, none⟩) n n)).heap[k]? = w2.heap[k]? := fun k hks => by
        rw [Below.heap_setCell _ _ _ _ hks, Below.heap_setCell _ _ _ _ hks, Below.heap_setCell _ _ _ _ hks]
      have hsay : NewI w2 w.heap.size (some ⟨W.heap.size, 0, none⟩) n (ruS (rlT s)) := lit_new (by omega) ((HBb.out.block _ hW1).trans HS1.out) HLs.out
      have bw := ((HB.out.trans (HB1.out.mono HB.out.size)).trans (HBb.out.mono (by have := HB.out.size; omega)))
      have bw3 := ((bw.setCell (p := ⟨s2, 0, none⟩) hsl (.slice (some ⟨W.heap.size, 0, none⟩) n n)).setCell (p := ⟨s2, 1, none⟩) hsl (.slice (some ⟨b1, 0, none⟩) n n)).setCell (p := ⟨s2, 2, none⟩) hsl (.slice (some ⟨b2, 0, none⟩) n n)
      generalize (((w2.setCell ⟨s2, 0, none⟩ (.slice (some ⟨W.heap.size, 0, none⟩) n n)).setCell ⟨s2, 1, none⟩ (.slice (some ⟨b1, 0, none⟩) n n)).setCell ⟨s2, 2, none⟩ (.slice (some ⟨b2, 0, none⟩) n n)) = w3 at *
      have hr1 : ∀ i, i < n → ∀ g, blk (vat vs1 i) = some g → L ≤ g := fun i hi g e => by
        obtain ⟨b, e', h, _⟩ := (HF1.out.rf.ok i (by rw [HF1.out.len]; exact hi)).blk
        rw [e'] at e
        injection e with e
        omega
      have hr2 : ∀ i, i < n → ∀ g, blk (vat vs2 i) = some g → L ≤ g := fun i hi g e => by
        obtain ⟨b, e', h, _⟩ := (HF2.out.rf.ok i (by rw [HF2.out.len]; exact hi)).blk
        rw [e'] at e
        injection e with e
        omega
      have g1 : FH w3 L w3.heap.size b1 n vs1 (ruF (rlT s)) := by
        rw [hsz]
        exact HF1.out.same (by omega) (hkk b1 (by omega)) (fun i hi g e => hkk g (by have := hr1 i hi g e; omega))
      have g2 : FH w3 L w3.heap.size b2 n vs2 (ruG (rlT s)) := by
        rw [hsz]
        exact HF2.out.same (by omega) (hkk b2 (by omega)) (fun i hi g e => hkk g (by have := hr2 i hi g e; omega))
      exact ⟨some ⟨W.heap.size, 0, none⟩, n, some ⟨b1, 0, none⟩, n, some ⟨b2, 0, none⟩, n, rfl, ⟨Nat.le_refl _, bw3.size, HLs.out, HLf.out, HLg.out, fun _ => ⟨W.heap.size, b1, vs1, b2, vs2, L, rfl, rfl, rfl, by have := HB.out.size; omega, hsay.sameR (by omega) (hkk _ (by omega)), g1, g2, HDj.out⟩⟩, bw3⟩
  · have h4 : rlT s = 4 := by rcases rlT_cases s with ⟨_, h⟩ | ⟨_, _, h⟩ | ⟨_, _, _, h⟩ | ⟨_, _, _, _, h⟩ | ⟨_, _, _, _, h⟩ <;> omega
    simp only [if_neg ht] at CM
    rw [h4]
    clear h4 ht
    have q0 : W.cell? ⟨s2, 0, none⟩ = some (.slice none 0 0) := by simp [World.cell?, HBox.out]
    have q1 : W.cell? ⟨s2, 1, none⟩ = some (.slice none 0 0) := by simp [World.cell?, HBox.out]
    have q2 : W.cell? ⟨s2, 2, none⟩ = some (.slice none 0 0) := by simp [World.cell?, HBox.out]
    have p0 : W.frozen? ⟨s2, 0, none⟩ = false := by simp [World.frozen?, HBox.out]
    have p1 : W.frozen? ⟨s2, 1, none⟩ = false := by simp [World.frozen?, HBox.out]
    have p2 : W.frozen? ⟨s2, 2, none⟩ = false := by simp [World.frozen?, HBox.out]
    go_enter Try.func47, Try.ntmps47
    go_wp2_with fail
    rw [← hW, ← hs2]
    clear hW hs2
    refine CM.out.mono ?_
    rintro e w1 ⟨rfl, rfl⟩
    go_wp2_with fail
    refine bodyPost_ret (v := .tuple #[.agg #[.slice none 0 0, .slice none 0 0, .slice none 0 0], .bool false]) ?_ rfl ?_
    · simp only [results, hres.out]
      go_simp
    · have hsl : w.heap.size ≤ s2 := by rw [HS2.out]; exact Nat.le_refl _
      have bw := ((HB.out.setCell (p := ⟨s2, 0, none⟩) hsl (.slice none 0 0)).setCell (p := ⟨s2, 1, none⟩) hsl (.slice none 0 0)).setCell (p := ⟨s2, 2, none⟩) hsl (.slice none 0 0)
      exact ⟨none, 0, none, 0, none, 0, rfl, ⟨Nat.le_refl _, bw.size, rfl, rfl, rfl, fun h => absurd h (by simp [ruN])⟩, bw⟩

theorem GRu.later {w w' : World} {lo hi : Nat} {A1 : Option Addr} {n : Nat} {A2 A3 : Option Addr} {zs : List Int} {F G : List (List Int)} (h : GRu w lo hi A1 n A2 A3 zs F G) (hb : Below w.heap.size w w') : GRu w' lo hi A1 n A2 A3 zs F G :=
  ⟨Nat.le_trans h.top hb.size, h.le, h.l1, h.l2, h.l3, fun hn => by
    obtain ⟨gS, b1, vs1, b2, vs2, L, e1, e2, e3, hl, hs, f1, f2, hd⟩ := h.g hn
    exact ⟨gS, b1, vs1, b2, vs2, L, e1, e2, e3, hl, hs.below hb (Nat.le_refl _), f1.later hb, f2.later hb, hd⟩⟩
theorem GRu.si {w : World} {lo hi : Nat} {A1 : Option Addr} {n : Nat} {A2 A3 : Option Addr} {zs : List Int} {F G : List (List Int)} (h : GRu w lo hi A1 n A2 A3 zs F G) : SI w A1 n zs :=
  ⟨h.l1, fun hn => by
    obtain ⟨gS, b1, vs1, b2, vs2, L, rfl, rfl, rfl, hl, hs, f1, f2, hd⟩ := h.g hn
    exact hs.si.2 hn⟩
theorem GRu.s1 {w : World} {lo hi : Nat} {A1 : Option Addr} {n : Nat} {A2 A3 : Option Addr} {zs : List Int} {F G : List (List Int)} (h : GRu w lo hi A1 n A2 A3 zs F G) : SS w A2 n F :=
  ⟨h.l2, fun hn => by
    obtain ⟨gS, b1, vs1, b2, vs2, L, rfl, rfl, rfl, hl, hs, f1, f2, hd⟩ := h.g hn
    exact f1.ss.2 hn⟩
theorem GRu.s2 {w : World} {lo hi : Nat} {A1 : Option Addr} {n : Nat} {A2 A3 : Option Addr} {zs : List Int} {F G : List (List Int)} (h : GRu w lo hi A1 n A2 A3 zs F G) : SS w A3 n G :=
  ⟨h.l3, fun hn => by
    obtain ⟨gS, b1, vs1, b2, vs2, L, rfl, rfl, rfl, hl, hs, f1, f2, hd⟩ := h.g hn
    exact f2.ss.2 hn⟩

end Go.Proofs.Ytblaaeanbhgokaa
