/-
  EqV. By a program (wip/tools/mk.py) out of snippets.
-/
import Derived.Test.YtlodhgkecpjieaaView1
import Derived.Test.YtlodhgkecpjieaaReader
namespace Go.Proofs.Ytlodhgkecpjieaa
open Go.RowKit

/-- A view in a box. -/
structure Bx (w : World) (s : Nat) (V : Int) (A : Option Addr) (k c : Nat) : Prop where
  c0 : w.cell? ⟨s, 0, none⟩ = some (.int .i64 V)
  c1 : w.cell? ⟨s, 1, none⟩ = some (.slice A k c)
  lt : s < w.heap.size
theorem Bx.later {w w' : World} {s : Nat} {V : Int} {A : Option Addr} {k c : Nat} (h : Bx w s V A k c) (hb : Below w.heap.size w w') : Bx w' s V A k c :=
  ⟨(hb.cell (p := ⟨s, 0, none⟩) h.lt).trans h.c0, (hb.cell (p := ⟨s, 1, none⟩) h.lt).trans h.c1, Nat.lt_of_lt_of_le h.lt hb.size⟩
theorem Bx.alloc {w : World} {s : Nat} {V : Int} {A : Option Addr} {k c : Nat} (h : Bx w s V A k c) (o : Obj) : Bx (w.alloc o) s V A k c := h.later ((Below.refl _ _).alloc (Nat.le_refl _) o)
theorem Bx.new (w : World) (V : Int) (A : Option Addr) (k c : Nat) (t : TypeId) : Bx (w.alloc (.cells #[.int .i64 V, .slice A k c] t)) w.heap.size V A k c := ⟨by simp, by simp, by simp⟩
/-- A view just put into a box: the world behind it, by a name of its own. -/
theorem boxed (w : World) (V : Int) (A : Option Addr) (k c : Nat) (t : TypeId) (rows : List (List Int)) (hS : SS w A k rows) (B : Nat) (w0 : World) (hB : Below B w0 w) (hl : B ≤ w0.heap.size) :
    ∃ W s, W = w.alloc (.cells #[.int .i64 V, .slice A k c] t) ∧ s = w.heap.size ∧ Bx W s V A k c ∧ SS W A k rows ∧ Below B w0 W ∧ Below w.heap.size w W :=
  ⟨_, _, rfl, rfl, Bx.new _ _ _ _ _ _, hS.alloc _, hB.alloc (Nat.le_trans hl hB.size) _, (Below.refl _ _).alloc (Nat.le_refl _) _⟩

set_option maxHeartbeats 800000 in
theorem equalLists_true (A B : Option Addr) (n c c' : Nat) (rows : List (List Int)) (w : World) (hn : n ≤ 9000000000000000000) (hr : ∀ i, i < n → (rat rows i).length ≤ 2000000) (ha : SS w A n rows) (hb : SS w B n rows) :
    Calls Try.prog 77 #[.slice A n c, .slice B n c'] w fun e w' => Qt w (.bool true) e w' := by
  have HR := Lib.hid hr; clear hr
  go_enter Try.func77, Try.ntmps77
  go_wp2
  go_loopw [5] (fun i wr => ∃ k : Nat, k ≤ n ∧ i = .int .i64 k ∧ ∃ m, wr = w.drewN m) (fun i _ => n - (intOf i).toNat)
  case atStart => exact ⟨0, by omega, rfl, 0, rfl⟩
  case round =>
    obtain ⟨k, hk, rfl, m, rfl⟩ := hrel
    by_cases hlt : k < n
    · obtain ⟨b, off, A1, n1, c1, rfl, h1, s1⟩ := ha.at_ hlt
      obtain ⟨b', off', A2, n2, c2, rfl, h2, s2⟩ := hb.at_ hlt
      obtain rfl : n2 = n1 := by rw [← s1.1, ← s2.1]
      have hn1 : n2 ≤ 9000000000000000000 := by have := HR.out k hlt; rw [s2.1] at this; omega
      have H := Lib.hid (fun q => equalInts_true A1 A2 n2 c1 c2 _ (w.drewN q) hn1 (SI.drewN s1 q) (SI.drewN s2 q))
      clear ha hb s1 s2 hn1
      go_wp2_with fail
      go_quiet (first | (go_at_call 90; exact quietD (H.out _)))
      go_wp2
      go_roundw
      case rel => exact ⟨k + 1, by omega, by go_num, by first | exact ⟨_, rfl⟩ | exact ⟨_, by rw [World.drewN_drewN]⟩ | trivial⟩
      case measure => simp [intOf]; omega
    · clear ha hb
      go_wp2
      go_ret
      exact ⟨rfl, m, rfl⟩

set_option maxHeartbeats 800000 in
theorem equalView_true (n : Int) (A B : Option Addr) (k c c' : Nat) (rows : List (List Int)) (w : World) (hk : k ≤ 2000000) (hr : ∀ i, i < k → (rat rows i).length ≤ 2000000) (ha : SS w A k rows) (hb : SS w B k rows) :
    Calls Try.prog 39 #[.agg #[.int .i64 n, .slice A k c], .agg #[.int .i64 n, .slice B k c']] w fun e w' => e = .returned (.bool true) ∧ Below w.heap.size w w' := by
  have C := Lib.hid (fun w h1 h2 => equalLists_true A B k c c' rows w (by omega) hr h1 h2)
  have HA := Lib.hid ((ha.alloc (.cells #[.int .i64 n, .slice A k c] 27)).alloc (.cells #[.int .i64 n, .slice B k c'] 27))
  have HB := Lib.hid ((hb.alloc (.cells #[.int .i64 n, .slice A k c] 27)).alloc (.cells #[.int .i64 n, .slice B k c'] 27))
  have hB : Below w.heap.size w ((w.alloc (.cells #[.int .i64 n, .slice A k c] 27)).alloc (.cells #[.int .i64 n, .slice B k c'] 27)) := ((Below.refl _ _).alloc (Nat.le_refl _) _).alloc (by simp) _
  have HBe := Lib.hid hB
  clear ha hb hr hB
  go_enter Try.func39, Try.ntmps39
  go_wp2_with fail
  refine (C.out _ HA.out HB.out).mono ?_
  rintro e w' ⟨rfl, q, rfl⟩
  go_wp2_with fail
  go_ret
  exact ⟨rfl, bDrewN HBe.out q⟩

set_option maxHeartbeats 800000 in
theorem drawLettersView_any (A : Option Addr) (n c : Nat) (bs : List Int) (w : World) (hc : n ≤ c) (hn : n ≤ 2000000) (hs : SB w A n bs) :
    Calls Try.prog 41 #[.slice A n c] w fun e w' => ∃ z : Int, e = .returned (.int .i64 z) ∧ z ∈ [(3 : Int), 5, 8, 1, 15, 0, 16] ∧ Below w.heap.size w w' := by
  have H := Lib.hid (newReader_any A n c bs w hc hn hs)
  clear hs
  go_enter Try.func41, Try.ntmps41
  go_wp2_with fail
  refine H.out.mono ?_
  rintro e w1 ⟨rfl, hR, hb1⟩
  go_wp2_with fail
  refine (one_lit _ 0 _ w1 3 [3, 5, 8, 1, 15, 0, 16] 7 rfl rfl (by omega) (by omega) (by omega) hR).mono ?_
  rintro e w2 ⟨z, rfl, hz, hR2, hg2, hb2⟩
  have hB := Lib.hid (hb1.trans hb2)
  have HZ := Lib.hid hz
  clear hR hR2 hb1 hb2 hg2 hz
  go_wp2_with fail
  go_ret
  exact ⟨z, rfl, HZ.out, hB.out⟩

set_option maxHeartbeats 800000 in
theorem drawMuddyView_any (A : Option Addr) (n c : Nat) (bs : List Int) (w : World) (hc : n ≤ c) (hn : n ≤ 2000000) (hs : SB w A n bs) :
    Calls Try.prog 38 #[.slice A n c] w fun e w' => ∃ z : Int, e = .returned (.int .i64 z) ∧ z ∈ [(2 : Int), 3, 4, 1, 0, 5] ∧ Below w.heap.size w w' := by
  have H := Lib.hid (newReader_any A n c bs w hc hn hs)
  clear hs
  go_enter Try.func38, Try.ntmps38
  go_wp2_with fail
  refine H.out.mono ?_
  rintro e w1 ⟨rfl, hR, hb1⟩
  go_wp2_with fail
  refine (one_lit _ 0 _ w1 3 [2, 3, 4, 1, 0, 5] 6 rfl rfl (by omega) (by omega) (by omega) hR).mono ?_
  rintro e w2 ⟨z, rfl, hz, hR2, hg2, hb2⟩
  have hB := Lib.hid (hb1.trans hb2)
  have HZ := Lib.hid hz
  clear hR hR2 hb1 hb2 hg2 hz
  go_wp2_with fail
  go_ret
  exact ⟨z, rfl, HZ.out, hB.out⟩

end Go.Proofs.Ytlodhgkecpjieaa
