/-
  SS. By a program (wip/tools/mk.py) out of snippets.
-/
import Derived.Test.YthhfnhabnaakiaaBase
namespace Go.Proofs.Ythhfnhabnaakiaa
open Go.RowKit

theorem SI.drewN {w : World} {A n zs} (h : SI w A n zs) (m : Nat) : SI (w.drewN m) A n zs := h.below (B := w.heap.size) (bDrewN (Below.refl _ _) m) (Nat.le_refl _)
/-- Row i. -/
def rat (rows : List (List Int)) (i : Nat) : List Int := rows.getD i []
theorem rat_eq {rows : List (List Int)} {i : Nat} (h : i < rows.length) : rat rows i = rows[i] := by simp [rat, h]
theorem rat_mem {rows : List (List Int)} {i : Nat} (h : i < rows.length) : rat rows i ∈ rows := by rw [rat_eq h]; exact List.getElem_mem h
/-- A slice of rows of numbers. -/
def SS (w : World) (A : Option Addr) (n : Nat) (rows : List (List Int)) : Prop :=
  rows.length = n ∧ (0 < n → ∃ b off, A = some ⟨b, off, none⟩ ∧ ∀ i, i < n → ∃ A' n' c', w.cell? ⟨b, off + i, none⟩ = some (.slice A' n' c') ∧ SI w A' n' (rat rows i))
theorem SS.len {w A n rows} (h : SS w A n rows) : rows.length = n := h.1
theorem SS.at_ {w A n rows} (h : SS w A n rows) {i : Nat} (hi : i < n) : ∃ b off A' n' c', A = some ⟨b, off, none⟩ ∧ w.cell? ⟨b, off + i, none⟩ = some (.slice A' n' c') ∧ SI w A' n' (rat rows i) := by
  obtain ⟨b, off, e, hc⟩ := h.2 (by omega)
  obtain ⟨A', n', c', h1, h2⟩ := hc i hi
  exact ⟨b, off, A', n', c', e, h1, h2⟩
theorem SS.below {w w' : World} {A n rows} (h : SS w A n rows) {B : Nat} (hb : Below B w w') (hB : w.heap.size ≤ B) : SS w' A n rows :=
  ⟨h.1, fun hn => by
    obtain ⟨b, off, e, hc⟩ := h.2 hn
    refine ⟨b, off, e, fun i hi => ?_⟩
    obtain ⟨A', n', c', h1, h2⟩ := hc i hi
    have hlt := World.block_lt_of_cell? w _ h1
    have hlt' : b < w.heap.size := hlt
    exact ⟨A', n', c', (hb.cell (p := ⟨b, off + i, none⟩) (by show b < B; omega)).trans h1, h2.below hb hB⟩⟩
theorem SS.alloc {w : World} {A n rows} (h : SS w A n rows) (o : Obj) : SS (w.alloc o) A n rows := h.below (B := w.heap.size) ((Below.refl _ _).alloc (Nat.le_refl _) o) (Nat.le_refl _)
theorem SS.drewN {w : World} {A n rows} (h : SS w A n rows) (m : Nat) : SS (w.drewN m) A n rows := h.below (B := w.heap.size) (bDrewN (Below.refl _ _) m) (Nat.le_refl _)

/-- Rows in memory from block base on. -/
def SN (w : World) (base : Nat) (A : Option Addr) (n : Nat) (rows : List (List Int)) : Prop :=
  rows.length = n ∧ (0 < n → ∃ b off, A = some ⟨b, off, none⟩ ∧ base ≤ b ∧ ∀ i, i < n → ∃ A' n' c', w.cell? ⟨b, off + i, none⟩ = some (.slice A' n' c') ∧ SI w A' n' (rat rows i) ∧ (0 < n' → ∀ b o, A' = some ⟨b, o, none⟩ → base ≤ b))
theorem SN.ss {w base A n rows} (h : SN w base A n rows) : SS w A n rows :=
  ⟨h.1, fun hn => by
    obtain ⟨b, off, e, _, hc⟩ := h.2 hn
    exact ⟨b, off, e, fun i hi => by obtain ⟨A', n', c', h1, h2, _⟩ := hc i hi; exact ⟨A', n', c', h1, h2⟩⟩⟩
theorem SI.setOff {w : World} {A n zs} (h : SI w A n zs) {R i : Nat} {v : Value} (hA : 0 < n → ∀ b o, A = some ⟨b, o, none⟩ → b ≠ R) : SI (w.setCell ⟨R, i, none⟩ v) A n zs := by
  refine ⟨h.1, fun hp => ?_⟩
  obtain ⟨b, o, e, hc⟩ := h.2 hp
  have := hA hp b o e
  exact ⟨b, o, e, fun j hj => (World.cell?_setCell_other _ _ _ _ (fun e' => this (by injection e' with e1; exact e1.symm))).trans (hc j hj)⟩
theorem SN.setLow {w base A n rows} (h : SN w base A n rows) {R i : Nat} {v : Value} (hR : R < base) : SN (w.setCell ⟨R, i, none⟩ v) base A n rows :=
  ⟨h.1, fun hn => by
    obtain ⟨b, off, e, hb, hc⟩ := h.2 hn
    refine ⟨b, off, e, hb, fun j hj => ?_⟩
    obtain ⟨A', n', c', h1, h2, h3⟩ := hc j hj
    exact ⟨A', n', c', (World.cell?_setCell_other _ _ _ _ (fun e' => by injection e'; omega)).trans h1, h2.setOff (fun hp b o e => by have := h3 hp b o e; omega), h3⟩⟩

theorem info23 : (Try.prog.info? 23).map (fun i => (i.zero, i.size, i.bytes)) = some (some (.slice none 0 0), 1, 24) := by kernel_rfl

theorem quietD {P : Program} {f : FuncId} {args : Array Value} {w : World} {m x : Nat} {v : Value} (h : Calls P f args (w.drewN (m + x)) fun e w' => Qt (w.drewN (m + x)) v e w') :
    Calls P f args (w.drewN (m + x)) fun e w'' => e = .returned v ∧ ∃ n, w'' = w.drewN (m + n) :=
  h.mono fun e w' ⟨he, q, hq⟩ => ⟨he, x + q, by rw [hq, World.drewN_drewN, Nat.add_assoc]⟩
theorem quietP {P : Program} {f : FuncId} {args : Array Value} {w : World} {m x : Nat} {v : Value} (h : Calls P f args (w.drewN (m + x)) fun e w' => e = .returned v ∧ w.drewN (m + x) = w') :
    Calls P f args (w.drewN (m + x)) fun e w'' => e = .returned v ∧ ∃ n, w'' = w.drewN (m + n) :=
  h.mono fun e w' ⟨he, hq⟩ => ⟨he, x, hq.symm⟩

set_option maxHeartbeats 800000 in
theorem eqIntSS_true (A B : Option Addr) (n c c' : Nat) (rows : List (List Int)) (w : World) (hn : n ≤ 9000000000000000000) (hr : ∀ i, i < n → (rat rows i).length ≤ 2000000) (ha : SS w A n rows) (hb : SS w B n rows) :
    Calls Try.prog 35 #[.slice A n c, .slice B n c'] w fun e w' => Qt w (.bool true) e w' := by
  have HR := Lib.hid hr; clear hr
  go_enter Try.func35, Try.ntmps35
  go_wp2
  go_loopw [5] (fun i wr => ∃ k : Nat, k ≤ n ∧ i = .int .i64 k ∧ ∃ m, wr = w.drewN m) (fun i _ => n - (intOf i).toNat)
  case atStart => exact ⟨0, by omega, rfl, 0, rfl⟩
  case round =>
    obtain ⟨k, hk, rfl, m, rfl⟩ := hrel
    by_cases hlt : k < n
    · obtain ⟨b, off, A1, n1, c1, rfl, h1, s1⟩ := ha.at_ hlt
      obtain ⟨b', off', A2, n2, c2, rfl, h2, s2⟩ := hb.at_ hlt
      obtain rfl : n2 = n1 := by rw [← s1.1, ← s2.1]
      have hn1 : n2 ≤ 9000000000000000000 := by have := HR.out k hlt; rw [s2.1] at this; omega
      have H := Lib.hid (fun q => eqIntS_true A1 A2 n2 c1 c2 _ (w.drewN q) hn1 (SI.drewN s1 q) (SI.drewN s2 q))
      clear ha hb s1 s2 hn1
      go_wp2_with fail
      go_quiet (first | (go_at_call 17; exact quietD (H.out _)))
      go_wp2
      go_roundw
      case rel => exact ⟨k + 1, by omega, by go_num, by first | exact ⟨_, rfl⟩ | exact ⟨_, by rw [World.drewN_drewN]⟩ | trivial⟩
      case measure => simp [intOf]; omega
    · clear ha hb
      go_wp2
      go_ret
      exact ⟨rfl, m, rfl⟩

end Go.Proofs.Ythhfnhabnaakiaa
