/-
  SS. By a program (wip/tools/mk.py) out of snippets.
-/
import Derived.Test.YtblaaeanbhgokaaBase
namespace Go.Proofs.Ytblaaeanbhgokaa
open Go.RowKit

theorem SI.drewN {w : World} {A n zs} (h : SI w A n zs) (m : Nat) : SI (w.drewN m) A n zs := h.below (B := w.heap.size) (bDrewN (Below.refl _ _) m) (Nat.le_refl _)
/-- Row i. -/
def rat (rows : List (List Int)) (i : Nat) : List Int := rows.getD i []
theorem rat_eq {rows : List (List Int)} {i : Nat} (h : i < rows.length) : rat rows i = rows[i] := by simp [rat, h]
theorem rat_mem {rows : List (List Int)} {i : Nat} (h : i < rows.length) : rat rows i ∈ rows := by rw [rat_eq h]; exact List.getElem_mem h
/-- A slice of rows of numbers. -/
def SS (w : World) (A : Option Addr) (n : Nat) (rows : List (List Int)) : Prop :=
  rows.length = n ∧ (0 < n → ∃ b off, A = some ⟨b, off, none⟩ ∧ ∀ i, i < n → ∃ A' n' c', w.cell? ⟨b, off + i, none⟩ = some (.slice A' n' c') ∧ SI w A' n' (rat rows i))
theorem SS.len {w A n rows} (h : SS w A n rows) : rows.length = n := h.1
theorem SS.at_ {w A n rows} (h : SS w A n rows) {i : Nat} (hi : i < n) : ∃ b off A' n' c', A = some ⟨b, off, none⟩ ∧ w.cell? ⟨b, off + i, none⟩ = some (.slice A' n' c') ∧ SI w A' n' (rat rows i) := by
  obtain ⟨b, off, e, hc⟩ := h.2 (by omega)
  obtain ⟨A', n', c', h1, h2⟩ := hc i hi
  exact ⟨b, off, A', n', c', e, h1, h2⟩
theorem SS.below {w w' : World} {A n rows} (h : SS w A n rows) {B : Nat} (hb : Below B w w') (hB : w.heap.size ≤ B) : SS w' A n rows :=
  ⟨h.1, fun hn => by
    obtain ⟨b, off, e, hc⟩ := h.2 hn
    refine ⟨b, off, e, fun i hi => ?_⟩
    obtain ⟨A', n', c', h1, h2⟩ := hc i hi
    have hlt := World.block_lt_of_cell? w _ h1
    have hlt' : b < w.heap.size := hlt
    exact ⟨A', n', c', (hb.cell (p := ⟨b, off + i, none⟩) (by show b < B; omega)).trans h1, h2.below hb hB⟩⟩
theorem SS.alloc {w : World} {A n rows} (h : SS w A n rows) (o : Obj) : SS (w.alloc o) A n rows := h.below (B := w.heap.size) ((Below.refl _ _).alloc (Nat.le_refl _) o) (Nat.le_refl _)
theorem SS.drewN {w : World} {A n rows} (h : SS w A n rows) (m : Nat) : SS (w.drewN m) A n rows := h.below (B := w.heap.size) (bDrewN (Below.refl _ _) m) (Nat.le_refl _)

/-- Rows in memory from block base on. -/
def SN (w : World) (base : Nat) (A : Option Addr) (n : Nat) (rows : List (List Int)) : Prop :=
  rows.length = n ∧ (0 < n → ∃ b off, A = some ⟨b, off, none⟩ ∧ base ≤ b ∧ ∀ i, i < n → ∃ A' n' c', w.cell? ⟨b, off + i, none⟩ = some (.slice A' n' c') ∧ SI w A' n' (rat rows i) ∧ (0 < n' → ∀ b o, A' = some ⟨b, o, none⟩ → base ≤ b))
theorem SN.ss {w base A n rows} (h : SN w base A n rows) : SS w A n rows :=
  ⟨h.1, fun hn => by
    obtain ⟨b, off, e, _, hc⟩ := h.2 hn
    exact ⟨b, off, e, fun i hi => by obtain ⟨A', n', c', h1, h2, _⟩ := hc i hi; exact ⟨A', n', c', h1, h2⟩⟩⟩
theorem SI.setOff {w : World} {A n zs} (h : SI w A n zs) {R i : Nat} {v : Value} (hA : 0 < n → ∀ b o, A = some ⟨b, o, none⟩ → b ≠ R) : SI (w.setCell ⟨R, i, none⟩ v) A n zs := by
  refine ⟨h.1, fun hp => ?_⟩
  obtain ⟨b, o, e, hc⟩ := h.2 hp
  have := hA hp b o e
  exact ⟨b, o, e, fun j hj => (World.cell?_setCell_other _ _ _ _ (fun e' => this (by injection e' with e1; exact e1.symm))).trans (hc j hj)⟩
theorem SN.setLow {w base A n rows} (h : SN w base A n rows) {R i : Nat} {v : Value} (hR : R < base) : SN (w.setCell ⟨R, i, none⟩ v) base A n rows :=
  ⟨h.1, fun hn => by
    obtain ⟨b, off, e, hb, hc⟩ := h.2 hn
    refine ⟨b, off, e, hb, fun j hj => ?_⟩
    obtain ⟨A', n', c', h1, h2, h3⟩ := hc j hj
    exact ⟨A', n', c', (World.cell?_setCell_other _ _ _ _ (fun e' => by injection e'; omega)).trans h1, h2.setOff (fun hp b o e => by have := h3 hp b o e; omega), h3⟩⟩

theorem info22 : (Try.prog.info? 22).map (fun i => (i.zero, i.size, i.bytes)) = some (some (.slice none 0 0), 1, 24) := by kernel_rfl

structure TP (w : World) (n : Nat) (rows : List (List Int)) (k : Nat) (wr : World) : Prop where
  bel : Below w.heap.size w wr
  lt : w.heap.size < wr.heap.size
  all : ∀ j, j < n → ∃ v, wr.cell? ⟨w.heap.size, j, none⟩ = some v
  fz : ∀ j, j < n → wr.frozen? ⟨w.heap.size, j, none⟩ = false
  row : ∀ j, j < k → ∃ A' n' c', wr.cell? ⟨w.heap.size, j, none⟩ = some (.slice A' n' c') ∧ SI wr A' n' (rat rows j) ∧ (0 < n' → ∀ b o, A' = some ⟨b, o, none⟩ → w.heap.size < b)
theorem TP.start {w w1 : World} {n : Nat} {t : TypeId} {vs : List Value} (rows : List (List Int)) (hown : w1.ownsRow w.heap.size t 1 (.slice (some ⟨w.heap.size, 0, none⟩) n n) n vs) (hg : w.grownBy w1 none) : TP w n rows 0 w1 := by
  have hlt := World.ownsRow.lt hown w.heap.size rfl
  refine ⟨(Below.refl _ _).grown hg (Nat.le_refl _) (fun k h => by cases h), hlt.2, fun j hj => ?_, fun j _ => World.ownsRow.frozenAt hown j, fun j hj => absurd hj (Nat.not_lt_zero _)⟩
  have hl := hown.1
  have hj' : j < vs.length := by omega
  exact ⟨vs[j], (World.ownsRow.cellAt hown j (by omega)).trans (List.getElem?_eq_getElem hj')⟩
theorem TP.call {w wr w2 : World} {n k : Nat} {rows : List (List Int)} (h : TP w n rows k wr) (hB : Below wr.heap.size wr w2) : TP w n rows k w2 := by
  have hlt := h.lt
  refine ⟨h.bel.trans (hB.mono h.bel.size), by have := hB.size; omega, fun j hj => ?_, fun j hj => ?_, fun j hj => ?_⟩
  · obtain ⟨v, hv⟩ := h.all j hj
    exact ⟨v, (hB.cell (p := ⟨w.heap.size, j, none⟩) (by show w.heap.size < _; omega)).trans hv⟩
  · exact (hB.frozen (p := ⟨w.heap.size, j, none⟩) (by show w.heap.size < _; omega)).trans (h.fz j hj)
  · obtain ⟨A', n', c', h1, h2, h3⟩ := h.row j hj
    exact ⟨A', n', c', (hB.cell (p := ⟨w.heap.size, j, none⟩) (by show w.heap.size < _; omega)).trans h1, h2.below hB (Nat.le_refl _), h3⟩
theorem TP.put {w w2 : World} {n k : Nat} {rows : List (List Int)} (h : TP w n rows k w2) (hk : k < n) {A' : Option Addr} {n' c' : Nat} (hs : SI w2 A' n' (rat rows k)) (hA : 0 < n' → ∀ b o, A' = some ⟨b, o, none⟩ → w.heap.size < b) :
    TP w n rows (k + 1) (w2.setCell ⟨w.heap.size, k, none⟩ (.slice A' n' c')) := by
  obtain ⟨v, hv⟩ := h.all k hk
  have hother : ∀ j, j ≠ k → (w2.setCell ⟨w.heap.size, k, none⟩ (.slice A' n' c')).cell? ⟨w.heap.size, j, none⟩ = w2.cell? ⟨w.heap.size, j, none⟩ := fun j hj =>
    World.cell?_setCell_other _ _ _ _ (fun e => hj (by injection e; omega))
  have hsame : (w2.setCell ⟨w.heap.size, k, none⟩ (.slice A' n' c')).cell? ⟨w.heap.size, k, none⟩ = some (.slice A' n' c') := World.cell?_setCell_same _ _ _ hv
  have hoff : ∀ {A1 : Option Addr} {n1 : Nat} {zs : List Int}, SI w2 A1 n1 zs → (0 < n1 → ∀ b o, A1 = some ⟨b, o, none⟩ → w.heap.size < b) → SI (w2.setCell ⟨w.heap.size, k, none⟩ (.slice A' n' c')) A1 n1 zs := by
    intro A1 n1 zs h1 h2
    refine ⟨h1.1, fun hp => ?_⟩
    obtain ⟨b, o, e, hc⟩ := h1.2 hp
    have := h2 hp b o e
    exact ⟨b, o, e, fun i hi => (World.cell?_setCell_other _ _ _ _ (fun e' => by injection e'; omega)).trans (hc i hi)⟩
  refine ⟨h.bel.setCell (Nat.le_refl _) _, by simpa using h.lt, fun j hj => ?_, fun j hj => by rw [World.frozen?_setCell]; exact h.fz j hj, fun j hj => ?_⟩
  · by_cases e : j = k
    · subst e; exact ⟨_, hsame⟩
    · rw [hother j e]; exact h.all j hj
  · by_cases e : j = k
    · subst e; exact ⟨A', n', c', hsame, hoff hs hA, hA⟩
    · obtain ⟨A1, n1, c1, h1, h2, h3⟩ := h.row j (by omega)
      exact ⟨A1, n1, c1, by rw [hother j e]; exact h1, hoff h2 h3, h3⟩
theorem TP.done {w wr : World} {n : Nat} {rows : List (List Int)} (h : TP w n rows n wr) (hl : rows.length = n) : SN wr w.heap.size (some ⟨w.heap.size, 0, none⟩) n rows :=
  ⟨hl, fun _ => ⟨w.heap.size, 0, rfl, Nat.le_refl _, fun i hi => by
    obtain ⟨A', n', c', h1, h2, h3⟩ := h.row i hi
    exact ⟨A', n', c', by rw [Nat.zero_add]; exact h1, h2, fun hp b o e => Nat.le_of_lt (h3 hp b o e)⟩⟩⟩
theorem NewI.up {w : World} {base : Nat} {A : Option Addr} {n : Nat} {zs : List Int} (h : NewI w base A n zs) {g : Nat} (hg : g < base) : 0 < n → ∀ b o, A = some ⟨b, o, none⟩ → g < b := by
  intro hn b o e
  obtain ⟨b', o', e', h1, _⟩ := h.2 hn
  rw [e'] at e
  cases e
  omega
set_option maxHeartbeats 800000 in
/-- 'toIntSS' copies rows. -/
theorem toIntSS_any (A : Option Addr) (n c : Nat) (rows : List (List Int)) (w : World) (hn : n ≤ 2000000) (hr : ∀ i, i < n → (rat rows i).length ≤ 2000000) (ha : SS w A n rows) :
    Calls Try.prog 82 #[.slice A n c] w fun e w' => ∃ A' c', e = .returned (.slice A' n c') ∧ n ≤ c' ∧ SN w' w.heap.size A' n rows ∧ Below w.heap.size w w' := by
  obtain ⟨i0, hi, hz0, hz1, hz2⟩ := info_parts info22
  have HR := Lib.hid hr; clear hr
  have HL := Lib.hid ha.len
  go_enter Try.func82, Try.ntmps82
  go_wp2_with (at_make; refine wpList_make_full _ rfl _ _ 35 rfl w.heap.size 22 i0 (.slice none 0 0) 1 Try.underlying35 hi hz0 hz1 _ _ _ _ n rfl rfl rfl rfl ?b1 ?b2 (Nat.le_refl _) ?_)
  case b1 => rw [hz2]; omega
  case b2 => unfold maxLen; omega
  intro w1 hown hgrow
  have T0 := TP.start rows hown hgrow
  clear hown hgrow
  go_wp2
  go_loopw [4] (fun i wr => ∃ k : Nat, k ≤ n ∧ i = .int .i64 k ∧ TP w n rows k wr) (fun i _ => n - (intOf i).toNat)
  case atStart => exact ⟨0, by omega, rfl, T0⟩
  case round =>
    clear T0
    obtain ⟨k, hk, rfl, T⟩ := hrel
    by_cases hlt : k < n
    · obtain ⟨b, off, A', n', c', rfl, h1, h2⟩ := (ha.below T.bel (Nat.le_refl _)).at_ hlt
      have hn' : n' ≤ 2000000 := by have := HR.out k hlt; rw [h2.1] at this; exact this
      have HT := Lib.hid T; clear T ha
      go_wp2_with fail
      refine (toIntS_any A' n' c' _ wr hn' h2).mono ?_
      rintro e w2 ⟨A2, c2, rfl, hN, hB⟩
      have T2 := HT.out.call hB
      have S := Lib.hid (T2.put hlt (c' := c2) hN.si (hN.up HT.out.lt))
      obtain ⟨v, hv⟩ := T2.all k hlt
      have hfz := T2.fz k hlt
      clear T2 hN hB h2 h1 HT
      go_wp2_with fail
      go_roundw
      case rel => exact ⟨k + 1, by omega, by go_num, S.out⟩
      case measure => simp [intOf]; omega
    · obtain rfl : k = n := by omega
      clear hlt hk ha
      have HT := Lib.hid T; clear T
      go_wp2_with fail
      go_ret
      exact ⟨_, _, rfl, Nat.le_refl _, HT.out.done HL.out, HT.out.bel⟩

theorem quietD {P : Program} {f : FuncId} {args : Array Value} {w : World} {m x : Nat} {v : Value} (h : Calls P f args (w.drewN (m + x)) fun e w' => Qt (w.drewN (m + x)) v e w') :
    Calls P f args (w.drewN (m + x)) fun e w'' => e = .returned v ∧ ∃ n, w'' = w.drewN (m + n) :=
  h.mono fun e w' ⟨he, q, hq⟩ => ⟨he, x + q, by rw [hq, World.drewN_drewN, Nat.add_assoc]⟩
theorem quietP {P : Program} {f : FuncId} {args : Array Value} {w : World} {m x : Nat} {v : Value} (h : Calls P f args (w.drewN (m + x)) fun e w' => e = .returned v ∧ w.drewN (m + x) = w') :
    Calls P f args (w.drewN (m + x)) fun e w'' => e = .returned v ∧ ∃ n, w'' = w.drewN (m + n) :=
  h.mono fun e w' ⟨he, hq⟩ => ⟨he, x, hq.symm⟩

set_option maxHeartbeats 800000 in
theorem eqIntSS_true (A B : Option Addr) (n c c' : Nat) (rows : List (List Int)) (w : World) (hn : n ≤ 9000000000000000000) (hr : ∀ i, i < n → (rat rows i).length ≤ 2000000) (ha : SS w A n rows) (hb : SS w B n rows) :
    Calls Try.prog 62 #[.slice A n c, .slice B n c'] w fun e w' => Qt w (.bool true) e w' := by
  have HR := Lib.hid hr; clear hr
  go_enter Try.func62, Try.ntmps62
  go_wp2
  go_loopw [5] (fun i wr => ∃ k : Nat, k ≤ n ∧ i = .int .i64 k ∧ ∃ m, wr = w.drewN m) (fun i _ => n - (intOf i).toNat)
  case atStart => exact ⟨0, by omega, rfl, 0, rfl⟩
  case round =>
    obtain ⟨k, hk, rfl, m, rfl⟩ := hrel
    by_cases hlt : k < n
    · obtain ⟨b, off, A1, n1, c1, rfl, h1, s1⟩ := ha.at_ hlt
      obtain ⟨b', off', A2, n2, c2, rfl, h2, s2⟩ := hb.at_ hlt
      obtain rfl : n2 = n1 := by rw [← s1.1, ← s2.1]
      have hn1 : n2 ≤ 9000000000000000000 := by have := HR.out k hlt; rw [s2.1] at this; omega
      have H := Lib.hid (fun q => eqIntS_true A1 A2 n2 c1 c2 _ (w.drewN q) hn1 (SI.drewN s1 q) (SI.drewN s2 q))
      clear ha hb s1 s2 hn1
      go_wp2_with fail
      go_quiet (first | (go_at_call 17; exact quietD (H.out _)))
      go_wp2
      go_roundw
      case rel => exact ⟨k + 1, by omega, by go_num, by first | exact ⟨_, rfl⟩ | exact ⟨_, by rw [World.drewN_drewN]⟩ | trivial⟩
      case measure => simp [intOf]; omega
    · clear ha hb
      go_wp2
      go_ret
      exact ⟨rfl, m, rfl⟩

theorem szIntS_any (A : Option Addr) (n c : Nat) (l : Int) (w : World) (hl0 : 0 ≤ l) (hl1 : l ≤ 1048576) (hn : n ≤ 9223372036854775807) :
    Calls Try.prog 69 #[.slice A n c, .int .i64 l] w fun e w' => e = .returned (.int .i64 (if l < n then -1 else l - n)) ∧ w = w' := by
  by_cases h : l < n
  · rw [if_pos h]
    have h1 : l - n < 0 := by omega
    go_enter Try.func69, Try.ntmps69
    go_wp2
    go_ret
    exact ⟨rfl, rfl⟩
  · rw [if_neg h]
    have h1 : ¬ l - n < 0 := by omega
    go_enter Try.func69, Try.ntmps69
    go_wp2
    go_ret
    exact ⟨by first | rfl | go_num, rfl⟩

set_option maxHeartbeats 800000 in
theorem szIntSS_any (A : Option Addr) (n c : Nat) (rows : List (List Int)) (l : Int) (w : World) (hl0 : 0 ≤ l) (hl1 : l ≤ 1048576) (hn : n ≤ 9223372036854775807) (hr : ∀ i, i < n → (rat rows i).length ≤ 9223372036854775807) (ha : SS w A n rows) :
    Calls Try.prog 80 #[.slice A n c, .int .i64 l] w fun e w' => ∃ z : Int, e = .returned (.int .i64 z) ∧ w = w' ∧ -1 ≤ z ∧ z ≤ l ∧ (0 ≤ z → n ≤ l ∧ ∀ i, i < n → ((rat rows i).length : Int) ≤ l) := by
  have HR := Lib.hid hr; clear hr
  by_cases h : l < n
  · clear ha
    have h1 : l - n < 0 := by omega
    go_enter Try.func80, Try.ntmps80
    go_wp2
    go_ret
    exact ⟨-1, rfl, rfl, by omega, by omega, fun h => absurd h (by omega)⟩
  · have h1 : ¬ l - n < 0 := by omega
    go_enter Try.func80, Try.ntmps80
    go_wp2
    go_loopg [1, 5] n (fun gg v i wr => ∃ (k : Nat) (z : Int), k ≤ n ∧ n - k ≤ gg ∧ i = .int .i64 k ∧ v = .int .i64 z ∧ 0 ≤ z ∧ z ≤ l - n ∧ w = wr ∧ Aside (∀ j, j < k → ((rat rows j).length : Int) ≤ l))
    case atStart => exact ⟨0, l - n, by omega, by omega, rfl, by first | rfl | go_num, by omega, by omega, rfl, fun j hj => absurd hj (by omega)⟩
    case round =>
      obtain ⟨k, z, hk, hg, rfl, rfl, hz0, hz1, rfl, A0⟩ := hrel
      by_cases hlt : k < n
      · obtain ⟨b, off, A', n', c', rfl, h2, h3⟩ := ha.at_ hlt
        have hn' : n' ≤ 9223372036854775807 := by have := HR.out k hlt; rw [h3.1] at this; exact this
        have H := Lib.hid (szIntS_any A' n' c' z w hz0 (by omega) hn')
        have HL := Lib.hid h3.1
        clear ha h3 hn'
        by_cases hz : z < n'
        · rw [if_pos hz] at H
          go_wp2_with fail
          refine H.out.mono ?_
          rintro e w' ⟨rfl, rfl⟩
          go_wp2_with fail
          go_ret
          exact ⟨-1, rfl, rfl, by omega, by omega, fun h => absurd h (by omega)⟩
        · rw [if_neg hz] at H
          have h5 : ¬ z - n' < 0 := by omega
          go_wp2_with fail
          refine H.out.mono ?_
          rintro e w' ⟨rfl, rfl⟩
          go_wp2_with fail
          go_roundg (n - (k + 1))
          case measure => omega
          case rel =>
            refine ⟨k + 1, z - n', by omega, by omega, by go_num, rfl, by omega, by omega, by first | rfl | trivial, (show Aside _ from fun j hj => ?_)⟩
            by_cases e : j = k
            · subst e; rw [HL.out]; omega
            · exact A0.out j (by omega)
      · obtain rfl : k = n := by omega
        clear ha
        go_wp2_with fail
        go_ret
        exact ⟨z, rfl, rfl, by omega, by omega, fun _ => ⟨by omega, A0.out⟩⟩

end Go.Proofs.Ytblaaeanbhgokaa
