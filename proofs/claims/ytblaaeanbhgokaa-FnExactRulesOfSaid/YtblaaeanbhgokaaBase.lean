/-
  Base. By a program (wip/tools/mk.py) out of snippets.
-/
import Derived.Test.YtblaaeanbhgokaaWd
namespace Go.Proofs.Ytblaaeanbhgokaa
open Go.RowKit

set_option maxHeartbeats 400000 in
/-- 'toIntS' copies a slice. -/
theorem toIntS_cap (A : Option Addr) (n c : Nat) (zs : List Int) (w : World) (hn : n ≤ 2000000) (ha : SI w A n zs) :
    Calls Try.prog 15 #[.slice A n c] w fun e w' => ∃ A' c', e = .returned (.slice A' n c') ∧ n ≤ c' ∧ NewI w' w.heap.size A' n zs ∧ Below w.heap.size w w' := by
  obtain ⟨i0, hi, hz0, hz1, hz2⟩ := info_parts info3
  go_enter Try.func15, Try.ntmps15
  go_wp2_with (at_make; refine wpList_make_full _ rfl _ _ 22 rfl w.heap.size 3 i0 (.int .i64 0) 1 Try.underlying22 hi hz0 hz1 _ _ _ _ n rfl rfl rfl rfl ?b1 ?b2 (Nat.le_refl _) ?_)
  case b1 => rw [hz2]; omega
  case b2 => unfold maxLen; omega
  intro w1 hown hgrow
  rw [madeInts, ← upto_zero zs] at hown
  have hb1 : Below w.heap.size w w1 := (Below.refl _ _).grown hgrow (Nat.le_refl _) (fun k h => by cases h)
  clear hgrow
  go_wp2
  go_loopw [4] (fun i wr => ∃ k : Nat, k ≤ n ∧ i = .int .i64 k ∧ wr.ownsRow w.heap.size 3 1 (.slice (some ⟨w.heap.size, 0, none⟩) n n) n ((upto zs k n).map (Value.int .i64)) ∧ Below w.heap.size w wr) (fun i _ => n - (intOf i).toNat)
  case atStart => exact ⟨0, by omega, rfl, hown, hb1⟩
  case round =>
    clear hown hb1
    obtain ⟨k, hk, rfl, hown, hbw⟩ := hrel
    by_cases hlt : k < n
    · obtain ⟨b, off, rfl, h1⟩ := (ha.below hbw (Nat.le_refl _)).at_ hlt
      have hu := upto_length ha.len hk
      have h2 := own_cell hown hlt
      have h3 := World.ownsRow.frozenAt hown k
      have hst := own_stored hown k (iat zs k)
      rw [upto_set ha.len hlt] at hst
      obtain ⟨hst1, hst2⟩ := hst
      have hbw' : Below w.heap.size w (wr.setCell ⟨w.heap.size, k, none⟩ (.int .i64 (iat zs k))) := hbw.setCell (Nat.le_refl _) _
      clear hu hown ha hst2
      have H1 := Lib.hid hst1; clear hst1
      go_wp2
      go_roundw
      case rel => exact ⟨k + 1, by omega, by go_num, H1.out, hbw'⟩
      case measure => simp [intOf]; omega
    · obtain rfl : k = n := by omega
      rw [upto_full ha.len] at hown
      clear hlt hk
      go_wp2
      go_ret
      exact ⟨_, _, rfl, Nat.le_refl _, NewI.of_own hown, hbw⟩
theorem toIntS_any (A : Option Addr) (n c : Nat) (zs : List Int) (w : World) (hn : n ≤ 2000000) (ha : SI w A n zs) :
    Calls Try.prog 15 #[.slice A n c] w fun e w' => ∃ A' c', e = .returned (.slice A' n c') ∧ NewI w' w.heap.size A' n zs ∧ Below w.heap.size w w' :=
  (toIntS_cap A n c zs w hn ha).mono fun e w' ⟨A', c', he, _, h⟩ => ⟨A', c', he, h⟩

theorem eqIntS_true (A B : Option Addr) (n c c' : Nat) (zs : List Int) (w : World) (hn : n ≤ 9000000000000000000) (ha : SI w A n zs) (hb : SI w B n zs) :
    Calls Try.prog 17 #[.slice A n c, .slice B n c'] w fun e w' => Qt w (.bool true) e w' := by
  go_enter Try.func17, Try.ntmps17
  go_wp2
  go_loopw [5] (fun i wr => ∃ k : Nat, k ≤ n ∧ i = .int .i64 k ∧ ∃ m, wr = w.drewN m) (fun i _ => n - (intOf i).toNat)
  case atStart => exact ⟨0, by omega, rfl, 0, rfl⟩
  case round =>
    obtain ⟨k, hk, rfl, m, rfl⟩ := hrel
    by_cases hlt : k < n
    · obtain ⟨b, off, rfl, h1⟩ := ha.at_ hlt
      obtain ⟨b', off', rfl, h2⟩ := hb.at_ hlt
      clear ha hb
      go_wp2
      go_quiet (fail)
      go_wp2
      go_roundw
      case rel => exact ⟨k + 1, by omega, by go_num, by first | exact ⟨_, rfl⟩ | trivial⟩
      case measure => simp [intOf]; omega
    · clear ha hb
      go_wp2
      go_ret
      exact ⟨rfl, m, rfl⟩

/-- What 'markIntS' writes: k, k + 1, .. -/
def seqFrom (k : Int) (n : Nat) : List Int := (List.range n).map fun (i : Nat) => k + (i : Int)
theorem seqFrom_length (k : Int) (n : Nat) : (seqFrom k n).length = n := by simp [seqFrom]
theorem seqFrom_at {k : Int} {n i : Nat} (h : i < n) : iat (seqFrom k n) i = k + i := by simp [seqFrom, iat, h]
theorem markIntS_any (A : Option Addr) (n c base : Nat) (zs : List Int) (k0 : Int) (w : World) (hn : n ≤ 2000000) (hk0 : 0 ≤ k0) (hk1 : k0 ≤ 1000000000000) (ha : NewI w base A n zs) :
    Calls Try.prog 20 #[.slice A n c, .int .i64 k0] w fun e w' => e = .returned (.int .i64 (k0 + n)) ∧ NewI w' base A n (seqFrom k0 n) ∧ w.grownBy w' (wBlock A n) := by
  by_cases h0 : n = 0
  · subst h0
    go_enter Try.func20, Try.ntmps20
    go_wp2
    refine wp_loop_rounds 1 ?_
    rw [rounds_succ]
    go_wp2
    go_ret
    exact ⟨by simp, ⟨seqFrom_length _ _, fun h => absurd h (by omega)⟩, World.grownBy.refl _ _⟩
  · obtain ⟨b, off, rfl, hb1, hb2, hc, hf⟩ := ha.2 (by omega)
    clear ha
    have hob := wBlock_some (n := n) b off (by omega)
    rw [hob]
    clear hob
    go_enter Try.func20, Try.ntmps20
    go_wp2
    go_loopw [1, 5] (fun kv i wr => ∃ k : Nat, k ≤ n ∧ i = .int .i64 k ∧ kv = .int .i64 (k0 + k) ∧ (∀ j, j < k → wr.cell? ⟨b, off + j, none⟩ = some (.int .i64 (k0 + j))) ∧ (∀ j, j < n → ∃ v, wr.cell? ⟨b, off + j, none⟩ = some v) ∧ w.grownBy wr (some b) ∧ (∀ j, j < n → wr.frozen? ⟨b, off + j, none⟩ = false)) (fun _ i _ => n - (intOf i).toNat)
    case atStart => exact ⟨0, by omega, rfl, by simp, fun j hj => absurd hj (by omega), fun j hj => ⟨_, hc j hj⟩, World.grownBy.refl _ _, hf⟩
    case round =>
      clear hc hf
      obtain ⟨k, hk, rfl, rfl, h1, h2, hg, hf⟩ := hrel
      have H1 := Lib.hid h1; clear h1
      have H2 := Lib.hid h2; clear h2
      have H3 := Lib.hid hf; clear hf
      by_cases hlt : k < n
      · obtain ⟨v, hv⟩ := H2.out k hlt
        have hfk := H3.out k hlt
        have hcell : ∀ j, j ≠ k → (wr.setCell ⟨b, off + k, none⟩ (.int .i64 (k0 + k))).cell? ⟨b, off + j, none⟩ = wr.cell? ⟨b, off + j, none⟩ := fun j hj =>
          World.cell?_setCell_other _ _ _ _ (fun e => hj (by injection e; omega))
        have hsame : (wr.setCell ⟨b, off + k, none⟩ (.int .i64 (k0 + k))).cell? ⟨b, off + k, none⟩ = some (.int .i64 (k0 + k)) := World.cell?_setCell_same _ _ _ hv
        have R : (∀ j, j < k + 1 → (wr.setCell ⟨b, off + k, none⟩ (.int .i64 (k0 + k))).cell? ⟨b, off + j, none⟩ = some (.int .i64 (k0 + j))) ∧ (∀ j, j < n → ∃ v, (wr.setCell ⟨b, off + k, none⟩ (.int .i64 (k0 + k))).cell? ⟨b, off + j, none⟩ = some v) ∧ w.grownBy (wr.setCell ⟨b, off + k, none⟩ (.int .i64 (k0 + k))) (some b) ∧ (∀ j, j < n → (wr.setCell ⟨b, off + k, none⟩ (.int .i64 (k0 + k))).frozen? ⟨b, off + j, none⟩ = false) := by
          refine ⟨fun j hj => ?_, fun j hj => ?_, ⟨hg.os, hg.tape, hg.output, by simpa using hg.size, fun i hi hne => ?_⟩, fun j hj => by rw [World.frozen?_setCell]; exact H3.out j hj⟩
          · by_cases e : j = k
            · subst e; exact hsame
            · rw [hcell j e]; exact H1.out j (by omega)
          · by_cases e : j = k
            · subst e; exact ⟨_, hsame⟩
            · rw [hcell j e]; exact H2.out j hj
          · rw [Below.heap_setCell _ _ _ _ (by simpa using hne)]; exact hg.block i hi hne
        have HR := Lib.hid R; clear R hcell hsame H1 H2 H3
        go_wp2
        go_roundw
        case rel => exact ⟨k + 1, by omega, by go_num, by go_num, HR.out⟩
        case measure => simp [intOf]; omega
      · obtain rfl : k = n := by omega
        go_wp2
        go_ret
        refine ⟨rfl, ⟨seqFrom_length _ _, fun _ => ⟨b, off, rfl, hb1, by have := hg.size; omega, fun i hi => ?_, H3.out⟩⟩, hg⟩
        rw [seqFrom_at hi]
        exact H1.out i hi

theorem heldIntS_any (A : Option Addr) (n c : Nat) (k0 : Int) (w : World) (hn : n ≤ 2000000) (hk0 : 0 ≤ k0) (hk1 : k0 ≤ 1000000000000) (ha : SI w A n (seqFrom k0 n)) :
    Calls Try.prog 21 #[.slice A n c, .int .i64 k0] w fun e w' => Qt w (.int .i64 (k0 + n)) e w' := by
  go_enter Try.func21, Try.ntmps21
  go_wp2
  go_loopw [1, 5] (fun kv i wr => ∃ k : Nat, k ≤ n ∧ i = .int .i64 k ∧ kv = .int .i64 (k0 + k) ∧ ∃ m, wr = w.drewN m) (fun _ i _ => n - (intOf i).toNat)
  case atStart => exact ⟨0, by omega, rfl, by simp, 0, rfl⟩
  case round =>
    obtain ⟨k, hk, rfl, rfl, m, rfl⟩ := hrel
    by_cases hlt : k < n
    · obtain ⟨b, off, rfl, h1⟩ := ha.at_ hlt
      rw [seqFrom_at hlt] at h1
      clear ha
      go_wp2
      go_roundw
      case rel => exact ⟨k + 1, by omega, by go_num, by go_num, by first | exact ⟨_, rfl⟩ | trivial⟩
      case measure => simp [intOf]; omega
    · obtain rfl : k = n := by omega
      clear ha
      go_wp2
      go_ret
      exact ⟨rfl, m, rfl⟩

theorem markZ (A : Option Addr) (n c lo hi : Nat) (zs : List Int) (k0 : Int) (w : World) (hn : n ≤ 2000000) (hk0 : 0 ≤ k0) (hk1 : k0 ≤ 1000000000000) (ha : Z w lo hi A n zs) :
    Calls Try.prog 20 #[.slice A n c, .int .i64 k0] w fun e w' => e = .returned (.int .i64 (k0 + n)) ∧ Z w' lo hi A n (seqFrom k0 n) ∧ w.grownBy w' (wBlock A n) := by
  refine (markIntS_any A n c lo zs k0 w hn hk0 hk1 ha.new).mono ?_
  rintro e w' ⟨rfl, h2, h3⟩
  by_cases h0 : n = 0
  · subst h0
    refine ⟨rfl, ⟨seqFrom_length _ _, by have := h3.size; have := ha.2.1; omega, fun h => absurd h (by omega)⟩, ?_⟩
    exact h3
  · obtain ⟨b, off, rfl, h4, h5, _⟩ := ha.2.2 (by omega)
    refine ⟨rfl, ⟨seqFrom_length _ _, by have := h3.size; have := ha.2.1; omega, fun hn => ?_⟩, ?_⟩
    · obtain ⟨b', off', e, h6, h7, h8, h9⟩ := h2.2 hn
      cases e
      exact ⟨_, _, rfl, h4, h5, h8, h9⟩
    · exact h3

end Go.Proofs.Ytblaaeanbhgokaa
