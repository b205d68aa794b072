/-
  Pairs2. By a program (wip/tools/mk.py) out of snippets.
-/
import Derived.Test.YtjiplangdkpehaaPairs
namespace Go.Proofs.Ytjiplangdkpehaa
open Go.RowKit

structure MP (w : World) (b off m : Nat) (k0 : Int) (k : Nat) (wr : World) : Prop where
  gby : w.grownBy wr (some b)
  all : ∀ j, j < m → ∃ v, wr.cell? ⟨b, off + j, none⟩ = some v
  fz : ∀ j, j < m → wr.frozen? ⟨b, off + j, none⟩ = false
  row : ∀ j, j < k → wr.cell? ⟨b, off + j, none⟩ = some (.int .i64 (k0 + (j : Int)))
theorem MP.put {w wr : World} {b off m k : Nat} {k0 : Int} (h : MP w b off m k0 k wr) (hk : k < m) : MP w b off m k0 (k + 1) (wr.setCell ⟨b, off + k, none⟩ (.int .i64 (k0 + (k : Int)))) := by
  obtain ⟨v, hv⟩ := h.all k hk
  have hcell : ∀ j, j ≠ k → (wr.setCell ⟨b, off + k, none⟩ (.int .i64 (k0 + k))).cell? ⟨b, off + j, none⟩ = wr.cell? ⟨b, off + j, none⟩ := fun j hj =>
    World.cell?_setCell_other _ _ _ _ (fun e => hj (by injection e; omega))
  have hsame : (wr.setCell ⟨b, off + k, none⟩ (.int .i64 (k0 + k))).cell? ⟨b, off + k, none⟩ = some (.int .i64 (k0 + k)) := World.cell?_setCell_same _ _ _ hv
  refine ⟨⟨h.gby.os, h.gby.tape, h.gby.output, by simpa using h.gby.size, fun i hi hne => ?_⟩, fun j hj => ?_, fun j hj => by rw [World.frozen?_setCell]; exact h.fz j hj, fun j hj => ?_⟩
  · rw [Below.heap_setCell _ _ _ _ (by simpa using hne)]; exact h.gby.block i hi hne
  · by_cases e : j = k
    · subst e; exact ⟨_, hsame⟩
    · rw [hcell j e]; exact h.all j hj
  · by_cases e : j = k
    · subst e; exact hsame
    · rw [hcell j e]; exact h.row j (by omega)
set_option maxHeartbeats 800000 in
theorem markPairS_any (A : Option Addr) (n c base : Nat) (zs : List Int) (k0 : Int) (w : World) (hn : n ≤ 2000000) (hk0 : 0 ≤ k0) (hk1 : k0 ≤ 1000000000000) (ha : NewI w base A (n * 2) zs) :
    Calls Try.prog 21 #[.slice A n c, .int .i64 k0] w fun e w' => e = .returned (.int .i64 (k0 + ((n * 2 : Nat) : Int))) ∧ NewI w' base A (n * 2) (seqFrom k0 (n * 2)) ∧ w.grownBy w' (wBlock A (n * 2)) := by
  by_cases h0 : n = 0
  · subst h0
    go_enter Try.func21, Try.ntmps21
    go_wp2
    refine wp_loop_rounds 1 ?_
    rw [rounds_succ]
    go_wp2
    go_ret
    exact ⟨by simp, ⟨seqFrom_length _ _, fun h => absurd h (by omega)⟩, World.grownBy.refl _ _⟩
  · obtain ⟨b, off, rfl, hb1, hb2, hc, hf⟩ := ha.2 (by omega)
    have hob := wBlock_some (n := n * 2) b off (by omega)
    rw [hob]
    have T0 : MP w b off (n * 2) k0 0 w := ⟨World.grownBy.refl _ _, fun j hj => ⟨_, hc j hj⟩, hf, fun j hj => absurd hj (by omega)⟩
    clear ha hob hc hf
    go_enter Try.func21, Try.ntmps21
    go_wp2
    go_loopg [1, 5] n (fun gg kv i wr => ∃ k kk : Nat, k ≤ n ∧ n - k ≤ gg ∧ i = .int .i64 k ∧ kv = .int .i64 (k0 + (kk : Int)) ∧ Aside (kk = k * 2) ∧ MP w b off (n * 2) k0 (k * 2) wr)
    case atStart => exact ⟨0, 0, by omega, by omega, rfl, by simp, rfl, T0⟩
    case round =>
      clear T0
      obtain ⟨k, kk, hk, hg, rfl, rfl, AK, T⟩ := hrel
      have HK := Lib.hid AK.out
      have hkk : kk ≤ 4000000 := by rw [HK.out]; omega
      clear AK
      by_cases hlt : k < n
      · obtain ⟨v1, hv1⟩ := T.all (k * 2) (by omega)
        obtain ⟨v2, hv2⟩ := T.all (k * 2 + 1) (by omega)
        have hf1 := T.fz (k * 2) (by omega)
        have hf2 := T.fz (k * 2 + 1) (by omega)
        rw [← Nat.add_assoc] at hv2 hf2
        have hv3 : (wr.setCell ⟨b, off + k * 2, none⟩ (.int .i64 (k0 + (kk : Int)))).cell? ⟨b, off + k * 2 + 1, none⟩ = some v2 := (World.cell?_setCell_other _ _ _ _ (fun e => by injection e; omega)).trans hv2
        have S := Lib.hid (show MP w b off (n * 2) k0 (k * 2 + 2) ((wr.setCell ⟨b, off + k * 2, none⟩ (.int .i64 (k0 + (kk : Int)))).setCell ⟨b, off + k * 2 + 1, none⟩ (.int .i64 (k0 + (kk : Int) + 1))) by
          have h := (T.put (k := k * 2) (by omega)).put (k := k * 2 + 1) (by omega)
          rw [show off + (k * 2 + 1) = off + k * 2 + 1 by omega, show (k0 + ((k * 2 + 1 : Nat) : Int)) = k0 + (kk : Int) + 1 by rw [HK.out]; omega, show (k0 + ((k * 2 : Nat) : Int)) = k0 + (kk : Int) by rw [HK.out]] at h
          exact h)
        clear T
        go_wp2_with fail
        go_roundg (n - (k + 1))
        case measure => omega
        case rel => exact ⟨k + 1, kk + 2, by omega, by omega, by go_num, by first | (go_num; done) | (congr 1; omega), by show kk + 2 = (k + 1) * 2; rw [HK.out]; omega, by rw [Nat.add_mul]; exact S.out⟩
      · obtain rfl : k = n := by omega
        have HT := Lib.hid T
        clear T
        go_wp2_with fail
        go_ret
        refine ⟨by rw [← HK.out]; rfl, ⟨seqFrom_length _ _, fun _ => ⟨b, off, rfl, hb1, by have := HT.out.gby.size; omega, fun i hi => ?_, HT.out.fz⟩⟩, HT.out.gby⟩
        rw [seqFrom_at hi]
        exact HT.out.row i hi

theorem markPZ (A : Option Addr) (n c lo hi : Nat) (zs : List Int) (k0 : Int) (w : World) (hn : n ≤ 2000000) (hk0 : 0 ≤ k0) (hk1 : k0 ≤ 1000000000000) (ha : Z w lo hi A (n * 2) zs) :
    Calls Try.prog 21 #[.slice A n c, .int .i64 k0] w fun e w' => e = .returned (.int .i64 (k0 + ((n * 2 : Nat) : Int))) ∧ Z w' lo hi A (n * 2) (seqFrom k0 (n * 2)) ∧ w.grownBy w' (wBlock A (n * 2)) := by
  refine (markPairS_any A n c lo zs k0 w hn hk0 hk1 ha.new).mono ?_
  rintro e w' ⟨rfl, h2, h3⟩
  by_cases h0 : n = 0
  · subst h0
    refine ⟨rfl, ⟨seqFrom_length _ _, by have := h3.size; have := ha.2.1; omega, fun h => absurd h (by omega)⟩, ?_⟩
    exact h3
  · obtain ⟨b, off, rfl, h4, h5, _⟩ := ha.2.2 (by omega)
    refine ⟨rfl, ⟨seqFrom_length _ _, by have := h3.size; have := ha.2.1; omega, fun hn => ?_⟩, ?_⟩
    · obtain ⟨b', off', e, h6, h7, h8, h9⟩ := h2.2 hn
      cases e
      exact ⟨_, _, rfl, h4, h5, h8, h9⟩
    · exact h3

set_option maxHeartbeats 800000 in
theorem heldPairS_any (A : Option Addr) (n c : Nat) (k0 : Int) (w : World) (hn : n ≤ 2000000) (hk0 : 0 ≤ k0) (hk1 : k0 ≤ 1000000000000) (ha : SI w A (n * 2) (seqFrom k0 (n * 2))) :
    Calls Try.prog 22 #[.slice A n c, .int .i64 k0] w fun e w' => Qt w (.int .i64 (k0 + ((n * 2 : Nat) : Int))) e w' := by
  go_enter Try.func22, Try.ntmps22
  go_wp2
  go_loopg [1, 5] n (fun gg kv i wr => ∃ k kk m : Nat, k ≤ n ∧ n - k ≤ gg ∧ i = .int .i64 k ∧ kv = .int .i64 (k0 + (kk : Int)) ∧ Aside (kk = k * 2) ∧ wr = w.drewN m)
  case atStart => exact ⟨0, 0, 0, by omega, by omega, rfl, by simp, rfl, rfl⟩
  case round =>
    obtain ⟨k, kk, m, hk, hg, rfl, rfl, AK, rfl⟩ := hrel
    have HK := Lib.hid AK.out
    have hkk : kk ≤ 4000000 := by rw [HK.out]; omega
    clear AK
    by_cases hlt : k < n
    · obtain ⟨b, off, rfl, h1, h2⟩ := SI.pair ha hlt
      rw [seqFrom_at (by omega), show (k0 + ((k * 2 : Nat) : Int)) = k0 + (kk : Int) by rw [HK.out]] at h1
      rw [seqFrom_at (by omega), show (k0 + ((k * 2 + 1 : Nat) : Int)) = k0 + (kk : Int) + 1 by rw [HK.out]; omega] at h2
      clear ha
      go_wp2_with fail
      go_roundg (n - (k + 1))
      case measure => omega
      case rel => exact ⟨k + 1, kk + 2, m, by omega, by omega, by go_num, by first | (go_num; done) | (congr 1; omega), by show kk + 2 = (k + 1) * 2; rw [HK.out]; omega, rfl⟩
    · obtain rfl : k = n := by omega
      clear ha
      go_wp2_with fail
      go_ret
      exact ⟨by rw [← HK.out]; rfl, m, rfl⟩

end Go.Proofs.Ytjiplangdkpehaa
