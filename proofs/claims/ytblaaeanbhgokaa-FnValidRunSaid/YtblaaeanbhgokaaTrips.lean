/-
  Trips. By a program (wip/tools/mk.py) out of snippets.
-/
import Derived.Test.YtblaaeanbhgokaaBase
import Derived.Test.YtblaaeanbhgokaaStep
import Derived.Test.YtblaaeanbhgokaaSS
namespace Go.Proofs.Ytblaaeanbhgokaa
open Go.RowKit

set_option maxHeartbeats 800000 in
theorem toStop_any (x y z : Int) (w : World) :
    Calls Try.prog 96 #[.agg #[.int .i64 x, .int .i64 y, .int .i64 z]] w fun e w' => e = .returned (.agg #[.int .i64 x, .int .i64 y, .int .i64 z]) ∧ Below w.heap.size w w' := by
  go_enter Try.func96, Try.ntmps96
  go_wp2
  refine bodyPost_ret (v := .agg #[.int .i64 x, .int .i64 y, .int .i64 z]) ?_ rfl ⟨rfl, ?_⟩
  · have hres : Try.f96.results = #[.cell 2 82] := by kernel_rfl
    simp only [results, hres]
    go_simp
  · exact (((Below.refl _ _).alloc (Nat.le_refl _) _).alloc (by simp) _).alloc (by simp; omega) _

theorem eqStop_true (x y z : Int) (w : World) :
    Calls Try.prog 97 #[.agg #[.int .i64 x, .int .i64 y, .int .i64 z], .agg #[.int .i64 x, .int .i64 y, .int .i64 z]] w fun e w' => e = .returned (.bool true) ∧ Below w.heap.size w w' := by
  have hB : Below w.heap.size w ((w.alloc (.cells #[.int .i64 x, .int .i64 y, .int .i64 z] 82)).alloc (.cells #[.int .i64 x, .int .i64 y, .int .i64 z] 82)) := ((Below.refl _ _).alloc (Nat.le_refl _) _).alloc (by simp) _
  have hx : (x == x) = true := by simp
  have hy : (y == y) = true := by simp
  have hz : (z == z) = true := by simp
  go_enter Try.func97, Try.ntmps97
  go_wp2
  go_ret
  exact ⟨rfl, hB⟩

theorem szStopS_any (A : Option Addr) (n c : Nat) (l : Int) (w : World) (hl0 : 0 ≤ l) (hl1 : l ≤ 1048576) (hn : n ≤ 9223372036854775807) :
    Calls Try.prog 70 #[.slice A n c, .int .i64 l] w fun e w' => e = .returned (.int .i64 (if l < n then -1 else l - n)) ∧ w = w' := by
  by_cases h : l < n
  · rw [if_pos h]
    have h1 : l - n < 0 := by omega
    go_enter Try.func70, Try.ntmps70
    go_wp2
    go_ret
    exact ⟨rfl, rfl⟩
  · rw [if_neg h]
    have h1 : ¬ l - n < 0 := by omega
    go_enter Try.func70, Try.ntmps70
    go_wp2
    go_ret
    exact ⟨by first | rfl | go_num, rfl⟩

theorem SI.trip {w : World} {A : Option Addr} {n : Nat} {zs : List Int} (h : SI w A (n * 3) zs) {k : Nat} (hk : k < n) :
    ∃ b off, A = some ⟨b, off, none⟩ ∧ w.cell? ⟨b, off + k * 3, none⟩ = some (.int .i64 (iat zs (k * 3))) ∧ w.cell? ⟨b, off + k * 3 + 1, none⟩ = some (.int .i64 (iat zs (k * 3 + 1))) ∧ w.cell? ⟨b, off + k * 3 + 2, none⟩ = some (.int .i64 (iat zs (k * 3 + 2))) := by
  obtain ⟨b, off, rfl, hc⟩ := h.2 (by omega)
  have h2 := hc (k * 3 + 1) (by omega)
  have h3 := hc (k * 3 + 2) (by omega)
  rw [← Nat.add_assoc] at h2 h3
  exact ⟨b, off, rfl, hc (k * 3) (by omega), h2, h3⟩
structure TPS (w : World) (n : Nat) (zs : List Int) (k : Nat) (wr : World) : Prop where
  bel : Below w.heap.size w wr
  lt : w.heap.size < wr.heap.size
  all : ∀ j, j < n * 3 → ∃ v, wr.cell? ⟨w.heap.size, j, none⟩ = some v
  fz : ∀ j, j < n * 3 → wr.frozen? ⟨w.heap.size, j, none⟩ = false
  row : ∀ j, j < k → wr.cell? ⟨w.heap.size, j, none⟩ = some (.int .i64 (iat zs j))
theorem TPS.start {w w1 : World} {n : Nat} {t : TypeId} {vs : List Value} {sl : Value} (zs : List Int) (hs : sl = .slice (some ⟨w.heap.size, 0, none⟩) n n) (hown : w1.ownsRow w.heap.size t 3 sl n vs) (hg : w.grownBy w1 none) : TPS w n zs 0 w1 := by
  subst hs
  have hlt := World.ownsRow.lt hown w.heap.size rfl
  refine ⟨(Below.refl _ _).grown hg (Nat.le_refl _) (fun k h => by cases h), hlt.2, fun j hj => ?_, fun j _ => World.ownsRow.frozenAt hown j, fun j hj => absurd hj (Nat.not_lt_zero _)⟩
  have hl := hown.1
  have hj' : j < vs.length := by omega
  exact ⟨vs[j], (World.ownsRow.cellAt hown j (by omega)).trans (List.getElem?_eq_getElem hj')⟩
theorem TPS.call {w wr w2 : World} {n k : Nat} {zs : List Int} (h : TPS w n zs k wr) (hB : Below wr.heap.size wr w2) : TPS w n zs k w2 := by
  have hlt := h.lt
  refine ⟨h.bel.trans (hB.mono h.bel.size), by have := hB.size; omega, fun j hj => ?_, fun j hj => ?_, fun j hj => ?_⟩
  · obtain ⟨v, hv⟩ := h.all j hj
    exact ⟨v, (hB.cell (p := ⟨w.heap.size, j, none⟩) (by show w.heap.size < _; omega)).trans hv⟩
  · exact (hB.frozen (p := ⟨w.heap.size, j, none⟩) (by show w.heap.size < _; omega)).trans (h.fz j hj)
  · exact (hB.cell (p := ⟨w.heap.size, j, none⟩) (by show w.heap.size < _; omega)).trans (h.row j hj)
theorem TPS.put {w w2 : World} {n k : Nat} {zs : List Int} (h : TPS w n zs k w2) (hk : k < n * 3) : TPS w n zs (k + 1) (w2.setCell ⟨w.heap.size, k, none⟩ (.int .i64 (iat zs k))) := by
  obtain ⟨v, hv⟩ := h.all k hk
  have hother : ∀ j, j ≠ k → (w2.setCell ⟨w.heap.size, k, none⟩ (.int .i64 (iat zs k))).cell? ⟨w.heap.size, j, none⟩ = w2.cell? ⟨w.heap.size, j, none⟩ := fun j hj =>
    World.cell?_setCell_other _ _ _ _ (fun e => hj (by injection e; omega))
  have hsame : (w2.setCell ⟨w.heap.size, k, none⟩ (.int .i64 (iat zs k))).cell? ⟨w.heap.size, k, none⟩ = some (.int .i64 (iat zs k)) := World.cell?_setCell_same _ _ _ hv
  refine ⟨h.bel.setCell (Nat.le_refl _) _, by simpa using h.lt, fun j hj => ?_, fun j hj => by rw [World.frozen?_setCell]; exact h.fz j hj, fun j hj => ?_⟩
  · by_cases e : j = k
    · subst e; exact ⟨_, hsame⟩
    · rw [hother j e]; exact h.all j hj
  · by_cases e : j = k
    · subst e; exact hsame
    · rw [hother j e]; exact h.row j (by omega)
theorem TPS.done {w wr : World} {n : Nat} {zs : List Int} (h : TPS w n zs (n * 3) wr) (hl : zs.length = n * 3) : NewI wr w.heap.size (some ⟨w.heap.size, 0, none⟩) (n * 3) zs :=
  ⟨hl, fun _ => ⟨w.heap.size, 0, rfl, Nat.le_refl _, h.lt, fun i hi => by rw [Nat.zero_add]; exact h.row i hi, fun i hi => by rw [Nat.zero_add]; exact h.fz i hi⟩⟩
theorem infoStop : (Try.prog.info? 82).map (fun i => (i.zero, i.size, i.bytes)) = some (some (.agg #[.int .i64 0, .int .i64 0, .int .i64 0]), 3, 24) := by kernel_rfl
set_option maxHeartbeats 800000 in
/-- 'toStopS' copies pairs: two cells each. -/
theorem toStopS_any (A : Option Addr) (n c : Nat) (zs : List Int) (w : World) (hn : n ≤ 2000000) (ha : SI w A (n * 3) zs) :
    Calls Try.prog 71 #[.slice A n c] w fun e w' => ∃ A' c', e = .returned (.slice A' n c') ∧ n ≤ c' ∧ NewI w' w.heap.size A' (n * 3) zs ∧ Below w.heap.size w w' := by
  obtain ⟨i0, hi, hz0, hz1, hz2⟩ := info_parts infoStop
  have HL := Lib.hid ha.len
  go_enter Try.func71, Try.ntmps71
  go_wp2_with (at_make; refine wpList_make_full _ rfl _ _ 42 rfl w.heap.size 82 i0 (.agg #[.int .i64 0, .int .i64 0, .int .i64 0]) 3 Try.underlying42 hi hz0 hz1 _ _ _ _ n rfl rfl rfl rfl ?b1 ?b2 (Nat.le_refl _) ?_)
  case b1 => rw [hz2]; omega
  case b2 => unfold maxLen; omega
  intro w1 hown hgrow
  have T0 := TPS.start zs rfl hown hgrow
  clear hown hgrow
  go_wp2
  go_loopw [4] (fun i wr => ∃ k : Nat, k ≤ n ∧ i = .int .i64 k ∧ TPS w n zs (k * 3) wr) (fun i _ => n - (intOf i).toNat)
  case atStart => exact ⟨0, by omega, rfl, T0⟩
  case round =>
    clear T0
    obtain ⟨k, hk, rfl, T⟩ := hrel
    by_cases hlt : k < n
    · obtain ⟨b, off, rfl, h1, h2, h3⟩ := SI.trip (ha.below T.bel (Nat.le_refl _)) hlt
      have HT := Lib.hid T; clear T ha
      have HX := Lib.hid (show iat zs (k * 3) = iat zs (k * 3) from rfl)
      have HP := Lib.hid (fun w2 (h : TPS w n zs (k * 3) w2) => ((h.put (by omega)).put (k := k * 3 + 1) (by omega)).put (k := k * 3 + 2) (by omega))
      generalize iat zs (k * 3) = x at *
      generalize iat zs (k * 3 + 1) = y at *
      generalize iat zs (k * 3 + 2) = z at *
      go_wp2_with fail
      refine (toStop_any x y z wr).mono ?_
      rintro e w2 ⟨rfl, hB⟩
      have T2 := HT.out.call hB
      have S := Lib.hid (HP.out _ T2)
      obtain ⟨v1, hv1⟩ := T2.all (k * 3) (by omega)
      obtain ⟨v2, hv2⟩ := T2.all (k * 3 + 1) (by omega)
      have hf1 := T2.fz (k * 3) (by omega)
      obtain ⟨v3, hv3⟩ := T2.all (k * 3 + 2) (by omega)
      have hf2 := T2.fz (k * 3 + 1) (by omega)
      have hf3 := T2.fz (k * 3 + 2) (by omega)
      clear T2 hB h3 h2 h1 HT HP HX
      go_wp2_with fail
      go_roundw
      case rel => exact ⟨k + 1, by omega, by go_num, by rw [Nat.add_mul]; exact S.out⟩
      case measure => simp [intOf]; omega
    · obtain rfl : k = n := by omega
      have HT := Lib.hid T
      clear hlt hk ha T
      go_wp2_with fail
      go_ret
      exact ⟨_, _, rfl, Nat.le_refl _, HT.out.done HL.out, HT.out.bel⟩

set_option maxRecDepth 20000 in
set_option maxHeartbeats 1600000 in
theorem eqStopS_true (A B : Option Addr) (n c c' : Nat) (zs : List Int) (w : World) (hn : n ≤ 9000000000000000000) (ha : SI w A (n * 3) zs) (hb : SI w B (n * 3) zs) :
    Calls Try.prog 72 #[.slice A n c, .slice B n c'] w fun e w' => e = .returned (.bool true) ∧ Below w.heap.size w w' := by
  have HA := Lib.hid ha
  have HB := Lib.hid hb
  clear ha hb
  go_enter Try.func72, Try.ntmps72
  go_wp2
  go_loopg [5] n (fun gg i wr => ∃ k : Nat, k ≤ n ∧ n - k ≤ gg ∧ i = .int .i64 k ∧ Below w.heap.size w wr)
  case atStart => exact ⟨0, by omega, by omega, rfl, Below.refl _ _⟩
  case round =>
    obtain ⟨k, hk, hg, rfl, hbw⟩ := hrel
    have HBW := Lib.hid hbw
    by_cases hlt : k < n
    · obtain ⟨b, off, rfl, h1, h2, h5⟩ := SI.trip (HA.out.below hbw (Nat.le_refl _)) hlt
      obtain ⟨b', off', rfl, h3, h4, h6⟩ := SI.trip (HB.out.below hbw (Nat.le_refl _)) hlt
      generalize iat zs (k * 3) = x at *
      generalize iat zs (k * 3 + 1) = y at *
      generalize iat zs (k * 3 + 2) = z at *
      have LB := Lib.hid (show b < wr.heap.size from World.block_lt_of_cell? wr _ h1)
      have LB2 := Lib.hid (show b' < wr.heap.size from World.block_lt_of_cell? wr _ h3)
      have E := Lib.hid (eqStop_true x y z wr.drew)
      clear hbw
      go_wp2_with fail
      go_region_held3 (fun w' => w'.cell? ⟨b, off + k * 3, none⟩ = some (.int .i64 x) ∧ w'.cell? ⟨b, off + k * 3 + 1, none⟩ = some (.int .i64 y) ∧ w'.cell? ⟨b, off + k * 3 + 2, none⟩ = some (.int .i64 z) ∧ w'.cell? ⟨b', off' + k * 3, none⟩ = some (.int .i64 x) ∧ w'.cell? ⟨b', off' + k * 3 + 1, none⟩ = some (.int .i64 y) ∧ w'.cell? ⟨b', off' + k * 3 + 2, none⟩ = some (.int .i64 z)) (go_keep) (first
        | (go_simp; go_at_call 97; refine E.out.mono ?_; rintro e w9 ⟨rfl, b90⟩; have b9 : Below wr.heap.size wr w9 := (bDrewN (Below.refl wr.heap.size wr) 1).trans b90; have q1 := (b9.cell (p := ⟨b, off + k * 3, none⟩) LB.out).trans h1; have q2 := (b9.cell (p := ⟨b, off + k * 3 + 1, none⟩) LB.out).trans h2; have q5 := (b9.cell (p := ⟨b, off + k * 3 + 2, none⟩) LB.out).trans h5; have q3 := (b9.cell (p := ⟨b', off' + k * 3, none⟩) LB2.out).trans h3; have q4 := (b9.cell (p := ⟨b', off' + k * 3 + 1, none⟩) LB2.out).trans h4; have q6 := (b9.cell (p := ⟨b', off' + k * 3 + 2, none⟩) LB2.out).trans h6; have b9' := Lib.hid (bstep HBW.out b9); clear b9 b90; dsimp only)
        )
      go_wp2_with fail
      go_roundg (n - (k + 1))
      case measure => omega
      case rel => exact ⟨k + 1, by omega, by omega, by go_num, b9'.out⟩
    · clear hbw
      go_wp2
      go_ret
      exact ⟨rfl, HBW.out⟩

end Go.Proofs.Ytblaaeanbhgokaa
