/-
  Reader. By a program (wip/tools/mk.py) out of snippets.
-/
import Derived.Test.YthhfnhabnaakiaaWd
namespace Go.Proofs.Ythhfnhabnaakiaa
open Go.RowKit

/-- A slice of bytes that reads as bs. -/
def SB (w : World) (A : Option Addr) (n : Nat) (bs : List Int) : Prop :=
  bs.length = n ∧ (∀ z ∈ bs, 0 ≤ z ∧ z ≤ 255) ∧ (0 < n → ∃ b off, A = some ⟨b, off, none⟩ ∧ ∀ i, i < n → w.cell? ⟨b, off + i, none⟩ = some (.int .u8 (iat bs i)))
/-- A reader in block R: its bytes lie elsewhere; it has picked at most N times. -/
def Rd (w : World) (R N : Nat) : Prop :=
  R < w.heap.size ∧ w.frozen? ⟨R, 1, none⟩ = false ∧ ∃ (A : Option Addr) (n c p : Nat) (bs : List Int), w.cell? ⟨R, 0, none⟩ = some (.slice A n c) ∧ w.cell? ⟨R, 1, none⟩ = some (.int .i64 p) ∧ p ≤ N ∧ n ≤ 2000 ∧
    SB w A n bs ∧ (0 < n → ∀ b o, A = some ⟨b, o, none⟩ → b < R)
theorem SB.of_block {w w' : World} {A n bs} (h : SB w A n bs) (hk : 0 < n → ∀ b o, A = some ⟨b, o, none⟩ → ∀ i, w'.cell? ⟨b, i, none⟩ = w.cell? ⟨b, i, none⟩) : SB w' A n bs :=
  ⟨h.1, h.2.1, fun hn => by obtain ⟨b, off, e, hc⟩ := h.2.2 hn; exact ⟨b, off, e, fun i hi => by rw [hk hn b off e]; exact hc i hi⟩⟩
theorem Rd.below {w w' : World} {R N : Nat} (h : Rd w R N) {B : Nat} (hb : Below B w w') (hB : R < B) : Rd w' R N := by
  obtain ⟨h1, h2, A, n, c, p, bs, h3, h4, h5, h6, h7, h8⟩ := h
  refine ⟨by have := hb.size; omega, by rw [hb.frozen (p := ⟨R, 1, none⟩) hB]; exact h2, A, n, c, p, bs, by rw [hb.cell (p := ⟨R, 0, none⟩) hB]; exact h3, by rw [hb.cell (p := ⟨R, 1, none⟩) hB]; exact h4, h5, h6, ⟨h7.1, h7.2.1, fun hn => ?_⟩, h8⟩
  obtain ⟨b, off, e, hc⟩ := h7.2.2 hn
  refine ⟨b, off, e, fun i hi => ?_⟩
  have := h8 hn b off e
  rw [hb.cell (p := ⟨b, off + i, none⟩) (by show b < B; omega)]
  exact hc i hi
theorem Rd.mono {w : World} {R N M : Nat} (h : Rd w R N) (hm : N ≤ M) : Rd w R M := by
  obtain ⟨h1, h2, A, n, c, p, bs, h3, h4, h5, h6⟩ := h
  exact ⟨h1, h2, A, n, c, p, bs, h3, h4, by omega, h6⟩
/-- What was written lies in block R or is new; what stands elsewhere stays. -/
theorem SI.off {w w' : World} {A n zs} (h : SI w A n zs) {R : Nat} (hg : w.grownBy w' (some R)) (hr : ∀ b o, A = some ⟨b, o, none⟩ → b ≠ R) : SI w' A n zs :=
  h.grown hg (fun b o e => by simpa using hr b o e)
theorem own_off {w w' : World} {base e size n : Nat} {v : Value} {xs : List Value} (h : w.ownsRow base e size v n xs) {R : Nat} (hg : w.grownBy w' (some R)) (hR : R < base) : w'.ownsRow base e size v n xs := by
  refine h.kept hg ?_
  cases hv : v.ownBlock with
  | none => exact .inl rfl
  | some k => right; have := World.ownsRow.lt h k hv; simp; omega
theorem gby_trans {a b c : World} {row : Option Nat} (h : a.grownBy b row) (k : b.grownBy c row) : a.grownBy c row :=
  ⟨k.os.trans h.os, k.tape.trans h.tape, k.output.trans h.output, Nat.le_trans h.size k.size, fun i hi hne => (k.block i (Nat.lt_of_lt_of_le hi h.size) hne).trans (h.block i hi hne)⟩
theorem gby_below {a b : World} {row : Option Nat} {B : Nat} (h : Below B a b) (hB : a.heap.size ≤ B) : a.grownBy b row :=
  ⟨h.os, h.tape, h.output, h.size, fun i hi _ => h.block i (by omega)⟩
theorem gby_drewN (w : World) (row : Option Nat) (m : Nat) : w.grownBy (w.drewN m) row := ⟨rfl, rfl, rfl, Nat.le_refl _, fun _ _ _ => rfl⟩
theorem gby_set (w : World) (R i : Nat) (v : Value) : w.grownBy (w.setCell ⟨R, i, none⟩ v) (some R) :=
  ⟨rfl, rfl, rfl, by simp, fun k _ hne => Below.heap_setCell _ _ _ _ (by simpa using hne)⟩

/-- What 'pick' leaves. -/
def PickPost (w : World) (R N : Nat) (m : Int) (e : Ending) (w' : World) : Prop :=
  ∃ r : Int, e = .returned (.int .i64 r) ∧ 0 ≤ r ∧ (1 ≤ m → r < m) ∧ (m ≤ 0 → r = 0) ∧ Rd w' R (N + 1) ∧ w.grownBy w' (some R)

set_option maxHeartbeats 1600000 in
theorem pick_any (R N : Nat) (m : Int) (w : World) (hN : N ≤ 1000000) (hm : m ≤ 1000000) (h : Rd w R N) :
    Calls Try.prog 54 #[.pointer (some ⟨R, 0, none⟩), .int .i64 m] w (PickPost w R N m) := by
  obtain ⟨hR, hfz, A, n, c, p, bs, hc0, hc1, hp, hn, hsb, hne⟩ := h
  have hR' : Rd (w.setCell ⟨R, 1, none⟩ (.int .i64 ((p : Int) + 1))) R (N + 1) := by
    refine ⟨by simpa using hR, by simpa using hfz, A, n, c, p + 1, bs, ?_, ?_, by omega, hn, hsb.of_block fun hp b o e i => ?_, hne⟩
    · rw [World.cell?_setCell_other _ _ _ _ (by simp)]; exact hc0
    · rw [World.cell?_setCell_same _ _ _ hc1]; simp
    · exact World.cell?_setCell_other _ _ _ _ (fun e' => by have := hne hp b o e; injection e' with e1; omega)
  have hg := gby_set w R 1 (.int .i64 ((p : Int) + 1))
  have HR := Lib.hid hR'; clear hR'
  by_cases hm1 : m < 1
  · have hd : decide (m < 1) = true := by simpa using hm1
    clear hsb hne
    go_enter Try.func54, Try.ntmps54
    go_wp2
    go_ret
    exact ⟨0, rfl, by omega, by omega, fun _ => rfl, HR.out, hg⟩
  · have hd : decide (m < 1) = false := by simpa using hm1
    by_cases hn0 : n = 0
    · subst hn0
      clear hsb hne
      have hz : ((0 : Nat) : Int) = 0 := rfl
      go_enter Try.func54, Try.ntmps54
      go_wp2
      go_ret
      exact ⟨0, rfl, by omega, by omega, fun _ => rfl, HR.out, hg⟩
    · obtain ⟨hl, hby, hcells⟩ := hsb
      obtain ⟨b, off, rfl, hcb⟩ := hcells (by omega)
      have hbR : b ≠ R := by have := hne (by omega) b off rfl; omega
      have hn0' : ((n : Int) == 0) = false := by simp; omega
      have hcb' : ∀ i, i < n → (w.setCell ⟨R, 1, none⟩ (.int .i64 ((p : Int) + 1))).cell? ⟨b, off + i, none⟩ = some (.int .u8 (iat bs i)) := fun i hi => by
        rw [World.cell?_setCell_other _ _ _ _ (fun e' => hbR (by injection e' with e1; exact e1.symm))]; exact hcb i hi
      have hmem : ∀ i, i < n → 0 ≤ iat bs i ∧ iat bs i ≤ 255 := fun i hi => hby _ (by rw [iat_eq (by omega)]; exact List.getElem_mem _)
      clear hcells hne hby hcb
      by_cases hlt : p < n
      · have h1 := hcb' p hlt
        have hx := hmem p hlt
        generalize iat bs p = x at h1 hx
        obtain ⟨hx0, hx1⟩ := hx
        clear hcb' hmem
        go_enter Try.func54, Try.ntmps54
        go_wp2
        go_ret
        exact ⟨x % m, rfl, Int.emod_nonneg _ (by omega), fun _ => Int.emod_lt_of_pos _ (by omega), fun h => by omega, HR.out, hg⟩
      · have t1 : ((p : Int)).tmod n = ((p % n : Nat) : Int) := by rw [Int.tmod_eq_emod_of_nonneg (by omega)]; rfl
        have t2 : ((p : Int) * 7 + 3).tmod n = (((p * 7 + 3) % n : Nat) : Int) := by rw [Int.tmod_eq_emod_of_nonneg (by omega)]; push_cast; rfl
        have u1 : p % n < n := Nat.mod_lt _ (by omega)
        have u2 : (p * 7 + 3) % n < n := Nat.mod_lt _ (by omega)
        have h1 := hcb' (p % n) u1
        have h2 := hcb' ((p * 7 + 3) % n) u2
        have hx := hmem (p % n) u1
        have hy := hmem ((p * 7 + 3) % n) u2
        generalize p % n = q1 at *
        generalize (p * 7 + 3) % n = q2 at *
        generalize iat bs q1 = x at h1 hx
        generalize iat bs q2 = y at h2 hy
        have t3 : ((p : Int)).tdiv n = ((p / n : Nat) : Int) := by rw [Int.tdiv_eq_ediv_of_nonneg (by omega)]; rfl
        have u3 : p / n ≤ p := Nat.div_le_self _ _
        generalize p / n = d at *
        obtain ⟨hx0, hx1⟩ := hx
        obtain ⟨hy0, hy1⟩ := hy
        clear hcb' hmem
        have a1 : IntKind.i64.wrap (x * 131) = x * 131 := IntWalk.i64_in _ (by omega)
        have a2 : IntKind.i64.wrap ((p : Int) * 7) = (p : Int) * 7 := IntWalk.i64_in _ (by omega)
        have a3 : IntKind.i64.wrap ((p : Int) * 7 + 3) = (p : Int) * 7 + 3 := IntWalk.i64_in _ (by omega)
        have a4 : IntKind.i64.wrap (y * 1117) = y * 1117 := IntWalk.i64_in _ (by omega)
        have a5 : IntKind.i64.wrap (x * 131 + y * 1117) = x * 131 + y * 1117 := IntWalk.i64_in _ (by omega)
        have a6 : IntKind.i64.wrap ((p : Int) * 29) = (p : Int) * 29 := IntWalk.i64_in _ (by omega)
        have a7 : IntKind.i64.wrap (x * 131 + y * 1117 + (p : Int) * 29) = x * 131 + y * 1117 + (p : Int) * 29 := IntWalk.i64_in _ (by omega)
        have a8 : IntKind.i64.wrap (d : Int) = (d : Int) := IntWalk.i64_in _ (by omega)
        have a9 : IntKind.i64.wrap ((d : Int) * 53) = (d : Int) * 53 := IntWalk.i64_in _ (by omega)
        have a10 : IntKind.i64.wrap (x * 131 + y * 1117 + (p : Int) * 29 + (d : Int) * 53) = x * 131 + y * 1117 + (p : Int) * 29 + (d : Int) * 53 := IntWalk.i64_in _ (by omega)
        have hX0 : 0 ≤ x * 131 + y * 1117 + (p : Int) * 29 + (d : Int) * 53 := by omega
        have hX1 : x * 131 + y * 1117 + (p : Int) * 29 + (d : Int) * 53 ≤ 1000000000 := by omega
        go_enter Try.func54, Try.ntmps54
        go_wp2
        go_quiet (fail)
        clear a1 a2 a3 a4 a5 a6 a7 a8 a9 a10 t1 t2 t3
        go_wp2
        have hb := bits_xor_nonneg (x * 131 + y * 1117 + (p : Int) * 29 + (d : Int) * 53) ((x * 131 + y * 1117 + (p : Int) * 29 + (d : Int) * 53) / 64) hX0 (by omega) (by omega) (by omega)
        generalize bits .xor .i64 (x * 131 + y * 1117 + (p : Int) * 29 + (d : Int) * 53) ((x * 131 + y * 1117 + (p : Int) * 29 + (d : Int) * 53) / 64) = z at *
        go_ret
        refine ⟨z.tmod m, rfl, ?_, fun _ => ?_, fun h => by omega, HR.out, gby_trans hg (gby_drewN _ _ _)⟩
        · rw [Int.tmod_eq_emod_of_nonneg hb]; exact Int.emod_nonneg _ (by omega)
        · rw [Int.tmod_eq_emod_of_nonneg hb]; exact Int.emod_lt_of_pos _ (by omega)

set_option maxHeartbeats 400000 in
/-- 'one' picks a number of a list. -/
theorem one_any (R N : Nat) (A : Option Addr) (n c : Nat) (zs : List Int) (w : World) (hN : N ≤ 1000000) (hn : n ≤ 1000) (hn0 : 0 < n) (h : Rd w R N) (ha : SI w A n zs) (hA : ∀ b o, A = some ⟨b, o, none⟩ → b ≠ R) :
    Calls Try.prog 53 #[.pointer (some ⟨R, 0, none⟩), .slice A n c] w fun e w' => ∃ z, e = .returned (.int .i64 z) ∧ z ∈ zs ∧ Rd w' R (N + 1) ∧ w.grownBy w' (some R) := by
  have H := Lib.hid (pick_any R N n w hN (by omega) h)
  have hlen := Lib.hid ha.len
  go_enter Try.func53, Try.ntmps53
  go_wp2_with (go_at_call 54; refine H.out.mono ?_; rintro e w' ⟨r, rfl, hr0, hr1, hr2, hR, hg⟩; obtain ⟨b, off, rfl, hc⟩ := (ha.off hg hA).2 (by omega); obtain ⟨j, rfl⟩ := Int.eq_ofNat_of_zero_le hr0; have hj : j < n := (by have := hr1 (by omega); omega); have h1 := hc j hj; clear hc hr1 hr2)
  go_ret
  exact ⟨_, rfl, iat_mem (by rw [hlen.out]; exact hj), hR, hg⟩

theorem newReader_any (A : Option Addr) (n c : Nat) (bs : List Int) (w : World) (hc : n ≤ c) (hn : n ≤ 2000000) (hs : SB w A n bs) :
    Calls Try.prog 45 #[.slice A n c] w fun e w' => e = .returned (.pointer (some ⟨w.heap.size, 0, none⟩)) ∧ Rd w' w.heap.size 0 ∧ Below w.heap.size w w' := by
  have key : ∀ (m c' : Nat) (o : Obj), m ≤ n → m ≤ 2000 → o = .cells #[.slice A m c', .int .i64 0] 66 → Rd (w.alloc o) w.heap.size 0 ∧ Below w.heap.size w (w.alloc o) := by
    rintro m c' o hm hm2 rfl
    refine ⟨⟨by simp, by simp, A, m, c', 0, bs.take m, by simp, by simp, by omega, hm2, ⟨by rw [List.length_take, hs.1]; omega, fun z hz => hs.2.1 z (List.mem_of_mem_take hz), fun h0 => ?_⟩, fun h0 b o e => ?_⟩, (Below.refl _ _).alloc (Nat.le_refl _) _⟩
    · obtain ⟨b, off, e, hcl⟩ := hs.2.2 (by omega)
      refine ⟨b, off, e, fun i hi => ?_⟩
      have h1 := hcl i (by omega)
      have := World.block_lt_of_cell? w _ h1
      rw [World.cell?_alloc_lt _ _ _ this, h1]
      simp [iat, hi]
    · obtain ⟨b', off, e', hcl⟩ := hs.2.2 (by omega)
      have := World.block_lt_of_cell? w _ (hcl 0 (by omega))
      rw [e'] at e
      cases e
      simp at this
      omega
  by_cases hbig : 2000 < n
  · have hk := key 2000 c _ (by omega) (by omega) rfl
    clear key hs
    go_enter Try.func45, Try.ntmps45
    go_wp2
    go_ret
    exact ⟨rfl, hk⟩
  · have hk := key n c _ (by omega) (by omega) rfl
    clear key hs
    go_enter Try.func45, Try.ntmps45
    go_wp2
    go_ret
    exact ⟨rfl, hk⟩

/-- 'one' at a literal list. -/
theorem one_lit (R N s : Nat) (W : World) (t : TypeId) (zs : List Int) (m : Nat) (hs : s = W.heap.size) (hm : zs.length = m) (hm0 : 0 < m) (hm1 : m ≤ 1000) (hN : N ≤ 1000000) (h : Rd W R N) :
    Calls Try.prog 53 #[.pointer (some ⟨R, 0, none⟩), .slice (some ⟨s, 0, none⟩) m m] (W.alloc (.cells (zs.map (Value.int .i64)).toArray t)) fun e w' => ∃ z, e = .returned (.int .i64 z) ∧ z ∈ zs ∧ Rd w' R (N + 1) ∧ W.grownBy w' (some R) ∧ Below R W w' := by
  subst hs
  subst hm
  have hR := h.1
  have hb : Below W.heap.size W (W.alloc (.cells (zs.map (Value.int .i64)).toArray t)) := (Below.refl _ _).alloc (Nat.le_refl _) _
  refine (one_any R N _ _ _ zs _ hN hm1 hm0 (h.below hb hR) (SI_lit W t zs) (fun b o e => by cases e; omega)).mono ?_
  rintro e w' ⟨z, rfl, hz, hr, hg⟩
  exact ⟨z, rfl, hz, hr, gby_trans (gby_below hb (Nat.le_refl _)) hg, (hb.mono (by omega)).trans (gby_belowB hg (Nat.le_refl _) (by simp; omega))⟩
/-- 'pick' leaves all below R as it was. -/
theorem pick_b (R N : Nat) (m : Int) (w : World) (hN : N ≤ 1000000) (hm : m ≤ 1000000) (h : Rd w R N) :
    Calls Try.prog 54 #[.pointer (some ⟨R, 0, none⟩), .int .i64 m] w fun e w' => ∃ r : Int, e = .returned (.int .i64 r) ∧ 0 ≤ r ∧ (1 ≤ m → r < m) ∧ (m ≤ 0 → r = 0) ∧ Rd w' R (N + 1) ∧ w.grownBy w' (some R) ∧ Below R w w' := by
  have hR := h.1
  refine (pick_any R N m w hN hm h).mono ?_
  rintro e w' ⟨r, rfl, h1, h2, h3, h4, h5⟩
  exact ⟨r, rfl, h1, h2, h3, h4, h5, gby_belowB h5 (Nat.le_refl _) hR⟩
theorem Rd.alloc {w : World} {R N : Nat} (h : Rd w R N) (o : Obj) : Rd (w.alloc o) R N := h.below (B := w.heap.size) ((Below.refl _ _).alloc (Nat.le_refl _) o) h.1

theorem SB.of {w : World} {A : Option Addr} {n : Nat} {bs : List Int} (h : bs.length = n ∧ (0 < n → ∃ b off, A = some ⟨b, off, none⟩ ∧ ∀ i, i < n → w.cell? ⟨b, off + i, none⟩ = some (.int .u8 (iat bs i)))) (hwf : ∀ z ∈ bs, (Lit.int .u8 z).wf = true) : SB w A n bs :=
  ⟨h.1, fun z hz => by
    have := hwf z hz
    simp [Lit.wf, IntKind.min, IntKind.max, IntKind.signed, IntKind.bits] at this
    omega, h.2⟩

end Go.Proofs.Ythhfnhabnaakiaa
