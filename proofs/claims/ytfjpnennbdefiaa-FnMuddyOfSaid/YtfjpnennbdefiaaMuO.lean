/-
  MuO. By a program (wip/tools/mk.py) out of snippets.
-/
import Derived.Test.YtfjpnennbdefiaaSure
import Derived.Test.YtfjpnennbdefiaaMud3
import Derived.Test.YtfjpnennbdefiaaTlM
namespace Go.Proofs.Ytfjpnennbdefiaa
open Go.RowKit

theorem GV.tl {n k : Nat} {rows : List (List Int)} {s : Nat} (h : GV n k rows) (hl : rows.length = k) : GV n k (tlV rows n s) :=
  ⟨h.n1, h.n2, h.k1, h.k2, fun i hi => by rw [tlV_at (by omega), tlRow_length]⟩
theorem muTo_length (rows : List (List Int)) (N k : Nat) : (muTo rows N k).length = rows.length := by
  induction k with
  | zero => rfl
  | succ k ih => rw [muTo, tlV_length, ih]
theorem muTo_gv {N n : Nat} {rows : List (List Int)} (h : GV N n rows) (hl : rows.length = n) (k : Nat) : GV N n (muTo rows N k) := by
  induction k with
  | zero => exact h
  | succ k ih => exact ih.tl (by rw [muTo_length]; exact hl)
theorem muR_gv {n : Nat} (hn1 : 1 ≤ n) (hn : n ≤ 4) : GV (2 ^ n) n ((List.range n).map (muRow n)) := by
  have hp : 2 ^ n ≤ 16 := Nat.pow_le_pow_right (n := 2) (by omega) hn
  refine ⟨Nat.two_pow_pos n, hp, hn1, hn, fun i hi => ?_⟩
  rw [show rat ((List.range n).map (muRow n)) i = muRow n i by simp [rat, List.getD_eq_getElem?_getD, hi]]
  simp [muRow]
theorem muSt_length {n : Nat} (hn1 : 1 ≤ n) (hn : n ≤ 4) (t : Nat) : (muSt n t).length = n := by
  induction t with
  | zero =>
    obtain ⟨_, e2, _⟩ := muW_in (n := n) (by omega) (by omega)
    show (tlV (muR n) (2 ^ n) (2 ^ (2 ^ n) - 2)).length = n
    rw [e2, tlV_length]
    simp
  | succ t ih =>
    show (muTo (muSt n t) (2 ^ n) n).length = n
    rw [muTo_length, ih]
theorem muSt_gv {n : Nat} (hn1 : 1 ≤ n) (hn : n ≤ 4) (t : Nat) : GV (2 ^ n) n (muSt n t) := by
  induction t with
  | zero =>
    obtain ⟨_, e2, _⟩ := muW_in (n := n) (by omega) (by omega)
    show GV (2 ^ n) n (tlV (muR n) (2 ^ n) (2 ^ (2 ^ n) - 2))
    rw [e2]
    exact (muR_gv hn1 hn).tl (by simp)
  | succ t ih =>
    show GV (2 ^ n) n (muTo (muSt n t) (2 ^ n) n)
    exact muTo_gv ih (muSt_length hn1 hn t) n
def muK (n w : Int) : Int := if inR n 1 4 && inR w 1 (2 ^ n.toNat - 1) then ((wtN n.toNat w.toNat : Nat) : Int) else 0
def muE (n w : Int) : Int := if inR n 1 4 && inR w 1 (2 ^ n.toNat - 1) then w else 0

/-- A view in the block s, its rows in the blocks from lo on and below hi. -/
structure VB (s N n : Nat) (wx : World) (A : Option Addr) (c lo hi : Nat) (rows : List (List Int)) : Prop where
  c0 : wx.cell? ⟨s, 0, none⟩ = some (.int .i64 (N : Nat))
  c1 : wx.cell? ⟨s, 1, none⟩ = some (.slice A n c)
  f0 : wx.frozen? ⟨s, 0, none⟩ = false
  f1 : wx.frozen? ⟨s, 1, none⟩ = false
  fr : FR wx lo hi A n rows
  dj : hi ≤ s ∨ s < lo
theorem VB.lt {s N n : Nat} {wx : World} {A : Option Addr} {c lo hi : Nat} {rows : List (List Int)} (h : VB s N n wx A c lo hi rows) : s < wx.heap.size := World.block_lt_of_cell? wx _ h.c0
theorem VB.later {s N n : Nat} {wx w2 : World} {A : Option Addr} {c lo hi : Nat} {rows : List (List Int)} (h : VB s N n wx A c lo hi rows) (hb : Below wx.heap.size wx w2) : VB s N n w2 A c lo hi rows :=
  ⟨(hb.cell (p := ⟨s, 0, none⟩) h.lt).trans h.c0, (hb.cell (p := ⟨s, 1, none⟩) h.lt).trans h.c1, (hb.frozen (p := ⟨s, 0, none⟩) h.lt).trans h.f0, (hb.frozen (p := ⟨s, 1, none⟩) h.lt).trans h.f1, h.fr.later hb, h.dj⟩
theorem VB.drew {s N n : Nat} {wx : World} {A : Option Addr} {c lo hi : Nat} {rows : List (List Int)} (h : VB s N n wx A c lo hi rows) : VB s N n wx.drew A c lo hi rows := h.later (bDrewN (Below.refl wx.heap.size wx) 1)
theorem Wn.set (w : World) (t i : Nat) (v : Value) : Wn t (t + 1) w (w.setCell ⟨t, i, none⟩ v) :=
  ⟨rfl, rfl, rfl, by simp, fun k _ ho => Below.heap_setCell _ _ _ _ (fun e => by subst e; simp at ho; omega)⟩
theorem FR.setAt {w : World} {lo hi : Nat} {A : Option Addr} {k : Nat} {rows : List (List Int)} (h : FR w lo hi A k rows) {t i : Nat} {v : Value} (hd : hi ≤ t ∨ t < lo) : FR (w.setCell ⟨t, i, none⟩ v) lo hi A k rows :=
  h.wn (Wn.set w t i v) (by omega)
theorem VB.other {s N n : Nat} {wx : World} {A : Option Addr} {c lo hi : Nat} {rows : List (List Int)} (h : VB s N n wx A c lo hi rows) {t i : Nat} {v : Value} (ht : t ≠ s) (hd : hi ≤ t ∨ t < lo) : VB s N n (wx.setCell ⟨t, i, none⟩ v) A c lo hi rows :=
  ⟨(World.cell?_setCell_other _ _ _ _ (fun e => ht (by injection e))).trans h.c0, (World.cell?_setCell_other _ _ _ _ (fun e => ht (by injection e))).trans h.c1, by rw [World.frozen?_setCell]; exact h.f0, by rw [World.frozen?_setCell]; exact h.f1, h.fr.setAt hd, h.dj⟩
theorem VB.put {s N n : Nat} {wx : World} {A A' : Option Addr} {c lo hi c' lo' hi' : Nat} {rows rows' : List (List Int)} (h : VB s N n wx A c lo hi rows) (hf : FR wx lo' hi' A' n rows') (hd : hi' ≤ s ∨ s < lo') :
    VB s N n ((wx.setCell ⟨s, 0, none⟩ (.int .i64 (N : Nat))).setCell ⟨s, 1, none⟩ (.slice A' n c')) A' c' lo' hi' rows' := by
  refine ⟨?_, ?_, by rw [World.frozen?_setCell, World.frozen?_setCell]; exact h.f0, by rw [World.frozen?_setCell, World.frozen?_setCell]; exact h.f1, (hf.setAt hd).setAt hd, hd⟩
  · rw [World.cell?_setCell_other _ _ _ _ (by simp)]
    exact World.cell?_setCell_same _ _ _ h.c0
  · exact World.cell?_setCell_same _ _ _ ((World.cell?_setCell_other _ _ _ _ (by simp)).trans h.c1)
theorem VB.new {N n : Nat} (w : World) {A : Option Addr} {c lo hi : Nat} {t : TypeId} {rows : List (List Int)} (h : FR w lo hi A n rows) : VB w.heap.size N n (w.alloc (.cells #[.int .i64 (N : Nat), .slice A n c] t)) A c lo hi rows :=
  ⟨by simp, by simp, by go_simp, by go_simp, h.alloc _, .inl h.2.2.1⟩

theorem mf1_any (u : Nat) (w : World) : Calls Try.prog 36 #[.int .i64 u] w fun e w' => e = .returned (.bool (decide (u ≠ 0))) ∧ w' = w := by
  by_cases h : u = 0
  · subst h
    go_enter Try.func36, Try.ntmps36
    go_wp2
    go_ret
    exact ⟨rfl, rfl⟩
  · have h1 : ((u : Int) != 0) = true := by simp; omega
    have h2 : decide (u ≠ 0) = true := by simpa using h
    rw [h2]
    go_enter Try.func36, Try.ntmps36
    go_wp2
    go_ret
    exact ⟨rfl, rfl⟩
theorem bs_ne0 (n : Nat) (hn : 1 ≤ n) : bs (fun u => decide (u ≠ 0)) n = 2 ^ n - 2 + (if n = 0 then 1 else 0) := by
  rw [if_neg (by omega), Nat.add_zero]
  induction n with
  | zero => omega
  | succ n ih =>
    by_cases h : n = 0
    · subst h; rfl
    · have := pow1 (n := n) (by omega)
      rw [bs, ih (by omega), if_pos (by simpa using h), Nat.pow_succ]
      omega

theorem muK_out {n w : Int} (h : (inR n 1 4 && inR w 1 (2 ^ n.toNat - 1)) = false) : muK n w = 0 ∧ muE n w = 0 := by
  unfold muK muE
  rw [h]
  exact ⟨rfl, rfl⟩
set_option maxRecDepth 20000 in
set_option maxHeartbeats 3200000 in
theorem implMuddyOf_out1 (n w0 : Int) (w : World) (h : inR n 1 4 = false) :
    Calls Try.prog 13 #[.int .i64 n, .int .i64 w0] w fun e w' => e = .returned (.tuple #[.int .i64 0, .int .i64 0]) ∧ Below w.heap.size w w' := by
  have H := Lib.hid (implMuddyView_any n w)
  rw [h] at H
  obtain ⟨e1, e2, _⟩ := muW_out (n := n) (fun h2 => by rw [inR_true h2] at h; cases h)
  rw [e1, e2] at H
  clear h e1 e2
  go_enter Try.func13, Try.ntmps13
  go_wp2_with fail
  refine H.out.mono ?_
  rintro e w1 ⟨A, c, rfl, _, b1⟩
  have B1 := Lib.hid (b1.alloc b1.size (.cells #[.int .i64 0, .slice A 0 c] 25))
  clear b1
  go_wp2_with fail
  go_ret2
  exact ⟨rfl, B1.out⟩
set_option maxRecDepth 20000 in
set_option maxHeartbeats 3200000 in
theorem implMuddyOf_out2 (n : Nat) (w0 : Int) (w : World) (hn1 : 1 ≤ n) (hn : n ≤ 4) (h : inR w0 1 (((2 ^ n : Nat) : Int) - 1) = false) :
    Calls Try.prog 13 #[.int .i64 n, .int .i64 w0] w fun e w' => e = .returned (.tuple #[.int .i64 0, .int .i64 0]) ∧ Below w.heap.size w w' := by
  have H := Lib.hid (implMuddyView_in n w hn1 hn)
  have HW := Lib.hid (fun w' => within_any w0 1 (((2 ^ n : Nat) : Int) - 1) w')
  rw [h] at HW
  have hp : 2 ^ n ≤ 16 := Nat.pow_le_pow_right (n := 2) (by omega) hn
  clear h
  generalize 2 ^ n = P at *
  go_enter Try.func13, Try.ntmps13
  go_wp2_with fail
  refine H.out.mono ?_
  rintro e w1 ⟨A, c, rfl, _, b1⟩
  have B1 := Lib.hid (b1.alloc b1.size (.cells #[.int .i64 P, .slice A n c] 25))
  clear b1
  go_wp2_with fail
  refine (HW.out _).mono ?_
  rintro e w2 ⟨rfl, rfl⟩
  go_wp2_with fail
  go_ret2
  exact ⟨rfl, B1.out⟩

end Go.Proofs.Ytfjpnennbdefiaa
