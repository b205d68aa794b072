/-
  Sure. By a program (wip/tools/mk.py) out of snippets.
-/
import Derived.Test.YtfjpnennbdefiaaMuM
import Derived.Test.YtfjpnennbdefiaaViewI
import Derived.Test.YtfjpnennbdefiaaViewI2
import Derived.Test.YtfjpnennbdefiaaStep
import Derived.Deep.RegionHeld3
namespace Go.Proofs.Ytfjpnennbdefiaa
open Go.RowKit

theorem sure1_any (u a B : Nat) (w : World) (hu : u ≤ 1000000) (ha : a ≤ 40) (hc : w.cell? ⟨B, 0, none⟩ = some (.int .i64 a)) :
    Calls Try.prog 47 #[.int .i64 u, .pointer (some ⟨B, 0, none⟩)] w fun e w' => e = .returned (.bool (u.testBit a)) ∧ w' = w := by
  have e0 : (u : Int) / (2 : Int) ^ (a : Int).toNat = ((u / 2 ^ a : Nat) : Int) := by simp
  have e1 : (u : Int) / (2 : Int) ^ a = ((u / 2 ^ a : Nat) : Int) := by simp
  have hle := Nat.div_le_self u (2 ^ a)
  have hT := Nat.testBit_eq_decide_div_mod_eq (x := u) (i := a)
  rw [hT]
  generalize u / 2 ^ a = q at *
  have hb := bits_and64 q 1 (by omega) (by omega)
  have hq : q &&& 1 = q % 2 := Nat.and_one_is_mod q
  rw [hq] at hb
  have hb' : bits .and .i64 (q : Int) 1 = ((q % 2 : Nat) : Int) := hb
  clear hT
  by_cases h : q % 2 = 1
  · rw [h] at hb'
    have hd : decide (q % 2 = 1) = true := by simpa using h
    rw [hd]
    go_enter Try.func47, Try.ntmps47
    go_wp2
    go_ret
    exact ⟨by first | rfl | simp, rfl⟩
  · have h0 : q % 2 = 0 := by omega
    rw [h0] at hb'
    have hd : decide (q % 2 = 1) = false := by simpa using h
    rw [hd]
    go_enter Try.func47, Try.ntmps47
    go_wp2
    go_ret
    exact ⟨by first | rfl | simp, rfl⟩
theorem sure2_any (u a B : Nat) (w : World) (hu : u ≤ 1000000) (ha : a ≤ 40) (hc : w.cell? ⟨B, 0, none⟩ = some (.int .i64 a)) :
    Calls Try.prog 48 #[.int .i64 u, .pointer (some ⟨B, 0, none⟩)] w fun e w' => e = .returned (.bool (!u.testBit a)) ∧ w' = w := by
  have e0 : (u : Int) / (2 : Int) ^ (a : Int).toNat = ((u / 2 ^ a : Nat) : Int) := by simp
  have e1 : (u : Int) / (2 : Int) ^ a = ((u / 2 ^ a : Nat) : Int) := by simp
  have hle := Nat.div_le_self u (2 ^ a)
  have hT := Nat.testBit_eq_decide_div_mod_eq (x := u) (i := a)
  rw [hT]
  generalize u / 2 ^ a = q at *
  have hb := bits_and64 q 1 (by omega) (by omega)
  have hq : q &&& 1 = q % 2 := Nat.and_one_is_mod q
  rw [hq] at hb
  have hb' : bits .and .i64 (q : Int) 1 = ((q % 2 : Nat) : Int) := hb
  clear hT
  by_cases h : q % 2 = 1
  · rw [h] at hb'
    have hd : decide (q % 2 = 1) = true := by simpa using h
    rw [hd]
    go_enter Try.func48, Try.ntmps48
    go_wp2
    go_ret
    exact ⟨by first | rfl | simp, rfl⟩
  · have h0 : q % 2 = 0 := by omega
    rw [h0] at hb'
    have hd : decide (q % 2 = 1) = false := by simpa using h
    rw [hd]
    go_enter Try.func48, Try.ntmps48
    go_wp2
    go_ret
    exact ⟨by first | rfl | simp, rfl⟩

set_option maxRecDepth 20000 in
set_option maxHeartbeats 3200000 in
theorem sure_any (n k c a : Nat) (A : Option Addr) (rows : List (List Int)) (w : World) (hG : GV n k rows) (haK : a < k) (ha : SS w A k rows) :
    Calls Try.prog 37 #[.agg #[.int .i64 n, .slice A k c], .int .i64 a] w fun e w' => e = .returned (.int .i64 (suV (rat rows a) n a : Nat)) ∧ Below w.heap.size w w' := by
  have hmf : ∀ (fn : Fn) (first cap : Array Value) (w : World), (Instr.makeFunc fn first cap).run Try.prog w = .ok (.func fn first cap) w := fun _ _ _ _ => rfl
  obtain ⟨W, hW⟩ : ∃ W, W = (w.alloc (.cells #[.int .i64 n, .slice A k c] 25)).alloc (.cells #[.int .i64 a] 3) := ⟨_, rfl⟩
  have hB : Below w.heap.size w W := by rw [hW]; exact ((Below.refl _ _).alloc (Nat.le_refl _) _).alloc (by simp) _
  have hz : W.heap.size = w.heap.size + 2 := by rw [hW]; simp
  have C2 := Lib.hid (show W.cell? ⟨w.heap.size + 1, 0, none⟩ = some (.int .i64 a) by rw [hW]; simp [World.cell?_alloc_at, World.cell?_alloc_past])
  have HL := Lib.hid (lookOf_any n A k c W)
  have hk4 := hG.k2
  have hn16 := hG.n2
  have hp16 := pow16 hn16
  have hm := bs_lt (fun x => x.testBit a) n
  have hc := bs_lt (fun x => !x.testBit a) n
  have hk1 := knV_lt (rat rows a) n (mdB n a)
  have hk2 := knV_lt (rat rows a) n (clB n a)
  have HS := Lib.hid (ha.below hB (Nat.le_refl _))
  have HB := Lib.hid hB
  have HLt := Lib.hid (show w.heap.size + 1 < W.heap.size by omega)
  have K1 := Lib.hid (fun w' h => lookknows_any n k c a (mdB n a) A rows w' hG haK (by unfold mdB; omega) h)
  have K2 := Lib.hid (fun w' h => lookknows_any n k c a (clB n a) A rows w' hG haK (by unfold clB; omega) h)
  have F1 := Lib.hid (fun (V : World) (h : V.cell? ⟨w.heap.size + 1, 0, none⟩ = some (.int .i64 a)) => filter_any 47 #[.pointer (some ⟨w.heap.size + 1, 0, none⟩)] (fun x => x.testBit a) n (fun V' => V' = V) V hn16 rfl
    (enters_of Try.func47 (by kernel_rfl) rfl) (fun u hu V' hV => by subst hV; exact sure1_any u a _ _ (by omega) (by omega) h))
  have F2 := Lib.hid (fun (V : World) (h : V.cell? ⟨w.heap.size + 1, 0, none⟩ = some (.int .i64 a)) => filter_any 48 #[.pointer (some ⟨w.heap.size + 1, 0, none⟩)] (fun x => !x.testBit a) n (fun V' => V' = V) V hn16 rfl
    (enters_of Try.func48 (by kernel_rfl) rfl) (fun u hu V' hV => by subst hV; exact sure2_any u a _ _ (by omega) (by omega) h))
  have hor := bits_or64 (knV (rat rows a) n (mdB n a)) (knV (rat rows a) n (clB n a)) (by omega) (by omega)
  have HSu := Lib.hid (show suV (rat rows a) n a = knV (rat rows a) n (mdB n a) ||| knV (rat rows a) n (clB n a) from rfl)
  rw [HSu.out]
  rw [show bs (fun x => x.testBit a) n = mdB n a from rfl] at hm F1
  rw [show bs (fun x => !x.testBit a) n = clB n a from rfl] at hc F2
  generalize mdB n a = md at *
  generalize clB n a = cl at *
  generalize knV (rat rows a) n md = k1 at *
  generalize knV (rat rows a) n cl = k2 at *
  clear ha hB hz hG HSu
  go_enter Try.func37, Try.ntmps37
  go_wp2_with fail
  rw [← hW]
  clear hW
  refine HL.out.mono ?_
  rintro e w1 ⟨rfl, b1⟩
  obtain ⟨W1, hW1⟩ : ∃ W1, W1 = w1.alloc (.cells #[.int .i64 n, .slice A k c] 48) := ⟨_, rfl⟩
  obtain ⟨s1, hs1⟩ : ∃ s, s = w1.heap.size := ⟨_, rfl⟩
  have HB1 := Lib.hid (show Below W.heap.size W W1 by rw [hW1]; exact b1.alloc b1.size _)
  have q0 : W1.cell? ⟨s1, 0, none⟩ = some (.int .i64 n) := by rw [hW1, hs1]; simp
  have q1 : W1.cell? ⟨s1, 1, none⟩ = some (.slice A k c) := by rw [hW1, hs1]; simp
  have hlt1 : s1 < W1.heap.size := by rw [hW1, hs1]; simp
  have q2 := (HB1.out.cell (p := ⟨w.heap.size + 1, 0, none⟩) HLt.out).trans C2.out
  have G1 := Lib.hid (F1.out W1 q2)
  have G2 := Lib.hid (F2.out W1 q2)
  clear b1
  go_wp2_with fail
  rw [← hW1, ← hs1]
  clear hW1 hs1
  refine G1.out.mono ?_
  rintro e w2 ⟨rfl, hww⟩
  replace hww := hww.symm
  subst hww
  go_wp2_with fail
  refine G2.out.mono ?_
  rintro e w2 ⟨rfl, hww⟩
  replace hww := hww.symm
  subst hww
  clear G1 G2 F1 F2
  have HS1 := Lib.hid (HS.out.below HB1.out (Nat.le_refl _))
  have SD := Lib.hid (HS1.out.below (bDrewN (Below.refl W1.heap.size W1) 1) (Nat.le_refl W1.heap.size))
  have HLt1 := Lib.hid hlt1
  have HLt2 := Lib.hid (Nat.lt_of_lt_of_le HLt.out HB1.out.size)
  have Q0 := Lib.hid q0
  have Q1 := Lib.hid q1
  have Q2 := Lib.hid q2
  clear hlt1
  go_wp2_with fail
  go_region_held3 (fun w' => w'.cell? ⟨s1, 0, none⟩ = some (.int .i64 n) ∧ w'.cell? ⟨s1, 1, none⟩ = some (.slice A k c) ∧ w'.cell? ⟨w.heap.size + 1, 0, none⟩ = some (.int .i64 a)) (go_keep) (first
    | (go_simp; go_at_call 46; refine (K1.out W1.drew SD.out).mono ?_; rintro e w3 ⟨rfl, b30⟩; have b3 : Below W1.heap.size W1 w3 := (bDrewN (Below.refl W1.heap.size W1) 1).trans b30; have u0 := (b3.cell (p := ⟨s1, 0, none⟩) HLt1.out).trans Q0.out; have u1 := (b3.cell (p := ⟨s1, 1, none⟩) HLt1.out).trans Q1.out; have u2 := (b3.cell (p := ⟨w.heap.size + 1, 0, none⟩) HLt2.out).trans Q2.out; have S3 := Lib.hid (HS1.out.below b3 (Nat.le_refl W1.heap.size)); have B3 := Lib.hid b3; clear b3 b30 K1; dsimp only)
    | (go_simp; go_at_call 46; refine (K2.out w3 S3.out).mono ?_; rintro e w4 ⟨rfl, b40⟩; have b4 : Below W1.heap.size W1 w4 := bstep B3.out b40; have t0 := (b4.cell (p := ⟨s1, 0, none⟩) HLt1.out).trans Q0.out; have t1 := (b4.cell (p := ⟨s1, 1, none⟩) HLt1.out).trans Q1.out; have t2 := (b4.cell (p := ⟨w.heap.size + 1, 0, none⟩) HLt2.out).trans Q2.out; have B4 := Lib.hid b4; clear b4 b40 K2; dsimp only))
  go_wp2_with fail
  go_ret
  exact ⟨rfl, by have h := HB.out.trans ((bstep HB1.out B4.out).mono HB.out.size); exact h⟩

end Go.Proofs.Ytfjpnennbdefiaa
