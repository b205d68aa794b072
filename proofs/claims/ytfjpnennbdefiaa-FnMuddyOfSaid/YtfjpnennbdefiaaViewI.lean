/-
  ViewI. By a program (wip/tools/mk.py) out of snippets.
-/
import Derived.Test.YtfjpnennbdefiaaView1
namespace Go.Proofs.Ytfjpnennbdefiaa
open Go.RowKit

theorem setwith_any (s u : Nat) (w : World) (hs : s ≤ 1000000) (hu : u ≤ 40) :
    Calls Try.prog 39 #[.int .i64 s, .int .i64 u] w fun e w' => e = .returned (.int .i64 ((s ||| 2 ^ u : Nat) : Int)) ∧ w = w' := by
  have hp2 : 2 ^ u ≤ 1099511627776 := Nat.le_trans (Nat.pow_le_pow_right (n := 2) (by omega) hu) (by decide)
  have hb := bits_or64 s (2 ^ u) (by omega) (by omega)
  have ec : ((2 ^ u : Nat) : Int) = (2 : Int) ^ u := by simp
  have hi : IntKind.i64.wrap ((2 : Int) ^ u) = (2 : Int) ^ u := by
    rw [← ec]
    generalize 2 ^ u = p at hp2
    exact IntWalk.i64_in _ (by omega)
  rw [ec] at hb
  have e1 : IntKind.i64.wrap (1 * (2 : Int) ^ (u : Int).toNat) = (2 : Int) ^ u := by rw [Int.one_mul, Int.toNat_natCast]; exact hi
  have e2 : (0 : Int) ≤ (u : Int) := by omega
  have HB := Lib.hid hb; clear hb ec hp2
  go_enter Try.func39, Try.ntmps39
  go_wp2
  go_ret
  exact ⟨by rw [← HB.out]; rfl, rfl⟩

theorem sethas_any (s u : Nat) (w : World) (hs : s ≤ 1000000) (hu : u ≤ 40) :
    Calls Try.prog 38 #[.int .i64 s, .int .i64 u] w fun e w' => e = .returned (.bool (s.testBit u)) ∧ w = w' := by
  have e0 : (s : Int) / (2 : Int) ^ (u : Int).toNat = ((s / 2 ^ u : Nat) : Int) := by simp
  have e1 : (s : Int) / (2 : Int) ^ u = ((s / 2 ^ u : Nat) : Int) := by simp
  have hle := Nat.div_le_self s (2 ^ u)
  have hT := Nat.testBit_eq_decide_div_mod_eq (x := s) (i := u)
  rw [hT]
  generalize s / 2 ^ u = q at *
  have hb := bits_and64 q 1 (by omega) (by omega)
  have hq : q &&& 1 = q % 2 := Nat.and_one_is_mod q
  rw [hq] at hb
  have hb' : bits .and .i64 (q : Int) 1 = ((q % 2 : Nat) : Int) := hb
  clear hT
  by_cases h : q % 2 = 1
  · rw [h] at hb'
    have hd : decide (q % 2 = 1) = true := by simpa using h
    rw [hd]
    go_enter Try.func38, Try.ntmps38
    go_wp2
    go_ret
    exact ⟨by first | rfl | simp, rfl⟩
  · have h0 : q % 2 = 0 := by omega
    rw [h0] at hb'
    have hd : decide (q % 2 = 1) = false := by simpa using h
    rw [hd]
    go_enter Try.func38, Try.ntmps38
    go_wp2
    go_ret
    exact ⟨by first | rfl | simp, rfl⟩

set_option maxHeartbeats 800000 in
/-- 'filter': the sum of 2 to each world for which a function value holds that keeps a class of worlds. -/
theorem filter_any (g : Nat) (caps : Array Value) (p : Nat → Bool) (n : Nat) (C : World → Prop) (w : World) (hn : n ≤ 16) (hw : C w)
    (eg : ∀ args w, (callFunc g args).run Try.prog w = .ok (.enter g args) w)
    (hf : ∀ u : Nat, u < n → ∀ W, C W → Calls Try.prog g (#[.int .i64 u] ++ caps) W fun e w' => e = .returned (.bool (p u)) ∧ C w') :
    Calls Try.prog 35 #[.int .i64 n, .func (.func g) #[] caps] w fun e w' => e = .returned (.int .i64 (bs p n : Nat)) ∧ C w' := by
  have HF := Lib.hid hf; clear hf
  go_enter Try.func35, Try.ntmps35
  go_wp2
  go_loopg [5, 8] n (fun gg s5 s8 wr => ∃ k : Nat, k ≤ n ∧ n - k ≤ gg ∧ s8 = .int .i64 k ∧ s5 = .int .i64 (bs p k : Nat) ∧ C wr)
  case atStart => exact ⟨0, Nat.zero_le _, by omega, rfl, rfl, hw⟩
  case round =>
    obtain ⟨k, hk, hg, rfl, rfl, hC⟩ := hrel
    have HC := Lib.hid hC
    by_cases hlt : k < n
    · have hcall := Lib.hid (HF.out k hlt wr hC)
      clear hC
      have hbl := bs_lt p k
      have hpw : 2 ^ k ≤ 65536 := pow16 (by omega)
      cases hq : p k with
      | true =>
        rw [hq] at hcall
        have HS := Lib.hid (bs_succ_or hq)
        have HWi := Lib.hid (fun w => setwith_any (bs p k) k w (by omega) (by omega))
        clear hq
        generalize bs p k = s at *
        go_wp2_with fail
        go_at_fn g
        refine (hcall.out).mono ?_
        rintro e w' ⟨rfl, hC'⟩
        go_wp2_with fail
        refine (HWi.out _).mono ?_
        rintro e w'' ⟨rfl, rfl⟩
        go_wp2_with fail
        go_roundg (n - (k + 1))
        case measure => omega
        case rel => exact ⟨k + 1, by omega, by omega, by go_num, by rw [HS.out], hC'⟩
      | false =>
        rw [hq] at hcall
        have HS := Lib.hid (bs_succ_false hq)
        clear hq
        generalize bs p k = s at *
        go_wp2_with fail
        go_at_fn g
        refine (hcall.out).mono ?_
        rintro e w' ⟨rfl, hC'⟩
        go_wp2_with fail
        go_roundg (n - (k + 1))
        case measure => omega
        case rel => exact ⟨k + 1, by omega, by omega, by go_num, by rw [HS.out], hC'⟩
    · obtain rfl : k = n := by omega
      clear hC
      go_wp2
      go_ret
      exact ⟨rfl, HC.out⟩

set_option maxHeartbeats 800000 in
theorem same1_any (n k c a w0 u g : Nat) (A : Option Addr) (rows : List (List Int)) (V : World) (hG : GV n k rows) (haK : a < k) (hw : w0 < n) (hu : u < n) (ha : SS V A k rows)
    (h1 : V.cell? ⟨g, 1, none⟩ = some (.slice A k c)) (h2 : V.cell? ⟨g + 1, 0, none⟩ = some (.int .i64 a)) (h3 : V.cell? ⟨g + 2, 0, none⟩ = some (.int .i64 w0)) :
    Calls Try.prog 51 #[.int .i64 u, .pointer (some ⟨g, 0, none⟩), .pointer (some ⟨g + 1, 0, none⟩), .pointer (some ⟨g + 2, 0, none⟩)] V fun e w' => Qt V (.bool (iat (rat rows a) u == iat (rat rows a) w0)) e w' := by
  obtain ⟨b, off, A', n', c', rfl, h4, h5⟩ := ha.at_ haK
  obtain rfl : n' = n := h5.len_eq (hG.len a haK)
  obtain ⟨b', off', rfl, h6⟩ := h5.2 (by omega)
  have h7 := h6 u hu
  have h8 := h6 w0 hw
  have hn := hG.n2
  have hk := hG.k2
  clear ha h5 h6 hG
  generalize iat (rat rows a) u = x at *
  generalize iat (rat rows a) w0 = y at *
  go_enter Try.func51, Try.ntmps51
  go_wp2
  go_quiet (fail)
  go_wp2
  go_ret
  exact ⟨rfl, _, rfl⟩

set_option maxHeartbeats 800000 in
theorem same_any (n k c a w0 : Nat) (A : Option Addr) (rows : List (List Int)) (w : World) (hG : GV n k rows) (haK : a < k) (hw : w0 < n) (ha : SS w A k rows) :
    Calls Try.prog 50 #[.agg #[.int .i64 n, .slice A k c], .int .i64 a, .int .i64 w0] w fun e w' => e = .returned (.int .i64 (smV (rat rows a) n w0 : Nat)) ∧ Below w.heap.size w w' := by
  have hmf : ∀ (fn : Fn) (first cap : Array Value) (w : World), (Instr.makeFunc fn first cap).run Try.prog w = .ok (.func fn first cap) w := fun _ _ _ _ => rfl
  obtain ⟨W, hW⟩ : ∃ W, W = ((w.alloc (.cells #[.int .i64 n, .slice A k c] 48)).alloc (.cells #[.int .i64 a] 3)).alloc (.cells #[.int .i64 w0] 3) := ⟨_, rfl⟩
  have hB : Below w.heap.size w W := by rw [hW]; exact (((Below.refl _ _).alloc (Nat.le_refl _) _).alloc (by simp) _).alloc (by simp; omega) _
  have hS : SS W A k rows := ha.below hB (Nat.le_refl _)
  have c1 : W.cell? ⟨w.heap.size, 1, none⟩ = some (.slice A k c) := by rw [hW, cellL1]; rfl
  have c2 : W.cell? ⟨w.heap.size + 1, 0, none⟩ = some (.int .i64 a) := by rw [hW]; simp [World.cell?_alloc_at, World.cell?_alloc_past]
  have c3 : W.cell? ⟨w.heap.size + 2, 0, none⟩ = some (.int .i64 w0) := by rw [hW]; simp [World.cell?_alloc_at, World.cell?_alloc_past]
  have HC := Lib.hid (filter_any 51 #[.pointer (some ⟨w.heap.size, 0, none⟩), .pointer (some ⟨w.heap.size + 1, 0, none⟩), .pointer (some ⟨w.heap.size + 2, 0, none⟩)] (fun u => iat (rat rows a) u == iat (rat rows a) w0) n (fun V => ∃ m, V = W.drewN m) W hG.n2 ⟨0, rfl⟩
    (enters_of Try.func51 (by kernel_rfl) rfl) (fun u hu V hV => by
      obtain ⟨m, rfl⟩ := hV
      exact (same1_any n k c a w0 u w.heap.size A rows _ hG haK hw hu (hS.drewN m) c1 c2 c3).mono fun e w' ⟨he, q, hq⟩ => ⟨he, m + q, by rw [hq, World.drewN_drewN]⟩))
  rw [hW] at HC
  have HB := Lib.hid hB
  rw [hW] at HB
  clear hB hS c1 c2 c3 ha hW W
  have hn := hG.n2
  go_enter Try.func50, Try.ntmps50
  go_wp2_with fail
  refine HC.out.mono ?_
  rintro e w' ⟨rfl, m, rfl⟩
  go_wp2_with fail
  go_ret
  exact ⟨rfl, bDrewN HB.out m⟩

set_option maxRecDepth 20000 in
set_option maxHeartbeats 1600000 in
theorem knows1_any (n k c a s u g : Nat) (A : Option Addr) (rows : List (List Int)) (V : World) (hG : GV n k rows) (haK : a < k) (hs : s < 65536) (hu : u < n) (ha : SS V A k rows) (hgs : g + 2 < V.heap.size)
    (h0 : V.cell? ⟨g, 0, none⟩ = some (.int .i64 n)) (h1 : V.cell? ⟨g, 1, none⟩ = some (.slice A k c)) (h2 : V.cell? ⟨g + 1, 0, none⟩ = some (.int .i64 a)) (h3 : V.cell? ⟨g + 2, 0, none⟩ = some (.int .i64 s)) :
    Calls Try.prog 49 #[.int .i64 u, .pointer (some ⟨g, 0, none⟩), .pointer (some ⟨g + 1, 0, none⟩), .pointer (some ⟨g + 2, 0, none⟩)] V fun e w' => e = .returned (.bool (knP (rat rows a) n s u)) ∧ Below V.heap.size V w' := by
  have HS := Lib.hid (ha.drewN 1)
  have CS := Lib.hid (fun (w : World) h => same_any n k c a u A rows w hG haK hu h)
  have hsm : smV (rat rows a) n u < 65536 := Nat.lt_of_lt_of_le (bs_lt _ _) (pow16 hG.n2)
  have HK := Lib.hid (knP_of (rat rows a) n s u)
  have HBt := Lib.hid (bits_andn64 (smV (rat rows a) n u) s (by omega) (by omega))
  have hn := hG.n2
  have hk := hG.k2
  have HGS := Lib.hid hgs
  clear ha hG
  generalize knP (rat rows a) n s u = res at *
  generalize smV (rat rows a) n u = m at *
  have hle := andn_le m s
  have hb := HBt.out
  generalize andn m s = d at *
  have HD := Lib.hid (show ((d : Int) == 0) = res by rw [← HK.out]; cases e : d == 0 <;> simp at e ⊢ <;> omega)
  go_enter Try.func49, Try.ntmps49
  go_wp2_with fail
  go_region_held3 (fun w' => w'.cell? ⟨g, 0, none⟩ = some (.int .i64 n) ∧ w'.cell? ⟨g, 1, none⟩ = some (.slice A k c) ∧ w'.cell? ⟨g + 1, 0, none⟩ = some (.int .i64 a) ∧ w'.cell? ⟨g + 2, 0, none⟩ = some (.int .i64 s)) (go_keep) (first
    | (go_simp; go_at_call 50; refine (CS.out V.drew HS.out).mono ?_; rintro e w9 ⟨rfl, b90⟩; have b9 : Below V.heap.size V w9 := (bDrewN (Below.refl V.heap.size V) 1).trans b90; have q0 := (b9.cell (p := ⟨g, 0, none⟩) (by show g < _; have := HGS.out; omega)).trans h0; have q1 := (b9.cell (p := ⟨g, 1, none⟩) (by show g < _; have := HGS.out; omega)).trans h1; have q2 := (b9.cell (p := ⟨g + 1, 0, none⟩) (by show g + 1 < _; have := HGS.out; omega)).trans h2; have q3 := (b9.cell (p := ⟨g + 2, 0, none⟩) (by show g + 2 < _; have := HGS.out; omega)).trans h3; have b9' := Lib.hid b9; clear b9 b90; dsimp only)
    )
  go_wp2_with fail
  go_ret
  exact ⟨by rw [← HD.out]; rfl, b9'.out⟩

set_option maxHeartbeats 800000 in
theorem lookknows_any (n k c a s : Nat) (A : Option Addr) (rows : List (List Int)) (w : World) (hG : GV n k rows) (haK : a < k) (hs : s < 65536) (ha : SS w A k rows) :
    Calls Try.prog 46 #[.agg #[.int .i64 n, .slice A k c], .int .i64 a, .int .i64 s] w fun e w' => e = .returned (.int .i64 (knV (rat rows a) n s : Nat)) ∧ Below w.heap.size w w' := by
  have hmf : ∀ (fn : Fn) (first cap : Array Value) (w : World), (Instr.makeFunc fn first cap).run Try.prog w = .ok (.func fn first cap) w := fun _ _ _ _ => rfl
  obtain ⟨W, hW⟩ : ∃ W, W = ((w.alloc (.cells #[.int .i64 n, .slice A k c] 48)).alloc (.cells #[.int .i64 a] 3)).alloc (.cells #[.int .i64 s] 3) := ⟨_, rfl⟩
  have hB : Below w.heap.size w W := by rw [hW]; exact (((Below.refl _ _).alloc (Nat.le_refl _) _).alloc (by simp) _).alloc (by simp; omega) _
  have hz : W.heap.size = w.heap.size + 3 := by rw [hW]; simp
  have hS : SS W A k rows := ha.below hB (Nat.le_refl _)
  have c0 : W.cell? ⟨w.heap.size, 0, none⟩ = some (.int .i64 n) := by rw [hW, cellL1]; rfl
  have c1 : W.cell? ⟨w.heap.size, 1, none⟩ = some (.slice A k c) := by rw [hW, cellL1]; rfl
  have c2 : W.cell? ⟨w.heap.size + 1, 0, none⟩ = some (.int .i64 a) := by rw [hW]; simp [World.cell?_alloc_at, World.cell?_alloc_past]
  have c3 : W.cell? ⟨w.heap.size + 2, 0, none⟩ = some (.int .i64 s) := by rw [hW]; simp [World.cell?_alloc_at, World.cell?_alloc_past]
  have HC := Lib.hid (filter_any 49 #[.pointer (some ⟨w.heap.size, 0, none⟩), .pointer (some ⟨w.heap.size + 1, 0, none⟩), .pointer (some ⟨w.heap.size + 2, 0, none⟩)] (knP (rat rows a) n s) n (fun V => Below W.heap.size W V) W hG.n2 (Below.refl _ _)
    (enters_of Try.func49 (by kernel_rfl) rfl) (fun u hu V hV => by
      have hsz := hV.size
      exact (knows1_any n k c a s u w.heap.size A rows V hG haK hs hu (hS.below hV (Nat.le_refl _)) (by omega)
        ((hV.cell (p := ⟨w.heap.size, 0, none⟩) (by show w.heap.size < _; omega)).trans c0) ((hV.cell (p := ⟨w.heap.size, 1, none⟩) (by show w.heap.size < _; omega)).trans c1)
        ((hV.cell (p := ⟨w.heap.size + 1, 0, none⟩) (by show w.heap.size + 1 < _; omega)).trans c2) ((hV.cell (p := ⟨w.heap.size + 2, 0, none⟩) (by show w.heap.size + 2 < _; omega)).trans c3)).mono fun e w' ⟨he, hb⟩ => ⟨he, hV.trans (hb.mono hsz)⟩))
  have HB := Lib.hid (show ∀ V, Below W.heap.size W V → Below w.heap.size w V from fun V h => hB.trans (h.mono hB.size))
  rw [hW] at HC
  rw [hW] at HB
  clear hB hS c0 c1 c2 c3 ha hW hz W
  have hn := hG.n2
  go_enter Try.func46, Try.ntmps46
  go_wp2_with fail
  refine HC.out.mono ?_
  rintro e w' ⟨rfl, hb⟩
  have hb' := Lib.hid (HB.out _ hb)
  clear hb
  go_wp2_with fail
  go_ret
  exact ⟨rfl, hb'.out⟩

end Go.Proofs.Ytfjpnennbdefiaa
