/-
  Mud3. By a program (wip/tools/mk.py) out of snippets.
-/
import Derived.Test.YtfjpnennbdefiaaMud2
import Derived.Laws.MakeOwn
namespace Go.Proofs.Ytfjpnennbdefiaa
open Go.RowKit

theorem wrap_pow (n : Nat) (hn : n ≤ 4) : wrap64 ((2 : Int) ^ n) = ((2 ^ n : Nat) : Int) := by
  have hp : 2 ^ n ≤ 16 := Nat.pow_le_pow_right (n := 2) (by omega) hn
  have h : ((2 : Int) ^ n) = ((2 ^ n : Nat) : Int) := by simp
  rw [h]
  generalize 2 ^ n = q at hp
  exact IntWalk.wrap64_in _ (by omega)
theorem andn_mu : ∀ p, p < 16 → ∀ a, a < 4 → andn p (2 ^ a) = p - (if p.testBit a then 2 ^ a else 0) := by decide
theorem OV.keep {w w2 w3 : World} {B : Nat} {A : Option Addr} {a c : Nat} {vs : List Value} {rows : List (List Int)} (_h : OV w B A a c vs rows) (hb : Below w.heap.size w w2) {o : Obj} (hg : (w2.alloc o).grownBy w3 (Value.slice A a c).ownBlock) {b : Nat} (h1 : b < w.heap.size) (h2 : some b ≠ (Value.slice A a c).ownBlock) : w3.heap[b]? = w.heap[b]? := by
  have := hb.size
  rw [hg.block b (by simp; omega) h2, ((Below.refl w2.heap.size w2).alloc (Nat.le_refl _) _).block b (by omega)]
  exact hb.block b h1
theorem OV.setOff {w : World} {B : Nat} {A : Option Addr} {a c : Nat} {vs : List Value} {rows : List (List Int)} (h : OV w B A a c vs rows) {p : Addr} (hp : (Value.slice A a c).ownBlock ≠ some p.block) (hr : ∀ i, i < rows.length → blk (vat vs i) ≠ some p.block) (v : Value) : OV (w.setCell p v) B A a c vs rows := by
  have hg : w.grownBy (w.setCell p v) (some p.block) := ⟨rfl, rfl, rfl, by simp, fun k _ hne => Below.heap_setCell _ _ _ _ (by simpa using hne)⟩
  refine ⟨h.own.kept hg (.inr hp), ?_, h.ob, by simpa using h.le, h.len⟩
  have := h.rf.same (w' := w.setCell p v) fun b _ _ h3 => by
    obtain ⟨i, hi, e⟩ := h3
    exact Below.heap_setCell _ _ _ _ (fun e' => hr i hi (by rw [e, e']))
  simpa using this
/-- What the walk of 'MuddyView' keeps: the view lies in block v. -/
structure MV (w : World) (v : Nat) (P : Int) (wr : World) (A : Option Addr) (a c : Nat) (vs : List Value) (rows : List (List Int)) : Prop where
  ov : OV wr (w.heap.size + 1) A a c vs rows
  vlt : v < wr.heap.size
  vge : w.heap.size + 1 ≤ v
  vo : (Value.slice A a c).ownBlock ≠ some v
  vr : ∀ i, i < rows.length → blk (vat vs i) ≠ some v
  c0 : wr.cell? ⟨v, 0, none⟩ = some (.int .i64 P)
  c1 : wr.cell? ⟨v, 1, none⟩ = some (.slice A a c)
  d0 : wr.cell? ⟨w.heap.size, 0, none⟩ = some (.int .i64 0)
  d1 : wr.cell? ⟨w.heap.size, 1, none⟩ = some (.slice none 0 0)
  f1 : wr.frozen? ⟨v, 1, none⟩ = false
  g0 : wr.frozen? ⟨w.heap.size, 0, none⟩ = false
  g1 : wr.frozen? ⟨w.heap.size, 1, none⟩ = false
  bel : Below w.heap.size w wr
theorem MV.push {w wr w2 w3 : World} {v : Nat} {P : Int} {A : Option Addr} {a c : Nat} {vs : List Value} {rows : List (List Int)} (h : MV w v P wr A a c vs rows) (hb : Below wr.heap.size wr w2) {A1 : Option Addr} {n1 c1 : Nat} {zs : List Int} (hv : RowOk w2 wr.heap.size w2.heap.size (.slice A1 n1 c1) zs) {g c' : Nat} {t : TypeId}
    (hown : w3.ownsRow (w.heap.size + 1) 41 1 (.slice (some ⟨g, 0, none⟩) (a + 1) c') (a + 1) (vs ++ [.slice A1 n1 c1])) (hg : (w2.alloc (.cells #[.slice A1 n1 c1] t)).grownBy w3 (Value.slice A a c).ownBlock) (hl : (Value.slice A a c).ownBlock = some g ∨ g = w2.heap.size + 1) :
    MV w v P (w3.setCell ⟨v, 1, none⟩ (.slice (some ⟨g, 0, none⟩) (a + 1) c')) (some ⟨g, 0, none⟩) (a + 1) c' (vs ++ [.slice A1 n1 c1]) (rows ++ [zs]) ∧ w3.frozen? ⟨v, 1, none⟩ = false ∧ ∃ u, w3.cell? ⟨v, 1, none⟩ = some u := by
  obtain ⟨hov, hbw⟩ := h.ov.push hb hv hown hg hl
  have hK := h.ov.keep hb hg h.vlt (fun e => h.vo e.symm)
  have hvge := h.vge
  have hvlt := h.vlt
  have hs2 := hb.size
  have k0 := (World.cell?_of_block (a := ⟨v, 0, none⟩) hK).trans h.c0
  have k1 := (World.cell?_of_block (a := ⟨v, 1, none⟩) hK).trans h.c1
  have l0 := (hbw.cell (p := ⟨w.heap.size, 0, none⟩) (by show w.heap.size < _; omega)).trans h.d0
  have l1 := (hbw.cell (p := ⟨w.heap.size, 1, none⟩) (by show w.heap.size < _; omega)).trans h.d1
  have m1 := (World.frozen?_of_block (a := ⟨v, 1, none⟩) hK).trans h.f1
  have n0 := (hbw.frozen (p := ⟨w.heap.size, 0, none⟩) (by show w.heap.size < _; omega)).trans h.g0
  have n1' := (hbw.frozen (p := ⟨w.heap.size, 1, none⟩) (by show w.heap.size < _; omega)).trans h.g1
  have hgv : (Value.slice (some ⟨g, 0, none⟩) (a + 1) c').ownBlock ≠ some v := by
    show some g ≠ some v
    intro e
    cases e
    rcases hl with h3 | h3
    · exact h.vo h3
    · omega
  have hrv : ∀ i, i < (rows ++ [zs]).length → blk (vat (vs ++ [.slice A1 n1 c1]) i) ≠ some v := fun i hi => by
    rw [List.length_append, List.length_singleton] at hi
    have hvl := h.ov.rf.len
    by_cases e : i < rows.length
    · rw [vat_lt (by omega)]
      exact h.vr i e
    · obtain rfl : i = vs.length := by omega
      rw [vat_eq]
      obtain ⟨b, e1, h1, _⟩ := hv.blk
      rw [e1]
      intro e2
      cases e2
      omega
  have hsz3 : v < w3.heap.size := by have := hg.size; simp at this; omega
  refine ⟨⟨hov.setOff hgv hrv _, by simpa using hsz3, hvge, hgv, hrv, ?_, ?_, ?_, ?_, by rw [World.frozen?_setCell]; exact m1, by rw [World.frozen?_setCell]; exact n0, by rw [World.frozen?_setCell]; exact n1', ?_⟩, m1, _, k1⟩
  · rw [World.cell?_setCell_other _ _ _ _ (by simp)]; exact k0
  · exact World.cell?_setCell_same _ _ _ k1
  · rw [World.cell?_setCell_other _ _ _ _ (fun e => by injection e; omega)]; exact l0
  · rw [World.cell?_setCell_other _ _ _ _ (fun e => by injection e; omega)]; exact l1
  · exact (h.bel.trans (hbw.mono (by omega))).setCell (by show w.heap.size ≤ v; omega) _
theorem MV.done {w wr : World} {v : Nat} {P : Int} {A : Option Addr} {a c : Nat} {vs : List Value} {rows : List (List Int)} (h : MV w v P wr A a c vs rows) :
    FR ((wr.setCell ⟨w.heap.size, 0, none⟩ (.int .i64 P)).setCell ⟨w.heap.size, 1, none⟩ (.slice A a c)) w.heap.size ((wr.setCell ⟨w.heap.size, 0, none⟩ (.int .i64 P)).setCell ⟨w.heap.size, 1, none⟩ (.slice A a c)).heap.size A a rows ∧ Below w.heap.size w ((wr.setCell ⟨w.heap.size, 0, none⟩ (.int .i64 P)).setCell ⟨w.heap.size, 1, none⟩ (.slice A a c)) := by
  have h1 := (h.ov.set (p := ⟨w.heap.size, 0, none⟩) (by show w.heap.size < _; omega) (.int .i64 P)).set (p := ⟨w.heap.size, 1, none⟩) (by show w.heap.size < _; omega) (.slice A a c)
  exact ⟨h1.fr.mono (by omega) (Nat.le_refl _) (Nat.le_refl _), (h.bel.setCell (Nat.le_refl _) _).setCell (Nat.le_refl _) _⟩
theorem own_lateR {w w' : World} {base e size n g c m : Nat} {xs : List Value} (h : w.ownsRow base e size (.slice (some ⟨g, 0, none⟩) n c) m xs) (hb : Below w.heap.size w w') : w'.ownsRow base e size (.slice (some ⟨g, 0, none⟩) n c) m xs :=
  World.ownsRow.kept (row := none) h (w' := w') ⟨hb.os, hb.tape, hb.output, hb.size, fun i hi _ => hb.block i hi⟩ (.inr (by simp [Value.ownBlock]))
theorem MV.a (w : World) (P : Int) (n : Nat) (cs : Array Value) (hcs : cs.size = n * 1) (hn : n ≤ 4) : MV w (w.heap.size + 1 + 1) P ((((w.alloc (.cells #[.int .i64 0, .slice none 0 0] 25)).alloc (.cells cs 41)).alloc (.cells #[.int .i64 P, .slice (some ⟨w.heap.size + 1, 0, none⟩) 0 n] 25)).drew) (some ⟨w.heap.size + 1, 0, none⟩) 0 n [] [] := by
  have h1 := World.ownsRow_made (base := w.heap.size + 1) (e := 41) (size := 1) (w.alloc (.cells #[.int .i64 0, .slice none 0 0] 25)) cs n (by first | (simp; done) | (simp; omega)) (by unfold maxLen; omega) hcs
  have h2 := own_lateR (by simpa using h1) ((Below.refl _ _).alloc (Nat.le_refl _) (.cells #[.int .i64 P, .slice (some ⟨w.heap.size + 1, 0, none⟩) 0 n] 25))
  have h3 := own_lateR h2 (bDrewN (Below.refl _ _) 1)
  refine ⟨OV.made _ _ _ _ (by first | (simp; done) | (simp; omega)) h3, by first | (simp; done) | (simp; omega), by omega, by simp [Value.ownBlock], fun i hi => absurd hi (by first | (simp; done) | (simp; omega)), ?_, ?_, ?_, ?_, by go_simp, by go_simp, by go_simp, bDrewN ((((Below.refl _ _).alloc (Nat.le_refl _) _).alloc (by first | (simp; done) | (simp; omega)) _).alloc (by first | (simp; done) | (simp; omega)) _) 1⟩ <;> first
    | (simp [World.cell?_alloc_at, World.cell?_alloc_past]; done)
    | (simp [World.cell?_alloc_at, World.cell?_alloc_past]; rw [cellL1]; rfl)
theorem MV.b (w : World) (P : Int) (n : Nat) (cs : Array Value) (hcs : cs.size = n * 1) (hn : n ≤ 4) : MV w (w.heap.size + 1) P ((((w.alloc (.cells #[.int .i64 0, .slice none 0 0] 25)).alloc (.cells #[.int .i64 P, .slice (some ⟨w.heap.size + 1 + 1, 0, none⟩) 0 n] 25)).alloc (.cells cs 41)).drew) (some ⟨w.heap.size + 1 + 1, 0, none⟩) 0 n [] [] := by
  have h1 := World.ownsRow_made (base := w.heap.size + 1) (e := 41) (size := 1) ((w.alloc (.cells #[.int .i64 0, .slice none 0 0] 25)).alloc (.cells #[.int .i64 P, .slice (some ⟨w.heap.size + 1 + 1, 0, none⟩) 0 n] 25)) cs n (by first | (simp; done) | (simp; omega)) (by unfold maxLen; omega) hcs
  have h3 := own_lateR (by simpa using h1) (bDrewN (Below.refl _ _) 1)
  refine ⟨OV.made _ _ _ _ (by first | (simp; done) | (simp; omega)) h3, by first | (simp; done) | (simp; omega), by omega, by simp [Value.ownBlock], fun i hi => absurd hi (by first | (simp; done) | (simp; omega)), ?_, ?_, ?_, ?_, by go_simp, by go_simp, by go_simp, bDrewN ((((Below.refl _ _).alloc (Nat.le_refl _) _).alloc (by first | (simp; done) | (simp; omega)) _).alloc (by first | (simp; done) | (simp; omega)) _) 1⟩ <;> first
    | (simp [World.cell?_alloc_at, World.cell?_alloc_past]; done)
    | (simp [World.cell?_alloc_at, World.cell?_alloc_past]; rw [cellL1]; rfl)
set_option maxHeartbeats 3200000 in
theorem implMuddyView_in (n : Nat) (w : World) (hn1 : 1 ≤ n) (hn : n ≤ 4) :
    Calls Try.prog 34 #[.int .i64 n] w fun e w' => ∃ A c, e = .returned (.tuple #[.agg #[.int .i64 ((2 ^ n : Nat) : Int), .slice A n c], .bool true]) ∧ FR w' w.heap.size w'.heap.size A n ((List.range n).map (muRow n)) ∧ Below w.heap.size w w' := by
  have HI := Lib.hid (show ∀ w', Calls Try.prog 18 #[.int .i64 n, .int .i64 1, .int .i64 4] w' fun e w2 => e = .returned (.bool true) ∧ w' = w2 by
    intro w'
    have := within_any n 1 4 w'
    rwa [inR_true (by omega)] at this)
  obtain ⟨i0, hi, hz0, hz1, hz2⟩ := info_parts info41
  obtain ⟨j0, ji, jz0, jz1, jz2⟩ := info_parts info3
  obtain ⟨cs, hcs, hmk⟩ : ∃ cs : Array Value, cs.size = n * 1 ∧ ∀ W : World, (Instr.makeSlice 23 (.int .i64 0) (.int .i64 (n : Int))).run Try.prog W = .ok (.slice (some ⟨W.heap.size, 0, none⟩) 0 n) (W.alloc (.cells cs 41)) := by
    refine ⟨madeCells (Value.slice none 0 0).cells (n * i0.size), ?_, fun W => ?_⟩
    rotate_left
    · have := run_make (P := Try.prog) W 23 41 i0 (.slice none 0 0) Try.underlying23 hi hz0 .i64 .i64 0 n (Int.le_refl _) (by omega) (by rw [hz2]; omega) (by omega)
      simp only [Int.toNat_zero, Int.toNat_natCast] at this
      exact this
    · rw [size_madeCells, hz1]
  have hw := wrap_pow n hn
  have hp : 2 ^ n ≤ 16 := Nat.pow_le_pow_right (n := 2) (by omega) hn
  have HRow := Lib.hid (show ∀ a, muRow n a = (List.range (2 ^ n)).map (muF a) from fun a => rfl)
  obtain ⟨P, hP⟩ : ∃ P, P = 2 ^ n := ⟨_, rfl⟩
  rw [← hP] at hw hp HRow
  rw [← hP]
  have MA := Lib.hid (MV.a w P n cs hcs hn)
  have MB := Lib.hid (MV.b w P n cs hcs hn)
  clear hP hcs
  go_enter Try.func34, Try.ntmps34
  go_wp2_with fail
  refine (HI.out _).mono ?_
  rintro e w' ⟨rfl, rfl⟩
  go_wp2_with fail
  go_region
  · have M0 := Lib.hid MA.out
    clear MA MB hmk hw HI
    revert M0
    generalize hW : World.drew _ = W
    clear hW
    generalize hg : w.heap.size + 1 + 1 = v2
    obtain ⟨v, hv⟩ : ∃ v, v = v2 := ⟨_, rfl⟩
    rw [← hv]
    clear hv hg v2
    intro M0
    go_wp2_with fail
    go_loopg [18] n (fun gg s18 wr => ∃ (a : Nat) (A : Option Addr) (c : Nat) (vs : List Value), a ≤ n ∧ n - a ≤ gg ∧ s18 = .int .i64 a ∧ MV w v P wr A a c vs ((List.range a).map (muRow n)))
    case atStart => exact ⟨0, _, n, [], by omega, by omega, rfl, M0.out⟩
    case round =>
      clear M0
      obtain ⟨a, A, c, vs, ha, hg, rfl, hM⟩ := hrel
      have HM := Lib.hid hM
      obtain ⟨w1, rfl⟩ : ∃ x, x = wr := ⟨_, rfl⟩
      by_cases hlt : a < n
      · have k0 := hM.c0
        have hv1 := hM.vlt
        clear hM
        go_wp2_with (at_make; refine wpList_make_own _ rfl _ _ 41 rfl w1.heap.size 3 j0 (.int .i64 0) 1 Try.underlying41 ji jz0 jz1 _ _ _ P rfl rfl rfl ?b1 ?b2 (Nat.le_refl _) ?_)
        case b1 => rw [jz2]; omega
        case b2 => unfold maxLen; omega
        intro w2 o0 hgrow
        have b0 : Below w1.heap.size w1 w2 := (Below.refl _ _).grown hgrow (Nat.le_refl _) (fun k h => by cases h)
        replace k0 := (b0.cell (p := ⟨v, 0, none⟩) hv1).trans k0
        clear hgrow
        go_wp2_with fail
        go_loopg [6, 26] P (fun g2 s6 s26 w3 => ∃ p g cc : Nat, p ≤ P ∧ P - p ≤ g2 ∧ s26 = .int .i64 p ∧ s6 = .slice (some ⟨g, 0, none⟩) p cc ∧ w3.ownsRow w1.heap.size 3 1 (.slice (some ⟨g, 0, none⟩) p cc) p (((List.range p).map (muF a)).map (Value.int .i64)) ∧ Below w1.heap.size w1 w3)
        case atStart => exact ⟨0, w1.heap.size, P, by omega, by omega, rfl, rfl, o0, b0⟩
        case round =>
          clear o0 b0 k0
          obtain ⟨p, g, cc, hp', hg2, rfl, rfl, hown, hbw⟩ := hrel
          have HOw := Lib.hid hown
          have HBw := Lib.hid hbw
          have hs3 := hbw.size
          by_cases hpl : p < P
          · have hqw := wrap_pow a (by omega)
            have hba := bits_andn64 p (2 ^ a) (by omega) (Nat.lt_of_le_of_lt (Nat.pow_le_pow_right (n := 2) (by omega) (by omega : a ≤ 4)) (by omega))
            rw [andn_mu p (by omega) a (by omega)] at hba
            have hml := muLe p a
            have HS := Lib.hid (muRow_take_succ a p)
            have hpa : 2 ^ a ≤ 16 := Nat.pow_le_pow_right (n := 2) (by omega) (by omega : a ≤ 4)
            generalize (if p.testBit a then 2 ^ a else 0) = d at *
            generalize 2 ^ a = q at hqw hba hpa
            clear hown hbw
            go_wp2_with (at_builtin; refine appL wr w1.heap.size _ _ _ ((List.range p).map (muF a)) ((p - d : Nat) : Int) rfl _ _ rfl rfl HOw.out rfl (by omega) hs3 ?_; intro g2 c2 w4 ho4 hb4 hg4 hl4)
            go_roundg (P - (p + 1))
            case measure => omega
            case rel => exact ⟨p + 1, g2, c2, by omega, by omega, by go_num, rfl, by rw [HS.out]; exact ho4, HBw.out.trans hb4⟩
          · obtain rfl : p = P := by omega
            have k0 := (hbw.cell (p := ⟨v, 0, none⟩) hv1).trans HM.out.c0
            have k1 := (hbw.cell (p := ⟨v, 1, none⟩) hv1).trans HM.out.c1
            have HV := Lib.hid (RowOk.of_own hown)
            rw [← HRow.out a] at HV
            have HO := Lib.hid (HM.out.ov.own.kept (row := none) (w' := wr) ⟨hbw.os, hbw.tape, hbw.output, hbw.size, fun i hi _ => hbw.block i hi⟩ (by cases hv : (Value.slice A a c).ownBlock with
              | none => exact .inl rfl
              | some k => exact .inr (by simp)))
            have HP := Lib.hid (fun g c' w3 h1 h2 h3 => HM.out.push (w2 := wr) (w3 := w3) (g := g) (c' := c') (t := 41) hbw HV.out h1 h2 h3)
            have hle := HM.out.ov.le
            clear hown hbw HOw HBw
            have HRS := Lib.hid (muRows_succ n a)
            go_wp2_with (at_builtin; refine appV wr (w.heap.size + 1) A a c vs (some ⟨g, 0, none⟩) p cc rfl _ _ rfl rfl HO.out rfl (by omega) (by omega) ?_; intro g2 c2 w4 ho4 hg4 hl4; obtain ⟨hM4, hf4, v4, hv4⟩ := HP.out g2 c2 w4 ho4 hg4 hl4; have HM4 := Lib.hid hM4; clear hM4 ho4 hg4 hl4)
            go_roundg (n - (a + 1))
            case measure => omega
            case rel => exact ⟨a + 1, _, c2, _, by omega, by omega, by go_num, by rw [HRS.out]; exact HM4.out⟩
      · obtain rfl : a = n := by omega
        have k0 := hM.c0
        have k1 := hM.c1
        have l0 := hM.d0
        have l1 := hM.d1
        have m0 := hM.g0
        have m1 := hM.g1
        clear hM
        go_wp2_with fail
        refine bodyPost_ret (v := .tuple #[.agg #[.int .i64 P, .slice A a c], .bool true]) ?_ rfl ⟨A, c, rfl, HM.out.done⟩
        have hres : Try.f34.results = #[.cell 2 25, .tmp 3] := by kernel_rfl
        simp [results, hres]
        go_simp
  · have M0 := Lib.hid MB.out
    clear MA MB hmk hw HI
    revert M0
    generalize hW : World.drew _ = W
    clear hW
    generalize hg : w.heap.size + 1 + 1 = v2
    generalize w.heap.size + 1 = v
    intro M0
    go_wp2_with fail
    go_loopg [18] n (fun gg s18 wr => ∃ (a : Nat) (A : Option Addr) (c : Nat) (vs : List Value), a ≤ n ∧ n - a ≤ gg ∧ s18 = .int .i64 a ∧ MV w v P wr A a c vs ((List.range a).map (muRow n)))
    case atStart => exact ⟨0, _, n, [], by omega, by omega, rfl, M0.out⟩
    case round =>
      clear M0
      obtain ⟨a, A, c, vs, ha, hg, rfl, hM⟩ := hrel
      have HM := Lib.hid hM
      obtain ⟨w1, rfl⟩ : ∃ x, x = wr := ⟨_, rfl⟩
      by_cases hlt : a < n
      · have k0 := hM.c0
        have hv1 := hM.vlt
        clear hM
        go_wp2_with (at_make; refine wpList_make_own _ rfl _ _ 41 rfl w1.heap.size 3 j0 (.int .i64 0) 1 Try.underlying41 ji jz0 jz1 _ _ _ P rfl rfl rfl ?b1 ?b2 (Nat.le_refl _) ?_)
        case b1 => rw [jz2]; omega
        case b2 => unfold maxLen; omega
        intro w2 o0 hgrow
        have b0 : Below w1.heap.size w1 w2 := (Below.refl _ _).grown hgrow (Nat.le_refl _) (fun k h => by cases h)
        replace k0 := (b0.cell (p := ⟨v, 0, none⟩) hv1).trans k0
        clear hgrow
        go_wp2_with fail
        go_loopg [6, 26] P (fun g2 s6 s26 w3 => ∃ p g cc : Nat, p ≤ P ∧ P - p ≤ g2 ∧ s26 = .int .i64 p ∧ s6 = .slice (some ⟨g, 0, none⟩) p cc ∧ w3.ownsRow w1.heap.size 3 1 (.slice (some ⟨g, 0, none⟩) p cc) p (((List.range p).map (muF a)).map (Value.int .i64)) ∧ Below w1.heap.size w1 w3)
        case atStart => exact ⟨0, w1.heap.size, P, by omega, by omega, rfl, rfl, o0, b0⟩
        case round =>
          clear o0 b0 k0
          obtain ⟨p, g, cc, hp', hg2, rfl, rfl, hown, hbw⟩ := hrel
          have HOw := Lib.hid hown
          have HBw := Lib.hid hbw
          have hs3 := hbw.size
          by_cases hpl : p < P
          · have hqw := wrap_pow a (by omega)
            have hba := bits_andn64 p (2 ^ a) (by omega) (Nat.lt_of_le_of_lt (Nat.pow_le_pow_right (n := 2) (by omega) (by omega : a ≤ 4)) (by omega))
            rw [andn_mu p (by omega) a (by omega)] at hba
            have hml := muLe p a
            have HS := Lib.hid (muRow_take_succ a p)
            have hpa : 2 ^ a ≤ 16 := Nat.pow_le_pow_right (n := 2) (by omega) (by omega : a ≤ 4)
            generalize (if p.testBit a then 2 ^ a else 0) = d at *
            generalize 2 ^ a = q at hqw hba hpa
            clear hown hbw
            go_wp2_with (at_builtin; refine appL wr w1.heap.size _ _ _ ((List.range p).map (muF a)) ((p - d : Nat) : Int) rfl _ _ rfl rfl HOw.out rfl (by omega) hs3 ?_; intro g2 c2 w4 ho4 hb4 hg4 hl4)
            go_roundg (P - (p + 1))
            case measure => omega
            case rel => exact ⟨p + 1, g2, c2, by omega, by omega, by go_num, rfl, by rw [HS.out]; exact ho4, HBw.out.trans hb4⟩
          · obtain rfl : p = P := by omega
            have k0 := (hbw.cell (p := ⟨v, 0, none⟩) hv1).trans HM.out.c0
            have k1 := (hbw.cell (p := ⟨v, 1, none⟩) hv1).trans HM.out.c1
            have HV := Lib.hid (RowOk.of_own hown)
            rw [← HRow.out a] at HV
            have HO := Lib.hid (HM.out.ov.own.kept (row := none) (w' := wr) ⟨hbw.os, hbw.tape, hbw.output, hbw.size, fun i hi _ => hbw.block i hi⟩ (by cases hv : (Value.slice A a c).ownBlock with
              | none => exact .inl rfl
              | some k => exact .inr (by simp)))
            have HP := Lib.hid (fun g c' w3 h1 h2 h3 => HM.out.push (w2 := wr) (w3 := w3) (g := g) (c' := c') (t := 41) hbw HV.out h1 h2 h3)
            have hle := HM.out.ov.le
            clear hown hbw HOw HBw
            have HRS := Lib.hid (muRows_succ n a)
            go_wp2_with (at_builtin; refine appV wr (w.heap.size + 1) A a c vs (some ⟨g, 0, none⟩) p cc rfl _ _ rfl rfl HO.out rfl (by omega) (by omega) ?_; intro g2 c2 w4 ho4 hg4 hl4; obtain ⟨hM4, hf4, v4, hv4⟩ := HP.out g2 c2 w4 ho4 hg4 hl4; have HM4 := Lib.hid hM4; clear hM4 ho4 hg4 hl4)
            go_roundg (n - (a + 1))
            case measure => omega
            case rel => exact ⟨a + 1, _, c2, _, by omega, by omega, by go_num, by rw [HRS.out]; exact HM4.out⟩
      · obtain rfl : a = n := by omega
        have k0 := hM.c0
        have k1 := hM.c1
        have l0 := hM.d0
        have l1 := hM.d1
        have m0 := hM.g0
        have m1 := hM.g1
        clear hM
        go_wp2_with fail
        refine bodyPost_ret (v := .tuple #[.agg #[.int .i64 P, .slice A a c], .bool true]) ?_ rfl ⟨A, c, rfl, HM.out.done⟩
        have hres : Try.f34.results = #[.cell 2 25, .tmp 3] := by kernel_rfl
        simp [results, hres]
        go_simp

set_option maxHeartbeats 800000 in
theorem implMuddyView_any (n : Int) (w : World) :
    Calls Try.prog 34 #[.int .i64 n] w fun e w' => ∃ A c, e = .returned (.tuple #[.agg #[.int .i64 (muW n), .slice A (muR n).length c], .bool (inR n 1 4)]) ∧ FR w' w.heap.size w'.heap.size A (muR n).length (muR n) ∧ Below w.heap.size w w' := by
  by_cases h : 1 ≤ n ∧ n ≤ 4
  · obtain ⟨k, rfl⟩ : ∃ k : Nat, n = k := ⟨n.toNat, by omega⟩
    obtain ⟨e1, e2, e3⟩ := muW_in (n := k) (by omega) (by omega)
    rw [e1, e2, e3]
    simp only [List.length_map, List.length_range]
    exact implMuddyView_in k w (by omega) (by omega)
  · have HI := Lib.hid (fun w' => within_any n 1 4 w')
    obtain ⟨e1, e2, e3⟩ := muW_out h
    rw [e1, e2, e3]
    rw [e3] at HI
    clear e1 e2 e3 h
    go_enter Try.func34, Try.ntmps34
    go_wp2_with fail
    refine (HI.out _).mono ?_
    rintro e w' ⟨rfl, rfl⟩
    go_wp2_with fail
    refine bodyPost_ret (v := .tuple #[.agg #[.int .i64 0, .slice none 0 0], .bool false]) ?_ rfl ⟨none, 0, rfl, ?_, ?_⟩
    · have hres : Try.f34.results = #[.cell 2 25, .tmp 3] := by kernel_rfl
      simp [results, hres]
      go_simp
    · exact FR.empty _ _ (by simp)
    · first
        | exact (((Below.refl _ _).alloc (Nat.le_refl _) _).setCell (Nat.le_refl _) _).setCell (Nat.le_refl _) _
        | exact (Below.refl _ _).alloc (Nat.le_refl _) _

end Go.Proofs.Ytfjpnennbdefiaa
