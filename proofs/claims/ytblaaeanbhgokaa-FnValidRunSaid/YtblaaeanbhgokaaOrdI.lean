/-
  OrdI. By a program (wip/tools/mk.py) out of snippets.
-/
import Derived.Test.YtblaaeanbhgokaaOrdDef
import Derived.Test.YtblaaeanbhgokaaFn2
namespace Go.Proofs.Ytblaaeanbhgokaa
open Go.RowKit

theorem bitOk_any (x : Int) (w : World) : Calls Try.prog 75 #[.int .i64 x] w fun e w' => e = .returned (.bool (inR x 0 1)) ∧ w = w' := by
  by_cases h0 : x = 0
  · subst h0
    go_enter Try.func75, Try.ntmps75
    go_wp2
    go_ret
    exact ⟨rfl, rfl⟩
  · have e0 : (x == 0) = false := by simpa using h0
    have e2 := Lib.hid (show inR x 0 1 = (x == 1) by unfold inR; rw [Bool.eq_iff_iff]; simp; omega)
    rw [e2.out]
    clear h0
    go_enter Try.func75, Try.ntmps75
    go_wp2
    go_ret
    exact ⟨rfl, rfl⟩

theorem orders1_any (x : Int) (w : World) : Calls Try.prog 76 #[.int .i64 x] w fun e w' => e = .returned (.bool (!inR x 0 1)) ∧ w' = w := by
  have H := Lib.hid (bitOk_any x w)
  go_enter Try.func76, Try.ntmps76
  go_wp2_with fail
  refine H.out.mono ?_
  rintro e w' ⟨rfl, rfl⟩
  go_wp2_with fail
  go_ret
  exact ⟨rfl, rfl⟩

theorem says_any (n p q m c B : Nat) (liar x : Int) (A : Option Addr) (zs : List Int) (w : World) (hn : n ≤ 5) (hp : p < n) (hq : q < n) (hm : m = n * n) (ha : SI w A m zs)
    (c0 : w.cell? ⟨B, 0, none⟩ = some (.int .i64 n)) (c1 : w.cell? ⟨B + 1, 0, none⟩ = some (.int .i64 liar)) (c2 : w.cell? ⟨B + 2, 0, none⟩ = some (.slice A m c)) :
    Calls Try.prog 99 #[.int .i64 p, .int .i64 q, .int .i64 x, .pointer (some ⟨B + 1, 0, none⟩), .pointer (some ⟨B + 2, 0, none⟩), .pointer (some ⟨B, 0, none⟩)] w fun e w' => e = .returned (.int .i64 (sayL n liar zs p q x)) ∧ w = w' := by
  by_cases h : (p : Int) = liar
  · have hlt : p * n + q < m := by
      subst hm
      have : (p + 1) * n ≤ n * n := Nat.mul_le_mul_right _ hp
      rw [Nat.add_mul] at this
      omega
    have hb : p * n ≤ 25 := Nat.le_trans (Nat.mul_le_mul (Nat.le_trans (Nat.le_of_lt hp) hn) hn) (by decide)
    have hm25 : m ≤ 25 := by subst hm; exact Nat.le_trans (Nat.mul_le_mul hn hn) (by decide)
    obtain ⟨b, off, rfl, h1⟩ := ha.at_ hlt
    have HS := Lib.hid (show sayL n liar zs p q x = iat zs (p * n + q) by rw [sayL, if_pos h])
    have e0 : ((p : Int) == liar) = true := by simpa using h
    have e1 : IntKind.i64.wrap ((p : Int) * (n : Int)) = ((p * n : Nat) : Int) := by rw [← Int.natCast_mul]; exact IntWalk.i64_in _ (by omega)
    have e2 : IntKind.i64.wrap (((p * n : Nat) : Int) + (q : Int)) = ((p * n + q : Nat) : Int) := by rw [← Int.natCast_add]; exact IntWalk.i64_in _ (by omega)
    rw [HS.out]
    have ep : (p : Int) * (n : Int) = ((p * n : Nat) : Int) := by simp
    generalize p * n = pn at *
    generalize iat zs (pn + q) = y at *
    clear ha hm h
    go_enter Try.func99, Try.ntmps99
    go_wp2
    go_ret
    exact ⟨rfl, rfl⟩
  · have e0 : ((p : Int) == liar) = false := by simpa using h
    have HS := Lib.hid (show sayL n liar zs p q x = x by rw [sayL, if_neg h])
    rw [HS.out]
    clear ha hm h
    go_enter Try.func99, Try.ntmps99
    go_wp2
    go_ret
    exact ⟨rfl, rfl⟩

theorem own_app_cells {w : World} {base g n cap : Nat} {zs : List Int} (h : w.ownsRow base 3 1 (.slice (some ⟨g, 0, none⟩) n cap) n (zs.map (Value.int .i64))) : base ≤ g ∧ g < w.heap.size := World.ownsRow.lt h g rfl
set_option maxRecDepth 20000 in
set_option maxHeartbeats 3200000 in
theorem implorders_any (n m c : Nat) (order liar : Int) (A : Option Addr) (zs : List Int) (w : World) (hn1 : 3 ≤ n) (hn : n ≤ 5) (ho : 0 ≤ order ∧ order ≤ 1) (hl : -1 ≤ liar ∧ liar ≤ 5) (hm : m = n * n) (hz : ∀ z ∈ zs, 0 ≤ z ∧ z ≤ 1) (ha : SI w A m zs) :
    Calls Try.prog 77 #[.int .i64 n, .int .i64 order, .int .i64 liar, .slice A m c] w fun e w' => ∃ A' c', e = .returned (.slice A' (n - 1) c') ∧ NewI w' w.heap.size A' (n - 1) (ordTo n order liar zs (n - 1)) ∧ Below w.heap.size w w' := by
  have hmf : ∀ (fn : Fn) (first cap : Array Value) (w : World), (Instr.makeFunc fn first cap).run Try.prog w = .ok (.func fn first cap) w := fun _ _ _ _ => rfl
  have eg := enters_of Try.func99 (by kernel_rfl) rfl
  obtain ⟨i0, hi, hz0, hz1, hz2⟩ := info_parts info3
  obtain ⟨W, hW⟩ : ∃ W, W = ((w.alloc (.cells #[.int .i64 n] 3)).alloc (.cells #[.int .i64 liar] 3)).alloc (.cells #[.slice A m c] 22) := ⟨_, rfl⟩
  have hB : Below w.heap.size w W := by rw [hW]; exact (((Below.refl _ _).alloc (Nat.le_refl _) _).alloc (by simp) _).alloc (by simp; omega) _
  have hzW : W.heap.size = w.heap.size + 3 := by rw [hW]; simp
  have c0 : W.cell? ⟨w.heap.size, 0, none⟩ = some (.int .i64 n) := by
    rw [hW, World.cell?_alloc_past _ _ _ (by simp; omega), World.cell?_alloc_past _ _ _ (by simp), World.cell?_alloc_at _ _ _ _ rfl]; rfl
  have c1 : W.cell? ⟨w.heap.size + 1, 0, none⟩ = some (.int .i64 liar) := by
    rw [hW, World.cell?_alloc_past _ _ _ (by simp), World.cell?_alloc_at _ _ _ _ (by simp)]; rfl
  have c2 : W.cell? ⟨w.heap.size + 2, 0, none⟩ = some (.slice A m c) := by
    rw [hW, World.cell?_alloc_at _ _ _ _ (by simp)]; rfl
  have HZW := Lib.hid hzW
  have HB := Lib.hid hB
  have C0 := Lib.hid c0
  have C1 := Lib.hid c1
  have HT := Lib.hid (fun p q x w' (hp : p < n) (hq : q < n) (hb : Below W.heap.size W w') =>
    says_any n p q m c w.heap.size liar x A zs w' hn hp hq hm (ha.below (hB.trans (hb.mono hB.size)) (Nat.le_refl _))
      ((hb.cell (p := ⟨w.heap.size, 0, none⟩) (by show w.heap.size < _; omega)).trans c0) ((hb.cell (p := ⟨w.heap.size + 1, 0, none⟩) (by show w.heap.size + 1 < _; omega)).trans c1) ((hb.cell (p := ⟨w.heap.size + 2, 0, none⟩) (by show w.heap.size + 2 < _; omega)).trans c2))
  have HF := Lib.hid (fun p => say_bd (n := n) (liar := liar) (p := 0) (q := p) hz ho)
  have HO := Lib.hid (fun p m => one_bd (n := n) (liar := liar) hz ho p m)
  have HSb := Lib.hid (fun p q => say_bd (n := n) (liar := liar) (p := p) (q := q) hz (say_bd (n := n) (liar := liar) (p := 0) (q := p) hz ho))
  clear ha hz hm hB hzW c0 c1 c2
  go_enter Try.func77, Try.ntmps77
  go_wp2_with (at_make; refine wpList_make_full _ rfl _ _ 22 rfl (w.heap.size + 1 + 1 + 1) 3 i0 (.int .i64 0) 1 Try.underlying22 hi hz0 hz1 _ _ _ _ n rfl rfl rfl rfl ?b1 ?b2 (by simp) ?_)
  case b1 => rw [hz2]; omega
  case b2 => unfold maxLen; omega
  have ezW : w.heap.size + 1 + 1 + 1 = W.heap.size := by have := HZW.out; omega
  intro w1 hown hgrow
  have hown := (show w1.ownsRow (w.heap.size + 1 + 1 + 1) 3 1 (.slice (some ⟨w.heap.size + 1 + 1 + 1, 0, none⟩) n n) n _ from hown)
  rw [ezW] at hown
  rw [← hW] at hgrow
  rw [ezW]
  clear hW ezW
  rw [madeInts, ← tTo_one n order liar zs] at hown
  have hb1 : Below W.heap.size W w1 := (Below.refl _ _).grown hgrow (Nat.le_refl _) (fun k h => by cases h)
  clear hgrow
  go_wp2_with fail
  go_loopg [11] n (fun gg s11 wr => ∃ k : Nat, 1 ≤ k ∧ k ≤ n ∧ n - k ≤ gg ∧ s11 = .int .i64 k ∧ wr.ownsRow W.heap.size 3 1 (.slice (some ⟨W.heap.size, 0, none⟩) n n) n ((tTo n order liar zs k).map (Value.int .i64)) ∧ Below W.heap.size W wr)
  case atStart => exact ⟨1, by omega, by omega, by omega, rfl, hown, hb1⟩
  case round =>
    clear hown hb1
    obtain ⟨k, hk1, hk, hg, rfl, hown, hbw⟩ := hrel
    have c0 := (hbw.cell (p := ⟨w.heap.size, 0, none⟩) (by show w.heap.size < _; have := HZW.out; omega)).trans C0.out
    by_cases hlt : k < n
    · have HTk := Lib.hid (HT.out 0 k order wr (by omega) hlt hbw)
      rw [show (((0 : Nat) : Int)) = 0 from rfl] at HTk
      have hf := HF.out k
      rw [show sayL n liar zs 0 k order = firL n order liar zs k from rfl] at HTk hf
      have hu := tTo_length n order liar zs k
      have hcell := own_cell hown hlt
      have hfz := World.ownsRow.frozenAt hown k
      have hst := own_stored hown k (firL n order liar zs k)
      rw [tTo_set hk1] at hst
      have hbw' : Below W.heap.size W (wr.setCell ⟨W.heap.size, k, none⟩ (.int .i64 (firL n order liar zs k))) := hbw.setCell (Nat.le_refl _) _
      have H1 := Lib.hid hst.1
      have H2 := Lib.hid hbw'
      clear hu hown hbw hst hbw'
      generalize firL n order liar zs k = x at *
      go_wp2_with fail
      refine HTk.out.mono ?_
      rintro e w' ⟨rfl, rfl⟩
      go_wp2_with fail
      go_roundg (n - (k + 1))
      case measure => omega
      case rel => exact ⟨k + 1, by omega, by omega, by omega, by go_num, H1.out, H2.out⟩
    · obtain rfl : k = n := by omega
      have HBW := Lib.hid hbw
      have HN := Lib.hid (NewI.of_own hown)
      obtain ⟨wF, rfl⟩ : ∃ x, x = wr := ⟨_, rfl⟩
      have HCt := Lib.hid (fun (q : Nat) (hq : q < k) => own_cell hown hq)
      have hgg := (own_app_cells hown).2
      have hszF := hbw.size
      have e9 : ((k : Int) - 1).toNat = k - 1 := by omega
      have e8 : (k : Int) - 1 = ((k - 1 : Nat) : Int) := by omega
      have HG := Lib.hid hgg
      clear hown hbw hgg
      go_wp2_with (at_make; refine wpList_make_own _ rfl _ _ 22 rfl wF.heap.size 3 i0 (.int .i64 0) 1 Try.underlying22 hi hz0 hz1 _ _ _ (k - 1) rfl rfl (by first | rfl | (rw [← e8])) ?b1 ?b2 (Nat.le_refl _) ?_)
      case b1 => rw [hz2]; omega
      case b2 => unfold maxLen; omega
      intro w2 o2 hgrow2
      have b2 : Below wF.heap.size wF w2 := (Below.refl _ _).grown hgrow2 (Nat.le_refl _) (fun k h => by cases h)
      clear hgrow2 e8 e9
      go_wp2_with fail
      go_loopg [12, 13] k (fun g2 s12 s13 w3 => ∃ (p ca : Nat) (Aa : Option Addr), p + 1 ≤ k ∧ k - (p + 1) ≤ g2 ∧ s13 = .int .i64 ((p : Int) + 1) ∧ s12 = .slice Aa p ca ∧ w3.ownsRow wF.heap.size 3 1 (.slice Aa p ca) p ((ordTo k order liar zs p).map (Value.int .i64)) ∧ Below wF.heap.size wF w3)
      case atStart => exact ⟨0, k - 1, _, by omega, by omega, rfl, rfl, o2, b2⟩
      case round =>
        clear o2 b2
        obtain ⟨p, ca, Aa, hp, hg2, rfl, rfl, hown, hb3⟩ := hrel
        obtain ⟨w3, rfl⟩ : ∃ x, x = wr := ⟨_, rfl⟩
        have HOw := Lib.hid hown
        have HB3 := Lib.hid hb3
        have hsz3 := hb3.size
        have hbW := HBW.out.trans (hb3.mono HBW.out.size)
        have HBw3 := Lib.hid hbW
        have c0 := (hbW.cell (p := ⟨w.heap.size, 0, none⟩) (by show w.heap.size < _; have := HZW.out; omega)).trans C0.out
        have c1 := (hbW.cell (p := ⟨w.heap.size + 1, 0, none⟩) (by show w.heap.size + 1 < _; have := HZW.out; omega)).trans C1.out
        by_cases hlp : p + 1 < k
        · have HS := Lib.hid (ordTo_succ k order liar zs p)
          have hc : ∀ q, q < k → w3.cell? ⟨W.heap.size, q, none⟩ = some (.int .i64 (iat (tTo k order liar zs k) q)) := fun q hq => (hb3.cell (p := ⟨W.heap.size, q, none⟩) HG.out).trans (HCt.out q hq)
          have hx := hc (p + 1) hlp
          rw [tTo_at (by omega) hlp, ← one_first] at hx
          have hbd := HO.out (p + 1) 1
          have HC := Lib.hid hc
          clear hown hb3 hc hbW
          have ep : ((p : Int) + 1) = ((p + 1 : Nat) : Int) := by omega
          rw [ep]
          clear ep
          generalize hpp : p + 1 = P at *
          have hP1 : 1 ≤ P := by omega
          go_wp2_with fail
          go_loopg [14, 15] k (fun g4 s13 s14 w5 => ∃ q : Nat, 1 ≤ q ∧ q ≤ k ∧ k - q ≤ g4 ∧ s14 = .int .i64 q ∧ s13 = .int .i64 (oneTo k order liar zs P q) ∧ w3 = w5)
          case atStart => exact ⟨1, by omega, by omega, by omega, rfl, rfl, rfl⟩
          case round =>
            clear hx hbd
            obtain ⟨q, hq1, hq, hg4, rfl, rfl, rfl⟩ := hrel
            have hbd := HO.out P q
            by_cases hlq : q < k
            · by_cases hqp : q = P
              · subst hqp
                have hne : ((q : Int) == (q : Int)) = true := by simp
                have HS1 := Lib.hid (one_skip (n := k) (order := order) (liar := liar) (zs := zs) (p := q))
                go_wp2_with fail
                go_roundg (k - (q + 1))
                case measure => omega
                case rel => exact ⟨q + 1, by omega, by omega, by omega, by go_num, by rw [HS1.out], rfl⟩
              · have hne : ((q : Int) == (P : Int)) = false := by simp; omega
                have HS1 := Lib.hid (one_hit (n := k) (order := order) (liar := liar) (zs := zs) (p := P) hq1 hqp)
                have HTk := Lib.hid (HT.out q P (firL k order liar zs q) w3 hlq hlp HBw3.out)
                have hy := HC.out q hlq
                rw [tTo_at hq1 hlq] at hy
                have hs := HSb.out q P
                rw [show sayL k liar zs 0 q order = firL k order liar zs q from rfl] at hs
                generalize sayL k liar zs q P (firL k order liar zs q) = y at *
                generalize oneTo k order liar zs P q = x at *
                generalize firL k order liar zs q = z at *
                go_wp2_with fail
                refine HTk.out.mono ?_
                rintro e w' ⟨rfl, rfl⟩
                go_wp2_with fail
                go_roundg (k - (q + 1))
                case measure => omega
                case rel => exact ⟨q + 1, by omega, by omega, by omega, by go_num, by rw [HS1.out], rfl⟩
            · obtain rfl : q = k := by omega
              have HU := Lib.hid (show outL q order liar zs P = if (P : Int) = liar then -1 else if (q : Int) - 1 < 2 * oneTo q order liar zs P q then 1 else 0 from rfl)
              generalize oneTo q order liar zs P q = x at *
              generalize outL q order liar zs P = u at *
              by_cases h1 : (P : Int) = liar
              · have e1 : ((P : Int) == liar) = true := by simpa using h1
                have hu := Lib.hid (show u = -1 by rw [HU.out, if_pos h1])
                rw [hu.out] at HS
                clear h1 hu HU
                go_wp2_with (at_builtin; refine appL w3 wF.heap.size _ _ _ (ordTo q order liar zs p) (-1) rfl _ _ rfl rfl HOw.out rfl (by omega) hsz3 ?_; intro g9 c9 w9 ho9 hb9 hg9 hl9)
                subst hpp
                go_roundg (q - (p + 1 + 1))
                case measure => omega
                case rel => exact ⟨p + 1, c9, _, by omega, by omega, by first | rfl | (go_num; done) | (congr 1; omega), rfl, by rw [HS.out]; exact ho9, HB3.out.trans hb9⟩
              · have e1 : ((P : Int) == liar) = false := by simpa using h1
                have hu := Lib.hid (show u = if (q : Int) - 1 < 2 * x then 1 else 0 by rw [HU.out, if_neg h1])
                clear h1 HU
                by_cases h2 : (q : Int) - 1 < 2 * x
                · have hu2 := Lib.hid (show u = 1 by rw [hu.out, if_pos h2])
                  rw [hu2.out] at HS
                  clear hu hu2
                  go_wp2_with (at_builtin; refine appL w3 wF.heap.size _ _ _ (ordTo q order liar zs p) 1 rfl _ _ rfl rfl HOw.out rfl (by omega) hsz3 ?_; intro g9 c9 w9 ho9 hb9 hg9 hl9)
                  subst hpp
                  go_roundg (q - (p + 1 + 1))
                  case measure => omega
                  case rel => exact ⟨p + 1, c9, _, by omega, by omega, by first | rfl | (go_num; done) | (congr 1; omega), rfl, by rw [HS.out]; exact ho9, HB3.out.trans hb9⟩
                · have hu2 := Lib.hid (show u = 0 by rw [hu.out, if_neg h2])
                  rw [hu2.out] at HS
                  clear hu hu2
                  go_wp2_with (at_builtin; refine appL w3 wF.heap.size _ _ _ (ordTo q order liar zs p) 0 rfl _ _ rfl rfl HOw.out rfl (by omega) hsz3 ?_; intro g9 c9 w9 ho9 hb9 hg9 hl9)
                  subst hpp
                  go_roundg (q - (p + 1 + 1))
                  case measure => omega
                  case rel => exact ⟨p + 1, c9, _, by omega, by omega, by first | rfl | (go_num; done) | (congr 1; omega), rfl, by rw [HS.out]; exact ho9, HB3.out.trans hb9⟩
        · obtain rfl : k = p + 1 := by omega
          have HN3 := Lib.hid ((NewI.of_own hown).mono (Nat.le_trans HB.out.size HBW.out.size))
          have HBf := Lib.hid (HB.out.trans (hbW.mono HB.out.size))
          have ek : p + 1 - 1 = p := by omega
          clear hown hb3 hbW
          go_wp2_with fail
          go_ret
          rw [ek]
          exact ⟨_, _, rfl, HN3.out, HBf.out⟩

set_option maxHeartbeats 800000 in
theorem implOrdersOf_any (n order liar : Int) (A : Option Addr) (m c : Nat) (zs : List Int) (w : World) (hm : m ≤ 2000000) (ha : SI w A m zs) :
    Calls Try.prog 38 #[.int .i64 n, .int .i64 order, .int .i64 liar, .slice A m c] w fun e w' => ∃ A' c', e = .returned (.slice A' (ordA n order liar zs).length c') ∧ NewI w' w.heap.size A' (ordA n order liar zs).length (ordA n order liar zs) ∧ Below w.heap.size w w' := by
  have H1 := Lib.hid (fun w => within_any n 3 5 w)
  have H2 := Lib.hid (fun w => bitOk_any order w)
  have H3 := Lib.hid (fun w => within_any liar (-1) (n - 1) w)
  have H4 := Lib.hid (containsFunc_any 76 #[] (fun z => !inR z 0 1) A m c zs (fun W => W = w) w (by omega) rfl
    (enters_of Try.func76 (by kernel_rfl) rfl) (fun W hW => by subst hW; exact ha)
    (fun j hj W hW => by subst hW; exact orders1_any (iat zs j) W))
  have HL := Lib.hid ha.1
  have HA := Lib.hid ha
  have HE : ∀ b, okO n order liar zs = b → b = false → ordA n order liar zs = [] := by
    rintro b rfl h; simp [ordA, h]
  have Hno := Lib.hid HE
  clear ha HE
  cases e1 : inR n 3 5 with
  | false =>
    have hv := Lib.hid (Hno.out _ (show okO n order liar zs = false by simp [okO, e1]) rfl)
    rw [e1] at H1
    clear e1
    go_enter Try.func38, Try.ntmps38
    go_wp2_with fail
    refine (H1.out _).mono ?_
    rintro e w' ⟨rfl, rfl⟩
    go_wp2_with fail
    go_ret
    rw [hv.out]
    exact ⟨none, 0, rfl, ⟨rfl, fun h => absurd h (by simp)⟩, Below.refl _ _⟩
  | true =>
    have E1 := Lib.hid e1
    rw [e1] at H1
    obtain ⟨hn1, hn2⟩ := inR_iff.1 e1
    obtain ⟨N, rfl⟩ : ∃ N : Nat, n = N := ⟨n.toNat, by omega⟩
    clear e1
    cases e2 : inR order 0 1 with
    | false =>
      have hv := Lib.hid (Hno.out _ (show okO N order liar zs = false by simp [okO, e2]) rfl)
      rw [e2] at H2
      clear e2
      go_enter Try.func38, Try.ntmps38
      go_wp2_with fail
      refine (H1.out _).mono ?_
      rintro e w' ⟨rfl, rfl⟩
      go_wp2_with fail
      refine (H2.out _).mono ?_
      rintro e w' ⟨rfl, rfl⟩
      go_wp2_with fail
      go_ret
      rw [hv.out]
      exact ⟨none, 0, rfl, ⟨rfl, fun h => absurd h (by simp)⟩, Below.refl _ _⟩
    | true =>
      have E2 := Lib.hid e2
      rw [e2] at H2
      clear e2
      cases e3 : inR liar (-1) ((N : Int) - 1) with
      | false =>
        have hv := Lib.hid (Hno.out _ (show okO N order liar zs = false by simp [okO, e3]) rfl)
        rw [e3] at H3
        clear e3
        go_enter Try.func38, Try.ntmps38
        go_wp2_with fail
        refine (H1.out _).mono ?_
        rintro e w' ⟨rfl, rfl⟩
        go_wp2_with fail
        refine (H2.out _).mono ?_
        rintro e w' ⟨rfl, rfl⟩
        go_wp2_with fail
        refine (H3.out _).mono ?_
        rintro e w' ⟨rfl, rfl⟩
        go_wp2_with fail
        go_ret
        rw [hv.out]
        exact ⟨none, 0, rfl, ⟨rfl, fun h => absurd h (by simp)⟩, Below.refl _ _⟩
      | true =>
        have E3 := Lib.hid e3
        rw [e3] at H3
        clear e3
        have hN : N ≤ 5 := by omega
        have hb : N * N ≤ 25 := Nat.le_trans (Nat.mul_le_mul hN hN) (by decide)
        have e4 : IntKind.i64.wrap ((N : Int) * (N : Int)) = (N : Int) * (N : Int) := by rw [← Int.natCast_mul]; exact IntWalk.i64_in _ (by omega)
        clear hb
        cases e5 : ((m : Int) == (N : Int) * (N : Int)) with
        | false =>
          have hv := Lib.hid (Hno.out _ (show okO N order liar zs = false by simp only [okO, HL.out, e5]; simp) rfl)
          go_enter Try.func38, Try.ntmps38
          go_wp2_with fail
          refine (H1.out _).mono ?_
          rintro e w' ⟨rfl, rfl⟩
          go_wp2_with fail
          refine (H2.out _).mono ?_
          rintro e w' ⟨rfl, rfl⟩
          go_wp2_with fail
          refine (H3.out _).mono ?_
          rintro e w' ⟨rfl, rfl⟩
          go_wp2_with fail
          go_ret
          rw [hv.out]
          exact ⟨none, 0, rfl, ⟨rfl, fun h => absurd h (by simp)⟩, Below.refl _ _⟩
        | true =>
          have E5 := Lib.hid e5
          have HB := Lib.hid (show (zs.any fun z => !inR z 0 1) = !(zs.all fun z => inR z 0 1) by rw [List.not_all_eq_any_not])
          generalize (zs.any fun z => !inR z 0 1) = r at *
          cases r with
          | true =>
            have hv := Lib.hid (Hno.out _ (show okO N order liar zs = false by
              have h := HB.out
              have h2 : (zs.all fun z => inR z 0 1) = false := by
                cases h3 : (zs.all fun z => inR z 0 1) with
                | false => rfl
                | true => rw [h3] at h; cases h
              simp [okO, h2]) rfl)
            go_enter Try.func38, Try.ntmps38
            go_wp2_with fail
            refine (H1.out _).mono ?_
            rintro e w' ⟨rfl, rfl⟩
            go_wp2_with fail
            refine (H2.out _).mono ?_
            rintro e w' ⟨rfl, rfl⟩
            go_wp2_with fail
            refine (H3.out _).mono ?_
            rintro e w' ⟨rfl, rfl⟩
            go_wp2_with fail
            refine H4.out.mono ?_
            rintro e w' ⟨rfl, rfl⟩
            go_wp2_with fail
            go_ret
            rw [hv.out]
            exact ⟨none, 0, rfl, ⟨rfl, fun h => absurd h (by simp)⟩, Below.refl _ _⟩
          | false =>
            have hok : okO N order liar zs = true := by
              have h := HB.out
              have h2 : (zs.all fun z => inR z 0 1) = true := by
                cases h3 : (zs.all fun z => inR z 0 1) with
                | true => rfl
                | false => rw [h3] at h; cases h
              have h5 := E5.out
              rw [← HL.out] at h5
              simp only [okO, E1.out, E2.out, E3.out, h5, h2]; rfl
            obtain ⟨_, ho, hl, hlen, hz⟩ := okO_iff.1 hok
            have hv := Lib.hid (show ordA N order liar zs = ordTo N order liar zs (N - 1) by simp [ordA, hok])
            have hmm : m = N * N := by rw [HL.out, ← Int.natCast_mul] at hlen; omega
            have H6 := Lib.hid (implorders_any N m c order liar A zs w (by omega) (by omega) ho (by omega) hmm hz HA.out)
            clear hok hz hlen hmm
            go_enter Try.func38, Try.ntmps38
            go_wp2_with fail
            refine (H1.out _).mono ?_
            rintro e w' ⟨rfl, rfl⟩
            go_wp2_with fail
            refine (H2.out _).mono ?_
            rintro e w' ⟨rfl, rfl⟩
            go_wp2_with fail
            refine (H3.out _).mono ?_
            rintro e w' ⟨rfl, rfl⟩
            go_wp2_with fail
            refine H4.out.mono ?_
            rintro e w' ⟨rfl, rfl⟩
            go_wp2_with fail
            refine H6.out.mono ?_
            rintro e w' ⟨A', c', rfl, hN, hB⟩
            have HN := Lib.hid hN
            have HBB := Lib.hid hB
            clear hN hB
            go_wp2_with fail
            go_ret
            rw [hv.out, ordTo_length]
            exact ⟨A', c', rfl, HN.out, HBB.out⟩

end Go.Proofs.Ytblaaeanbhgokaa
