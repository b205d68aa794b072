/-
  OrdS. By a program (wip/tools/mk.py) out of snippets.
-/
import Derived.Test.YtblaaeanbhgokaaOrdDef
import Derived.Test.YtblaaeanbhgokaaFn2
namespace Go.Proofs.Ytblaaeanbhgokaa
open Go.RowKit

theorem told_any (n p q m c : Nat) (liar x : Int) (A : Option Addr) (zs : List Int) (w : World) (hn : n ≤ 5) (hp : p < n) (hq : q < n) (hm : m = n * n) (ha : SI w A m zs) :
    Calls Try.prog 98 #[.int .i64 n, .int .i64 liar, .slice A m c, .int .i64 p, .int .i64 q, .int .i64 x] w fun e w' => e = .returned (.int .i64 (sayL n liar zs p q x)) ∧ w = w' := by
  by_cases h : (p : Int) = liar
  · have hlt : p * n + q < m := by
      subst hm
      have : (p + 1) * n ≤ n * n := Nat.mul_le_mul_right _ hp
      rw [Nat.add_mul] at this
      omega
    have hb : p * n ≤ 25 := Nat.le_trans (Nat.mul_le_mul (Nat.le_trans (Nat.le_of_lt hp) hn) hn) (by decide)
    have hm25 : m ≤ 25 := by subst hm; exact Nat.le_trans (Nat.mul_le_mul hn hn) (by decide)
    obtain ⟨b, off, rfl, h1⟩ := ha.at_ hlt
    have HS := Lib.hid (show sayL n liar zs p q x = iat zs (p * n + q) by rw [sayL, if_pos h])
    have e0 : ((p : Int) == liar) = true := by simpa using h
    have e1 : IntKind.i64.wrap ((p : Int) * (n : Int)) = ((p * n : Nat) : Int) := by rw [← Int.natCast_mul]; exact IntWalk.i64_in _ (by omega)
    have e2 : IntKind.i64.wrap (((p * n : Nat) : Int) + (q : Int)) = ((p * n + q : Nat) : Int) := by rw [← Int.natCast_add]; exact IntWalk.i64_in _ (by omega)
    rw [HS.out]
    have ep : (p : Int) * (n : Int) = ((p * n : Nat) : Int) := by simp
    generalize p * n = pn at *
    generalize iat zs (pn + q) = y at *
    clear ha hm h
    go_enter Try.func98, Try.ntmps98
    go_wp2
    go_ret
    exact ⟨rfl, rfl⟩
  · have e0 : ((p : Int) == liar) = false := by simpa using h
    have HS := Lib.hid (show sayL n liar zs p q x = x by rw [sayL, if_neg h])
    rw [HS.out]
    clear ha hm h
    go_enter Try.func98, Try.ntmps98
    go_wp2
    go_ret
    exact ⟨rfl, rfl⟩

def vL (n liar : Int) (zs : List Int) : Bool := (zs.all fun z => inR z 0 1) && (inR n 3 5 && (inR liar (-1) (n - 1) && ((zs.length : Int) == n * n)))
theorem okO_eq (n order liar : Int) (zs : List Int) : okO n order liar zs = (inR order 0 1 && vL n liar zs) := by
  unfold okO vL
  cases inR n 3 5 <;> cases inR order 0 1 <;> cases inR liar (-1) (n - 1) <;> cases ((zs.length : Int) == n * n) <;> cases (zs.all fun z => inR z 0 1) <;> rfl
theorem all01_of {zs : List Int} {m : Nat} (hl : zs.length = m) (h : ∀ t, t < m → inR (iat zs t) 0 1 = true) : (zs.all fun z => inR z 0 1) = true := by
  rw [List.all_eq_true]
  intro x hx
  obtain ⟨j, hj, rfl⟩ := List.mem_iff_getElem.1 hx
  have := h j (by omega)
  rwa [iat_eq hj] at this
theorem all01_not {zs : List Int} {t : Nat} (ht : t < zs.length) (h : inR (iat zs t) 0 1 = false) : (zs.all fun z => inR z 0 1) = false := by
  rw [List.all_eq_false]
  exact ⟨zs[t], List.getElem_mem ht, by rw [iat_eq ht] at h; simp [h]⟩
set_option maxHeartbeats 800000 in
theorem validLies_any (n liar : Int) (A : Option Addr) (m c : Nat) (zs : List Int) (w : World) (hm : m ≤ 2000000) (ha : SI w A m zs) :
    Calls Try.prog 73 #[.int .i64 n, .int .i64 liar, .slice A m c] w fun e w' => e = .returned (.bool (vL n liar zs)) ∧ w = w' := by
  have hlen := Lib.hid ha.len
  go_enter Try.func73, Try.ntmps73
  go_wp2
  go_loopg [7] m (fun gg s7 wr => ∃ j : Nat, j ≤ m ∧ m - j ≤ gg ∧ s7 = .int .i64 j ∧ w = wr ∧ Aside (∀ t, t < j → inR (iat zs t) 0 1 = true))
  case atStart => exact ⟨0, by omega, by omega, rfl, rfl, fun t ht => absurd ht (by omega)⟩
  case round =>
    obtain ⟨j, hj, hg, rfl, rfl, A0⟩ := hrel
    by_cases hlt : j < m
    · obtain ⟨b, off, rfl, h1⟩ := ha.at_ hlt
      clear ha
      have H := Lib.hid (inRange_any (iat zs j) 0 1 w)
      cases e1 : inR (iat zs j) 0 1 with
      | true =>
        have E1 := Lib.hid e1
        rw [e1] at H
        clear e1
        go_wp2_with (go_at_call 58; refine H.out.mono ?_; rintro e w' ⟨rfl, rfl⟩)
        go_roundg (m - (j + 1))
        case measure => omega
        case rel =>
          refine ⟨j + 1, by omega, by omega, by go_num, by first | rfl | trivial, (show Aside _ from fun t ht => ?_)⟩
          by_cases e : t = j
          · subst e; exact E1.out
          · exact A0.out t (by omega)
      | false =>
        have E1 := Lib.hid e1
        rw [e1] at H
        clear e1
        go_wp2_with (go_at_call 58; refine H.out.mono ?_; rintro e w' ⟨rfl, rfl⟩)
        go_ret
        exact ⟨by rw [vL, all01_not (by rw [hlen.out]; exact hlt) E1.out]; rfl, rfl⟩
    · obtain rfl : j = m := by omega
      have hall := Lib.hid (all01_of hlen.out A0.out)
      have hv := Lib.hid (show vL n liar zs = (inR n 3 5 && (inR liar (-1) (n - 1) && ((j : Int) == n * n))) by rw [vL, hall.out, hlen.out, Bool.true_and])
      clear ha A0
      have h2 := Lib.hid (fun w => inRange_any n 3 5 w)
      have h3 := Lib.hid (fun w => inRange_any liar (-1) (n - 1) w)
      cases e1 : inR n 3 5 with
      | false =>
        rw [e1] at h2 hv
        clear e1
        go_wp2_with fail
        refine (h2.out _).mono ?_
        rintro e w' ⟨rfl, rfl⟩
        go_wp2_with fail
        go_ret
        exact ⟨by rw [hv.out]; rfl, rfl⟩
      | true =>
        rw [e1] at h2 hv
        obtain ⟨hn1, hn2⟩ := inR_iff.1 e1
        obtain ⟨N, rfl⟩ : ∃ N : Nat, n = N := ⟨n.toNat, by omega⟩
        clear e1
        cases e2 : inR liar (-1) ((N : Int) - 1) with
        | false =>
          rw [e2] at h3 hv
          clear e2
          go_wp2_with fail
          refine (h2.out _).mono ?_
          rintro e w' ⟨rfl, rfl⟩
          go_wp2_with fail
          refine (h3.out _).mono ?_
          rintro e w' ⟨rfl, rfl⟩
          go_wp2_with fail
          go_ret
          exact ⟨by rw [hv.out]; rfl, rfl⟩
        | true =>
          rw [e2] at h3 hv
          clear e2
          have hN : N ≤ 5 := by omega
          have hb : N * N ≤ 25 := Nat.le_trans (Nat.mul_le_mul hN hN) (by decide)
          have e3 : IntKind.i64.wrap ((N : Int) * (N : Int)) = (N : Int) * (N : Int) := by rw [← Int.natCast_mul]; exact IntWalk.i64_in _ (by omega)
          clear hb
          go_wp2_with fail
          refine (h2.out _).mono ?_
          rintro e w' ⟨rfl, rfl⟩
          go_wp2_with fail
          refine (h3.out _).mono ?_
          rintro e w' ⟨rfl, rfl⟩
          go_wp2_with fail
          go_ret
          exact ⟨by rw [hv.out]; rfl, rfl⟩

set_option maxHeartbeats 3200000 in
theorem specorders_any (n m c : Nat) (order liar : Int) (A : Option Addr) (zs : List Int) (w : World) (hn1 : 3 ≤ n) (hn : n ≤ 5) (ho : 0 ≤ order ∧ order ≤ 1) (hm : m = n * n) (hz : ∀ z ∈ zs, 0 ≤ z ∧ z ≤ 1) (ha : SI w A m zs) :
    Calls Try.prog 74 #[.int .i64 n, .int .i64 order, .int .i64 liar, .slice A m c] w fun e w' => ∃ A' c', e = .returned (.slice A' (n - 1) c') ∧ NewI w' w.heap.size A' (n - 1) (ordTo n order liar zs (n - 1)) ∧ Below w.heap.size w w' := by
  have HT := Lib.hid (fun p q x w' (hp : p < n) (hq : q < n) (hb : Below w.heap.size w w') => told_any n p q m c liar x A zs w' hn hp hq hm (ha.below hb (Nat.le_refl _)))
  have HF := Lib.hid (fun p => say_bd (n := n) (liar := liar) (p := 0) (q := p) hz ho)
  have HO := Lib.hid (fun p m => one_bd (n := n) (liar := liar) hz ho p m)
  have HSb := Lib.hid (fun p q => say_bd (n := n) (liar := liar) (p := p) (q := q) hz (say_bd (n := n) (liar := liar) (p := 0) (q := p) hz ho))
  have o0 := own_empty w w.heap.size (Nat.le_refl _)
  have b0 : Below w.heap.size w (w.alloc (.cells #[] 3)) := (Below.refl _ _).alloc (Nat.le_refl _) _
  clear ha hz hm
  go_enter Try.func74, Try.ntmps74
  go_wp2_with fail
  go_loopg [9, 10] n (fun gg s9 s10 wr => ∃ k g cc : Nat, k ≤ n ∧ n - k ≤ gg ∧ s10 = .int .i64 k ∧ s9 = .slice (some ⟨g, 0, none⟩) k cc ∧ wr.ownsRow w.heap.size 3 1 (.slice (some ⟨g, 0, none⟩) k cc) k ((fTo n order liar zs k).map (Value.int .i64)) ∧ Below w.heap.size w wr)
  case atStart => exact ⟨0, w.heap.size, 0, by omega, by omega, rfl, rfl, o0, b0⟩
  case round =>
    clear o0 b0
    obtain ⟨k, g, cc, hk, hg, rfl, rfl, hown, hbw⟩ := hrel
    have HOw := Lib.hid hown
    have HBw := Lib.hid hbw
    have hsz := hbw.size
    by_cases hlt : k < n
    · have HTk := Lib.hid (HT.out 0 k order wr (by omega) hlt hbw)
      have HS := Lib.hid (fTo_succ n order liar zs k)
      have HL := Lib.hid (fTo_length n order liar zs k)
      have hf := HF.out k
      rw [show sayL n liar zs 0 k order = firL n order liar zs k from rfl] at HTk hf
      generalize firL n order liar zs k = x at *
      clear hown hbw
      go_wp2_with fail
      refine HTk.out.mono ?_
      rintro e w' ⟨rfl, rfl⟩
      go_wp2_with (at_builtin; refine appL wr w.heap.size _ _ _ (fTo n order liar zs k) x rfl _ _ rfl rfl HOw.out rfl (by omega) hsz ?_; intro g2 c2 w4 ho4 hb4 hg4 hl4)
      go_roundg (n - (k + 1))
      case measure => omega
      case rel => exact ⟨k + 1, g2, c2, by omega, by omega, by go_num, rfl, by rw [HS.out]; exact ho4, HBw.out.trans hb4⟩
    · obtain rfl : k = n := by omega
      have HN := Lib.hid (NewI.of_own hown)
      have hgg := World.ownsRow.lt hown g rfl
      obtain ⟨wF, rfl⟩ : ∃ x, x = wr := ⟨_, rfl⟩
      have o2 := own_empty wF wF.heap.size (Nat.le_refl _)
      have b2 : Below wF.heap.size wF (wF.alloc (.cells #[] 3)) := (Below.refl _ _).alloc (Nat.le_refl _) _
      clear hown hbw
      go_wp2_with fail
      go_loopg [11, 12] k (fun g2 s11 s12 w3 => ∃ p ga ca : Nat, p + 1 ≤ k ∧ k - (p + 1) ≤ g2 ∧ s12 = .int .i64 ((p : Int) + 1) ∧ s11 = .slice (some ⟨ga, 0, none⟩) p ca ∧ w3.ownsRow wF.heap.size 3 1 (.slice (some ⟨ga, 0, none⟩) p ca) p ((ordTo k order liar zs p).map (Value.int .i64)) ∧ Below wF.heap.size wF w3)
      case atStart => exact ⟨0, wF.heap.size, 0, by omega, by omega, rfl, rfl, o2, b2⟩
      case round =>
        clear o2 b2
        obtain ⟨p, ga, ca, hp, hg2, rfl, rfl, hown, hb3⟩ := hrel
        obtain ⟨w3, rfl⟩ : ∃ x, x = wr := ⟨_, rfl⟩
        have HOw := Lib.hid hown
        have HB3 := Lib.hid hb3
        have hsz3 := hb3.size
        have HF3 := Lib.hid (HN.out.si.below hb3 (Nat.le_refl _))
        have HBw3 := Lib.hid (HBw.out.trans (hb3.mono HBw.out.size))
        by_cases hlp : p + 1 < k
        · have HS := Lib.hid (ordTo_succ k order liar zs p)
          obtain ⟨b', off', e', hc⟩ := HF3.out.2 (by omega)
          cases e'
          have hx := hc (p + 1) hlp
          rw [fTo_at hlp, ← one_first, Nat.zero_add] at hx
          have hbd := HO.out (p + 1) 1
          have HC := Lib.hid hc
          clear hown hb3 hc
          have ep : ((p : Int) + 1) = ((p + 1 : Nat) : Int) := by omega
          rw [ep]
          clear ep
          generalize hpp : p + 1 = P at *
          go_wp2_with fail
          go_loopg [13, 14] k (fun g4 s13 s14 w5 => ∃ q : Nat, 1 ≤ q ∧ q ≤ k ∧ k - q ≤ g4 ∧ s14 = .int .i64 q ∧ s13 = .int .i64 (oneTo k order liar zs P q) ∧ w3 = w5)
          case atStart => exact ⟨1, by omega, by omega, by omega, rfl, rfl, rfl⟩
          case round =>
            clear hx hbd
            obtain ⟨q, hq1, hq, hg4, rfl, rfl, rfl⟩ := hrel
            have hbd := HO.out P q
            by_cases hlq : q < k
            · by_cases hqp : q = P
              · subst hqp
                have hne : ((q : Int) == (q : Int)) = true := by simp
                have HS1 := Lib.hid (one_skip (n := k) (order := order) (liar := liar) (zs := zs) (p := q))
                go_wp2_with fail
                go_roundg (k - (q + 1))
                case measure => omega
                case rel => exact ⟨q + 1, by omega, by omega, by omega, by go_num, by rw [HS1.out], rfl⟩
              · have hne : ((q : Int) == (P : Int)) = false := by simp; omega
                have HS1 := Lib.hid (one_hit (n := k) (order := order) (liar := liar) (zs := zs) (p := P) hq1 hqp)
                have HTk := Lib.hid (HT.out q P (firL k order liar zs q) w3 hlq hlp HBw3.out)
                have hy := HC.out q hlq
                rw [fTo_at hlq, Nat.zero_add] at hy
                have hs := HSb.out q P
                rw [show sayL k liar zs 0 q order = firL k order liar zs q from rfl] at hs
                generalize sayL k liar zs q P (firL k order liar zs q) = y at *
                generalize oneTo k order liar zs P q = x at *
                generalize firL k order liar zs q = z at *
                go_wp2_with fail
                refine HTk.out.mono ?_
                rintro e w' ⟨rfl, rfl⟩
                go_wp2_with fail
                go_roundg (k - (q + 1))
                case measure => omega
                case rel => exact ⟨q + 1, by omega, by omega, by omega, by go_num, by rw [HS1.out], rfl⟩
            · obtain rfl : q = k := by omega
              have HU := Lib.hid (show outL q order liar zs P = if (P : Int) = liar then -1 else if (q : Int) - 1 < 2 * oneTo q order liar zs P q then 1 else 0 from rfl)
              generalize oneTo q order liar zs P q = x at *
              generalize outL q order liar zs P = u at *
              by_cases h1 : (P : Int) = liar
              · have e1 : ((P : Int) == liar) = true := by simpa using h1
                have hu := Lib.hid (show u = -1 by rw [HU.out, if_pos h1])
                rw [hu.out] at HS
                clear h1 hu HU
                by_cases h2 : (q : Int) - 1 < 2 * x
                · go_wp2_with (at_builtin; refine appL w3 wF.heap.size _ _ _ (ordTo q order liar zs p) (-1) rfl _ _ rfl rfl HOw.out rfl (by omega) hsz3 ?_; intro g9 c9 w9 ho9 hb9 hg9 hl9)
                  subst hpp
                  go_roundg (q - (p + 1 + 1))
                  case measure => omega
                  case rel => exact ⟨p + 1, g9, c9, by omega, by omega, by first | rfl | (go_num; done) | (congr 1; omega), rfl, by rw [HS.out]; exact ho9, HB3.out.trans hb9⟩
                · go_wp2_with (at_builtin; refine appL w3 wF.heap.size _ _ _ (ordTo q order liar zs p) (-1) rfl _ _ rfl rfl HOw.out rfl (by omega) hsz3 ?_; intro g9 c9 w9 ho9 hb9 hg9 hl9)
                  subst hpp
                  go_roundg (q - (p + 1 + 1))
                  case measure => omega
                  case rel => exact ⟨p + 1, g9, c9, by omega, by omega, by first | rfl | (go_num; done) | (congr 1; omega), rfl, by rw [HS.out]; exact ho9, HB3.out.trans hb9⟩
              · have e1 : ((P : Int) == liar) = false := by simpa using h1
                have hu := Lib.hid (show u = if (q : Int) - 1 < 2 * x then 1 else 0 by rw [HU.out, if_neg h1])
                clear h1 HU
                by_cases h2 : (q : Int) - 1 < 2 * x
                · have hu2 := Lib.hid (show u = 1 by rw [hu.out, if_pos h2])
                  rw [hu2.out] at HS
                  clear hu hu2
                  go_wp2_with (at_builtin; refine appL w3 wF.heap.size _ _ _ (ordTo q order liar zs p) 1 rfl _ _ rfl rfl HOw.out rfl (by omega) hsz3 ?_; intro g9 c9 w9 ho9 hb9 hg9 hl9)
                  subst hpp
                  go_roundg (q - (p + 1 + 1))
                  case measure => omega
                  case rel => exact ⟨p + 1, g9, c9, by omega, by omega, by first | rfl | (go_num; done) | (congr 1; omega), rfl, by rw [HS.out]; exact ho9, HB3.out.trans hb9⟩
                · have hu2 := Lib.hid (show u = 0 by rw [hu.out, if_neg h2])
                  rw [hu2.out] at HS
                  clear hu hu2
                  go_wp2_with (at_builtin; refine appL w3 wF.heap.size _ _ _ (ordTo q order liar zs p) 0 rfl _ _ rfl rfl HOw.out rfl (by omega) hsz3 ?_; intro g9 c9 w9 ho9 hb9 hg9 hl9)
                  subst hpp
                  go_roundg (q - (p + 1 + 1))
                  case measure => omega
                  case rel => exact ⟨p + 1, g9, c9, by omega, by omega, by first | rfl | (go_num; done) | (congr 1; omega), rfl, by rw [HS.out]; exact ho9, HB3.out.trans hb9⟩
        · obtain rfl : k = p + 1 := by omega
          have HN3 := Lib.hid ((NewI.of_own hown).mono HBw.out.size)
          have ek : p + 1 - 1 = p := by omega
          clear hown hb3
          go_wp2_with fail
          go_ret
          rw [ek]
          exact ⟨_, _, rfl, HN3.out, HBw3.out⟩

theorem specOrdersOf_any (n order liar : Int) (A : Option Addr) (m c : Nat) (zs : List Int) (w : World) (hm : m ≤ 2000000) (ha : SI w A m zs) :
    Calls Try.prog 37 #[.int .i64 n, .int .i64 order, .int .i64 liar, .slice A m c] w fun e w' => ∃ A' c', e = .returned (.slice A' (ordA n order liar zs).length c') ∧ NewI w' w.heap.size A' (ordA n order liar zs).length (ordA n order liar zs) ∧ Below w.heap.size w w' := by
  have H1 := Lib.hid (fun w => inRange_any order 0 1 w)
  have H2 := Lib.hid (fun w' (h : w = w') => validLies_any n liar A m c zs w' hm (h ▸ ha))
  have he := okO_eq n order liar zs
  cases e1 : inR order 0 1 with
  | false =>
    have hv := Lib.hid (show ordA n order liar zs = [] by simp [ordA, he, e1])
    rw [e1] at H1
    clear e1 ha he
    go_enter Try.func37, Try.ntmps37
    go_wp2_with fail
    refine (H1.out _).mono ?_
    rintro e w' ⟨rfl, rfl⟩
    go_wp2_with fail
    go_ret
    rw [hv.out]
    exact ⟨none, 0, rfl, ⟨rfl, fun h => absurd h (by simp)⟩, Below.refl _ _⟩
  | true =>
    rw [e1] at H1
    cases e2 : vL n liar zs with
    | false =>
      have hv := Lib.hid (show ordA n order liar zs = [] by simp [ordA, he, e2])
      rw [e2] at H2
      clear e1 e2 ha he
      go_enter Try.func37, Try.ntmps37
      go_wp2_with fail
      refine (H1.out _).mono ?_
      rintro e w' ⟨rfl, rfl⟩
      go_wp2_with fail
      refine (H2.out _ rfl).mono ?_
      rintro e w' ⟨rfl, rfl⟩
      go_wp2_with fail
      go_ret
      rw [hv.out]
      exact ⟨none, 0, rfl, ⟨rfl, fun h => absurd h (by simp)⟩, Below.refl _ _⟩
    | true =>
      have hok : okO n order liar zs = true := by rw [he, e1, e2]; rfl
      obtain ⟨⟨hn1, hn2⟩, ho, hl, hlen, hz⟩ := okO_iff.1 hok
      obtain ⟨N, rfl⟩ : ∃ N : Nat, n = N := ⟨n.toNat, by omega⟩
      have hv := Lib.hid (show ordA N order liar zs = ordTo N order liar zs (N - 1) by simp [ordA, hok])
      have hmm : m = N * N := by rw [ha.1, ← Int.natCast_mul] at hlen; omega
      have H3 := Lib.hid (specorders_any N m c order liar A zs w (by omega) (by omega) ho hmm hz ha)
      rw [e2] at H2
      clear e1 e2 ha he hok hz hlen hmm
      go_enter Try.func37, Try.ntmps37
      go_wp2_with fail
      refine (H1.out _).mono ?_
      rintro e w' ⟨rfl, rfl⟩
      go_wp2_with fail
      refine (H2.out _ rfl).mono ?_
      rintro e w' ⟨rfl, rfl⟩
      go_wp2_with fail
      refine H3.out.mono ?_
      rintro e w' ⟨A', c', rfl, hN, hB⟩
      have HN := Lib.hid hN
      have HB := Lib.hid hB
      clear hN hB
      go_wp2_with fail
      go_ret
      rw [hv.out, ordTo_length]
      exact ⟨A', c', rfl, HN.out, HB.out⟩

end Go.Proofs.Ytblaaeanbhgokaa
