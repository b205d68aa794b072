/-
  NetS. By a program (wip/tools/mk.py) out of snippets.
-/
import Derived.Test.YtblaaeanbhgokaaRingDef
import Derived.Test.YtblaaeanbhgokaaFn2
namespace Go.Proofs.Ytblaaeanbhgokaa
open Go.RowKit

/-- Rows of ports that are those of a valid net. -/
structure RN (m : Nat) (rows : List (List Int)) : Prop where
  len : rows.length = m
  m1 : 1 ≤ m
  m6 : m ≤ 6
  e : ∀ v, v < m → ∀ p, p < (rat rows v).length → ∃ u, u < m ∧ iat (rat rows v) p = (u : Int) ∧ u ≠ v ∧ (v : Int) ∈ rat rows u
  d : ∀ v, v < m → ∀ q p, q < p → p < (rat rows v).length → iat (rat rows v) q ≠ iat (rat rows v) p
  l : ∀ v, v < m → (rat rows v).length ≤ 6
  f : ∀ v, v < m → 0 ≤ iat (farR rows m 0) v
theorem ring_rn {m : Nat} (h3 : 3 ≤ m) (h6 : m ≤ 6) : RN m (ringR m) := by
  have hp : ∀ v, v < m → (v + m - 1) % m < m ∧ (v + 1) % m < m := fun v _ => ⟨Nat.mod_lt _ (by omega), Nat.mod_lt _ (by omega)⟩
  refine ⟨ringR_length m, by omega, h6, fun v hv p hpl => ?_, fun v hv q p hqp hpl => ?_, fun v hv => by rw [ringR_at hv]; simp [ringRow], fun v hv => (ringFacts h3 h6 hv).2.2⟩
  · obtain ⟨⟨h1, h2, _⟩, ⟨h4, h5⟩, _⟩ := ringFacts h3 h6 hv
    rw [ringR_at hv] at hpl ⊢
    have hp2 : p = 0 ∨ p = 1 := by simp [ringRow] at hpl; omega
    rcases hp2 with rfl | rfl
    · exact ⟨_, (hp v hv).1, rfl, h1, by rw [ringR_at (hp v hv).1]; exact h4⟩
    · exact ⟨_, (hp v hv).2, rfl, h2, by rw [ringR_at (hp v hv).2]; exact h5⟩
  · obtain ⟨⟨_, _, h3'⟩, _⟩ := ringFacts h3 h6 hv
    rw [ringR_at hv] at hpl ⊢
    obtain ⟨rfl, rfl⟩ : q = 0 ∧ p = 1 := by simp [ringRow] at hpl; omega
    show (((v + m - 1) % m : Nat) : Int) ≠ (((v + 1) % m : Nat) : Int)
    omega

set_option maxHeartbeats 1600000 in
theorem backPort_any (m v p k cA cB : Nat) (A B : Option Addr) (rows : List (List Int)) (w : World) (hR : RN m rows) (hv : v < m) (hp : p < (rat rows v).length) (ha : SS w A m rows) :
    Calls Try.prog 91 #[.agg #[.slice A m cA, .slice B k cB], .int .i64 v, .int .i64 p] w fun e w' => ∃ z : Int, e = .returned (.int .i64 z) ∧ 0 ≤ z ∧ Below w.heap.size w w' := by
  obtain ⟨W, hW⟩ : ∃ W, W = w.alloc (.cells #[.slice A m cA, .slice B k cB] 37) := ⟨_, rfl⟩
  have hB : Below w.heap.size w W := by rw [hW]; exact (Below.refl _ _).alloc (Nat.le_refl _) _
  have q0 : W.cell? ⟨w.heap.size, 0, none⟩ = some (.slice A m cA) := by rw [hW]; simp
  have ha' := ha.below hB (Nat.le_refl _)
  obtain ⟨u, hu, hue, _, hmem⟩ := hR.e v hv p hp
  obtain ⟨b, off, A1, n1, c1, rfl, h1, s1⟩ := ha'.at_ hv
  obtain rfl : n1 = (rat rows v).length := s1.1.symm
  obtain ⟨b1, o1, rfl, hc1⟩ := s1.2 (by omega)
  have x1 := hc1 p hp
  rw [hue] at x1
  obtain ⟨b', off', A2, n2, c2, e2, h2, s2⟩ := ha'.at_ hu
  cases e2
  obtain rfl : n2 = (rat rows u).length := s2.1.symm
  have hpos : 0 < (rat rows u).length := List.length_pos_of_mem hmem
  obtain ⟨b2, o2, rfl, hc2⟩ := s2.2 hpos
  have HC2 := Lib.hid hc2
  have HMem := Lib.hid hmem
  have HB := Lib.hid hB
  have hl6 := hR.l v hv
  have hl6u := hR.l u hu
  have hm6 := hR.m6
  clear ha ha' hB hc1 hc2 s1 s2 hmem hR hue
  obtain ⟨L, hL⟩ : ∃ L, L = (rat rows u).length := ⟨_, rfl⟩
  obtain ⟨L1, hL1⟩ : ∃ L, L = (rat rows v).length := ⟨_, rfl⟩
  rw [← hL] at h2 hpos HC2 hl6u
  rw [← hL1] at h1 hp hl6
  have HLe := Lib.hid hL
  clear hL hL1
  subst hW
  go_enter Try.func91, Try.ntmps91
  go_wp2_with fail
  go_loopg [8] L (fun gg s8 wr => ∃ q : Nat, q ≤ L ∧ L - q ≤ gg ∧ s8 = .int .i64 q ∧ w.alloc (.cells #[.slice (some ⟨b, off, none⟩) m cA, .slice B k cB] 37) = wr ∧ Aside (∀ j, j < q → iat (rat rows u) j ≠ (v : Int)))
  case atStart => exact ⟨0, by omega, by omega, rfl, rfl, fun j h => absurd h (by omega)⟩
  case round =>
    obtain ⟨q, hq, hg, rfl, rfl, HX⟩ := hrel
    by_cases hlt : q < L
    · have x2 := HC2.out q hlt
      by_cases e : iat (rat rows u) q = (v : Int)
      · rw [e] at x2
        have ht : ((v : Int) == (v : Int)) = true := by simp
        clear e
        go_wp2_with fail
        go_ret
        exact ⟨q, rfl, by omega, HB.out⟩
      · have HE := Lib.hid e
        have ht : (iat (rat rows u) q == (v : Int)) = false := by simpa using e
        generalize iat (rat rows u) q = x at x2 ht
        clear e
        go_wp2_with fail
        go_roundg (L - (q + 1))
        case measure => omega
        case rel =>
          refine ⟨q + 1, by omega, by omega, by go_num, rfl, (show Aside _ from fun j hj => ?_)⟩
          by_cases e : j = q
          · subst e; exact HE.out
          · exact HX.out j (by omega)
    · exfalso
      obtain ⟨i, hi, he⟩ := List.mem_iff_getElem.1 HMem.out
      have hi' : i < q := by have := HLe.out; omega
      refine HX.out i hi' ?_
      simp [iat, List.getD_eq_getElem?_getD, hi, he]

/-- A row of the call's own that starts its block. -/
structure OW (W : World) (g m : Nat) (wr : World) (zs : List Int) : Prop where
  nw : NewI wr g (some ⟨g, 0, none⟩) m zs
  bl : Below g W wr
theorem OW.len {W wr : World} {g m : Nat} {zs : List Int} (h : OW W g m wr zs) : zs.length = m := h.nw.1
theorem OW.cell {W wr : World} {g m : Nat} {zs : List Int} (h : OW W g m wr zs) {i : Nat} (hi : i < m) : wr.cell? ⟨g, i, none⟩ = some (.int .i64 (iat zs i)) := by
  obtain ⟨b, o, e, _, _, hc, _⟩ := h.nw.2 (by omega)
  cases e
  have := hc i hi
  rwa [Nat.zero_add] at this
theorem OW.fz {W wr : World} {g m : Nat} {zs : List Int} (h : OW W g m wr zs) {i : Nat} (hi : i < m) : wr.frozen? ⟨g, i, none⟩ = false := by
  obtain ⟨b, o, e, _, _, _, hf⟩ := h.nw.2 (by omega)
  cases e
  have := hf i hi
  rwa [Nat.zero_add] at this
theorem OW.set {W wr : World} {g m : Nat} {zs : List Int} (h : OW W g m wr zs) {i : Nat} (hi : i < m) (x : Int) : OW W g m (wr.setCell ⟨g, i, none⟩ (.int .i64 x)) (zs.set i x) := by
  have := h.nw.set_ hi (x := x)
  rw [Nat.zero_add] at this
  exact ⟨this, h.bl.setCell (Nat.le_refl _) _⟩

set_option maxRecDepth 20000 in
set_option maxHeartbeats 6400000 in
theorem fars_any (m k cA cB : Nat) (A B : Option Addr) (rows : List (List Int)) (w : World) (hR : RN m rows) (ha : SS w A m rows) :
    Calls Try.prog 92 #[.agg #[.slice A m cA, .slice B k cB], .int .i64 0] w fun e w' => ∃ A' c', e = .returned (.slice A' m c') ∧ NewI w' w.heap.size A' m (farR rows m 0) ∧ Below w.heap.size w w' := by
  obtain ⟨i0, hi, hz0, hz1, hz2⟩ := info_parts info3
  obtain ⟨W, hW⟩ : ∃ W, W = w.alloc (.cells #[.slice A m cA, .slice B k cB] 37) := ⟨_, rfl⟩
  have hB : Below w.heap.size w W := by rw [hW]; exact (Below.refl _ _).alloc (Nat.le_refl _) _
  have q0 : W.cell? ⟨w.heap.size, 0, none⟩ = some (.slice A m cA) := by rw [hW]; simp
  have hlt : w.heap.size + 1 = W.heap.size := by rw [hW]; simp
  have ha' := ha.below hB (Nat.le_refl _)
  have hm1 := hR.m1
  have hm6 := hR.m6
  obtain ⟨b, off, _, _, _, rfl, _, _⟩ := ha'.at_ (i := 0) (by omega)
  have HA := Lib.hid ha'
  have HB := Lib.hid hB
  have Q0 := Lib.hid q0
  have HLt := Lib.hid hlt
  have HE := Lib.hid hR.e
  have HL6 := Lib.hid hR.l
  have HW := Lib.hid hW
  clear ha ha' hB hR hlt hW q0
  go_enter Try.func92, Try.ntmps92
  go_wp2_with (at_make; refine wpList_make_full _ rfl _ _ 22 rfl (w.heap.size + 1) 3 i0 (.int .i64 0) 1 Try.underlying22 hi hz0 hz1 _ _ _ _ m rfl rfl rfl rfl ?b1 ?b2 (by simp) ?_)
  case b1 => rw [hz2]; omega
  case b2 => unfold maxLen; omega
  intro w1 hown hgrow
  rw [← HW.out] at hgrow
  have hlt := HLt.out
  rw [madeInts] at hown
  have O1 : OW W (w.heap.size + 1) m w1 (List.replicate m 0) := ⟨NewI.of_own hown, (Below.refl _ _).grown hgrow (by omega) (fun k h => by cases h)⟩
  obtain ⟨g, hg⟩ : ∃ g, g = w.heap.size + 1 := ⟨_, rfl⟩
  rw [← hg] at O1
  have HO1 := Lib.hid O1
  have hgw : w.heap.size < g := by omega
  have hgW : W.heap.size ≤ g := by omega
  have HG := Lib.hid hg
  rw [← hg]
  clear hown hgrow O1 hlt hg HW
  go_wp2_with fail
  go_loopg [6] m (fun gg s6 wr => ∃ (j : Nat) (zs : List Int), j ≤ m ∧ m - j ≤ gg ∧ s6 = .int .i64 j ∧ OW W g m wr zs ∧ Aside (∀ i, i < j → iat zs i = -1))
  case atStart => exact ⟨0, _, by omega, by omega, rfl, HO1.out, fun i h => absurd h (by omega)⟩
  case round =>
    clear HO1
    obtain ⟨j, zs, hj, hgg, rfl, hO, HX⟩ := hrel
    by_cases hlt : j < m
    · have x := hO.cell hlt
      have f := hO.fz hlt
      have HO := Lib.hid (hO.set hlt (-1))
      have hl := hO.len
      have HX2 := Lib.hid (show ∀ i, i < j + 1 → iat (zs.set j (-1)) i = -1 from fun i hi => by
        by_cases e : i = j
        · subst e
          simp [iat, List.getD_eq_getElem?_getD, hl, hlt]
        · have := HX.out i (by omega)
          simp only [iat, List.getD_eq_getElem?_getD, List.getElem?_set] at this ⊢
          rw [if_neg (by omega)]
          exact this)
      clear hO hl
      go_wp2_with fail
      go_roundg (m - (j + 1))
      case measure => omega
      case rel => exact ⟨j + 1, _, by omega, by omega, by go_num, HO.out, HX2.out⟩
    · obtain rfl : m = j := by omega
      have hz : zs = List.replicate m (-1) := by
        refine List.ext_getElem (by rw [hO.len]; simp) fun i h1 h2 => ?_
        have := HX.out i (by rw [← hO.len]; exact h1)
        rw [iat, List.getD_eq_getElem?_getD, List.getElem?_eq_getElem h1] at this
        simpa using this
      subst hz
      have x := hO.cell (i := 0) (by omega)
      have f := hO.fz (i := 0) (by omega)
      have HO := Lib.hid (show OW W g m _ (far0 m 0) from hO.set (i := 0) (by omega) 0)
      clear hO HX
      go_wp2_with fail
      go_loopg [7] m (fun g2 s7 wr => ∃ d : Nat, d ≤ m ∧ m - d ≤ g2 ∧ s7 = .int .i64 d ∧ OW W g m wr (fAll rows m d (far0 m 0)))
      case atStart => exact ⟨0, by omega, by omega, rfl, HO.out⟩
      case round =>
        clear HO x f
        obtain ⟨d, hd, hg2, rfl, hO⟩ := hrel
        by_cases hld : d < m
        · have HO := Lib.hid hO
          have HY : Hid (Sm m (fAll rows m d (far0 m 0))) := Lib.hid (fAll_sm (far0_sm m 0) d (by omega))
          have HN := Lib.hid (show fAll rows m (d + 1) (far0 m 0) = fNode rows d m (fAll rows m d (far0 m 0)) from rfl)
          clear hO
          generalize fAll rows m d (far0 m 0) = Y at *
          go_wp2_with fail
          go_loopg [8] m (fun g3 s8 wr => ∃ v : Nat, v ≤ m ∧ m - v ≤ g3 ∧ s8 = .int .i64 v ∧ OW W g m wr (fNode rows d v Y))
          case atStart => exact ⟨0, by omega, by omega, rfl, HO.out⟩
          case round =>
            clear HO
            obtain ⟨v, hv, hg3, rfl, hO⟩ := hrel
            by_cases hlv : v < m
            · have HO := Lib.hid hO
              have HZ := Lib.hid (fNode_sm (rows := rows) (d := d) (by omega) HY.out v)
              have HV := Lib.hid (show fNode rows d (v + 1) Y = fPort rows d v (rat rows v).length (fNode rows d v Y) from rfl)
              have hl6 := HL6.out v hlv
              have HEv := Lib.hid (HE.out v hlv)
              clear hO
              generalize fNode rows d v Y = Z at *
              go_wp2_with fail
              go_loopg [9] (rat rows v).length (fun g4 s9 wr => ∃ p : Nat, p ≤ (rat rows v).length ∧ (rat rows v).length - p ≤ g4 ∧ s9 = .int .i64 p ∧ OW W g m wr (fPort rows d v p Z))
              case atStart => exact ⟨0, by omega, by omega, rfl, HO.out⟩
              case round =>
                clear HO
                obtain ⟨p, hp, hg4, rfl, hO⟩ := hrel
                have c0 := (hO.bl.cell (p := ⟨w.heap.size, 0, none⟩) hgw).trans Q0.out
                obtain ⟨b', off', A1, n1, c1, e1, h1, s1⟩ := (HA.out.below hO.bl hgW).at_ hlv
                cases e1
                have hn1 : n1 = (rat rows v).length := s1.1.symm
                have HSm := fPort_sm (rows := rows) (d := d) (v := v) (by omega) HZ.out p
                have HPS := Lib.hid (show fPort rows d v (p + 1) Z = fStep rows d v p (fPort rows d v p Z) from rfl)
                have HStop := Lib.hid (fun h => fPort_stop (rows := rows) (d := d) (v := v) (p := p) (out := Z) h (rat rows v).length hp)
                have xv := hO.cell hlv
                have HOO := Lib.hid hO
                by_cases hlp : p < (rat rows v).length
                · obtain ⟨b1, o1, rfl, hc1⟩ := s1.2 (by omega)
                  obtain ⟨u, hu, hue, _, _⟩ := HEv.out p hlp
                  have x1 := hc1 p (by omega)
                  rw [hue] at x1
                  have xu := hO.cell hu
                  have fu := hO.fz hu
                  have hub := (HSm.2 u)
                  have hvb := (HSm.2 v)
                  obtain ⟨zs, hzs⟩ : ∃ zs, zs = fPort rows d v p Z := ⟨_, rfl⟩
                  rw [← hzs] at HPS HStop xv HOO xu hub hvb
                  have HSet := Lib.hid (HOO.out.set hu ((d : Int) + 1))
                  rw [fStep, hue, Int.toNat_natCast] at HPS
                  clear hO hc1 s1 hzs hue HSm
                  subst hn1
                  generalize (rat rows v).length = L at *
                  by_cases ed : iat zs v = (d : Int)
                  · rw [if_pos ed] at HPS
                    rw [ed] at xv
                    have hde : ((d : Int) == (d : Int)) = true := by simp
                    clear ed HStop
                    by_cases eu : iat zs u < 0
                    · rw [if_pos eu] at HPS
                      generalize iat zs u = y at xu eu hub
                      go_wp2_with fail
                      go_roundg (L - (p + 1))
                      case measure => omega
                      case rel => exact ⟨p + 1, by omega, by omega, by go_num, by rw [HPS.out]; exact HSet.out⟩
                    · rw [if_neg eu] at HPS
                      generalize iat zs u = y at xu eu hub
                      go_wp2_with fail
                      go_roundg (L - (p + 1))
                      case measure => omega
                      case rel => exact ⟨p + 1, by omega, by omega, by go_num, by rw [HPS.out]; exact HOO.out⟩
                  · have HSt := Lib.hid (HStop.out ed)
                    have hde : (iat zs v == (d : Int)) = false := by simpa using ed
                    rw [HSt.out] at HV
                    generalize iat zs v = y at xv hde hvb
                    clear ed HStop
                    go_wp2_with fail
                    go_roundg (m - (v + 1))
                    case measure => omega
                    case rel => exact ⟨v + 1, by omega, by omega, by go_num, by rw [HV.out]; exact HOO.out⟩
                · obtain rfl : p = (rat rows v).length := by omega
                  subst hn1
                  rw [← HV.out] at HOO
                  clear hO s1 HSm HStop HPS xv
                  generalize (rat rows v).length = L at *
                  go_wp2_with fail
                  go_roundg (m - (v + 1))
                  case measure => omega
                  case rel => exact ⟨v + 1, by omega, by omega, by go_num, HOO.out⟩
            · obtain rfl : m = v := by omega
              have HO := Lib.hid hO
              rw [← HN.out] at HO
              clear hO
              go_wp2_with fail
              go_roundg (m - (d + 1))
              case measure => omega
              case rel => exact ⟨d + 1, by omega, by omega, by go_num, HO.out⟩
        · obtain rfl : m = d := by omega
          have HN := Lib.hid (hO.nw.mono (base' := w.heap.size) (by omega))
          have HBl := Lib.hid (HB.out.trans (hO.bl.mono (by omega)))
          clear hO
          go_wp2_with fail
          go_ret
          exact ⟨_, _, rfl, HN.out, HBl.out⟩

end Go.Proofs.Ytblaaeanbhgokaa
