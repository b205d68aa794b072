/-
  Tour. By a program (wip/tools/mk.py) out of snippets.
-/
import Derived.Test.YthhfnhabnaakiaaTok3
import Derived.Test.YthhfnhabnaakiaaTourDef
namespace Go.Proofs.Ythhfnhabnaakiaa
open Go.RowKit

set_option maxHeartbeats 3200000 in
theorem specTourOf_any (k : Int) (A : Option Addr) (n c : Nat) (i : Int) (zs : List Int) (w : World) (hn : n ≤ 2000000) (ha : SI w A n zs) :
    Calls Try.prog 30 #[.int .i64 k, .slice A n c, .int .i64 i] w fun e w' => ∃ A1 c1 A2 c2, e = .returned (.tuple #[.slice A1 (tourL k zs i).length c1, .slice A2 (tourE k zs i).length c2]) ∧ NewI w' w.heap.size A1 (tourL k zs i).length (tourL k zs i) ∧ NewI w' w.heap.size A2 (tourE k zs i).length (tourE k zs i) ∧ Apart A1 A2 ∧ Below w.heap.size w w' := by
  have hlen := Lib.hid ha.len
  have H := Lib.hid (specvalidTokens_any k A n c zs w hn ha)
  have HR := Lib.hid (fun w => inRange_any i 0 40 w)
  have HU := Lib.hid (show ∀ b1 b2, vtok k zs = b1 → inR i 0 40 = b2 → (b1 && b2) = false → tourL k zs i = [] ∧ tourE k zs i = [] by
    rintro b1 b2 rfl rfl h; simp [tourL, tourE, tourOk, h])
  have HT := Lib.hid (show vtok k zs = true → inR i 0 40 = true → tourL k zs i = tourT k zs i.toNat ∧ tourE k zs i = tourN k zs i.toNat by
    intro h1 h2; simp [tourL, tourE, tourOk, h1, h2])
  cases hv : vtok k zs with
  | false =>
    have HU := Lib.hid (HU.out _ _ hv rfl rfl)
    rw [hv] at H
    clear hv ha HT
    go_enter Try.func30, Try.ntmps30
    go_wp2_with (go_at_call 40; refine H.out.mono ?_; rintro e w' ⟨rfl, rfl⟩)
    go_ret2
    rw [HU.out.1, HU.out.2]
    exact ⟨none, 0, none, 0, rfl, ⟨rfl, fun h => absurd h (by simp)⟩, ⟨rfl, fun h => absurd h (by simp)⟩, (fun _ _ _ _ h => by cases h), Below.refl _ _⟩
  | true =>
    cases hi : inR i 0 40 with
    | false =>
      have HU := Lib.hid (HU.out _ _ hv hi rfl)
      rw [hv] at H
      rw [hi] at HR
      clear hv ha HT hi
      go_enter Try.func30, Try.ntmps30
      go_wp2_with (first | (go_at_call 40; refine H.out.mono ?_; rintro e w' ⟨rfl, rfl⟩) | (go_at_call 48; refine (HR.out _).mono ?_; rintro e w' ⟨rfl, rfl⟩))
      go_ret2
      rw [HU.out.1, HU.out.2]
      exact ⟨none, 0, none, 0, rfl, ⟨rfl, fun h => absurd h (by simp)⟩, ⟨rfl, fun h => absurd h (by simp)⟩, (fun _ _ _ _ h => by cases h), Below.refl _ _⟩
    | true =>
      have HT := Lib.hid (HT.out hv hi)
      obtain ⟨hi0, hi1⟩ := inR_iff.1 hi
      obtain ⟨M, rfl⟩ : ∃ M : Nat, i = M := ⟨i.toNat, by omega⟩
      rw [Int.toNat_natCast] at HT
      have HN := Lib.hid (fun m => tourN_fine (k := k) hv m)
      have hvk := vtok_iff.1 hv
      rw [hlen.out] at hvk
      obtain ⟨⟨hk1, hk2⟩, ⟨hn2, hn5⟩, _⟩ := hvk
      rw [hv] at H
      rw [hi] at HR
      have hs0 := own_empty w w.heap.size (Nat.le_refl _)
      have b0 : Below w.heap.size w (w.alloc (.cells #[] 3)) := (Below.refl _ _).alloc (Nat.le_refl _) _
      have HOn := Lib.hid (own_empty (w.alloc (.cells #[] 3)) (w.alloc (.cells #[] 3)).heap.size (Nat.le_refl _))
      have HSn := Lib.hid ((ha.alloc (.cells #[] 3)).alloc (.cells #[] 3))
      have ez : (w.alloc (.cells #[] 3)).heap.size = w.heap.size + 1 := by simp
      rw [ez] at HOn
      have HO0 := Lib.hid (hs0.alloc (.cells #[] 3))
      have HB0 := Lib.hid (b0.alloc (by omega) (.cells #[] 3))
      clear hv ha HU hs0 b0 ez hi
      go_enter Try.func30, Try.ntmps30
      go_wp2_with (first | (go_at_call 40; refine H.out.mono ?_; rintro e w' ⟨rfl, rfl⟩) | (go_at_call 48; refine (HR.out _).mono ?_; rintro e w' ⟨rfl, rfl⟩) | (at_builtin; refine appAll _ (w.heap.size + 1) _ 0 0 [] _ n _ zs rfl _ _ rfl rfl HOn.out rfl HSn.out (by omega) (by simp) ?_; intro AN cN w1 hoN hbN hgN))
      simp only [Nat.zero_add, List.nil_append] at hoN
      have hN := NewI.of_own hoN
      obtain ⟨gN, rfl, hgN1, hgN2⟩ := own_form hoN (by omega)
      have hO1 : w1.ownsRow w.heap.size 3 1 (.slice (some ⟨w.heap.size, 0, none⟩) 0 0) 0 (([] : List Int).map (Value.int .i64)) := World.ownsRow.kept HO0.out hgN (.inr (by simp [Value.ownBlock]))
      have hB1 : Below w.heap.size w w1 := HB0.out.trans (hbN.mono (by omega))
      clear hoN hbN hgN HO0 HOn HSn HB0
      go_loopg [8, 9] M (fun gg ov nv wr => ∃ (m go co bn on cn : Nat), m ≤ M ∧ M - m ≤ gg ∧ ov = .slice (some ⟨go, 0, none⟩) m co ∧ nv = .slice (some ⟨bn, on, none⟩) n cn ∧ wr.ownsRow w.heap.size 3 1 (.slice (some ⟨go, 0, none⟩) m co) m ((tourT k zs m).map (Value.int .i64)) ∧ NewI wr w.heap.size (some ⟨bn, on, none⟩) n (tourN k zs m) ∧ bn ≠ go ∧ Below w.heap.size w wr)
      case atStart => exact ⟨0, w.heap.size, 0, gN, 0, cN, by omega, by omega, rfl, rfl, hO1, hN.mono (by omega), by omega, hB1⟩
      case round =>
        clear hO1 hN hB1 hgN1 hgN2
        obtain ⟨m, go, co, bn, on, cn, hm, hg, rfl, rfl, hO, hNw, hne, hbw⟩ := hrel
        have hgo := World.ownsRow.lt hO go rfl
        by_cases hlt : m < M
        · have hf := HN.out m
          obtain ⟨j, ej, hj, htk⟩ := tk_fine hf.1
          have hzz := (vtok_iff.1 hf.1).2.2
          have HZZ := Lib.hid hzz
          have htn := toks_ne hf.1
          rw [hf.2, hlen.out] at hj
          have ET := Lib.hid (tourT_succ k zs m)
          have EN := Lib.hid (show tourN k zs (m + 1) = mv k (tourN k zs m) j by rw [tourN, ej, Int.toNat_natCast])
          have EJ := Lib.hid ej
          have hbs := hbw.size
          have HO := Lib.hid hO
          have HNw := Lib.hid hNw
          clear hf hzz htk hO hNw ej
          generalize tourN k zs m = N at *
          generalize hT : tourT k zs m = T at *
          clear hT
          have htl : ((0 : Int) < ((toks N).length : Int)) := by omega
          go_wp2_with fail
          refine (spectokens_any _ n _ N _ hn HNw.out.si).mono ?_
          rintro e w2 ⟨AT, cT, rfl, hT, hbT⟩
          obtain ⟨bt, ot, rfl, hcT⟩ := hT.si.at_ htn
          rw [Nat.add_zero] at hcT
          rw [show iat (toks N) 0 = (j : Int) from EJ.out] at hcT
          have hN2 := HNw.out.below hbT (Nat.le_refl _)
          have hO2 := own_later HO.out hbT
          have hB2 := bstep hbw hbT
          have hs2 := hbT.size
          clear HO HNw hbw hbT hT
          go_wp2_with fail
          refine (specmove_any k _ n _ j N _ hn hj hk1 hk2 HZZ.out hN2.si).mono ?_
          rintro e w3 ⟨A3, c3, rfl, h3, hb3⟩
          have hO3 := own_later hO2 hb3
          have hB3 := bstep hB2 hb3
          have hs3 := hb3.size
          obtain ⟨b3, o3, rfl, hb31, hb32, _, _⟩ := h3.2 (by omega)
          clear hcT hN2 hO2 hB2 hb3
          go_wp2_with (at_builtin; refine appL w3 w.heap.size _ _ _ T j rfl _ _ rfl rfl hO3 rfl (by omega) (by omega) ?_; intro g2 c2 w4 ho4 hb4 hg4 hl4)
          have hN4 := (h3.alloc (.cells #[.int .i64 j] 3)).growR hg4 (fun b o e => by cases e; simp [Value.ownBlock]; omega)
          go_roundg (M - (m + 1))
          case measure => omega
          case rel => exact ⟨m + 1, g2, c2, b3, o3, c3, by omega, by omega, rfl, rfl, by rw [ET.out, EJ.out]; exact ho4, by rw [EN.out]; exact hN4.mono (by omega), by simp [Value.ownBlock] at hl4; omega, hB3.trans hb4⟩
        · obtain rfl : m = M := by omega
          have hL := Lib.hid (tourT_length k zs m)
          have hE := Lib.hid (show (tourN k zs m).length = n from hNw.1)
          have hnew := NewI.of_own hO
          go_wp2_with fail
          go_ret2
          rw [HT.out.1, HT.out.2, hL.out, hE.out]
          exact ⟨_, _, _, _, rfl, hnew, hNw, (fun _ _ _ _ e1 e2 => by cases e1; cases e2; exact fun h => hne h.symm), hbw⟩

end Go.Proofs.Ythhfnhabnaakiaa
