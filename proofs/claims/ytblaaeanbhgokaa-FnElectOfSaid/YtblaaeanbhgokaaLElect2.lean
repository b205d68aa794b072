/-
  LElect2. By a program (wip/tools/mk.py) out of snippets.
-/
import Derived.Test.YtblaaeanbhgokaaElect
import Derived.Test.YtblaaeanbhgokaaDNet
import Derived.Test.YtblaaeanbhgokaaFnBase
import Derived.Test.YtblaaeanbhgokaaElMath
import Derived.Test.YtblaaeanbhgokaaStep
namespace Go.Proofs.Ytblaaeanbhgokaa
open Go.RowKit

theorem SI_tail {w : World} {b off n : Nat} {zs : List Int} (h : SI w (some ⟨b, off, none⟩) n zs) (hn : 1 ≤ n) : SI w (some ⟨b, off + 1, none⟩) (n - 1) (zs.drop 1) := by
  refine ⟨by rw [List.length_drop, h.len], fun _ => ⟨b, off + 1, rfl, fun i hi => ?_⟩⟩
  obtain ⟨b', off', e, hc⟩ := h.2 (by omega)
  cases e
  rw [show off + 1 + i = off + (i + 1) by omega, hc (i + 1) (by omega)]
  simp [iat, Nat.add_comm 1 i]

set_option maxRecDepth 20000 in
set_option maxHeartbeats 6400000 in
theorem lawElectOf (A : Option Addr) (n c : Nat) (bs : List Int) (w : World) (hb : bs.length = n ∧ (0 < n → ∃ b off, A = some ⟨b, off, none⟩ ∧ ∀ i, i < n → w.cell? ⟨b, off + i, none⟩ = some (.int .u8 (iat bs i)))) (hwf : ∀ z ∈ bs, (Lit.int .u8 z).wf = true) (hcap : n ≤ c) :
    Calls Try.prog 5 #[.slice A n c] w fun e w' => e = .returned (.bool true) ∧ Below w.heap.size w w' := by
  by_cases hbig : 1048576 < n
  · clear hb
    go_enter Try.func5, Try.ntmps5
    go_wp2_with fail
    go_ret
    exact ⟨rfl, Below.refl _ _⟩
  · have H := Lib.hid (drawElectOf_any A n c bs w hcap (by omega) (SB.of hb hwf))
    clear hb hwf
    go_enter Try.func5, Try.ntmps5
    go_wp2_with fail
    refine H.out.mono ?_
    rintro e w1 ⟨A1, n1, c1, zs, rfl, hsi, h1, h2, B1⟩
    have hn1 : n1 ≤ 2000000 := by omega
    have C1 := Lib.hid (fun w h => specElectOf_any A1 n1 c1 zs w hn1 h)
    have C2 := Lib.hid (fun w h => implElectOf_any A1 n1 c1 zs w hn1 h2 h)
    have hlen := Lib.hid hsi.len
    have HF := Lib.hid (fun h => elect_fine (zs := zs) h)
    have HV := Lib.hid (fun h => (vmarks_iff (zs := zs)).1 h)
    cases hv : vmarks zs with
    | false =>
      have E1 := show electAt zs = -1 by simp [electAt, hv]
      have E2 := show electN zs = -1 by simp [electN, hv]
      rw [E1, E2] at C1 C2
      clear hv HF E1 E2
      go_wp2_with fail
      refine (C2.out _ hsi).mono ?_
      rintro e w2 ⟨rfl, rfl⟩
      go_wp2_with fail
      refine (C1.out _ hsi).mono ?_
      rintro e w3 ⟨rfl, q3, rfl⟩
      go_wp2_with fail
      go_ret
      exact ⟨rfl, bDrewN B1 _⟩
    | true =>
      obtain ⟨E1, E2, E3, f1, f2, f3, f4⟩ := HF.out hv
      have hn0 := (HV.out hv).1.1
      have H3 := Lib.hid (fun A' c' w h hc => implElectOf_any A' n1 c' (rot zs) w hn1 hc h)
      rw [E1, E2] at C1 C2
      rw [E3] at H3
      have HRL := Lib.hid (rot_length (zs := zs) (by omega))
      rw [hlen.out] at f1 f2 f3 f4 hn0
      clear hv HF E1 E2 E3 HV
      generalize electAt (rot zs) = at2 at *
      have hm : amax zs zs.length < n1 := by have := f3; rw [hlen.out]; exact this
      rw [hlen.out] at C1 C2 H3
      have F4 := Lib.hid f4; clear f4
      generalize hops zs n1 = hp at *
      generalize amax zs n1 = mx at *
      have g1 : decide ((hp : Int) < 2 * (n1 : Int) - 1) = false := by simp; omega
      obtain ⟨q, hq⟩ : ∃ q, q = n1 * (n1 + 1) := ⟨_, rfl⟩
      have hq2 : q ≤ 42 := by
        rw [hq]; exact Nat.mul_le_mul (show n1 ≤ 6 by omega) (show n1 + 1 ≤ 7 by omega)
      rw [← hq] at f2
      have hq3 : (n1 : Int) * ((n1 : Int) + 1) = (q : Int) := by rw [hq]; push_cast; rfl
      have g2 : decide ((q : Int) < 2 * (hp : Int)) = false := by simp; omega
      clear hq
      have d0 : decide ((mx : Int) < 0) = false := by simp
      go_wp2_with fail
      refine (C2.out _ hsi).mono ?_
      rintro e w2 ⟨rfl, rfl⟩
      go_wp2_with fail
      refine (C1.out _ hsi).mono ?_
      rintro e w3 ⟨rfl, q3, rfl⟩
      obtain ⟨b, off, rfl, hc⟩ := hsi.2 (by omega)
      have HC := Lib.hid hc; clear hc
      have HS := Lib.hid hsi; clear hsi
      have hcm := HC.out mx f3
      go_wp2_with fail
      go_loopg [9] n1 (fun gg iv wr => ∃ i m : Nat, i ≤ n1 ∧ n1 - i ≤ gg ∧ iv = .int .i64 i ∧ wr = w1.drewN m)
      case atStart => exact ⟨0, q3, by omega, by omega, rfl, rfl⟩
      case round =>
        obtain ⟨i, m, hi, hg, rfl, rfl⟩ := hrel
        by_cases hlt : i < n1
        · have hci := HC.out i hlt
          have hle := F4.out i hlt
          generalize iat zs i = x at *
          generalize iat zs mx = y at *
          have dd : decide (y < x) = false := by simp; omega
          go_wp2_with fail
          go_quiet (fail)
          go_wp2_with fail
          go_roundg (n1 - (i + 1))
          case measure => omega
          case rel => exact ⟨i + 1, _, by omega, by omega, by go_num, by first | rfl | exact World.drewN_drewN _ _ _⟩
        · obtain rfl : i = n1 := by omega
          have hc0 := HC.out 0 (by omega)
          rw [Nat.add_zero] at hc0
          have HZ := Lib.hid (show zs.drop 1 ++ [iat zs 0] = rot zs from rfl)
          generalize iat zs 0 = z0 at *
          obtain ⟨wx, hwx⟩ : ∃ wx, wx = w1.drewN m := ⟨_, rfl⟩
          have hcx : wx.cell? ⟨b, off, none⟩ = some (.int .i64 z0) := by rw [hwx]; exact hc0
          have HSx : Hid (SI wx (some ⟨b, off, none⟩) i zs) := Lib.hid (by rw [hwx]; exact HS.out)
          have HB : Hid (Below w.heap.size w wx) := Lib.hid (by rw [hwx]; exact bDrewN B1 m)
          have hbl : b < wx.heap.size := World.block_lt_of_cell? wx _ hcx
          rw [← hwx]
          clear hwx HS HC hcm hc0 B1 C1 C2
          have hl1 : (1 : Int) ≤ (i : Int) := by omega
          have hl2 : (i : Int) ≤ (c1 : Int) := by omega
          have hl0 : (0 : Int) < (i : Int) := by omega
          have hl3 : 0 < i := by omega
          obtain ⟨ad, hadv, HT⟩ : ∃ ad, ((c1 = 1 ∧ ad = off) ∨ (¬ c1 = 1 ∧ ad = off + 1)) ∧ Hid (SI wx (some ⟨b, ad, none⟩) (i - 1) (zs.drop 1)) := by
            by_cases hc1 : c1 = 1
            · refine ⟨off, .inl ⟨hc1, rfl⟩, Lib.hid ⟨?_, fun h => absurd h (by omega)⟩⟩
              rw [List.length_drop, hlen.out]
            · exact ⟨off + 1, .inr ⟨hc1, rfl⟩, Lib.hid (SI_tail HSx.out (by omega))⟩
          have HAD := Lib.hid hadv
          clear hadv
          have hos := own_empty wx wx.heap.size (Nat.le_refl _)
          have ez : (wx.alloc (.cells #[.int .i64 z0] 3)).heap.size = wx.heap.size + 1 := by simp
          have ee : (wx.alloc (.cells #[] 3)).heap.size = wx.heap.size + 1 := by simp
          have hbA : Below wx.heap.size wx (wx.alloc (.cells #[] 3)) := (Below.refl _ _).alloc (Nat.le_refl _) _
          have hbZ : Below wx.heap.size wx (wx.alloc (.cells #[.int .i64 z0] 3)) := (Below.refl _ _).alloc (Nat.le_refl _) _
          have hbB : Below wx.heap.size wx ((wx.alloc (.cells #[] 3)).alloc (.cells #[.int .i64 z0] 3)) := hbA.alloc (by omega) _
          have hbC : Below wx.heap.size wx ((wx.alloc (.cells #[.int .i64 z0] 3)).alloc (.cells #[] 3)) := hbZ.alloc (by omega) _
          have hoC := own_empty (wx.alloc (.cells #[.int .i64 z0] 3)) wx.heap.size (by omega)
          rw [ez] at hoC
          have hlB := SI_lit (wx.alloc (.cells #[] 3)) 3 [z0]
          rw [ee] at hlB
          have HlB := Lib.hid hlB
          have HlC := Lib.hid (SI.alloc (SI_lit wx 3 [z0]) (.cells #[] 3))
          have HLA := Lib.hid (fun (w : World) => SI_lit w 3 [z0])
          have HoA : Hid ((wx.alloc (.cells #[] 3)).drew.ownsRow wx.heap.size 3 1 (.slice (some ⟨wx.heap.size, 0, none⟩) 0 0) 0 (([] : List Int).map (Value.int .i64))) := Lib.hid hos
          have HTA : Hid (SI (wx.alloc (.cells #[] 3)).drew (some ⟨b, ad, none⟩) (i - 1) (zs.drop 1)) := Lib.hid (HT.out.alloc _)
          have HoB : Hid (((wx.alloc (.cells #[] 3)).alloc (.cells #[.int .i64 z0] 3)).drew.ownsRow wx.heap.size 3 1 (.slice (some ⟨wx.heap.size, 0, none⟩) 0 0) 0 (([] : List Int).map (Value.int .i64))) := Lib.hid (hos.alloc _)
          have HTB : Hid (SI ((wx.alloc (.cells #[] 3)).alloc (.cells #[.int .i64 z0] 3)).drew (some ⟨b, ad, none⟩) (i - 1) (zs.drop 1)) := Lib.hid ((HT.out.alloc _).alloc _)
          have HoC : Hid (((wx.alloc (.cells #[.int .i64 z0] 3)).alloc (.cells #[] 3)).drew.ownsRow wx.heap.size 3 1 (.slice (some ⟨wx.heap.size + 1, 0, none⟩) 0 0) 0 (([] : List Int).map (Value.int .i64))) := Lib.hid hoC
          have HTC : Hid (SI ((wx.alloc (.cells #[.int .i64 z0] 3)).alloc (.cells #[] 3)).drew (some ⟨b, ad, none⟩) (i - 1) (zs.drop 1)) := Lib.hid ((HT.out.alloc _).alloc _)
          have HbA : Hid (Below wx.heap.size wx (wx.alloc (.cells #[] 3)).drew) := Lib.hid (bDrewN hbA 1)
          have HbB : Hid (Below wx.heap.size wx ((wx.alloc (.cells #[] 3)).alloc (.cells #[.int .i64 z0] 3)).drew) := Lib.hid (bDrewN hbB 1)
          have HbC : Hid (Below wx.heap.size wx ((wx.alloc (.cells #[.int .i64 z0] 3)).alloc (.cells #[] 3)).drew) := Lib.hid (bDrewN hbC 1)
          have SA : Hid (wx.heap.size ≤ (wx.alloc (.cells #[] 3)).drew.heap.size) := Lib.hid hbA.size
          have SB : Hid (wx.heap.size ≤ ((wx.alloc (.cells #[] 3)).alloc (.cells #[.int .i64 z0] 3)).drew.heap.size) := Lib.hid hbB.size
          have SC : Hid (wx.heap.size ≤ ((wx.alloc (.cells #[.int .i64 z0] 3)).alloc (.cells #[] 3)).drew.heap.size) := Lib.hid hbC.size
          have HM1 := Lib.hid (show i - 1 + 1 = i by omega)
          have HM2 := Lib.hid (show i - 1 ≤ 100000000 by omega)
          have HM3 := Lib.hid (show i ≤ 100000000 by omega)
          have HR : Hid (zs.drop 1 ++ [z0] = rot zs) := Lib.hid HZ.out
          clear hos ez ee hbA hbZ hbB hbC hoC hlB HSx HZ HT
          go_wp2_with fail
          go_region_held3 (fun w' => w'.cell? ⟨b, off, none⟩ = some (.int .i64 z0)) (go_keep) (first
            | (refine stepAll (wx.alloc (.cells #[] 3)).drew wx.heap.size (some ⟨wx.heap.size, 0, none⟩) 0 0 [] (some ⟨b, ad, none⟩) (i - 1) (c1 - 1) (zs.drop 1) (i - 1) (zs.drop 1) ?_ (.tmp 64) (.tmp 66) ?_ ?_ HoA.out ?_ HTA.out (Nat.zero_add _) (List.nil_append _) HM2.out SA.out ?_
               rfl
               rfl
               rfl
               (rcases HAD.out with ⟨h1, h2⟩ | ⟨h1, h2⟩ <;> simp [Act.eval, h1, h2])
               intro A2 c2 w67 ho67 hb67 hg67
               have hb67' := Lib.hid (HbA.out.trans hb67)
               have hz67 := ((hb67'.out).cell (p := ⟨b, off, none⟩) hbl).trans hcx
               clear hb67 hg67)
            | (refine stepAll (w67.alloc (.cells #[.int .i64 z0] 3)) wx.heap.size A2 (i - 1) c2 (zs.drop 1) (some ⟨w67.heap.size, 0, none⟩) 1 1 [z0] i (rot zs) ?_ (.tmp 67) (.tmp 71) ?_ ?_ (ho67.alloc _) ?_ (HLA.out w67) HM1.out HR.out HM3.out (Nat.le_trans hb67'.out.size (Nat.le_of_lt (by simp))) ?_
               rfl
               rfl
               rfl
               rfl
               intro A3 c3 w72 ho72 hb72 hg72
               have hb72' := Lib.hid (((hb67'.out.alloc hb67'.out.size _).trans hb72))
               have hz72 := ((hb72'.out).cell (p := ⟨b, off, none⟩) hbl).trans hcx
               have hs72 := Lib.hid (NewI.of_own ho72).si
               have hc72 := Lib.hid (own_cap ho72)
               clear hb72 hg72 ho72)
            | (refine stepAll ((wx.alloc (.cells #[] 3)).alloc (.cells #[.int .i64 z0] 3)).drew wx.heap.size (some ⟨wx.heap.size, 0, none⟩) 0 0 [] (some ⟨b, ad, none⟩) (i - 1) (c1 - 1) (zs.drop 1) (i - 1) (zs.drop 1) ?_ (.tmp 64) (.tmp 66) ?_ ?_ HoB.out ?_ HTB.out (Nat.zero_add _) (List.nil_append _) HM2.out SB.out ?_
               rfl
               rfl
               rfl
               (rcases HAD.out with ⟨h1, h2⟩ | ⟨h1, h2⟩ <;> simp [Act.eval, h1, h2])
               intro A2 c2 w67 ho67 hb67 hg67
               have hb67' := Lib.hid (HbB.out.trans hb67)
               have hz67 := ((hb67'.out).cell (p := ⟨b, off, none⟩) hbl).trans hcx
               have hy67 := Lib.hid (SI.grown (SI.drew HlB.out) hg67 (fun b o e => by cases e; simp [Value.ownBlock]))
               clear hb67 hg67)
            | (refine stepAll ((wx.alloc (.cells #[.int .i64 z0] 3)).alloc (.cells #[] 3)).drew wx.heap.size (some ⟨wx.heap.size + 1, 0, none⟩) 0 0 [] (some ⟨b, ad, none⟩) (i - 1) (c1 - 1) (zs.drop 1) (i - 1) (zs.drop 1) ?_ (.tmp 64) (.tmp 66) ?_ ?_ HoC.out ?_ HTC.out (Nat.zero_add _) (List.nil_append _) HM2.out SC.out ?_
               rfl
               rfl
               rfl
               (rcases HAD.out with ⟨h1, h2⟩ | ⟨h1, h2⟩ <;> simp [Act.eval, h1, h2])
               intro A2 c2 w67 ho67 hb67 hg67
               have hb67' := Lib.hid (HbC.out.trans hb67)
               have hz67 := ((hb67'.out).cell (p := ⟨b, off, none⟩) hbl).trans hcx
               have hy67 := Lib.hid (SI.grown (SI.drew HlC.out) hg67 (fun b o e => by cases e; simp [Value.ownBlock]))
               clear hb67 hg67)
            | (refine stepAll w67 wx.heap.size A2 (i - 1) c2 (zs.drop 1) (some ⟨wx.heap.size + 1, 0, none⟩) 1 1 [z0] i (rot zs) ?_ (.tmp 67) (.tmp 71) ?_ ?_ ho67 ?_ hy67.out HM1.out HR.out HM3.out hb67'.out.size ?_
               rfl
               rfl
               rfl
               rfl
               intro A3 c3 w72 ho72 hb72 hg72
               have hb72' := Lib.hid ((hb67'.out.trans hb72))
               have hz72 := ((hb72'.out).cell (p := ⟨b, off, none⟩) hbl).trans hcx
               have hs72 := Lib.hid (NewI.of_own ho72).si
               have hc72 := Lib.hid (own_cap ho72)
               clear hb72 hg72 ho72)
            | (refine stepAll w67 wx.heap.size A2 (i - 1) c2 (zs.drop 1) (some ⟨wx.heap.size, 0, none⟩) 1 1 [z0] i (rot zs) ?_ (.tmp 67) (.tmp 71) ?_ ?_ ho67 ?_ hy67.out HM1.out HR.out HM3.out hb67'.out.size ?_
               rfl
               rfl
               rfl
               rfl
               intro A3 c3 w72 ho72 hb72 hg72
               have hb72' := Lib.hid ((hb67'.out.trans hb72))
               have hz72 := ((hb72'.out).cell (p := ⟨b, off, none⟩) hbl).trans hcx
               have hs72 := Lib.hid (NewI.of_own ho72).si
               have hc72 := Lib.hid (own_cap ho72)
               clear hb72 hg72 ho72)
            | (go_simp; go_at_call 16; refine (H3.out A3 c3 w72 hs72.out hc72.out).mono ?_; rintro e w73 ⟨rfl, rfl⟩; dsimp only)
            )
          all_goals go_wp2_with fail
          all_goals go_ret
          all_goals exact ⟨rfl, bstep HB.out hb72'.out⟩

end Go.Proofs.Ytblaaeanbhgokaa
