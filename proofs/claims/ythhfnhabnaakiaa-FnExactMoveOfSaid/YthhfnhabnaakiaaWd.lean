/-
  Wd. By a program (wip/tools/mk.py) out of snippets.
-/
import Derived.Test.YthhfnhabnaakiaaLib
import Derived.Test.YthhfnhabnaakiaaProg
namespace Go.Proofs.Ythhfnhabnaakiaa
open Go.RowKit



theorem bDrewN {B : Nat} {a w : World} (h : Below B a w) (n : Nat) : Below B a (w.drewN n) := h.trans ⟨rfl, rfl, rfl, Nat.le_refl _, fun _ _ => rfl⟩
/-- A call that only reads: it may draw. -/
def Qt (w : World) (v : Value) (e : Ending) (w' : World) : Prop := e = .returned v ∧ ∃ m, w' = w.drewN m
theorem Qt.same (w : World) (v : Value) : Qt w v (.returned v) w := ⟨rfl, 0, rfl⟩
theorem Qt.mk' {w : World} {v : Value} (m : Nat) : Qt w v (.returned v) (w.drewN m) := ⟨rfl, m, rfl⟩

/-- The first k numbers of zs, then zeros up to n. -/
def upto (zs : List Int) (k n : Nat) : List Int := zs.take k ++ List.replicate (n - k) 0
theorem upto_zero (zs : List Int) (n : Nat) : upto zs 0 n = List.replicate n 0 := by simp [upto]
theorem upto_full {zs : List Int} {n : Nat} (h : zs.length = n) : upto zs n n = zs := by simp [upto, ← h]
theorem upto_length {zs : List Int} {k n : Nat} (h : zs.length = n) (hk : k ≤ n) : (upto zs k n).length = n := by simp [upto]; omega
theorem upto_set {zs : List Int} {k n : Nat} (h : zs.length = n) (hk : k < n) : (upto zs k n).set k (iat zs k) = upto zs (k + 1) n := by
  have hl : k < zs.length := by omega
  apply List.ext_getElem?
  intro j
  simp only [upto, iat, List.getElem?_set, List.getElem?_append, List.length_append, List.length_take, List.length_replicate, List.getElem?_take, List.getElem?_replicate]
  rcases Nat.lt_trichotomy j k with h1 | h1 | h1
  · have e1 : j < min k zs.length := by omega
    have e2 : j < min (k + 1) zs.length := by omega
    rw [if_neg (by omega), if_pos e1, if_pos e2, if_pos h1, if_pos (by omega)]
  · subst h1
    have e2 : j < min (j + 1) zs.length := by omega
    rw [if_pos rfl, if_pos (by omega), if_pos e2, if_pos (by omega)]
    simp [hl]
  · have e1 : ¬ j < min k zs.length := by omega
    have e2 : ¬ j < min (k + 1) zs.length := by omega
    rw [if_neg (by omega), if_neg e1, if_neg e2]
    by_cases hj : j < n
    · rw [if_pos (by omega), if_pos (by omega)]
    · rw [if_neg (by omega), if_neg (by omega)]
theorem map_set_int (zs : List Int) (k : Nat) (x : Int) : (zs.map (Value.int .i64)).set k (.int .i64 x) = (zs.set k x).map (Value.int .i64) := by
  rw [List.map_set]

theorem own_stored {w : World} {base e g n cap : Nat} {zs : List Int} (h : w.ownsRow base e 1 (.slice (some ⟨g, 0, none⟩) n cap) n (zs.map (Value.int .i64))) (j : Nat) (x : Int) :
    (w.setCell ⟨g, j, none⟩ (.int .i64 x)).ownsRow base e 1 (.slice (some ⟨g, 0, none⟩) n cap) n ((zs.set j x).map (Value.int .i64)) ∧ w.grownBy (w.setCell ⟨g, j, none⟩ (.int .i64 x)) (some g) := by
  have := World.ownsRow.stored h j (.int .i64 x)
  rwa [map_set_int] at this
theorem own_cell {w : World} {base e g n cap : Nat} {zs : List Int} (h : w.ownsRow base e 1 (.slice (some ⟨g, 0, none⟩) n cap) n (zs.map (Value.int .i64))) {j : Nat} (hj : j < n) :
    w.cell? ⟨g, j, none⟩ = some (.int .i64 (iat zs j)) := by
  have hl : j < zs.length := by have := h.1; simp at this; omega
  rw [World.ownsRow.cellAt h j (by omega)]
  simp [iat, hl]
theorem madeInts (n : Nat) : (madeCells #[Value.int .i64 0] n).toList = (List.replicate n (0 : Int)).map (Value.int .i64) := by
  simp [toList_madeCells_one]

/-- Is n between lo and hi? -/
def inR (n lo hi : Int) : Bool := decide (lo ≤ n) && decide (n ≤ hi)
theorem inR_true {n lo hi : Int} (h : lo ≤ n ∧ n ≤ hi) : inR n lo hi = true := by simp [inR, h.1, h.2]
theorem inR_false {n lo hi : Int} (h : ¬ (lo ≤ n ∧ n ≤ hi)) : inR n lo hi = false := by simp [inR]; omega
theorem inR_iff {n lo hi : Int} : inR n lo hi = true ↔ lo ≤ n ∧ n ≤ hi := by simp [inR]
theorem inR_iff' {n lo hi : Int} : inR n lo hi = false ↔ ¬ (lo ≤ n ∧ n ≤ hi) := by simp [inR]

/-- The first place at which p holds, -1 if there is none. -/
def fidx (p : Int → Bool) (zs : List Int) : Int := if zs.any p then (zs.findIdx p : Int) else -1
theorem fidx_hit {p : Int → Bool} {zs : List Int} {k : Nat} (hk : k < zs.length) (hp : p (iat zs k) = true) (h : ∀ j, j < k → p (iat zs j) = false) : fidx p zs = (k : Int) := by
  rw [iat_eq hk] at hp
  have h1 : zs.any p = true := List.any_eq_true.2 ⟨zs[k], List.getElem_mem hk, hp⟩
  have h2 : zs.findIdx p = k := by
    rw [List.findIdx_eq hk]
    exact ⟨hp, fun j hj => by have := h j hj; rw [iat_eq (by omega)] at this; simpa using this⟩
  simp [fidx, h1, h2]
theorem fidx_miss {p : Int → Bool} {zs : List Int} (h : ∀ j, j < zs.length → p (iat zs j) = false) : fidx p zs = -1 := by
  have h1 : zs.any p = false := by
    rw [List.any_eq_false]
    intro x hx
    obtain ⟨j, hj, rfl⟩ := List.mem_iff_getElem.1 hx
    have := h j hj
    rw [iat_eq hj] at this
    simp [this]
  simp [fidx, h1]
theorem fidx_bd {p : Int → Bool} {zs : List Int} : -1 ≤ fidx p zs ∧ fidx p zs ≤ zs.length := by
  unfold fidx
  split
  · have := List.findIdx_le_length (xs := zs) (p := p); omega
  · omega
theorem fidx_any (p : Int → Bool) (zs : List Int) : decide (0 ≤ fidx p zs) = zs.any p := by
  unfold fidx
  by_cases h : zs.any p = true
  · rw [if_pos h, h]; simp
  · rw [if_neg h]; simp at h; simp; exact h

/-- The block that a slice of n elements lies in, none if it has no element. -/
def wBlock (A : Option Addr) (n : Nat) : Option Nat := if n = 0 then none else A.map (·.block)
theorem wBlock_zero (A : Option Addr) : wBlock A 0 = none := rfl
theorem wBlock_some {n : Nat} (b o : Nat) (h : 0 < n) : wBlock (some ⟨b, o, none⟩) n = some b := by simp [wBlock]; omega
/-- A slice of numbers that the call made: it reads as zs, lies in a block from lo on and below hi, and may be written. -/
def Z (w : World) (lo hi : Nat) (A : Option Addr) (n : Nat) (zs : List Int) : Prop :=
  zs.length = n ∧ hi ≤ w.heap.size ∧ (0 < n → ∃ b off, A = some ⟨b, off, none⟩ ∧ lo ≤ b ∧ b < hi ∧
    (∀ i, i < n → w.cell? ⟨b, off + i, none⟩ = some (.int .i64 (iat zs i))) ∧ ∀ i, i < n → w.frozen? ⟨b, off + i, none⟩ = false)
theorem NewI.z {w base A n zs} (h : NewI w base A n zs) : Z w base w.heap.size A n zs :=
  ⟨h.1, Nat.le_refl _, fun hn => by obtain ⟨b, off, e, h1, h2, hc, hf⟩ := h.2 hn; exact ⟨b, off, e, h1, h2, hc, hf⟩⟩
theorem Z.si {w lo hi A n zs} (h : Z w lo hi A n zs) : SI w A n zs :=
  ⟨h.1, fun hn => by obtain ⟨b, off, e, _, _, hc, _⟩ := h.2.2 hn; exact ⟨b, off, e, hc⟩⟩
theorem Z.new {w lo hi A n zs} (h : Z w lo hi A n zs) : NewI w lo A n zs :=
  ⟨h.1, fun hn => by obtain ⟨b, off, e, h1, h2, hc, hf⟩ := h.2.2 hn; exact ⟨b, off, e, h1, by have := h.2.1; omega, hc, hf⟩⟩
theorem Z.below {w w' : World} {lo hi A n zs} (h : Z w lo hi A n zs) {B : Nat} (hb : Below B w w') (hB : hi ≤ B) : Z w' lo hi A n zs :=
  ⟨h.1, by have := h.2.1; have := hb.size; omega, fun hn => by
    obtain ⟨b, off, e, h1, h2, hc, hf⟩ := h.2.2 hn
    exact ⟨b, off, e, h1, h2, fun i hi => (hb.cell (p := ⟨b, off + i, none⟩) (by show b < B; omega)).trans (hc i hi),
      fun i hi => (hb.frozen (p := ⟨b, off + i, none⟩) (by show b < B; omega)).trans (hf i hi)⟩⟩
theorem Z.later {w w' : World} {lo hi A n zs} (h : Z w lo hi A n zs) (hb : Below w.heap.size w w') : Z w' lo hi A n zs := h.below hb h.2.1
theorem Z.drewN {w : World} {lo hi A n zs} (h : Z w lo hi A n zs) (m : Nat) : Z (w.drewN m) lo hi A n zs := h
theorem Z.row {w : World} {lo hi A n zs} (h : Z w lo hi A n zs) : ∀ k, wBlock A n = some k → lo ≤ k ∧ k < hi := by
  intro k hk
  by_cases h0 : n = 0
  · subst h0; cases hk
  · obtain ⟨b, off, rfl, h1, h2, _⟩ := h.2.2 (by omega)
    rw [wBlock_some b off (by omega)] at hk
    cases hk
    exact ⟨h1, h2⟩
/-- What stands elsewhere stays while a row is written. -/
theorem Z.grown {w w' : World} {lo hi A n zs lo' hi' A' n' zs'} (h : Z w lo hi A n zs) (hg : w.grownBy w' (wBlock A' n')) (h' : Z w lo' hi' A' n' zs') (hd : hi ≤ lo' ∨ hi' ≤ lo) : Z w' lo hi A n zs :=
  ⟨h.1, by have := h.2.1; have := hg.size; omega, fun hn => by
    obtain ⟨b, off, e, h1, h2, hc, hf⟩ := h.2.2 hn
    have hb := hg.block b (by have := h.2.1; omega) (fun e => by have := h'.row b e.symm; omega)
    exact ⟨b, off, e, h1, h2, fun i hi => (World.cell?_of_block (w := w) hb).trans (hc i hi),
      fun i hi => (World.frozen?_of_block (w := w) hb).trans (hf i hi)⟩⟩
/-- A row of the call's own was written: below it all is as it was. -/
theorem Z.wrote {w w' : World} {lo hi A n zs} (h : Z w lo hi A n zs) (hg : w.grownBy w' (wBlock A n)) {B : Nat} (hB : B ≤ lo) (hs : B ≤ w.heap.size) : Below B w w' :=
  (Below.refl B w).grown hg hs (fun k hk => by have := h.row k hk; omega)
theorem bstep {w w1 w2 : World} (h : Below w.heap.size w w1) (h2 : Below w1.heap.size w1 w2) : Below w.heap.size w w2 := h.trans (h2.mono h.size)

/-- A store into a new slice. -/
theorem NewI.set_ {w : World} {base b off n : Nat} {zs : List Int} (h : NewI w base (some ⟨b, off, none⟩) n zs) {j : Nat} (hj : j < n) {x : Int} :
    NewI (w.setCell ⟨b, off + j, none⟩ (.int .i64 x)) base (some ⟨b, off, none⟩) n (zs.set j x) := by
  refine ⟨by simpa using h.1, fun hn => ?_⟩
  obtain ⟨b', off', e, h1, h2, hc, hf⟩ := h.2 hn
  cases e
  refine ⟨b, off, rfl, h1, by simpa using h2, fun i hi => ?_, fun i hi => by rw [World.frozen?_setCell]; exact hf i hi⟩
  by_cases e : i = j
  · subst e
    rw [World.cell?_setCell_same _ _ _ (hc i hi)]
    simp [iat, h.1, hi]
  · rw [World.cell?_setCell_other _ _ _ _ (fun e' => e (by injection e'; omega)), hc i hi]
    simp [iat, List.getElem?_set, Ne.symm e]
theorem NewI.set0 {w : World} {base b off n : Nat} {zs : List Int} (h : NewI w base (some ⟨b, off, none⟩) n zs) (hj : 0 < n) {x : Int} :
    NewI (w.setCell ⟨b, off, none⟩ (.int .i64 x)) base (some ⟨b, off, none⟩) n (zs.set 0 x) := h.set_ (j := 0) hj

theorem info3 : (Try.prog.info? 3).map (fun i => (i.zero, i.size, i.bytes)) = some (some (.int .i64 0), 1, 8) := by kernel_rfl

/-- 'append(out, x)' of one number onto a row of the call's own. -/
theorem app1 {ops : Array Oper} {rest : List Oper} {o : Oper} {a : Act} {Q : Exit → Act → World → Prop} (w : World) (base : Nat) (A : Option Addr) (n c : Nat) (xs : List Int) (x : Int) (hgd : o.guard = none) (s y : Operand)
    (ho : o.op = .call { callee := .builtin .append, args := #[s, y], argTypes := #[23, 23] }) (hs : a.eval s = .slice A n c) (hown : w.ownsRow base 3 1 (.slice A n c) n (xs.map (Value.int .i64)))
    (hy : a.eval y = .slice (some ⟨w.heap.size, 0, none⟩) 1 1) (hn : n ≤ 100000000) (hbase : base ≤ w.heap.size)
    (h : ∀ A' c' w', w'.ownsRow base 3 1 (.slice A' (n + 1) c') (n + 1) ((xs ++ [x]).map (Value.int .i64)) → Below base w w' → (w.alloc (.cells #[.int .i64 x] 3)).grownBy w' (Value.slice A n c).ownBlock → (A'.isSome = true) → wpList Try.prog ops Q rest (a.put o.dst (.slice A' (n + 1) c')) w') :
    wpList Try.prog ops Q (o :: rest) a (w.alloc (.cells #[.int .i64 x] 3)) := by
  obtain ⟨i0, hi, hz0, hz1, hz2⟩ := info_parts info3
  refine wpList_append_own _ hgd s y 23 ho base 3 i0 (.int .i64 0) 1 8 Try.underlying23 hi hz0 hz1 hz2 rfl (by decide) _ n _ hs (hown.alloc _) ⟨w.heap.size, 0, none⟩ 1 1 [.int .i64 x] hy rfl (cell_one_new _ _ _) (by intro u hu; simp at hu; subst hu; rfl) (by unfold maxLen; omega) (by omega) (by simp; omega) ?_
  intro v' w' hown' hg _
  have hown'' : w'.ownsRow base 3 1 v' (n + 1) ((xs ++ [x]).map (Value.int .i64)) := by simpa using hown'
  rcases hown''.2 with ⟨_, h0⟩ | ⟨g, cap, cur, rfl, _⟩
  · omega
  · refine h _ _ _ hown'' ?_ hg rfl
    refine ((Below.refl base w).alloc hbase _).grown hg (by simp; omega) (fun k hk => ?_)
    exact (World.ownsRow.lt hown k hk).1

/-- '[]int{}' -/
theorem own_empty (w : World) (base : Nat) (hb : base ≤ w.heap.size) : (w.alloc (.cells #[] 3)).ownsRow base 3 1 (.slice (some ⟨w.heap.size, 0, none⟩) 0 0) 0 (([] : List Int).map (Value.int .i64)) := by
  have := World.ownsRow_made (base := base) (e := 3) (size := 1) w #[] 0 hb (by unfold maxLen; omega) rfl
  simpa using this

theorem run_app_nil {P : Program} (w : World) (base : Nat) (t ty e : TypeId) (i : TypeInfo) (size : Nat) (ht : P.underlying t = some (.slice e)) (hi : P.info? e = some i)
    (v : Value) (n : Nat) (xs : List Value) (hown : w.ownsRow base e size v n xs) (c : Nat) : (Builtin.append_ #[t, t] ty #[v, .slice none 0 c]).run P w = .ok v w := by
  rcases hown.2 with ⟨rfl, rfl⟩ | ⟨g, cap, cur, rfl, _, _, hnc, _⟩
  · simp [Builtin.append_, run_underlying ht, sizeOf, typeInfo, hi, Builtin.lenOf, Builtin.firstCells]
  · simp [Builtin.append_, run_underlying ht, sizeOf, typeInfo, hi, Builtin.lenOf, Builtin.firstCells, hnc, storeCells]
/-- 'append(out, xs...)', xs whatever slice of numbers. -/
theorem appAll {ops : Array Oper} {rest : List Oper} {o : Oper} {a : Act} {Q : Exit → Act → World → Prop} (w : World) (base : Nat) (A0 : Option Addr) (n0 c0 : Nat) (xs : List Int) (A : Option Addr) (n c : Nat) (zs : List Int) (hgd : o.guard = none) (s y : Operand)
    (ho : o.op = .call { callee := .builtin .append, args := #[s, y], argTypes := #[23, 23] }) (hs : a.eval s = .slice A0 n0 c0) (hown : w.ownsRow base 3 1 (.slice A0 n0 c0) n0 (xs.map (Value.int .i64)))
    (hy : a.eval y = .slice A n c) (hr : SI w A n zs) (hn : n0 + n ≤ 100000000) (hbase : base ≤ w.heap.size)
    (h : ∀ A' c' w', w'.ownsRow base 3 1 (.slice A' (n0 + n) c') (n0 + n) ((xs ++ zs).map (Value.int .i64)) → Below base w w' → w.grownBy w' (Value.slice A0 n0 c0).ownBlock → wpList Try.prog ops Q rest (a.put o.dst (.slice A' (n0 + n) c')) w') :
    wpList Try.prog ops Q (o :: rest) a w := by
  obtain ⟨i0, hi, hz0, hz1, hz2⟩ := info_parts info3
  have hb : ∀ w', w.grownBy w' (Value.slice A0 n0 c0).ownBlock → Below base w w' := fun w' hg => (Below.refl base w).grown hg hbase (fun k hk => (World.ownsRow.lt hown k hk).1)
  by_cases h0 : A = none ∧ n = 0
  · obtain ⟨rfl, rfl⟩ := h0
    have hz : zs = [] := List.eq_nil_of_length_eq_zero hr.1
    subst hz
    refine wpList_plain hgd fun K hK => ?_
    have hrun := run_app_nil (P := Try.prog) w base 23 o.type 3 i0 1 Try.underlying23 hi _ _ _ hown c
    unfold Oper.wp
    simp [execOp, ho, resolve, invoke, builtin, hs, hy, hrun, Result.andThen]
    exact hK _ _ (h A0 c0 w (by simpa using hown) (Below.refl _ _) (World.grownBy.refl _ _))
  · obtain ⟨ad, rfl, hc⟩ : ∃ ad, A = some ad ∧ ∀ j u, (zs.map (Value.int .i64))[j]? = some u → w.cell? (ad.add j) = some u := by
      by_cases hn0 : n = 0
      · subst hn0
        have hz : zs = [] := List.eq_nil_of_length_eq_zero hr.1
        cases A with
        | none => exact absurd ⟨rfl, rfl⟩ h0
        | some ad => exact ⟨ad, rfl, by subst hz; simp⟩
      · obtain ⟨b, off, rfl, hc⟩ := hr.2 (by omega)
        refine ⟨_, rfl, fun j u hu => ?_⟩
        have hj : j < zs.length := by have := (List.getElem?_eq_some_iff.1 hu).1; simpa using this
        rw [Addr.add_lit, hc j (by rw [← hr.1]; exact hj)]
        simp [hj] at hu
        rw [← hu]
        simp [iat, hj]
    refine wpList_append_own _ hgd s y 23 ho base 3 i0 (.int .i64 0) 1 8 Try.underlying23 hi hz0 hz1 hz2 rfl (by decide) _ n0 _ hs hown ad n c (zs.map (Value.int .i64)) hy (by simp [hr.1]) hc (ints_oneCell _ _) (by unfold maxLen; omega) (by omega) hbase ?_
    intro v' w' hown' hg hnil
    rw [← List.map_append] at hown'
    have hv : ∃ A' c', v' = .slice A' (n0 + n) c' := by
      rcases hown'.2 with ⟨rfl, h1⟩ | ⟨g, cap, cur, rfl, _⟩
      · exact ⟨none, 0, by rw [h1]⟩
      · exact ⟨_, _, rfl⟩
    obtain ⟨A', c', rfl⟩ := hv
    exact h _ _ _ hown' (hb _ hg) hg

theorem own_cap {w : World} {base n c : Nat} {A : Option Addr} {xs : List Value} {e size : Nat} (h : w.ownsRow base e size (.slice A n c) n xs) : n ≤ c := by
  rcases h.2 with ⟨h1, h2⟩ | ⟨g, cap, cur, h1, _, _, h3, _⟩
  · omega
  · injection h1 with _ _ h4; omega
theorem own_form {w : World} {base n c : Nat} {A : Option Addr} {xs : List Value} {e size : Nat} (h : w.ownsRow base e size (.slice A n c) n xs) (hn : 0 < n) : ∃ g, A = some ⟨g, 0, none⟩ ∧ base ≤ g ∧ g < w.heap.size := by
  rcases h.2 with ⟨h1, h2⟩ | ⟨g, cap, cur, h1, hb, hh, h3, _⟩
  · omega
  · injection h1 with h4; exact ⟨g, h4, hb, (Array.getElem?_eq_some_iff.1 hh).1⟩

end Go.Proofs.Ythhfnhabnaakiaa
