/-
  RLaw. By a program (wip/tools/mk.py) out of snippets.
-/
import Derived.Test.YthhfnhabnaakiaaOV
import Derived.RangeFuncNested
import Derived.RangeFuncBound
import Derived.RangeFuncCalls
import Derived.RangeFuncLeaves
import Derived.ScopeJumps
import Derived.OwnWalkIn
import Derived.OrdersIn
import Derived.TacticsInMore
import Derived.Shelf.RegionOpen
namespace Go.Proofs.Ythhfnhabnaakiaa
open Go.RowKit

/-- An operation that is no defer statement, walked in a plain frame, is walked in a round's. -/
theorem wpInR {P : Program} {l n : Nat} {o : Oper} {a : Act} {w : World} {K : Act → World → Prop} {Q : Exit → Act → World → Prop} (hd : ∀ c, o.op ≠ .defer c)
    (h : o.wp P a w K Q) : o.wpIn (Fence.wide.inRound l) n P a w K Q := by
  unfold Oper.wpIn
  refine ⟨fun _ _ => trivial, ?_⟩
  rw [Oper.semAt_eq _ _ _ hd]
  unfold Oper.wp at h
  generalize (execOp a.eval o).run P w = r at *
  cases r with
  | ok x w' =>
    cases x <;> simp only [Oper.upon, Oper.uponIn] at h ⊢ <;> first
      | exact h
      | exact h.elim
      | exact ⟨fun e => by simp [Fence.wide] at e, CallsIn.inRound l (callsIn_wide.2 h)⟩
      | exact ⟨fun e => by simp [Fence.wide] at e, fun c cs _ => let ⟨v, w', r, s⟩ := h c cs; ⟨v, w', r, stepsIn_wide.2 s⟩⟩
  | halt x w' => cases x <;> simp only [Oper.upon, Oper.uponIn] at h ⊢ <;> exact h
theorem wpAnyInR {P : Program} {l n : Nat} {md : Region.Mode} {ops : Array Oper} {Q : Exit → Act → World → Prop} (hp : ∀ (i : Nat) (o : Oper), ops[i]? = some o → ∀ c, o.op ≠ .defer c) (hno : ¬ LetsOut Q) :
    ∀ (fuel : Nat) (listed : Array Bool) (a : Act) (w : World), wpAny P md ops Q fuel listed a w → wpAnyIn (Fence.wide.inRound l) n P md ops Q fuel listed a w := by
  intro fuel
  induction fuel with
  | zero => intro listed a w h; exact h
  | succ fuel ih =>
    intro listed a w h
    refine ⟨h.1, fun i hi => ?_⟩
    have h2 := h.2 i hi
    unfold wpOp at h2
    unfold wpOpIn
    cases ho : ops[i]? with
    | none => rw [ho] at h2; exact ih _ _ _ h2
    | some o =>
      rw [ho] at h2
      simp only at h2 ⊢
      split at h2
      · rename_i hw
        rw [if_pos hw]
        exact Oper.wpIn_mono (fun a w => ih _ a w) (wpInR (hp i o ho) (h2.resolve_right fun h => hno h.2))
      · rename_i hw
        rw [if_neg hw]
        exact ⟨fun _ _ => trivial, ih _ _ _ h2⟩

/-- A scope with one label to which the run goes back: a number that falls. -/
theorem wp_scope_top {P : Program} {a : Act} {w : World} {Q : Exit → Act → World → Prop} {c ahead rest : Code} (l : Nat) (J : Nat → Act → World → Prop) (hc : c = Code.seq ahead (Code.seq (Code.label l) rest)) (hf : findLabel c l = some (Code.seq Code.skip rest))
    (first : ahead.wp P (Exit.then (fun a w => ∃ g, J g a w) (fun _ _ _ => False)) a w)
    (pass : ∀ g a w, J g a w → rest.wp P (Exit.jump l (fun a' w' => ∃ g', g' < g ∧ J g' a' w') Q) a w) : (Code.scope c).wp P Q a w := by
  intro b k cs
  have hg : gotoIn l (.inScope c :: k) = some (.code (Code.seq Code.skip rest) :: .inScope c :: k) := by simp [gotoIn, hf]
  have key : ∀ n a w, J n a w → ∃ e a' w', Q e a' w' ∧ Arrives P (lone (b.at a (.code rest :: .inScope c :: k)) cs w) b k cs e a' w' := by
    intro n
    induction n using Nat.strongRecOn with
    | _ n ih =>
      intro a w hJ
      obtain ⟨e, a₁, w₁, hq, harr⟩ := pass n a w hJ b (.inScope c :: k) cs
      cases e with
      | normal => exact ⟨.normal, a₁, w₁, hq, Steps.trans harr (.one step_inScope)⟩
      | exit id => exact ⟨.exit id, a₁, w₁, hq, fun k' hk => harr k' (by simp [exitTo, hk])⟩
      | goto l' =>
        obtain ⟨rfl, g', hlt, hJ'⟩ := hq
        obtain ⟨e₂, a₂, w₂, hq₂, harr₂⟩ := ih g' hlt a₁ w₁ hJ'
        exact ⟨e₂, a₂, w₂, hq₂, .of_steps (Steps.trans (harr _ hg) (.head step_seq (.one step_skip))) harr₂⟩
      | ret => exact ⟨_, a₁, w₁, hq, harr⟩
      | panic ch => exact ⟨_, a₁, w₁, hq, harr⟩
      | outgrown => exact ⟨_, a₁, w₁, hq, harr⟩
  obtain ⟨e, a₁, w₁, hq, harr⟩ := first b (.code (Code.seq (Code.label l) rest) :: .inScope c :: k) cs
  cases e with
  | normal =>
    obtain ⟨g, hJ⟩ := hq
    obtain ⟨e₂, a₂, w₂, hq₂, harr₂⟩ := key g a₁ w₁ hJ
    refine ⟨e₂, a₂, w₂, hq₂, .of_steps (.head step_scope ?_) harr₂⟩
    rw [hc] at harr ⊢
    exact .head step_seq (Steps.trans harr (.head step_seq (.one step_label)))
  | exit id => exact hq.elim
  | goto l' => exact hq.elim
  | ret => exact hq.elim
  | panic ch => exact hq.elim
  | outgrown => exact hq.elim

/-- An iterator that hands in N rows, each new: what it promises each loop body that leaves its own block S, and the blocks that it has captured, as they are. -/
def GivesRows (P : Program) (g : Nat) (lb : Array Value) (caps : List Nat) (N : Nat) (st : Nat → List Int) (W : World) : Prop :=
  ∀ (l : Nat) (J : Nat → Nat → World → Prop),
    (∀ S i A B, J S i A → A.grownBy B (some S) → J S i B) →
    (∀ S i A, J S i A → ∀ b ∈ caps, A.heap[b]? = W.heap[b]?) →
    (∀ S A, W.heap.size ≤ S → S < A.heap.size → Below W.heap.size W A → J S 0 A) →
    (∀ S i v W0 W1, i < N → S < W0.heap.size → J S i W0 → Below W0.heap.size W0 W1 → RowOk W1 W0.heap.size W1.heap.size v (st i) →
      YieldAt Fence.wide 0 P l #[v] W1 fun e W' => e = .returned (.bool true) ∧ J S (i + 1) W' ∧ W'.heap[S]? = W1.heap[S]? ∧ W1.heap.size ≤ W'.heap.size) →
    CallsIn Fence.wide 0 P g (#[.func (.yield l) #[] #[]] ++ lb) W fun e W' => (∃ v, e = .returned v) ∧ ∃ S, J S N W'
def rowPost (I : Nat → Nat → World → Prop) (S i : Nat) (W : World) : Exit → Act → World → Prop
  | .normal, _, W' => KeepsOthers W W' ∧ W'.heap[S]? = W.heap[S]? ∧ I S i W'
  | _, _, _ => False
theorem wpIn_rangeFunc_rows {P : Program} {g : Operand} {ps : Array Tmp} {assign body : Code} {Q : Exit → Act → World → Prop} {a : Act} {w : World} {gf : Nat} {lb : Array Value} {caps : List Nat} {N : Nat} {st : Nat → List Int}
    (hg : a.eval g = .func (.func gf) #[] lb) (eg : ∀ args w, (callFunc gf args).run P w = .ok (.enter gf args) w) (hst : ∀ i, 0 < (st i).length) (hps : ps.size = 1)
    (hcl : ∀ b ∈ caps, b < w.heap.size) (hseq : ∀ W, Below w.heap.size w W → GivesRows P gf lb caps N st W)
    (I : Nat → Nat → World → Prop) (hI : ∀ S i A B r, I S i A → A.grownBy B (some r) → w.heap.size ≤ r → (r = S ∨ ∃ o : Obj, A.heap[r]? = some o ∧ o.isCells = false) → I S i B)
    (hcap : ∀ S i A, I S i A → ∀ b ∈ caps, A.heap[b]? = w.heap[b]?)
    (h0 : ∀ S A, w.heap.size ≤ S → S < A.heap.size → Below w.heap.size w A → I S 0 A) (a₁ : Value → Act)
    (hassign : ∀ (l : Nat) (v : Value) (W : World) (K : Act → World → Prop), K (a₁ v) W →
      assign.wpIn (Fence.wide.inRound l) 0 P (Exit.then K (fun _ _ _ => False)) { tmps := (ps.zip #[v]).foldl (fun t (p, v) => t.setIfInBounds p v) a.tmps, defers := [] } W)
    (hbody : ∀ (l S i : Nat) (v : Value) (W0 W1 : World), i < N → S < W0.heap.size → I S i W0 → Below W0.heap.size W0 W1 → RowOk W1 W0.heap.size W1.heap.size v (st i) → body.wpIn (Fence.wide.inRound l) 0 P (rowPost I S (i + 1) W1) (a₁ v) W1)
    (hdone : ∀ (D S : Nat) (W : World), w.heap.size ≤ D → I S N W → W.heap[D]? = some (.deferred (some [])) → Q .normal { a with defers := { target := .collected D, args := #[] } :: a.defers } W) :
    (Code.rangeFunc g ps assign body).wpIn Fence.wide 0 P Q a w := by
  refine wpIn_rangeFunc ?_
  intro fn hfn
  obtain ⟨mk, hmk⟩ : ∃ mk : LoopState → Option Code → Loop, mk = fun st pe => { state := st, pending := pe, fn, tmps := a.tmps, params := ps, assign, body, defers := w.heap.size } := ⟨_, rfl⟩
  obtain ⟨W1, hW1⟩ : ∃ W1, (w.alloc (.deferred (some []))).alloc (.loop (mk .ready none)) = W1 := ⟨_, rfl⟩
  have hL1 : W1.heap[w.heap.size + 1]? = some (.loop (mk .ready none)) := by
    rw [← hW1]; have := World.alloc_heap_new (w.alloc (.deferred (some []))) (.loop (mk .ready none)); rwa [World.size_alloc] at this
  have hK1 : W1.heap[w.heap.size]? = some (.deferred (some [])) := by
    rw [← hW1]; exact (Below.heap_alloc _ _ _ (by simp)).trans (World.alloc_heap_new w _)
  have hz1 : W1.heap.size = w.heap.size + 1 + 1 := by rw [← hW1]; simp
  have hb1 : Below w.heap.size w W1 := by
    rw [← hW1]; exact ((Below.refl _ w).alloc (Nat.le_refl _) _).alloc (by simp) _
  refine ⟨w.heap.size + 1, [{ target := .collected w.heap.size, args := #[] }], W1, { target := .fn (.func gf) lb, args := #[.func (.yield (w.heap.size + 1)) #[] #[]] }, W1, gf,
    #[.func (.yield (w.heap.size + 1)) #[] #[]] ++ lb, W1, ?_, ?_, fun _ _ => trivial, ?_, fun e => by simp [Fence.wide] at e, ?_⟩
  · rw [← hW1, hmk]; exact run_enterLoop_outer _ _ _ _ _
  · simp only [resolve, hg]
    simp [go_sem]
  · simp [invoke, go_sem, eg]
  · refine (hseq W1 hb1 (w.heap.size + 1)
      (fun S i W => I S i W ∧ W.heap[w.heap.size + 1]? = some (.loop (mk .ready none)) ∧ W.heap[w.heap.size]? = some (.deferred (some [])) ∧ w.heap.size + 1 < S)
      (fun S i A B hs hg' => ?_) (fun S i A hs b hb => ?_) (fun S A h1 h2 h3 => ?_) ?_).mono ?_
    · obtain ⟨hi, hl, hk, hS⟩ := hs
      refine ⟨hI S i A B S hi hg' (by omega) (.inl rfl), ?_, ?_, hS⟩
      · exact (hg'.block _ (Array.getElem?_eq_some_iff.1 hl).1 (fun e => by cases e; omega)).trans hl
      · exact (hg'.block _ (Array.getElem?_eq_some_iff.1 hk).1 (fun e => by cases e; omega)).trans hk
    · rw [hcap S i A hs.1 b hb, hb1.block b (hcl b hb)]
    · exact ⟨h0 S A (by omega) h2 (hb1.trans (h3.mono (by omega))), (h3.block _ (by omega)).trans hL1, (h3.block _ (by omega)).trans hK1, by omega⟩
    · -- ONE ROUND
      rintro S i v W0 W hi hS ⟨hI0, hl0, hk0, hlS⟩ hb hv
      have hlt0 : w.heap.size + 1 < W0.heap.size := by omega
      have hl : W.heap[w.heap.size + 1]? = some (.loop (mk .ready none)) := (hb.block _ hlt0).trans hl0
      have hk : W.heap[w.heap.size]? = some (.deferred (some [])) := (hb.block _ (by omega)).trans hk0
      have hlt : w.heap.size + 1 < W.heap.size := (Array.getElem?_eq_some_iff.1 hl).1
      have hy := run_yield (P := P) (args := #[v]) hl (by rw [hmk]; exact hps.symm)
      rw [hmk] at hy
      refine ⟨fn, _, assign, body, hy, roundIn_of_wpIn hfn (hassign _ v W _ ⟨_, run_beginRound hl (by rw [hmk]), ?_⟩)⟩
      obtain ⟨busy, hbusy⟩ : ∃ o : Obj, o = .loop { mk .ready none with state := .busy } := ⟨_, rfl⟩
      rw [← hbusy]
      have hl2 : (W.putObj (w.heap.size + 1) busy).heap[w.heap.size + 1]? = some busy := World.putObj_heap_same hlt
      have hk2 : (W.putObj (w.heap.size + 1) busy).heap[w.heap.size]? = some (.deferred (some [])) := (World.putObj_heap_other (by omega)).trans hk
      have hI1 : I S i (W0.putObj (w.heap.size + 1) busy) := hI S i _ _ _ hI0 (grownBy_putObj' _ _ _) (by omega) (.inr ⟨_, hl0, rfl⟩)
      have hbb : Below (W0.putObj (w.heap.size + 1) busy).heap.size (W0.putObj (w.heap.size + 1) busy) (W.putObj (w.heap.size + 1) busy) := by
        refine ⟨hb.os, hb.tape, hb.output, by simpa using hb.size, fun k hk' => ?_⟩
        rw [World.putObj_size] at hk'
        by_cases e : k = w.heap.size + 1
        · subst e
          rw [hl2, World.putObj_heap_same hlt0]
        · rw [World.putObj_heap_other e, World.putObj_heap_other e]
          exact hb.block k hk'
      have hvv : RowOk (W.putObj (w.heap.size + 1) busy) (W0.putObj (w.heap.size + 1) busy).heap.size (W.putObj (w.heap.size + 1) busy).heap.size v (st i) := by
        rw [World.putObj_size, World.putObj_size]
        refine hv.same fun b e => World.putObj_heap_other ?_
        obtain ⟨b', e', h1, _⟩ := hv.blk
        rw [e'] at e
        cases e
        omega
      refine wpIn_mono (hbody _ S i v _ _ hi (by simpa using hS) hI1 hbb hvv) ?_
      rintro e a3 W3 hp
      cases e with
      | normal =>
        obtain ⟨hk3, hs3, hi3⟩ := hp
        have hl3 : W3.heap[w.heap.size + 1]? = some busy := hk3.same _ _ hl2 (by rw [hbusy]; rfl)
        have hd3 : W3.heap[w.heap.size]? = some (.deferred (some [])) := hk3.same _ _ hk2 rfl
        have hz3 := hk3.size
        rw [World.putObj_size] at hz3
        rw [hbusy] at hl3
        have hr := run_endRound (P := P) none hl3
        rw [hmk] at hr
        refine ⟨_, _, hr, rfl, ⟨hI S _ _ _ _ hi3 (grownBy_putObj' _ _ _) (by omega) (.inr ⟨_, hl3, rfl⟩), ?_, (World.putObj_heap_other (by omega)).trans hd3, hlS⟩, ?_, by simpa using hz3⟩
        · rw [hmk]
          exact World.putObj_heap_same (Array.getElem?_eq_some_iff.1 hl3).1
        · rw [World.putObj_heap_other (by omega), hs3, World.putObj_heap_other (by omega)]
      | ret => exact hp.elim
      | exit id => exact hp.elim
      | goto t => exact hp.elim
      | panic ch => exact hp.elim
      | outgrown => exact hp.elim
    · -- BEHIND THE ITERATOR
      rintro e W2 ⟨⟨v, rfl⟩, S, hi, hl, hk, hS⟩
      exact ⟨none, _, by have := run_endLoop (P := P) hl (by rw [hmk]; simp); rw [hmk] at this; exact this, hdone _ S _ (Nat.le_refl _) (hI S _ _ _ _ hi (grownBy_putObj' _ _ _) (by omega) (.inr ⟨_, hl, rfl⟩)) ((World.putObj_heap_other (by omega)).trans hk)⟩

end Go.Proofs.Ythhfnhabnaakiaa
