/-
  RlS. By a program (wip/tools/mk.py) out of snippets.
-/
import Derived.Test.YtblaaeanbhgokaaRlDef
import Derived.Test.YtblaaeanbhgokaaOV
namespace Go.Proofs.Ytblaaeanbhgokaa
open Go.RowKit

def ints (zs : List Int) : Array Value := (zs.map (Value.int .i64)).toArray
theorem allocs_size (os : List Obj) : ∀ w : World, (os.foldl World.alloc w).heap.size = w.heap.size + os.length := by
  induction os with
  | nil => intro w; rfl
  | cons o os ih =>
    intro w
    rw [List.foldl_cons, ih, World.size_alloc, List.length_cons]
    omega
theorem allocs_below (os : List Obj) : ∀ w : World, Below w.heap.size w (os.foldl World.alloc w) := by
  induction os with
  | nil => intro w; exact Below.refl _ _
  | cons o os ih =>
    intro w
    rw [List.foldl_cons]
    exact ((Below.refl _ _).alloc (Nat.le_refl _) o).trans ((ih _).mono (by simp))
theorem allocs_heap (os : List Obj) : ∀ (w : World) (i : Nat) (o : Obj), os[i]? = some o → (os.foldl World.alloc w).heap[w.heap.size + i]? = some o := by
  induction os with
  | nil => intro w i o h; cases h
  | cons o' os ih =>
    intro w i o h
    rw [List.foldl_cons]
    cases i with
    | zero =>
      cases h
      have h1 : (w.alloc o').heap[w.heap.size]? = some o' := by
        show (w.heap.push o')[w.heap.size]? = some o'
        simp
      exact ((allocs_below os (w.alloc o')).block _ (by simp)).trans h1
    | succ i =>
      have := ih (w.alloc o') i o (by simpa using h)
      rw [World.size_alloc] at this
      rw [show w.heap.size + (i + 1) = w.heap.size + 1 + i by omega]
      exact this
theorem lit_si {w' : World} {b n : Nat} {zs : List Int} {T : TypeId} (h : w'.heap[b]? = some (.cells (ints zs) T)) (hl : zs.length = n) : SI w' (some ⟨b, 0, none⟩) n zs := by
  refine ⟨hl, fun _ => ⟨b, 0, rfl, fun i hi => ?_⟩⟩
  have hi' : i < zs.length := by omega
  simp [World.cell?, h, ints, iat, List.getD_eq_getElem?_getD, hi']
theorem lit_sn {w' : World} {base b n : Nat} {rows : List (List Int)} {T T2 : TypeId} {bs : Nat → Nat} (hb : base ≤ b) (hbs : ∀ i, base ≤ bs i) (hl : rows.length = n) (h : w'.heap[b]? = some (.cells ((List.range n).map fun i => Value.slice (some ⟨bs i, 0, none⟩) n n).toArray T)) (hr : ∀ i, i < n → w'.heap[bs i]? = some (.cells (ints (rat rows i)) T2) ∧ (rat rows i).length = n) : SN w' base (some ⟨b, 0, none⟩) n rows := by
  refine ⟨hl, fun _ => ⟨b, 0, rfl, hb, fun i hi => ⟨some ⟨bs i, 0, none⟩, n, n, ?_, lit_si (hr i hi).1 (hr i hi).2, fun _ b' o' e => by cases e; exact hbs i⟩⟩⟩
  simp [World.cell?, h, hi]
theorem SN.lower {w : World} {base base' : Nat} {A : Option Addr} {n : Nat} {rows : List (List Int)} (h : SN w base A n rows) (hb : base' ≤ base) : SN w base' A n rows :=
  ⟨h.1, fun hn => by
    obtain ⟨b, off, e, h1, hc⟩ := h.2 hn
    refine ⟨b, off, e, Nat.le_trans hb h1, fun i hi => ?_⟩
    obtain ⟨A', n', c', h2, h3, h4⟩ := hc i hi
    exact ⟨A', n', c', h2, h3, fun hp b o e => Nat.le_trans hb (h4 hp b o e)⟩⟩

/-- What RulesOf answers with, of the reference. -/
def RlPost (w : World) (t : Nat) (e : Ending) (w' : World) : Prop :=
  ∃ (A : Option Addr) (a : Nat) (B : Option Addr) (b : Nat) (C : Option Addr) (c : Nat), e = .returned (.tuple #[.agg #[.slice A (ruN t) a, .slice B (ruN t) b, .slice C (ruN t) c], .bool (decide (t < 4))]) ∧ SI w' A (ruN t) (ruS t) ∧ (0 < ruN t → ∀ b o, A = some ⟨b, o, none⟩ → w.heap.size ≤ b) ∧ SN w' w.heap.size B (ruN t) (ruF t) ∧ SN w' w.heap.size C (ruN t) (ruG t) ∧ Below w.heap.size w w'
theorem rl_zero (w w' : World) (h : Below w.heap.size w w') : RlPost w 4 (.returned (.tuple #[.agg #[.slice none 0 0, .slice none 0 0, .slice none 0 0], .bool false])) w' :=
  ⟨none, 0, none, 0, none, 0, rfl, ⟨rfl, fun h => absurd h (by simp [ruN])⟩, fun h => absurd h (by simp [ruN]), ⟨rfl, fun h => absurd h (by simp [ruN])⟩, ⟨rfl, fun h => absurd h (by simp [ruN])⟩, h⟩
theorem rl_lit {w w' : World} {t : Nat} {os : List Obj} (hw : w' = os.foldl World.alloc w) (ht : t < 4) (T T2 : TypeId) (hn : (ruS t).length = ruN t ∧ (ruF t).length = ruN t ∧ (ruG t).length = ruN t) (h1 : os[1]? = some (.cells (ints (ruS t)) T))
    (hf : ∀ i, i < ruN t → os[2 + i]? = some (.cells (ints (rat (ruF t) i)) T) ∧ (rat (ruF t) i).length = ruN t) (hF : os[2 + ruN t]? = some (.cells ((List.range (ruN t)).map fun i => Value.slice (some ⟨w.heap.size + (2 + i), 0, none⟩) (ruN t) (ruN t)).toArray T2))
    (hg : ∀ i, i < ruN t → os[3 + ruN t + i]? = some (.cells (ints (rat (ruG t) i)) T) ∧ (rat (ruG t) i).length = ruN t) (hG : os[3 + 2 * ruN t]? = some (.cells ((List.range (ruN t)).map fun i => Value.slice (some ⟨w.heap.size + (3 + ruN t + i), 0, none⟩) (ruN t) (ruN t)).toArray T2))
    (v : Value) (hv : v = .tuple #[.agg #[.slice (some ⟨w.heap.size + 1, 0, none⟩) (ruN t) (ruN t), .slice (some ⟨w.heap.size + (2 + ruN t), 0, none⟩) (ruN t) (ruN t), .slice (some ⟨w.heap.size + (3 + 2 * ruN t), 0, none⟩) (ruN t) (ruN t)], .bool true]) : RlPost w t (.returned v) w' := by
  subst hw hv
  refine ⟨some ⟨w.heap.size + 1, 0, none⟩, ruN t, some ⟨w.heap.size + (2 + ruN t), 0, none⟩, ruN t, some ⟨w.heap.size + (3 + 2 * ruN t), 0, none⟩, ruN t, by rw [decide_eq_true ht], lit_si (allocs_heap os w 1 _ h1) hn.1, fun _ b o e => by cases e; omega, ?_, ?_, allocs_below os w⟩
  · exact lit_sn (bs := fun i => w.heap.size + (2 + i)) (by omega) (fun i => by omega) hn.2.1 (allocs_heap os w _ _ hF) fun i hi => ⟨allocs_heap os w _ _ (hf i hi).1, (hf i hi).2⟩
  · exact lit_sn (bs := fun i => w.heap.size + (3 + ruN t + i)) (by omega) (fun i => by omega) hn.2.2 (allocs_heap os w _ _ hG) fun i hi => ⟨allocs_heap os w _ _ (hg i hi).1, (hg i hi).2⟩
set_option maxHeartbeats 6400000 in
theorem specrulesOf_any (s : ByteArray) (w : World) : Calls Try.prog 85 #[.string s] w (RlPost w (rlT s)) := by
  have hres := Lib.hid (show Try.f85.results = #[.cell 2 62, .tmp 3] by kernel_rfl)
  rcases rlT_cases s with ⟨e0, ht⟩ | ⟨e0, e1, ht⟩ | ⟨e0, e1, e2, ht⟩ | ⟨e0, e1, e2, e3, ht⟩ | ⟨e0, e1, e2, e3, ht⟩
  all_goals
    rw [ht]
    clear ht
    go_enter Try.func85, Try.ntmps85
    go_wp2_with fail
  · refine bodyPost_ret (v := .tuple #[.agg #[.slice (some ⟨w.heap.size + 1, 0, none⟩) 2 2, .slice (some ⟨w.heap.size + 1 + 1 + 1 + 1, 0, none⟩) 2 2, .slice (some ⟨w.heap.size + 1 + 1 + 1 + 1 + 1 + 1 + 1, 0, none⟩) 2 2], .bool true]) ?_ rfl ?_
    · simp only [results, hres.out]
      go_simp
    · exact rl_lit (t := 0) (os := [_, _, _, _, _, _, _, _]) rfl (by omega) 3 22 ⟨rfl, rfl, rfl⟩ rfl (fun i hi => by rcases two (show i < 2 from hi) with rfl | rfl <;> exact ⟨rfl, rfl⟩) rfl (fun i hi => by rcases two (show i < 2 from hi) with rfl | rfl <;> exact ⟨rfl, rfl⟩) rfl _ rfl
  · refine bodyPost_ret (v := .tuple #[.agg #[.slice (some ⟨w.heap.size + 1, 0, none⟩) 4 4, .slice (some ⟨w.heap.size + 1 + 1 + 1 + 1 + 1 + 1, 0, none⟩) 4 4, .slice (some ⟨w.heap.size + 1 + 1 + 1 + 1 + 1 + 1 + 1 + 1 + 1 + 1 + 1, 0, none⟩) 4 4], .bool true]) ?_ rfl ?_
    · simp only [results, hres.out]
      go_simp
    · exact rl_lit (t := 1) (os := [_, _, _, _, _, _, _, _, _, _, _, _]) rfl (by omega) 3 22 ⟨rfl, rfl, rfl⟩ rfl (fun i hi => by rcases four (show i < 4 from hi) with rfl | rfl | rfl | rfl <;> exact ⟨rfl, rfl⟩) rfl (fun i hi => by rcases four (show i < 4 from hi) with rfl | rfl | rfl | rfl <;> exact ⟨rfl, rfl⟩) rfl _ rfl
  · refine bodyPost_ret (v := .tuple #[.agg #[.slice (some ⟨w.heap.size + 1, 0, none⟩) 4 4, .slice (some ⟨w.heap.size + 1 + 1 + 1 + 1 + 1 + 1, 0, none⟩) 4 4, .slice (some ⟨w.heap.size + 1 + 1 + 1 + 1 + 1 + 1 + 1 + 1 + 1 + 1 + 1, 0, none⟩) 4 4], .bool true]) ?_ rfl ?_
    · simp only [results, hres.out]
      go_simp
    · exact rl_lit (t := 2) (os := [_, _, _, _, _, _, _, _, _, _, _, _]) rfl (by omega) 3 22 ⟨rfl, rfl, rfl⟩ rfl (fun i hi => by rcases four (show i < 4 from hi) with rfl | rfl | rfl | rfl <;> exact ⟨rfl, rfl⟩) rfl (fun i hi => by rcases four (show i < 4 from hi) with rfl | rfl | rfl | rfl <;> exact ⟨rfl, rfl⟩) rfl _ rfl
  · refine bodyPost_ret (v := .tuple #[.agg #[.slice (some ⟨w.heap.size + 1, 0, none⟩) 4 4, .slice (some ⟨w.heap.size + 1 + 1 + 1 + 1 + 1 + 1, 0, none⟩) 4 4, .slice (some ⟨w.heap.size + 1 + 1 + 1 + 1 + 1 + 1 + 1 + 1 + 1 + 1 + 1, 0, none⟩) 4 4], .bool true]) ?_ rfl ?_
    · simp only [results, hres.out]
      go_simp
    · exact rl_lit (t := 3) (os := [_, _, _, _, _, _, _, _, _, _, _, _]) rfl (by omega) 3 22 ⟨rfl, rfl, rfl⟩ rfl (fun i hi => by rcases four (show i < 4 from hi) with rfl | rfl | rfl | rfl <;> exact ⟨rfl, rfl⟩) rfl (fun i hi => by rcases four (show i < 4 from hi) with rfl | rfl | rfl | rfl <;> exact ⟨rfl, rfl⟩) rfl _ rfl
  · refine bodyPost_ret (v := .tuple #[.agg #[.slice none 0 0, .slice none 0 0, .slice none 0 0], .bool false]) ?_ rfl (rl_zero _ _ ?_)
    · simp only [results, hres.out]
      go_simp
    · first
        | exact (Below.refl _ _).alloc (Nat.le_refl _) _
        | exact (((((Below.refl _ _).alloc (Nat.le_refl _) _).setCell (Nat.le_refl _) _).setCell (Nat.le_refl _) _).setCell (Nat.le_refl _) _)

end Go.Proofs.Ytblaaeanbhgokaa
