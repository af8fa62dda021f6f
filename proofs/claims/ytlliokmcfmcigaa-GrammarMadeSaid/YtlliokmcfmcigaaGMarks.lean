/- What a loop over a function leaves behind: marks, taken up at the function's end. -/
import Derived.Test.YtlliokmcfmcigaaGBack
namespace Go.Proofs.Ytlliokmcfmcigaa.GR
open Go.RowKit Go.Shelf
set_option linter.unusedVariables false
/-- Deferred calls that are marks alone, each of a block that waits for it, beyond block B. -/
inductive Marks (B : Nat) : List Deferred → World → Prop
  | nil {w : World} : Marks B [] w
  | cons {D : Nat} {ds : List Deferred} {w : World} : B ≤ D → w.heap[D]? = some (.deferred (some [])) → Marks B ds w → (∀ d, d ∈ ds → ∀ r, d.target = .collected r → r ≠ D) → Marks B ({ target := .collected D, args := #[] } :: ds) w
theorem Marks.keep {B : Nat} {ds : List Deferred} {w w1 : World} (h : Marks B ds w) (hb : ∀ (D : Nat) (o : Obj), w.heap[D]? = some o → o.isCells = false → w1.heap[D]? = some o) : Marks B ds w1 := by
  induction h with
  | nil => exact .nil
  | cons h1 h2 _ h4 ih => exact .cons h1 (hb _ _ h2 rfl) (ih hb) h4
theorem Marks.lt {B : Nat} {ds : List Deferred} {w : World} (h : Marks B ds w) : ∀ d, d ∈ ds → ∀ r, d.target = .collected r → r < w.heap.size := by
  induction h with
  | nil => intro d hd; cases hd
  | cons h1 h2 h3 h4 ih =>
    intro d hd r hr
    rcases List.mem_cons.1 hd with rfl | hd
    · injection hr with hr; subst hr; exact blk_lt' h2
    · exact ih d hd r hr
where blk_lt' {w : World} {g : Nat} {o : Obj} (h : w.heap[g]? = some o) : g < w.heap.size := (Array.getElem?_eq_some_iff.1 h).1
theorem Marks.put {B D : Nat} {ds : List Deferred} {w : World} (h : Marks B ds w) (o : Obj) (hne : ∀ d, d ∈ ds → ∀ r, d.target = .collected r → r ≠ D) : Marks B ds (w.putObj D o) := by
  induction h with
  | nil => exact .nil
  | @cons D' ds w h1 h2 h3 h4 ih =>
    have hD : D' ≠ D := hne _ List.mem_cons_self D' rfl
    refine .cons h1 ?_ (ih (fun d hd => hne d (List.mem_cons_of_mem _ hd))) h4
    show (w.heap.setIfInBounds D o)[D']? = _
    rw [Array.getElem?_setIfInBounds_ne (fun e => hD e.symm)]; exact h2
/-- At the function's end the marks are taken up one by one; what lies below B stays. -/
theorem leaves_marks {F : Fence} {n : Nat} {P : Program} {fn : Func} {tmps : Array Value} {R : Ending → World → Prop} {v : Value} {B : Nat} :
    ∀ {ds : List Deferred} {w : World}, Marks B ds w → (∀ w1, (∀ i, i < B → w1.heap[i]? = w.heap[i]?) → w1.heap.size = w.heap.size → w1.tape = w.tape → w1.os = w.os → w1.output = w.output → (∀ i, (∀ d, d ∈ ds → d.target ≠ .collected i) → w1.heap[i]? = w.heap[i]?) → (results fn tmps).run P w1 = .ok v w1 ∧ R (.returned v) w1) → LeavesInM F n P fn tmps R ds .returning w
  | [], w, _, h => by
    have := h w (fun _ _ => rfl) rfl rfl rfl rfl (fun _ _ => rfl)
    exact ⟨_, this.1, this.2⟩
  | _ :: ds, w, .cons (D := D) h1 h2 h3 h4, h => by
    refine ⟨fun e => (by cases e), .inl ⟨D, _, rfl, run_takeDeferred h2, leaves_marks (v := v) (h3.put _ h4) (fun w1 a1 a2 a3 a4 a5 a6 => ?_)⟩⟩
    have hD : D < w.heap.size := (Array.getElem?_eq_some_iff.1 h2).1
    refine h w1 (fun i hi => ?_) ?_ ?_ ?_ ?_ (fun i hi => ?_)
    · rw [a1 i hi]
      show (w.heap.setIfInBounds D _)[i]? = _
      rw [Array.getElem?_setIfInBounds_ne (by omega)]
    · rw [a2]; show (w.heap.setIfInBounds D _).size = _; simp
    · exact a3
    · exact a4
    · exact a5
    · rw [a6 i (fun d hd => hi d (List.mem_cons_of_mem _ hd))]
      show (w.heap.setIfInBounds D _)[i]? = _
      have : D ≠ i := fun e => hi _ List.mem_cons_self (by rw [e])
      rw [Array.getElem?_setIfInBounds_ne this]
end Go.Proofs.Ytlliokmcfmcigaa.GR
