/- A straight row of operations, run in one piece by the kernel: no draw, no call, no guard. -/
import Derived.Test.YtlliokmcfmcigaaProg
import Derived.WalkKit
import Derived.KernelRfl
namespace Go.Proofs.Ytlliokmcfmcigaa
/-- Operations that come to a value each, one behind the other. -/
def runList (P : Program) : List Oper → Act → World → Option (Act × World)
  | [], a, w => some (a, w)
  | o :: rest, a, w =>
    match o.guard with
    | some _ => none
    | none =>
      match (execOp a.eval o).run P w with
      | .ok (.value v) w' => runList P rest (a.put o.dst v) w'
      | .ok .skip w' => runList P rest (a.put o.dst undef) w'
      | _ => none
theorem wpList_of_run {P : Program} {ops : Array Oper} {Q : Exit → Act → World → Prop} {a' : Act} {w' : World} : ∀ (l : List Oper) (a : Act) (w : World), runList P l a w = some (a', w') → Q .normal a' w' → wpList P ops Q l a w
  | [], a, w, h, hq => by
    simp only [runList, Option.some.injEq, Prod.mk.injEq] at h
    obtain ⟨rfl, rfl⟩ := h
    exact wpList_nil hq
  | o :: rest, a, w, h, hq => by
    simp only [runList] at h
    split at h
    · cases h
    · rename_i hg
      refine wpList_plain hg (fun K hK => ?_)
      unfold Oper.wp
      split at h
      · rename_i v w1 he
        rw [he]
        exact hK _ _ (wpList_of_run rest _ _ h hq)
      · rename_i w1 he
        rw [he]
        exact hK _ _ (wpList_of_run rest _ _ h hq)
      · cases h
/-- One operation. -/
theorem wpList_run1 {P : Program} {ops : Array Oper} {Q : Exit → Act → World → Prop} {a' : Act} {w' : World} {o : Oper} {rest : List Oper} {a : Act} {w : World} (h : runList P [o] a w = some (a', w')) (hq : wpList P ops Q rest a' w') : wpList P ops Q (o :: rest) a w := by
  simp only [runList] at h
  split at h
  · cases h
  · rename_i hg
    refine wpList_plain hg (fun K hK => ?_)
    unfold Oper.wp
    split at h
    · rename_i v w1 he
      rw [he]
      simp only [Option.some.injEq, Prod.mk.injEq] at h
      obtain ⟨rfl, rfl⟩ := h
      exact hK _ _ hq
    · rename_i w1 he
      rw [he]
      simp only [Option.some.injEq, Prod.mk.injEq] at h
      obtain ⟨rfl, rfl⟩ := h
      exact hK _ _ hq
    · cases h
/-- The same where one slot alone is asked for behind it. -/
theorem wpList_of_run_slot {P : Program} {ops : Array Oper} {Q : Exit → Act → World → Prop} (t : Tmp) {v : Value} {w' : World} (l : List Oper) (a : Act) (w : World)
    (h : (runList P l a w).map (fun r => (r.1.tmps.getD t undef, r.1.defers, r.2)) = some (v, [], w')) (hq : ∀ a' : Act, a'.tmps.getD t undef = v → a'.defers = [] → Q .normal a' w') : wpList P ops Q l a w := by
  cases hr : runList P l a w with
  | none => rw [hr] at h; cases h
  | some r =>
    rw [hr] at h
    simp only [Option.map_some, Option.some.injEq, Prod.mk.injEq] at h
    obtain ⟨h1, h2, h3⟩ := h
    refine wpList_of_run (a' := r.1) (w' := r.2) l a w hr ?_
    rw [h3]
    exact hq _ h1 h2
/-- The same row where calls of functions stand in it that hand back one value each, as 'sum' tells. -/
def runListC (P : Program) (sum : FuncId → Array Value → World → Option (Value × World)) : List Oper → Act → World → Option (Act × World)
  | [], a, w => some (a, w)
  | o :: rest, a, w =>
    match o.guard with
    | some _ => none
    | none =>
      match (execOp a.eval o).run P w with
      | .ok (.value v) w' => runListC P sum rest (a.put o.dst v) w'
      | .ok .skip w' => runListC P sum rest (a.put o.dst undef) w'
      | .ok (.enter f args) w' => match sum f args w' with
        | some (v, w2) => runListC P sum rest (a.put o.dst v) w2
        | none => none
      | _ => none
theorem wpList_of_runC {P : Program} {sum : FuncId → Array Value → World → Option (Value × World)} (hsum : ∀ f args w v w2, sum f args w = some (v, w2) → Calls P f args w fun e w' => e = .returned v ∧ w2 = w')
    {ops : Array Oper} {Q : Exit → Act → World → Prop} {a' : Act} {w' : World} : ∀ (l : List Oper) (a : Act) (w : World), runListC P sum l a w = some (a', w') → Q .normal a' w' → wpList P ops Q l a w
  | [], a, w, h, hq => by
    simp only [runListC, Option.some.injEq, Prod.mk.injEq] at h
    obtain ⟨rfl, rfl⟩ := h
    exact wpList_nil hq
  | o :: rest, a, w, h, hq => by
    simp only [runListC] at h
    split at h
    · cases h
    · rename_i hg
      refine wpList_plain hg (fun K hK => ?_)
      unfold Oper.wp
      split at h
      · rename_i v w1 he
        rw [he]
        exact hK _ _ (wpList_of_runC hsum rest _ _ h hq)
      · rename_i w1 he
        rw [he]
        exact hK _ _ (wpList_of_runC hsum rest _ _ h hq)
      · rename_i f args w1 he
        rw [he]
        split at h
        · rename_i v w2 hs
          refine (hsum f args w1 v w2 hs).mono ?_
          rintro e w3 ⟨rfl, rfl⟩
          exact hK _ _ (wpList_of_runC hsum rest _ _ h hq)
        · cases h
      · cases h
theorem wpList_of_runC_slot {P : Program} {sum : FuncId → Array Value → World → Option (Value × World)} (hsum : ∀ f args w v w2, sum f args w = some (v, w2) → Calls P f args w fun e w' => e = .returned v ∧ w2 = w')
    {ops : Array Oper} {Q : Exit → Act → World → Prop} (t : Tmp) {v : Value} {w' : World} (l : List Oper) (a : Act) (w : World)
    (h : (runListC P sum l a w).map (fun r => (r.1.tmps.getD t undef, r.1.defers, r.2)) = some (v, [], w')) (hq : ∀ a' : Act, a'.tmps.getD t undef = v → a'.defers = [] → Q .normal a' w') : wpList P ops Q l a w := by
  cases hr : runListC P sum l a w with
  | none => rw [hr] at h; cases h
  | some r =>
    rw [hr] at h
    simp only [Option.map_some, Option.some.injEq, Prod.mk.injEq] at h
    obtain ⟨h1, h2, h3⟩ := h
    refine wpList_of_runC hsum (a' := r.1) (w' := r.2) l a w hr ?_
    rw [h3]
    exact hq _ h1 h2
/-- A literal whose cells are known. -/
theorem wpList_built {P : Program} {ops : Array Oper} {rest : List Oper} {o : Oper} {a : Act} {w : World} {Q : Exit → Act → World → Prop} (hg : o.guard = none) (t : TypeId) (parts : Array (Nat × Operand)) (ho : o.op = .build t parts)
    (l : List (Nat × Value)) (hl : (parts.map fun (i, x) => (i, a.eval x)).toList = l) (cs : Array Value) (hb : P.built t l = some cs) (h : wpList P ops Q rest (a.put o.dst (.agg cs)) w) : wpList P ops Q (o :: rest) a w := by
  subst hl
  exact wpList_build hg t parts ho (by rw [hb]; rfl) (by rw [hb]; exact h)
end Go.Proofs.Ytlliokmcfmcigaa
