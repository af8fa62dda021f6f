/- made of GrammarMade, over numbers alone: whatever is picked, it ends, and what it makes is of a file. -/
import Derived.Test.YtlliokmcfmcigaaGm
namespace Go.Proofs.Ytlliokmcfmcigaa.Gm
set_option linter.unusedVariables false
def leastT : List (Nat × Nat) := [(51, 0), (52, 2), (53, 5), (54, 6), (55, 2), (56, 4), (57, 4), (58, 2), (59, 2), (60, 1), (64, 2), (65, 3), (66, 1), (67, 1), (101, 0), (102, 2), (103, 0), (104, 0), (105, 0), (106, 2), (107, 0), (108, 0), (109, 0), (110, 0), (111, 1), (112, 1), (113, 1), (114, 1), (115, 1), (116, 1), (117, 1), (118, 0), (119, 1), (121, 0), (122, 0), (123, 0), (124, 0), (125, 0)]
/-- how many kinds a part's shortest row has -/
def least (s : Nat) : Nat := if s < 41 then 1 else if part s then look leastT s else 1000
def sizeOf (l : List Nat) : Nat := (l.map least).foldr (· + ·) 0
def goesT : List (Nat × Nat) := [(51, 2), (52, 4), (53, 22), (54, 11), (55, 4), (56, 24), (57, 23), (58, 4), (59, 20), (60, 17), (64, 4), (65, 20), (66, 2), (67, 2), (101, 1), (102, 5), (103, 1), (104, 1), (105, 1), (106, 5), (107, 1), (108, 1), (109, 1), (110, 1), (111, 16), (112, 14), (113, 12), (114, 10), (115, 8), (116, 6), (117, 5), (118, 1), (119, 3), (121, 1), (122, 1), (123, 1), (124, 1), (125, 1)]
/-- in how many turns a symbol ends, if it is let -/
def goes (s : Nat) : Nat := if part s then look goesT s else 1
def goesL : List Nat → Nat
  | [] => 0
  | s :: l => goes s + goesL l
theorem goesL_append (a b : List Nat) : goesL (a ++ b) = goesL a + goesL b := by
  induction a with
  | nil => simp [goesL]
  | cons x a ih => simp only [List.cons_append, goesL, ih]; omega
/-- what is found for a symbol among so many rules: those of it; the shortest; its size -/
structure Pick where
  mine : List Nat
  best : Nat
  size : Nat
def pickAt (s : Nat) : Nat → Pick
  | 0 => ⟨[], 0, 10000⟩
  | i + 1 => if (rules.getD i (0, [])).1 = s then
      ⟨(pickAt s i).mine ++ [i], if sizeOf (rules.getD i (0, [])).2 < (pickAt s i).size then i else (pickAt s i).best, if sizeOf (rules.getD i (0, [])).2 < (pickAt s i).size then sizeOf (rules.getD i (0, [])).2 else (pickAt s i).size⟩
    else pickAt s i
theorem pick_len (s : Nat) : ∀ i, (pickAt s i).mine.length ≤ i
  | 0 => Nat.le_refl _
  | i + 1 => by
    have := pick_len s i
    unfold pickAt
    split
    · simp; omega
    · omega
theorem pick_mem (s : Nat) : ∀ i m, m ∈ (pickAt s i).mine → m < i ∧ (rules.getD m (0, [])).1 = s
  | 0, m, h => by simp [pickAt] at h
  | i + 1, m, h => by
    unfold pickAt at h
    split at h
    · rename_i he
      rcases List.mem_append.1 h with h | h
      · have := pick_mem s i m h
        exact ⟨by omega, this.2⟩
      · have : m = i := by simpa using h
        subst this
        exact ⟨by omega, he⟩
    · have := pick_mem s i m h
      exact ⟨by omega, this.2⟩
set_option maxRecDepth 1000000 in
/-- a part has a rule; the shortest one is of it, and in it there is less to go -/
theorem pick_part (s : Nat) (h : part s = true) : (pickAt s 74).mine ≠ [] ∧ (pickAt s 74).best < 74 ∧ (rules.getD (pickAt s 74).best (0, [])).1 = s ∧ goesL (rules.getD (pickAt s 74).best (0, [])).2 + 1 ≤ goes s := by
  have ha : partL.all (fun s => decide ((pickAt s 74).mine ≠ [] ∧ (pickAt s 74).best < 74 ∧ (rules.getD (pickAt s 74).best (0, [])).1 = s ∧ goesL (rules.getD (pickAt s 74).best (0, [])).2 + 1 ≤ goes s)) = true := by decide +kernel
  have hm : s ∈ partL := by simpa [part] using h
  exact of_decide_eq_true (List.all_eq_true.1 ha s hm)
set_option maxRecDepth 1000000 in
theorem goes_max (n : Nat) (h : n < 74) : goesL (rules.getD n (0, [])).2 ≤ 24 ∧ (rules.getD n (0, [])).2.length ≤ 5 := by
  have ha : (List.range 74).all (fun n => decide (goesL (rules.getD n (0, [])).2 ≤ 24 ∧ (rules.getD n (0, [])).2.length ≤ 5)) = true := by decide +kernel
  exact of_decide_eq_true (List.all_eq_true.1 ha n (by simpa using h))
theorem goes_pos (s : Nat) : 1 ≤ goes s := by
  unfold goes
  split
  · rename_i h
    have ha : partL.all (fun s => decide (1 ≤ look goesT s)) = true := by decide +kernel
    have hm : s ∈ partL := by simpa [part] using h
    exact of_decide_eq_true (List.all_eq_true.1 ha s hm)
  · exact Nat.le_refl _
set_option maxRecDepth 1000000 in
theorem size_max (n : Nat) (h : n < 74) : sizeOf (rules.getD n (0, [])).2 ≤ 5000 := by
  have ha : (List.range 74).all (fun n => decide (sizeOf (rules.getD n (0, [])).2 ≤ 5000)) = true := by decide +kernel
  exact of_decide_eq_true (List.all_eq_true.1 ha n (by simpa using h))
theorem least_max (s : Nat) : least s ≤ 1000 := by
  unfold least
  split
  · omega
  · split
    · rename_i h
      have ha : partL.all (fun s => decide (look leastT s ≤ 1000)) = true := by decide +kernel
      have hm : s ∈ partL := by simpa [part] using h
      exact of_decide_eq_true (List.all_eq_true.1 ha s hm)
    · omega
/-- how much is left to do: n turns are done -/
def left (n : Nat) (st : List Nat) : Nat := (400 - n) * 30 + goesL st
theorem left_tok {n s : Nat} {st : List Nat} : left (n + 1) st < left n (s :: st) := by
  have := goes_pos s
  simp only [left, goesL]
  omega
theorem left_pick {n m s : Nat} {st : List Nat} (hn : n < 400) (hm : m < 74) : left (n + 1) ((rules.getD m (0, [])).2 ++ st) < left n (s :: st) := by
  have := goes_pos s
  have := (goes_max m hm).1
  simp only [left, goesL, goesL_append]
  omega
theorem left_best {n s : Nat} {st : List Nat} (hs : part s = true) : left (n + 1) ((rules.getD (pickAt s 74).best (0, [])).2 ++ st) < left n (s :: st) := by
  have := (pick_part s hs).2.2.2
  simp only [left, goesL, goesL_append]
  omega
/-- what is made so far, and what is left on the stack -/
def Makes (out st : List Nat) : Prop := ∀ ts, Der st ts → Der [51] (out ++ ts)
theorem Makes.start : Makes [] [51] := fun ts h => h
theorem tok_part (s : Nat) (h : s ≤ 40) : part s = false := by
  have ha : (List.range 41).all (fun s => !part s) = true := by decide +kernel
  simpa using List.all_eq_true.1 ha s (by simp; omega)
theorem Makes.tok {out st : List Nat} {s : Nat} (h : Makes out (s :: st)) (h1 : 1 ≤ s) (h2 : s ≤ 40) : Makes (out ++ [s]) st := fun ts ht => by
  rw [List.append_assoc]
  exact h (s :: ts) (.tok (tok_part s h2) h1 h2 ht)
theorem rule_at {m : Nat} (hm : m < 74) : rules[m]? = some ((rules.getD m (0, [])).1, (rules.getD m (0, [])).2) := by
  have hl : rules.length = 74 := by decide +kernel
  rw [List.getD_eq_getElem?_getD, List.getElem?_eq_getElem (by omega)]
  rfl
theorem Makes.rule {out st : List Nat} {s m : Nat} (h : Makes out (s :: st)) (hm : m < 74) (hs : (rules.getD m (0, [])).1 = s) : Makes out ((rules.getD m (0, [])).2 ++ st) := fun ts ht => by
  refine h ts (.rule (n := m) ?_ ht)
  rw [rule_at hm, hs]
theorem Makes.done {out : List Nat} (h : Makes out []) : Der [51] out := by
  have := h [] .nil
  rwa [List.append_nil] at this
end Go.Proofs.Ytlliokmcfmcigaa.Gm
