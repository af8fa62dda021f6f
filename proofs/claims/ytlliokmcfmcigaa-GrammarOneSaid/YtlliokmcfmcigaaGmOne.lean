/- What GrammarOne asks, over numbers alone. -/
import Derived.Test.YtlliokmcfmcigaaGClash
import Derived.Test.YtlliokmcfmcigaaGmTells
namespace Go.Proofs.Ytlliokmcfmcigaa.GR
open Go.RowKit Go.Proofs.YtlliokmcfmcigaaW.PrintWords Go.Proofs.YtlliokmcfmcigaaW.PrintLast Go.Proofs.YtlliokmcfmcigaaW.PrintMore
set_option linter.unusedVariables false
set_option linter.unusedSimpArgs false
/-- does a rule do, as the law asks it? -/
def askRow (part kind : Nat) : List Nat → Bool
  | [] => (followL part).contains kind
  | x :: l => if x ≤ 40 then x == kind else if begs x kind then true else if Gm.empty x then askRow part kind l else false
set_option maxRecDepth 1000000 in
theorem ask_does (n k : Nat) (hn : n < 74) (hk : k < 45) : askRow (nrule n).1 k (nrule n).2 = Gm.does (nrule n) k := by
  have : (List.range 74).all (fun n => (List.range 45).all (fun k => askRow (nrule n).1 k (nrule n).2 == Gm.does (nrule n) k)) = true := by decide +kernel
  have := List.all_eq_true.1 (List.all_eq_true.1 this n (by simpa using hn)) k (by simpa using hk)
  simpa using this
set_option maxRecDepth 1000000 in
theorem one_stat (k : Nat) (hk : k < 45) : ∃ st, PGrammarTells.grammar_Statement.f (Int.ofNat k) = some st ∧ ((st = 0 ∧ begs 102 k = false ∧ begs 60 k = false) ∨ (st = 59 ∧ begs 102 k = true ∧ begs 60 k = true) ∨ (st ≠ 0 ∧ st ≠ 59 ∧ begs 102 k = true ∧ begs 60 k = false)) := by
  have : (List.range 45).all (fun k => match PGrammarTells.grammar_Statement.f (Int.ofNat k) with
    | some st => decide ((st = 0 ∧ begs 102 k = false ∧ begs 60 k = false) ∨ (st = 59 ∧ begs 102 k = true ∧ begs 60 k = true) ∨ (st ≠ 0 ∧ st ≠ 59 ∧ begs 102 k = true ∧ begs 60 k = false))
    | none => false) = true := by decide +kernel
  have h := List.all_eq_true.1 this k (by simpa using hk)
  cases hs : PGrammarTells.grammar_Statement.f (Int.ofNat k) with
  | none => rw [hs] at h; cases h
  | some st =>
    rw [hs] at h
    exact ⟨st, rfl, of_decide_eq_true h⟩
set_option maxRecDepth 1000000 in
theorem one_level (k n : Nat) (hk : k < 45) (hn : n < 6) : ∃ lv : Int, PGrammarTells.grammar_Level.f 20 (Int.ofNat k) = some lv ∧ ((lv = (n : Int) ∧ (n = 0 ∨ begs (120 + n) k = true)) ∨ (lv ≠ (n : Int) ∧ (n = 0 ∨ begs (120 + n) k = false))) := by
  have : (List.range 45).all (fun k => (List.range 6).all (fun n => match PGrammarTells.grammar_Level.f 20 (Int.ofNat k) with
    | some lv => decide ((lv = (n : Int) ∧ (n = 0 ∨ begs (120 + n) k = true)) ∨ (lv ≠ (n : Int) ∧ (n = 0 ∨ begs (120 + n) k = false)))
    | none => false)) = true := by decide +kernel
  have h := List.all_eq_true.1 (List.all_eq_true.1 this k (by simpa using hk)) n (by simpa using hn)
  cases hs : PGrammarTells.grammar_Level.f 20 (Int.ofNat k) with
  | none => rw [hs] at h; cases h
  | some lv =>
    rw [hs] at h
    exact ⟨lv, rfl, of_decide_eq_true h⟩
def PickP (s k j : Nat) : Prop := (nrule j).1 = s ∧ Gm.does (nrule j) k = true
/-- what has been found among the first i rules -/
def Picked (s k i : Nat) (n a : Int) : Prop := (n = 0 ∧ a = -1 ∧ ∀ j, j < i → ¬ PickP s k j) ∨ (n = 1 ∧ ∃ m : Nat, m < i ∧ a = (m : Int) ∧ PickP s k m ∧ ∀ j, j < m → ¬ PickP s k j)
theorem Picked.zero (s k : Nat) : Picked s k 0 0 (-1) := Or.inl ⟨rfl, rfl, fun j h => absurd h (by omega)⟩
theorem Picked.no {s k i : Nat} {n a : Int} (h : Picked s k i n a) (hi : ¬ PickP s k i) : Picked s k (i + 1) n a := by
  rcases h with ⟨h1, h2, h3⟩ | ⟨h1, m, hm, h2, h3⟩
  · refine Or.inl ⟨h1, h2, fun j hj => ?_⟩
    by_cases e : j = i
    · rw [e]; exact hi
    · exact h3 j (by omega)
  · exact Or.inr ⟨h1, m, by omega, h2, h3⟩
theorem Picked.yes {s k i : Nat} {n a : Int} (h : Picked s k i n a) (hi : PickP s k i) (hil : i < 74) (hk : k < 64) : n = 0 ∧ Picked s k (i + 1) 1 (i : Int) := by
  rcases h with ⟨h1, h2, h3⟩ | ⟨h1, m, hm, h2, h3, _⟩
  · exact ⟨h1, Or.inr ⟨rfl, i, by omega, rfl, hi, h3⟩⟩
  · exfalso
    have := no_clash hil hm hk (hi.1.trans h3.1.symm) hi.2
    rw [h3.2] at this
    cases this
theorem Picked.end_ {s k : Nat} {n a : Int} (h : Picked s k 74 n a) : ¬ (1 < n) ∧ idx (Gm.choose s k) = a := by
  have hp : ∀ j, j < 74 → ¬ PickP s k j → ((nrule j).1 == s && Gm.does (nrule j) k) = false := fun j hj hn => by
    by_cases e : (nrule j).1 = s
    · cases hd : Gm.does (nrule j) k with
      | false => simp
      | true => exact absurd ⟨e, hd⟩ hn
    · have : ((nrule j).1 == s) = false := by simpa using e
      rw [this]; rfl
  have hl : Gm.rules.length = 74 := by decide +kernel
  have hat : ∀ j (hj : j < Gm.rules.length), Gm.rules[j] = nrule j := fun j hj => by
    unfold nrule
    rw [List.getD_eq_getElem?_getD, List.getElem?_eq_getElem hj]; rfl
  rcases h with ⟨h1, h2, h3⟩ | ⟨h1, m, hm, h2, h3, h4⟩
  · refine ⟨by omega, ?_⟩
    have : Gm.choose s k = none := by
      unfold Gm.choose
      rw [List.findIdx?_eq_none_iff]
      intro r hr
      obtain ⟨j, hj, e⟩ := List.getElem_of_mem hr
      rw [← e, hat j hj]
      exact hp j (by omega) (h3 j (by omega))
    rw [this, h2]; rfl
  · refine ⟨by omega, ?_⟩
    have : Gm.choose s k = some m := by
      unfold Gm.choose
      rw [List.findIdx?_eq_some_iff_getElem]
      refine ⟨by omega, ?_, fun j hj => ?_⟩
      · rw [hat m (by omega), h3.2]
        simp [h3.1]
      · rw [hat j (by omega), hp j (by omega) (h4 j hj)]
        simp
    rw [this, h2]; rfl
end Go.Proofs.Ytlliokmcfmcigaa.GR
