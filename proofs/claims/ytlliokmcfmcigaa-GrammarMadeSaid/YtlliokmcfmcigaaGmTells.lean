/- What the reference tells out of its tables is what the program tells. No memory. -/
import Derived.Test.YtlliokmcfmcigaaGmParts
import Derived.Test.YtlliokmcfmcigaaGProg
namespace Go.Proofs.Ytlliokmcfmcigaa.GR
open Go.RowKit Go.Proofs.YtlliokmcfmcigaaW.PrintWords Go.Proofs.YtlliokmcfmcigaaW.PrintLast Go.Proofs.YtlliokmcfmcigaaW.PrintMore
set_option linter.unusedVariables false
set_option linter.unusedSimpArgs false
theorem in_from (l : List Int) (a : Int) (hl : l.length ≤ 1000) : ∀ (d j : Nat), j + d = l.length → PGrammarTells.glossatorref14_in.l0 (d + 1) l a (j : Int) = some ((l.drop j).contains a)
  | 0, j, h => by
    unfold PGrammarTells.glossatorref14_in.l0
    rw [if_neg (by omega), List.drop_eq_nil_of_le (by omega)]; rfl
  | d + 1, j, h => by
    unfold PGrammarTells.glossatorref14_in.l0
    rw [if_pos (by omega), if_pos (by omega)]
    have hw : wrap64 ((j : Int) + 1) = ((j + 1 : Nat) : Int) := by unfold wrap64; omega
    have hj : j < l.length := by omega
    have hr : rd l (j : Int) = l[j] := by
      unfold rd
      simp [hj]
    rw [hw, in_from l a hl d (j + 1) (by omega), hr, List.drop_eq_getElem_cons hj, List.contains_cons]
    by_cases e : l[j] = a
    · rw [if_pos e, e]; simp
    · rw [if_neg e]
      have : (a == l[j]) = false := by simp; exact fun x => e x.symm
      rw [this]; rfl
theorem in_says (l : List Int) (a : Int) (hl : l.length ≤ 1000) : PGrammarTells.glossatorref14_in.f (l.length + 1) l a = some (l.contains a) := by
  have := in_from l a hl l.length 0 (by omega)
  simpa [PGrammarTells.glossatorref14_in.f] using this
theorem told_from (f : Nat → Bool) : ∀ (d j : Nat) (acc : List Int), j + d = 256 → acc.length ≤ j → PGrammarTells.glossatorref14_told.l0 (d + 1) ((List.range 256).map f) acc (j : Int) = some (acc ++ ((List.range' j d).filter f).map Int.ofNat)
  | 0, j, acc, h, ha => by
    unfold PGrammarTells.glossatorref14_told.l0
    rw [if_neg (by simp; omega)]
    simp
  | d + 1, j, acc, h, ha => by
    unfold PGrammarTells.glossatorref14_told.l0
    rw [if_pos (by simp; omega), if_pos (by omega)]
    have hw : wrap64 ((j : Int) + 1) = ((j + 1 : Nat) : Int) := by unfold wrap64; omega
    have hr : rdOf false ((List.range 256).map f) (j : Int) = f j := by
      unfold rdOf
      rw [Int.toNat_natCast, List.getD_eq_getElem?_getD, List.getElem?_map, List.getElem?_range (by omega)]; rfl
    rw [hw, hr, List.range'_succ]
    cases hf : f j with
    | true =>
      rw [if_pos rfl, if_pos (by omega), told_from f d (j + 1) _ (by omega) (by simp; omega), List.filter_cons, if_pos hf]
      have : (j : Int) % 256 = (j : Int) := by omega
      rw [this]
      simp
    | false =>
      rw [if_neg (by simp), told_from f d (j + 1) _ (by omega) (by omega), List.filter_cons, if_neg (by simp [hf])]
theorem kinds_all (m : Nat) (hm : m < 2 ^ 64) : (List.range' 0 256).filter (fun k => m.testBit k) = kindsOf m := by
  have e : List.range' 0 256 = List.range 64 ++ List.range' 64 192 := by decide +kernel
  rw [e, List.filter_append, show (List.range' 64 192).filter (fun k => m.testBit k) = [] from List.filter_eq_nil_iff.2 (fun k hk => by
    have hk : 64 ≤ k := by simp [List.mem_range'] at hk; omega
    rw [Nat.testBit_lt_two_pow (Nat.lt_of_lt_of_le hm (Nat.pow_le_pow_right (by omega) hk))]; simp), List.append_nil]
  rfl
theorem told_says (m : Nat) (hm : m < 2 ^ 64) : PGrammarTells.glossatorref14_told.f 257 ((List.range 256).map (fun k => m.testBit k)) = some ((kindsOf m).map Int.ofNat) := by
  have := told_from (fun k => m.testBit k) 256 0 [] (by omega) (by simp)
  rw [kinds_all m hm] at this
  simpa [PGrammarTells.glossatorref14_told.f] using this
set_option maxRecDepth 100000 in
theorem state_same (k : Nat) (hk : k < 256) : ∃ r, PGrammarTells.grammar_Statement.f (Int.ofNat k) = some r ∧ PGrammarTells.glossatorref14_Statement.f 20 (Int.ofNat k) = some r := by
  have : (List.range 256).all (fun k => (PGrammarTells.grammar_Statement.f (Int.ofNat k)).isSome && decide (PGrammarTells.grammar_Statement.f (Int.ofNat k) = PGrammarTells.glossatorref14_Statement.f 20 (Int.ofNat k))) = true := by decide +kernel
  have := List.all_eq_true.1 this k (by simpa using hk)
  simp only [Bool.and_eq_true, decide_eq_true_eq] at this
  obtain ⟨r, hr⟩ := Option.isSome_iff_exists.1 this.1
  exact ⟨r, hr, by rw [← this.2]; exact hr⟩
set_option maxRecDepth 100000 in
theorem level_same (k : Nat) (hk : k < 256) : ∃ r, PGrammarTells.grammar_Level.f 20 (Int.ofNat k) = some r ∧ PGrammarTells.glossatorref14_Level.f 30 (Int.ofNat k) = some r := by
  have : (List.range 256).all (fun k => (PGrammarTells.grammar_Level.f 20 (Int.ofNat k)).isSome && decide (PGrammarTells.grammar_Level.f 20 (Int.ofNat k) = PGrammarTells.glossatorref14_Level.f 30 (Int.ofNat k))) = true := by decide +kernel
  have := List.all_eq_true.1 this k (by simpa using hk)
  simp only [Bool.and_eq_true, decide_eq_true_eq] at this
  obtain ⟨r, hr⟩ := Option.isSome_iff_exists.1 this.1
  exact ⟨r, hr, by rw [← this.2]; exact hr⟩
set_option maxRecDepth 100000 in
theorem first_zero (s : Nat) (hs : s < 256) : (Gm.first s).testBit 0 = false := by
  have : (List.range 256).all (fun s => !(Gm.first s).testBit 0) = true := by decide +kernel
  simpa using List.all_eq_true.1 this s (by simpa using hs)
set_option maxRecDepth 100000 in
theorem follow_64 (s : Nat) (hs : s < 256) : Gm.follow s < 2 ^ 64 := by
  have : (List.range 256).all (fun s => decide (Gm.follow s < 2 ^ 64)) = true := by decide +kernel
  simpa using List.all_eq_true.1 this s (by simpa using hs)
set_option maxRecDepth 100000 in
theorem first_64 (s : Nat) (hs : s < 256) : Gm.first s < 2 ^ 64 := by
  have : (List.range 256).all (fun s => decide (Gm.first s < 2 ^ 64)) = true := by decide +kernel
  simpa using List.all_eq_true.1 this s (by simpa using hs)
theorem begs_in (s k : Nat) (hs : s < 256) : ((firstL s).map Int.ofNat).contains (Int.ofNat k) = begs s k := by
  rw [Bool.eq_iff_iff, List.contains_iff_mem, List.mem_map]
  unfold firstL begs
  by_cases hp : Gm.part s = true
  · rw [if_pos hp, hp]
    simp only [kindsOf, List.mem_filter, List.mem_range, Bool.true_and, Bool.and_eq_true, decide_eq_true_eq]
    constructor
    · rintro ⟨x, ⟨h1, h2⟩, h3⟩
      have h3 : x = k := Int.ofNat.inj h3
      subst h3
      refine ⟨?_, h1, h2⟩
      rcases Nat.eq_zero_or_pos x with e | e
      · rw [e, first_zero s hs] at h2; cases h2
      · exact e
    · rintro ⟨h1, h2, h3⟩
      exact ⟨k, ⟨h2, h3⟩, rfl⟩
  · have hp' : Gm.part s = false := by simpa using hp
    rw [if_neg hp, hp']
    simp
theorem kinds_len (m : Nat) : (kindsOf m).length ≤ 64 := by
  have := List.length_filter_le (fun k => m.testBit k) (List.range 64)
  simpa [kindsOf] using this
theorem firstL_len (s : Nat) : (firstL s).length ≤ 64 := by
  unfold firstL
  split
  · exact kinds_len _
  · simp
theorem followL_len (s : Nat) : (followL s).length ≤ 64 := by
  unfold followL
  split
  · exact kinds_len _
  · simp
/-- would a rule do, as the reference asks it? -/
def wouldRow (part kind : Nat) : List Nat → Bool
  | [] => (Gm.follow part).testBit kind
  | x :: l => if decide (0 < kind) && (Gm.first x).testBit kind then true else if Gm.empty x then wouldRow part kind l else false
theorem would_does (p k : Nat) (hp : p < 256) (l : List Nat) (hl : ∀ x ∈ l, x < 256) : wouldRow p k l = (decide (k < 64) && (decide (0 < k) && (Gm.begins l).1.testBit k || (Gm.begins l).2 && (Gm.follow p).testBit k)) := by
  induction l with
  | nil =>
    unfold wouldRow Gm.begins
    by_cases h : k < 64
    · simp [h]
    · have := Nat.testBit_lt_two_pow (x := Gm.follow p) (i := k) (Nat.lt_of_lt_of_le (follow_64 p hp) (Nat.pow_le_pow_right (by omega) (by omega)))
      simp [h, this]
  | cons x l ih =>
    have ih := ih (fun y hy => hl y (List.mem_cons_of_mem _ hy))
    unfold wouldRow Gm.begins
    have hx := hl x List.mem_cons_self
    by_cases h : k < 64
    · rw [ih]
      cases hb : (Gm.first x).testBit k <;> cases he : Gm.empty x <;> by_cases h0 : 0 < k <;> simp [h, hb, he, h0, Nat.testBit_or]
    · have := Nat.testBit_lt_two_pow (x := Gm.first x) (i := k) (Nat.lt_of_lt_of_le (first_64 x hx) (Nat.pow_le_pow_right (by omega) (by omega)))
      rw [ih]
      simp [h, this]
end Go.Proofs.Ytlliokmcfmcigaa.GR
