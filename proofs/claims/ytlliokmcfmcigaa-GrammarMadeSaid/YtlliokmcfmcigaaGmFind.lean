/- The reference's tables of what begins and what follows, as great sets of bits: found turn by turn, and equal to the program's. No program, no memory. -/
import Derived.Test.YtlliokmcfmcigaaGm
namespace Go.Proofs.Ytlliokmcfmcigaa.Gm
set_option linter.unusedVariables false
/-- row p of D takes what row r of N holds -/
def orX (D N p r : Nat) : Nat := D ||| (((N >>> (r * 256)) % 2 ^ 256) <<< (p * 256))
theorem orX_bit (D N : Nat) {p r s k : Nat} (hk : k < 256) : (orX D N p r).testBit (s * 256 + k) = (D.testBit (s * 256 + k) || (decide (s = p) && N.testBit (r * 256 + k))) := by
  unfold orX
  rw [Nat.testBit_or, Nat.testBit_shiftLeft, Nat.testBit_mod_two_pow, Nat.testBit_shiftRight]
  congr 1
  by_cases h : s = p
  · subst h
    rw [show s * 256 + k - s * 256 = k by omega]
    simp [hk]
  · have hd : decide (s = p) = false := by simpa using h
    rw [hd, Bool.false_and]
    by_cases h2 : s * 256 + k ≥ p * 256
    · have : ¬ (s * 256 + k - p * 256 < 256) := by omega
      simp [this]
    · simp [h2]
def begIn (p Z : Nat) : List Nat → Nat → Nat × Bool
  | [], N => (N, true)
  | x :: l, N => if Z.testBit x then begIn p Z l (orX N N p x) else (orX N N p x, false)
/-- one rule: (what begins, what is empty) -/
def ruleStep (st : Nat × Nat) (r : Nat × List Nat) : Nat × Nat :=
  ((begIn r.1 st.2 r.2 st.1).1, if st.2.testBit r.1 || (begIn r.1 st.2 r.2 st.1).2 then st.2 ||| 2 ^ r.1 else st.2)
def ruleTurn (st : Nat × Nat) : Nat × Nat := rules.foldl ruleStep st
def turnsOf (st : Nat × Nat) : Nat → Nat × Nat
  | 0 => st
  | n + 1 => ruleTurn (turnsOf st n)
def begZero : Nat := (List.range 41).foldl (fun N s => if s = 0 then N else N ||| 2 ^ (s * 256 + s)) 0
def behIn (Z N x : Nat) : List Nat → Nat → Nat × Bool
  | [], D => (D, true)
  | y :: l, D => if Z.testBit y then behIn Z N x l (orX D N x y) else (orX D N x y, false)
def behRow (Z N part : Nat) : List Nat → Nat → Nat
  | [], D => D
  | x :: l, D => behRow Z N part l (if (behIn Z N x l D).2 then orX (behIn Z N x l D).1 (behIn Z N x l D).1 x part else (behIn Z N x l D).1)
def behStep (Z N : Nat) (D : Nat) (r : Nat × List Nat) : Nat := behRow Z N r.1 r.2 D
def behTurn (Z N D : Nat) : Nat := rules.foldl (behStep Z N) D
def behTurns (Z N D : Nat) : Nat → Nat
  | 0 => D
  | n + 1 => behTurn Z N (behTurns Z N D n)
theorem turns_fix {st : Nat × Nat} {n : Nat} (h : turnsOf st (n + 1) = turnsOf st n) : ∀ k, turnsOf st (n + k) = turnsOf st n
  | 0 => rfl
  | k + 1 => by
    show ruleTurn (turnsOf st (n + k)) = _
    rw [turns_fix h k]
    exact h
theorem beh_fix {Z N D : Nat} {n : Nat} (h : behTurns Z N D (n + 1) = behTurns Z N D n) : ∀ k, behTurns Z N D (n + k) = behTurns Z N D n
  | 0 => rfl
  | k + 1 => by
    show behTurn Z N (behTurns Z N D (n + k)) = _
    rw [beh_fix h k]
    exact h
def stF : Nat × Nat := turnsOf (begZero, 0) 14
def behF : Nat := behTurns stF.2 stF.1 (2 ^ (51 * 256)) 2
set_option maxRecDepth 1000000 in
theorem stF_fix : turnsOf (begZero, 0) (14 + 1) = turnsOf (begZero, 0) 14 := by decide +kernel
set_option maxRecDepth 1000000 in
theorem behF_fix : behTurns stF.2 stF.1 (2 ^ (51 * 256)) (2 + 1) = behTurns stF.2 stF.1 (2 ^ (51 * 256)) 2 := by decide +kernel
theorem stF_74 : turnsOf (begZero, 0) 74 = stF := turns_fix stF_fix 60
theorem behF_74 : behTurns stF.2 stF.1 (2 ^ (51 * 256)) 74 = behF := beh_fix behF_fix 72
set_option maxRecDepth 1000000 in
theorem stF_first (s : Nat) (h : s < 256) : (stF.1 >>> (s * 256)) % 2 ^ 256 = first s := by
  have : (List.range 256).all (fun s => decide ((stF.1 >>> (s * 256)) % 2 ^ 256 = first s)) = true := by decide +kernel
  simpa using List.all_eq_true.1 this s (by simpa using h)
set_option maxRecDepth 1000000 in
theorem stF_empty (s : Nat) (h : s < 256) : stF.2.testBit s = empty s := by
  have : (List.range 256).all (fun s => decide (stF.2.testBit s = empty s)) = true := by decide +kernel
  simpa using List.all_eq_true.1 this s (by simpa using h)
set_option maxRecDepth 1000000 in
theorem behF_follow (s : Nat) (h : s < 256) (hp : part s = true) : (behF >>> (s * 256)) % 2 ^ 256 = follow s := by
  have : (List.range 256).all (fun s => !part s || decide ((behF >>> (s * 256)) % 2 ^ 256 = follow s)) = true := by decide +kernel
  have := List.all_eq_true.1 this s (by simpa using h)
  rw [hp] at this
  simpa using this
theorem stF_bit {s k : Nat} (hs : s < 256) (hk : k < 256) : stF.1.testBit (s * 256 + k) = (first s).testBit k := by
  rw [← stF_first s hs, Nat.testBit_mod_two_pow, Nat.testBit_shiftRight]
  simp [hk]
theorem behF_bit {s k : Nat} (hs : s < 256) (hk : k < 256) (hp : part s = true) : behF.testBit (s * 256 + k) = (follow s).testBit k := by
  rw [← behF_follow s hs hp, Nat.testBit_mod_two_pow, Nat.testBit_shiftRight]
  simp [hk]
theorem begZero_bit {s k : Nat} (hs : s < 256) (hk : k < 256) : begZero.testBit (s * 256 + k) = (decide (s = k) && (decide (0 < s) && decide (s ≤ 40))) := by
  have : (List.range 256).all (fun s => decide ((begZero >>> (s * 256)) % 2 ^ 256 = if 0 < s ∧ s ≤ 40 then 2 ^ s else 0)) = true := by decide +kernel
  have h := List.all_eq_true.1 this s (by simpa using hs)
  have h : (begZero >>> (s * 256)) % 2 ^ 256 = if 0 < s ∧ s ≤ 40 then 2 ^ s else 0 := by simpa using h
  have e : begZero.testBit (s * 256 + k) = ((begZero >>> (s * 256)) % 2 ^ 256).testBit k := by
    rw [Nat.testBit_mod_two_pow, Nat.testBit_shiftRight]; simp [hk]
  rw [e, h]
  by_cases hc : 0 < s ∧ s ≤ 40
  · rw [if_pos hc, Nat.testBit_two_pow]; simp [hc]
  · rw [if_neg hc, Nat.zero_testBit]
    by_cases h1 : 0 < s
    · by_cases h2 : s ≤ 40
      · exact absurd ⟨h1, h2⟩ hc
      · simp [h2]
    · simp [h1]
end Go.Proofs.Ytlliokmcfmcigaa.Gm
