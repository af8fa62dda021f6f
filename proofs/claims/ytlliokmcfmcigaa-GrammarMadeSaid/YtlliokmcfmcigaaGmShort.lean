/- short of the law, over numbers: a table of 256 numbers below 65536, in one great number. -/
import Derived.Test.YtlliokmcfmcigaaGmMade
namespace Go.Proofs.Ytlliokmcfmcigaa.Gm
set_option linter.unusedVariables false
def getT (T s : Nat) : Nat := (T >>> (s * 16)) % 2 ^ 16
def setT (T s v : Nat) : Nat := T ^^^ ((getT T s ^^^ v) <<< (s * 16))
theorem getT_lt (T s : Nat) : getT T s < 2 ^ 16 := Nat.mod_lt _ (by decide)
theorem getT_bit (T s b : Nat) : (getT T s).testBit b = (decide (b < 16) && T.testBit (s * 16 + b)) := by
  unfold getT
  rw [Nat.testBit_mod_two_pow, Nat.testBit_shiftRight]
theorem get_set (T s v j : Nat) (hv : v < 2 ^ 16) : getT (setT T s v) j = if j = s then v else getT T j := by
  refine Nat.eq_of_testBit_eq (fun b => ?_)
  rw [getT_bit]
  by_cases hb : b < 16
  · unfold setT
    rw [Nat.testBit_xor, Nat.testBit_shiftLeft, Nat.testBit_xor, getT_bit]
    by_cases e : j = s
    · subst e
      rw [if_pos rfl, show j * 16 + b - j * 16 = b by omega]
      simp only [hb, decide_true, Bool.true_and]
      have : decide (j * 16 + b ≥ j * 16) = true := by simp
      rw [this, Bool.true_and]
      cases T.testBit (j * 16 + b) <;> cases v.testBit b <;> rfl
    · rw [if_neg e, getT_bit]
      simp only [hb, decide_true, Bool.true_and]
      by_cases h : j * 16 + b ≥ s * 16
      · have h2 : ¬ (j * 16 + b - s * 16 < 16) := by omega
        have h3 : v.testBit (j * 16 + b - s * 16) = false := Nat.testBit_lt_two_pow (Nat.lt_of_lt_of_le hv (Nat.pow_le_pow_right (by decide) (by omega)))
        simp [h2, h3]
      · have : decide (j * 16 + b ≥ s * 16) = false := by simpa using h
        rw [this]; simp
  · have h1 : (if j = s then v else getT T j) < 2 ^ 16 := by
      split
      · exact hv
      · exact getT_lt _ _
    rw [Nat.testBit_lt_two_pow (Nat.lt_of_lt_of_le h1 (Nat.pow_le_pow_right (by decide) (by omega)))]
    simp [hb]
def sumT (T : Nat) : List Nat → Nat → Nat
  | [], n => n
  | x :: l, n => sumT T l (min (n + getT T x) 1000)
theorem sumT_le (T : Nat) : ∀ (l : List Nat) (n : Nat), n ≤ 1000 → sumT T l n ≤ 1000
  | [], n, h => h
  | x :: l, n, h => sumT_le T l _ (by omega)
def shortStep (T : Nat) (r : Nat × List Nat) : Nat := setT T r.1 (min (getT T r.1) (sumT T r.2 0))
def shortZero : Nat := (List.range 256).foldl (fun T s => T ||| ((if s < 41 then 1 else 1000) <<< (s * 16))) 0
def shortTurns : Nat → Nat
  | 0 => shortZero
  | n + 1 => rules.foldl shortStep (shortTurns n)
set_option maxRecDepth 1000000 in
theorem short_fix : shortTurns (12 + 1) = shortTurns 12 := by decide +kernel
theorem short_more : ∀ k, shortTurns (12 + k) = shortTurns 12
  | 0 => rfl
  | k + 1 => by
    show rules.foldl shortStep (shortTurns (12 + k)) = _
    rw [short_more k]
    exact short_fix
set_option maxRecDepth 1000000 in
theorem short_least (s : Nat) (h : s < 256) : getT (shortTurns 74) s = least s := by
  rw [show shortTurns 74 = shortTurns 12 from short_more 62]
  have : (List.range 256).all (fun s => decide (getT (shortTurns 12) s = least s)) = true := by decide +kernel
  simpa using List.all_eq_true.1 this s (by simpa using h)
set_option maxRecDepth 1000000 in
theorem short_zero (s : Nat) (h : s < 256) : getT shortZero s = if s < 41 then 1 else 1000 := by
  have : (List.range 256).all (fun s => decide (getT shortZero s = if s < 41 then 1 else 1000)) = true := by decide +kernel
  simpa using List.all_eq_true.1 this s (by simpa using h)
theorem rules_len : rules.length = 74 := by decide +kernel
theorem drop_rule' {i : Nat} (h : i < 74) : rules.drop i = rules.getD i (0, []) :: rules.drop (i + 1) := by
  have hl : i < rules.length := by rw [rules_len]; exact h
  rw [List.drop_eq_getElem_cons hl]
  congr 1
  rw [List.getD_eq_getElem?_getD, List.getElem?_eq_getElem hl]; rfl
end Go.Proofs.Ytlliokmcfmcigaa.Gm
