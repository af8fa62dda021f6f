/- The reference's parts, turn by turn, as a set of bits; the last turns. No program, no memory. -/
import Derived.Test.YtlliokmcfmcigaaGmFind
namespace Go.Proofs.Ytlliokmcfmcigaa.Gm
set_option linter.unusedVariables false
def partStep (P : Nat) (r : Nat × List Nat) : Nat := P ||| 2 ^ r.1
def partsAt : Nat → Nat
  | 0 => 0
  | n + 1 => rules.foldl partStep (partsAt n)
def partsF : Nat := partsAt 1
set_option maxRecDepth 1000000 in
theorem parts_fix : partsAt (1 + 1) = partsAt 1 := by decide +kernel
theorem parts_more : ∀ k, partsAt (1 + k) = partsF
  | 0 => rfl
  | k + 1 => by
    show rules.foldl partStep (partsAt (1 + k)) = _
    rw [parts_more k]
    exact parts_fix
theorem parts_74 : partsAt 74 = partsF := parts_more 73
set_option maxRecDepth 1000000 in
theorem partsF_bit (s : Nat) (h : s < 256) : partsF.testBit s = part s := by
  have : (List.range 256).all (fun s => decide (partsF.testBit s = part s)) = true := by decide +kernel
  simpa using List.all_eq_true.1 this s (by simpa using h)
def bitAt (n : Nat) : Nat := 2 ^ n
theorem bitAt_bit (n m : Nat) : (bitAt n).testBit m = decide (n = m) := Nat.testBit_two_pow
def behZero : Nat := bitAt (51 * 256)
theorem beh_74 : behTurns stF.2 stF.1 behZero 74 = behF := by unfold behZero bitAt; exact behF_74
theorem or_bit (Z p j : Nat) : (Z ||| 2 ^ p).testBit j = (Z.testBit j || decide (p = j)) := by
  rw [Nat.testBit_or, Nat.testBit_two_pow]
theorem rules_74 : rules.length = 74 := by decide +kernel
theorem drop_rule {i : Nat} (h : i < 74) : rules.drop i = rules.getD i (0, []) :: rules.drop (i + 1) := by
  have hl : i < rules.length := by rw [rules_74]; exact h
  rw [List.drop_eq_getElem_cons hl]
  congr 1
  rw [List.getD_eq_getElem?_getD, List.getElem?_eq_getElem hl]; rfl
end Go.Proofs.Ytlliokmcfmcigaa.Gm
