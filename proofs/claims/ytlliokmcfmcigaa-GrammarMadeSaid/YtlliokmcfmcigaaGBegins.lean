/- grammar's known.begins, known.does, walked. -/
import Derived.Test.YtlliokmcfmcigaaGReadyW
import Derived.Laws.BitsAllLaws
namespace Go.Proofs.Ytlliokmcfmcigaa.GR
open Go.RowKit Go.Proofs.YtlliokmcfmcigaaW.PrintWords Go.Proofs.YtlliokmcfmcigaaW.PrintLast Go.Proofs.YtlliokmcfmcigaaW.PrintMore
set_option linter.unusedVariables false
set_option linter.unusedSimpArgs false
theorem IsKnown.first {w : World} {g r : Nat} {B : Nat → Nat} (h : IsKnown w g r B) (s : Nat) (hs : s < 256) : w.cell? ⟨g, 1 + s, none⟩ = some (.int .u64 (Int.ofNat (Gm.first s))) := (blk_cell h.cells _).trans (known_first _ _ _ _ hs)
theorem IsKnown.follow {w : World} {g r : Nat} {B : Nat → Nat} (h : IsKnown w g r B) (s : Nat) (hs : s < 256) : w.cell? ⟨g, 257 + s, none⟩ = some (.int .u64 (Int.ofNat (Gm.follow s))) := (blk_cell h.cells _).trans (known_follow _ _ _ _ hs)
theorem IsKnown.empty {w : World} {g r : Nat} {B : Nat → Nat} (h : IsKnown w g r B) (s : Nat) (hs : s < 256) : w.cell? ⟨g, 513 + s, none⟩ = some (.bool (Gm.empty s)) := (blk_cell h.cells _).trans (known_empty _ _ _ _ hs)
theorem IsKnown.part {w : World} {g r : Nat} {B : Nat → Nat} (h : IsKnown w g r B) (s : Nat) (hs : s < 256) : w.cell? ⟨g, 769 + s, none⟩ = some (.bool (Gm.part s)) := (blk_cell h.cells _).trans (known_part _ _ _ _ hs)
theorem IsKnown.tab {w : World} {g r : Nat} {B : Nat → Nat} (h : IsKnown w g r B) : w.cell? ⟨g, 0, none⟩ = some (.slice (some ⟨r, 0, none⟩) 74 74) := by
  rw [blk_cell h.cells]
  unfold knownCells
  rw [List.getElem?_toArray, List.getElem?_cons_zero]
theorem sym_lt (n : Nat) (hn : n < 74) (j : Nat) : (nrule n).2.getD j 0 < 256 := by
  have : (List.range 74).all (fun n => (nrule n).2.all (fun s => decide (s < 256))) = true := by decide +kernel
  have := List.all_eq_true.1 this n (by simpa using hn)
  by_cases hj : j < (nrule n).2.length
  · rw [List.getD_eq_getElem?_getD, List.getElem?_eq_getElem hj]
    simpa using List.all_eq_true.1 this _ (List.getElem_mem hj)
  · rw [List.getD_eq_getElem?_getD, List.getElem?_eq_none (by omega)]; decide
theorem first_lt (s : Nat) (hs : s < 256) : Gm.first s < 2 ^ 41 := by
  have : (List.range 256).all (fun s => decide (Gm.first s < 2 ^ 41)) = true := by decide +kernel
  simpa using List.all_eq_true.1 this s (by simpa using hs)
theorem or_u64 (a b : Nat) (ha : a < 2 ^ 41) (hb : b < 2 ^ 41) : bits .or .u64 (Int.ofNat a) (Int.ofNat b) = Int.ofNat (a ||| b) := u64_or_nat a b (by omega) (by omega)
theorem bget (l : List Nat) (k : Nat) (h : k < l.length) : l.drop k = l.getD k 0 :: l.drop (k + 1) := by
  rw [List.getD_eq_getElem?_getD, List.getElem?_eq_getElem h, List.drop_eq_getElem_cons h]; rfl
set_option maxHeartbeats 1000000 in
theorem begins_any (w : World) (g r : Nat) (B : Nat → Nat) (h : IsKnown w g r B) (n : Nat) (hn : n < 74) :
    Calls Try.prog 49 #[.pointer (some ⟨g, 0, none⟩), .slice (some ⟨B n, 0, none⟩) (nrule n).2.length (nrule n).2.length] w fun e w' => e = .returned (.tuple #[.int .u64 (Int.ofNat (Gm.begins (nrule n).2).1), .bool (Gm.begins (nrule n).2).2]) ∧ w = w' := by
  have HK := Aside0.mk h
  clear h
  have hlen : (nrule n).2.length ≤ 9223372036854775807 := by
    have : (List.range 74).all (fun n => decide ((nrule n).2.length ≤ 5)) = true := by decide +kernel
    have := List.all_eq_true.1 this n (by simpa using hn)
    simp at this; omega
  go_enter Try.func49, Try.ntmps49
  go_wp2
  go_loop [6, 11] (fun o i => ∃ (k : Nat) (o' : Nat), k ≤ (nrule n).2.length ∧ i = .int .i64 k ∧ o = .int .u64 (Int.ofNat o') ∧ o' < 2 ^ 41 ∧ Aside0 (Gm.begins (nrule n).2 = (o' ||| (Gm.begins ((nrule n).2.drop k)).1, (Gm.begins ((nrule n).2.drop k)).2))) (fun _ i => (nrule n).2.length - (intOf i).toNat)
  case atStart => exact ⟨0, 0, by omega, rfl, rfl, by decide, ⟨by simp⟩⟩
  case round =>
    obtain ⟨k, o', hk, rfl, rfl, ho, HB⟩ := hrel
    by_cases hlt : k < (nrule n).2.length
    · have hc := HK.out.rules.sym n hn k hlt
      have hs := sym_lt n hn k
      have hc1 := HK.out.first _ hs
      have hc2 := HK.out.empty _ hs
      have HG := Aside0.mk (bget (nrule n).2 k hlt)
      have HF := Aside0.mk (first_lt _ hs)
      generalize hn : (nrule n).2.getD k 0 = s at *
      clear hn
      by_cases he : Gm.empty s = true
      · go_wp2
        go_round
        case rel =>
          refine ⟨k + 1, o' ||| Gm.first s, by omega, by go_num, by rw [← or_u64 o' _ ho HF.out]; rfl, Nat.or_lt_two_pow ho HF.out, ⟨?_⟩⟩
          rw [HB.out, HG.out]
          simp only [Gm.begins, he, if_true, Nat.or_assoc]
        case measure => simp [intOf]; omega
      · have he' : Gm.empty s = false := by simpa using he
        go_wp2
        refine bodyPost_ret (results_tmp2 rfl _ _ _) rfl ⟨?_, rfl⟩
        rw [HB.out, HG.out]
        simp only [Gm.begins, he', Bool.false_eq_true, if_false]
        show Ending.returned (.tuple #[.int .u64 (bits BinOp.or .u64 (Int.ofNat o') (Int.ofNat (Gm.first s))), .bool false]) = _
        rw [or_u64 o' _ ho HF.out]; rfl
    · obtain rfl : k = (nrule n).2.length := by omega
      go_wp2
      refine bodyPost_ret (results_tmp2 rfl _ _ _) rfl ⟨?_, rfl⟩
      rw [HB.out, List.drop_length]
      simp [Gm.begins]
theorem begins_lt : ∀ l : List Nat, (∀ s, s ∈ l → s < 256) → (Gm.begins l).1 < 2 ^ 41
  | [], _ => by decide
  | s :: l, h => by
    simp only [Gm.begins]
    split
    · exact Nat.or_lt_two_pow (first_lt s (h s List.mem_cons_self)) (begins_lt l (fun x hx => h x (List.mem_cons_of_mem _ hx)))
    · exact first_lt s (h s List.mem_cons_self)
theorem syms_lt (n : Nat) (hn : n < 74) : ∀ s, s ∈ (nrule n).2 → s < 256 := by
  have : (List.range 74).all (fun n => (nrule n).2.all (fun s => decide (s < 256))) = true := by decide +kernel
  have := List.all_eq_true.1 this n (by simpa using hn)
  intro s hs
  simpa using List.all_eq_true.1 this s hs
theorem follow_lt (s : Nat) (hs : s < 256) : Gm.follow s < 2 ^ 41 := by
  have : (List.range 256).all (fun s => decide (Gm.follow s < 2 ^ 41)) = true := by decide +kernel
  simpa using List.all_eq_true.1 this s (by simpa using hs)
theorem bit_u64 (a k : Nat) (h : a < 2 ^ 41) : (bits BinOp.and IntKind.u64 ((a : Int) / 2 ^ k) 1 == 1) = a.testBit k := by
  have e : (a : Int) / 2 ^ k = ((a / 2 ^ k : Nat) : Int) := by rw [Int.natCast_ediv]; simp
  rw [e, show (1 : Int) = ((1 : Nat) : Int) from rfl, u64_and_nat _ _ (by have := Nat.div_le_self a (2 ^ k); omega) (by omega)]
  rw [Nat.testBit, Nat.shiftRight_eq_div_pow, Nat.and_comm 1]
  have h2 : a / 2 ^ k &&& 1 = (a / 2 ^ k) % 2 := Nat.and_one_is_mod _
  rw [h2]
  have := Nat.mod_two_eq_zero_or_one (a / 2 ^ k)
  rcases this with h | h <;> rw [h] <;> rfl
/-- the value of rule n -/
def ruleV (B : Nat → Nat) (n : Nat) : Value := .agg #[.int .u8 (Int.ofNat (nrule n).1), .slice (some ⟨B n, 0, none⟩) (nrule n).2.length (nrule n).2.length]
set_option maxHeartbeats 1000000 in
theorem does_any (w : World) (g r : Nat) (B : Nat → Nat) (h : IsKnown w g r B) (n : Nat) (hn : n < 74) (kind : Nat) (hk : kind < 256) :
    Calls Try.prog 43 #[.pointer (some ⟨g, 0, none⟩), ruleV B n, .int .u8 (Int.ofNat kind)] w fun e w' => e = .returned (.bool (Gm.does (nrule n) kind)) ∧ Below w.heap.size w w' := by
  have HK := Aside0.mk h
  clear h
  have HB := Aside0.mk (begins_lt _ (syms_lt n hn))
  have hs := nrule_lt n
  unfold ruleV
  go_enter Try.func43, Try.ntmps43
  go_wp2_with fail
  refine (begins_any _ g r B (HK.out.below ((Below.refl _ _).alloc (Nat.le_refl _) _)) n hn).mono ?_
  rintro e w' ⟨rfl, rfl⟩
  have hf := HK.out.follow _ hs
  have hgl := blk_lt HK.out.cells
  have hs1 : ((nrule n).1 : Int) < 256 := by omega
  have hs0 : (0 : Int) ≤ ((nrule n).1 : Int) := by omega
  have hq1 := bit_u64 (Gm.begins (nrule n).2).1 kind HB.out
  have hq2 := bit_u64 (Gm.follow (nrule n).1) kind (follow_lt _ hs)
  have HD : Aside0 (Gm.does (nrule n) kind = (decide (kind < 64) && ((decide (0 < kind) && (Gm.begins (nrule n).2).1.testBit kind) || ((Gm.begins (nrule n).2).2 && (Gm.follow (nrule n).1).testBit kind)))) := ⟨rfl⟩
  generalize (Gm.begins (nrule n).2).1.testBit kind = b1 at *
  generalize (Gm.follow (nrule n).1).testBit kind = b2 at *
  generalize (Gm.begins (nrule n).2).2 = b3 at *
  by_cases h64 : kind < 64
  · have hd64 : decide ((kind : Int) < 64) = true := by simp; omega
    by_cases h0 : 0 < kind
    · have hd0 : decide (0 < (kind : Int)) = true := by simp; omega
      cases b1 <;> cases b3 <;> cases b2
      all_goals
        go_wp2
        go_quiet (fail)
        go_wp2
        go_ret
        exact ⟨by rw [HD.out]; simp [h64, h0], pw_below_drewN ((Below.refl _ _).alloc (Nat.le_refl _) _) _⟩
    · have hd0 : decide (0 < (kind : Int)) = false := by simp; omega
      cases b1 <;> cases b3 <;> cases b2
      all_goals
        go_wp2
        go_quiet (fail)
        go_wp2
        go_ret
        exact ⟨by rw [HD.out]; simp [h64, h0], pw_below_drewN ((Below.refl _ _).alloc (Nat.le_refl _) _) _⟩
  · have hd64 : decide ((kind : Int) < 64) = false := by simp; omega
    go_wp2
    go_quiet (fail)
    go_wp2
    go_ret
    exact ⟨by rw [HD.out]; simp [h64], pw_below_drewN ((Below.refl _ _).alloc (Nat.le_refl _) _) _⟩
end Go.Proofs.Ytlliokmcfmcigaa.GR
