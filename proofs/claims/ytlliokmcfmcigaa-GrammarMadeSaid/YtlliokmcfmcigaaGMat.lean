/- Rows of truths in memory, and the reference's add. -/
import Derived.Test.YtlliokmcfmcigaaGRefRules
import Derived.Test.YtlliokmcfmcigaaGmRef
import Derived.Test.YtlliokmcfmcigaaGAccepts
namespace Go.Proofs.Ytlliokmcfmcigaa.GR
open Go.RowKit Go.Proofs.YtlliokmcfmcigaaW.PrintWords Go.Proofs.YtlliokmcfmcigaaW.PrintLast Go.Proofs.YtlliokmcfmcigaaW.PrintMore
set_option linter.unusedVariables false
set_option linter.unusedSimpArgs false
def boolRow (f : Nat → Bool) (n : Nat) : Array Value := ((List.range n).map (fun j => Value.bool (f j))).toArray
theorem boolRow_size (f : Nat → Bool) (n : Nat) : (boolRow f n).size = n := by simp [boolRow]
theorem boolRow_at (f : Nat → Bool) (n j : Nat) (h : j < n) : (boolRow f n)[j]? = some (.bool (f j)) := by simp [boolRow, h]
theorem boolRow_congr {f g : Nat → Bool} {n : Nat} (h : ∀ j, j < n → f j = g j) : boolRow f n = boolRow g n := by
  unfold boolRow
  congr 1
  apply List.map_congr_left
  intro j hj
  rw [h j (by simpa using hj)]
theorem boolRow_set (f : Nat → Bool) (n i : Nat) (v : Bool) : (boolRow f n).setIfInBounds i (.bool v) = boolRow (fun j => if j = i then v else f j) n := by
  apply Array.ext
  · simp [boolRow]
  · intro j h1 h2
    simp only [boolRow, List.setIfInBounds_toArray, List.getElem_toArray, List.getElem_set, List.getElem_map, List.getElem_range]
    by_cases h : i = j
    · rw [if_pos h, if_pos h.symm]
    · rw [if_neg h, if_neg (fun e => h e.symm)]
theorem boolRow_new (n : Nat) : Array.replicate n (Value.bool false) = boolRow (fun _ => false) n := by
  apply Array.ext
  · simp [boolRow]
  · intro j h1 h2
    simp [boolRow]
theorem made_row (z : Value) (m : Nat) : madeCells #[z] m = Array.replicate m z := by
  apply Array.ext
  · simp [madeCells]
  · intro i h1 h2
    simp [madeCells, Nat.mod_one]
/-- Nothing but block A has turned. -/
structure Only (A : Nat) (w w' : World) : Prop where
  os : w'.os = w.os
  tape : w'.tape = w.tape
  output : w'.output = w.output
  size : w'.heap.size = w.heap.size
  block : ∀ k, k ≠ A → w'.heap[k]? = w.heap[k]?
theorem Only.refl (A : Nat) (w : World) : Only A w w := ⟨rfl, rfl, rfl, rfl, fun _ _ => rfl⟩
theorem Only.set {A : Nat} {w w' : World} (h : Only A w w') (j : Nat) (v : Value) : Only A w (w'.setCell ⟨A, j, none⟩ v) := by
  have hb := (Below.refl 0 w').setCell (p := ⟨A, j, none⟩) (Nat.zero_le _) v
  refine ⟨hb.os.trans h.os, hb.tape.trans h.tape, hb.output.trans h.output, ?_, fun k hk => (Below.heap_setCell w' ⟨A, j, none⟩ v k hk).trans (h.block k hk)⟩
  rw [← h.size]
  exact World.size_setCell _ _ _
theorem Only.below {A m : Nat} {w w' : World} (h : Only A w w') (hm : m ≤ A) : Below m w w' := ⟨h.os, h.tape, h.output, by rw [h.size]; exact Nat.le_refl _, fun k hk => h.block k (by omega)⟩
set_option maxHeartbeats 1000000 in
theorem add_any (w : World) (A B n : Nat) (f g : Nat → Bool) (hA : w.heap[A]? = some (.cells (boolRow f n) 4 (0, 0))) (hB : w.heap[B]? = some (.cells (boolRow g n) 4 (0, 0))) (hne : A ≠ B) (hn : n ≤ 100000) :
    Calls Try.prog 36 #[.slice (some ⟨A, 0, none⟩) n n, .slice (some ⟨B, 0, none⟩) n n] w fun e w' => e = .returned (.tuple #[]) ∧ w'.heap[A]? = some (.cells (boolRow (fun j => f j || g j) n) 4 (0, 0)) ∧ Only A w w' := by
  have HA := Aside0.mk hA
  have HB := Aside0.mk hB
  clear hA hB
  go_enter Try.func36, Try.ntmps36
  go_wp2
  go_loopw [4] (fun i wr => ∃ k : Nat, k ≤ n ∧ i = .int .i64 k ∧ Aside0 (∃ h : Nat → Bool, wr.heap[A]? = some (.cells (boolRow h n) 4 (0, 0)) ∧ ∀ j, h j = if j < k then f j || g j else f j) ∧ Aside0 (Only A w wr)) (fun i _ => n - (intOf i).toNat)
  case atStart => exact ⟨0, by omega, rfl, ⟨_, HA.out, fun j => by simp⟩, ⟨Only.refl _ _⟩⟩
  case round =>
    obtain ⟨k, hk, rfl, HH, HO⟩ := hrel
    by_cases hlt : k < n
    · obtain ⟨h, hh, hj⟩ := HH.out
      have hd : decide ((k : Int) < (n : Int)) = true := by simp; omega
      have hca : wr.cell? ⟨A, k, none⟩ = some (.bool (h k)) := (blk_cell hh k).trans (boolRow_at _ _ _ hlt)
      have hcb : wr.cell? ⟨B, k, none⟩ = some (.bool (g k)) := (blk_cell ((HO.out.block B hne.symm).trans HB.out) k).trans (boolRow_at _ _ _ hlt)
      have hfz := blk_frozen hh k
      have hk0 : (0 : Int) ≤ (k : Int) := by omega
      have hk1 : (k : Int) < (n : Int) := by omega
      have HN : Aside0 (∀ v, (wr.setCell ⟨A, k, none⟩ (.bool v)).heap[A]? = some (.cells (boolRow (fun j => if j = k then v else h j) n) 4 (0, 0))) := ⟨fun v => by rw [blk_set hh, boolRow_set]⟩
      have HJ := Aside0.mk hj
      clear hh HH hj
      cases hv : h k with
      | true =>
        have HV := Aside0.mk hv
        rw [hv] at hca
        clear hv
        go_wp2
        go_roundw
        case rel =>
          refine ⟨k + 1, by omega, by go_num, ⟨_, HN.out true, fun j => ?_⟩, ⟨HO.out.set _ _⟩⟩
          by_cases e : j = k
          · subst e
            have := HJ.out j
            rw [if_neg (by omega)] at this
            rw [if_pos rfl, if_pos (by omega), ← this, HV.out]; rfl
          · rw [if_neg e, HJ.out j]
            by_cases e2 : j < k
            · rw [if_pos e2, if_pos (by omega)]
            · rw [if_neg e2, if_neg (by omega)]
        case measure => simp [intOf]; omega
      | false =>
        have HV := Aside0.mk hv
        rw [hv] at hca
        clear hv
        go_wp2
        go_roundw
        case rel =>
          refine ⟨k + 1, by omega, by go_num, ⟨_, HN.out (g k), fun j => ?_⟩, ⟨HO.out.set _ _⟩⟩
          by_cases e : j = k
          · subst e
            have := HJ.out j
            rw [if_neg (by omega)] at this
            rw [if_pos rfl, if_pos (by omega), ← this, HV.out]; rfl
          · rw [if_neg e, HJ.out j]
            by_cases e2 : j < k
            · rw [if_pos e2, if_pos (by omega)]
            · rw [if_neg e2, if_neg (by omega)]
        case measure => simp [intOf]; omega
    · have hd : decide ((k : Int) < (n : Int)) = false := by simp; omega
      go_wp2
      refine bodyPost_end (v := .tuple #[]) (by first | rfl | simp [results, Try.results36, go_sem]) rfl ?_
      obtain ⟨h, hh, hj⟩ := HH.out
      refine ⟨rfl, ?_, HO.out⟩
      rw [hh, boolRow_congr (g := fun j => f j || g j)]
      intro j hj2
      rw [hj j, if_pos (by omega)]
theorem boolRow_inj {f g : Nat → Bool} {n : Nat} (h : boolRow f n = boolRow g n) (j : Nat) (hj : j < n) : f j = g j := by
  have h1 := boolRow_at f n j hj
  rw [h, boolRow_at g n j hj] at h1
  simpa using h1.symm
set_option maxHeartbeats 1000000 in
theorem add_both (w : World) (A B n : Nat) (f g : Nat → Bool) (hA : w.heap[A]? = some (.cells (boolRow f n) 4 (0, 0))) (hB : w.heap[B]? = some (.cells (boolRow g n) 4 (0, 0))) (hn : n ≤ 100000) :
    Calls Try.prog 36 #[.slice (some ⟨A, 0, none⟩) n n, .slice (some ⟨B, 0, none⟩) n n] w fun e w' => e = .returned (.tuple #[]) ∧ w'.heap[A]? = some (.cells (boolRow (fun j => f j || g j) n) 4 (0, 0)) ∧ Only A w w' := by
  by_cases hne : A = B
  · subst hne
    have hfg : ∀ j, j < n → f j = g j := fun j hj => by
      rw [hA] at hB
      injection hB with hB
      injection hB with hB
      exact boolRow_inj hB j hj
    have HFG := Aside0.mk hfg
    have HA := Aside0.mk hA
    clear hA hB hfg
    go_enter Try.func36, Try.ntmps36
    go_wp2
    go_loopw [4] (fun i wr => ∃ k : Nat, k ≤ n ∧ i = .int .i64 k ∧ Aside0 (wr.heap[A]? = some (.cells (boolRow f n) 4 (0, 0))) ∧ Aside0 (Only A w wr)) (fun i _ => n - (intOf i).toNat)
    case atStart => exact ⟨0, by omega, rfl, HA, ⟨Only.refl _ _⟩⟩
    case round =>
      obtain ⟨k, hk, rfl, HH, HO⟩ := hrel
      by_cases hlt : k < n
      · have hh := HH.out
        have hd : decide ((k : Int) < (n : Int)) = true := by simp; omega
        have hca : wr.cell? ⟨A, k, none⟩ = some (.bool (f k)) := (blk_cell hh k).trans (boolRow_at _ _ _ hlt)
        have hfz := blk_frozen hh k
        have hk0 : (0 : Int) ≤ (k : Int) := by omega
        have hk1 : (k : Int) < (n : Int) := by omega
        have HN : Aside0 ((wr.setCell ⟨A, k, none⟩ (.bool (f k))).heap[A]? = some (.cells (boolRow f n) 4 (0, 0))) := ⟨by
          rw [blk_set hh, boolRow_set]
          rw [boolRow_congr (fun j _ => show (if j = k then f k else f j) = f j by by_cases e : j = k <;> simp [e])]⟩
        have HO2 : Aside0 (Only A w (wr.setCell ⟨A, k, none⟩ (.bool (f k)))) := ⟨HO.out.set _ _⟩
        clear hh HH
        generalize f k = fk at *
        cases fk with
        | true =>
          go_wp2
          go_roundw
          case rel => exact ⟨k + 1, by omega, by go_num, HN, HO2⟩
          case measure => simp [intOf]; omega
        | false =>
          go_wp2
          go_roundw
          case rel => exact ⟨k + 1, by omega, by go_num, HN, HO2⟩
          case measure => simp [intOf]; omega
      · have hd : decide ((k : Int) < (n : Int)) = false := by simp; omega
        go_wp2
        refine bodyPost_end (v := .tuple #[]) (by first | rfl | simp [results, Try.results36, go_sem]) rfl ?_
        refine ⟨rfl, ?_, HO.out⟩
        rw [HH.out, boolRow_congr (g := fun j => f j || g j)]
        intro j hj2
        rw [← HFG.out j hj2]; simp
  · exact add_any w A B n f g hA hB hne hn
end Go.Proofs.Ytlliokmcfmcigaa.GR
