/- The law GrammarRules, walked: true in every world. -/
import Derived.Test.YtlliokmcfmcigaaGRefRules
import Derived.Test.YtlliokmcfmcigaaGAccepts
import Derived.Test.YtlliokmcfmcigaaPGrammarTellsx1
import Derived.Deep.QuietTactic
import Derived.BigQuiet
namespace Go.Proofs.Ytlliokmcfmcigaa.GR
open Go.RowKit Go.Proofs.YtlliokmcfmcigaaW.PrintWords Go.Proofs.YtlliokmcfmcigaaW.PrintLast Go.Proofs.YtlliokmcfmcigaaW.PrintMore
set_option linter.unusedVariables false
set_option linter.unusedSimpArgs false
theorem same_loop (l0 l1 : List Int) (hl : l0.length = l1.length) (hb : l0.length ≤ 9223372036854775807) : ∀ (k i : Nat), i ≤ l0.length → l0.length - i < k → PGrammarTells.glossatorref14_Same.l0 k l0 l1 (i : Int) = some (decide (l0.drop i = l1.drop i))
  | 0, i, _, h => absurd h (by omega)
  | k + 1, i, hi, hk => by
    unfold PGrammarTells.glossatorref14_Same.l0
    by_cases h : i < l0.length
    · rw [if_pos (by omega), if_pos (by omega), if_pos (by omega)]
      rw [List.drop_eq_getElem_cons h, List.drop_eq_getElem_cons (show i < l1.length by omega)]
      have e0 : rd l0 (i : Int) = l0[i] := by unfold rd; rw [Int.toNat_natCast, List.getD_eq_getElem?_getD, List.getElem?_eq_getElem h]; rfl
      have e1 : rd l1 (i : Int) = l1[i]'(by omega) := by unfold rd; rw [Int.toNat_natCast, List.getD_eq_getElem?_getD, List.getElem?_eq_getElem (show i < l1.length by omega)]; rfl
      rw [e0, e1]
      by_cases he : l0[i] = l1[i]'(by omega)
      · rw [if_pos he]
        have hw : wrap64 ((i : Int) + 1) = ((i + 1 : Nat) : Int) := by rw [IntWalk.wrap64_in _ (by omega)]; omega
        rw [hw, same_loop l0 l1 hl hb k (i + 1) (by omega) (by omega)]
        simp only [List.cons.injEq, he, true_and]
      · rw [if_neg he]
        simp only [List.cons.injEq, he, false_and, decide_false]
    · rw [if_neg (by omega)]
      congr 1
      rw [List.drop_of_length_le (by omega), List.drop_of_length_le (by omega)]
      simp
theorem same_any (w : World) (A0 A1 : Option Addr) (c0 c1 : Nat) (l0 l1 : List Int) (h0 : Kd.C (Kd.int .u8) w A0 l0.length l0) (h1 : Kd.C (Kd.int .u8) w A1 l1.length l1) (hb : l0.length ≤ 9223372036854775807) (hc0 : l0.length ≤ c0) (hc1 : l1.length ≤ c1) :
    Calls Try.prog 10 #[.slice A0 l0.length c0, .slice A1 l1.length c1] w fun e w' => e = .returned (.bool (decide (l0 = l1))) ∧ Drawn0 w w' := by
  refine PGrammarTells.glossatorref14_Same.calls (l0.length + 1) A0 c0 l0 A1 c1 l1 _ w h0 hc0 h1 hc1 ?_
  unfold PGrammarTells.glossatorref14_Same.f
  by_cases h : l0.length = l1.length
  · rw [if_pos (by omega)]
    have := same_loop l0 l1 h hb (l0.length + 1) 0 (by omega) (by omega)
    simpa using this
  · rw [if_neg (by omega)]
    have : l0 ≠ l1 := fun e => h (by rw [e])
    simp [this]
theorem same_quiet (w : World) (n : Nat) (A0 A1 : Option Addr) (l : List Nat) (h0 : Kd.C (Kd.int .u8) w A0 l.length (l.map Int.ofNat)) (h1 : Kd.C (Kd.int .u8) w A1 l.length (l.map Int.ofNat)) (hb : l.length ≤ 9223372036854775807) :
    Calls Try.prog 10 #[.slice A0 l.length l.length, .slice A1 l.length l.length] (w.drewN n) fun e w' => e = .returned (.bool true) ∧ ∃ m, w' = w.drewN m := by
  refine Calls.quiet_of ?_
  have hl : (l.map Int.ofNat).length = l.length := by simp
  have := same_any (w.drewN n) A0 A1 l.length l.length (l.map Int.ofNat) (l.map Int.ofNat) (by rw [hl]; exact Kd.C_drewN h0 n) (by rw [hl]; exact Kd.C_drewN h1 n) (by omega) (by omega) (by omega)
  rw [hl] at this
  refine this.mono ?_
  rintro e w' ⟨rfl, h⟩
  exact ⟨by simp, h.out⟩
/-- What is left of the table of rules from row i on, with the rows' blocks from j on. -/
structure Rest (m z i j : Nat) (w1 wr : World) : Prop where
  tab : ∃ cs, wr.heap[z + 74]? = some (.cells cs 28 (0, 0)) ∧ cs.size = 148
  part : ∀ n, i ≤ n → n < 74 → wr.cell? ⟨z + 74, n * 2, none⟩ = some (.int .u8 ((nrule n).1 : Int))
  right : ∀ n, i ≤ n → n < 74 → wr.cell? ⟨z + 74, n * 2 + 1, none⟩ = some (.slice (some ⟨z + n, 0, none⟩) (nrule n).2.length (nrule n).2.length)
  row : ∀ n, j ≤ n → n < 74 → wr.heap[z + n]? = some (.cells (u8s (nrule n).2) 5 (0, 0))
  below : Below m w1 wr
  hm : m ≤ z
theorem tabCells_len (B : Nat → Nat) : ∀ (m k : Nat), (tabCells B k m).length = m * 2
  | 0, _ => rfl
  | m + 1, k => by simp only [tabCells, List.length_cons, tabCells_len B m]; omega
theorem Rest.of {z m : Nat} {w1 wr : World} (h : IsRules wr 28 (z + 74) (fun n => z + n)) (hb : Below m w1 wr) (hm : m ≤ z) : Rest m z 0 0 w1 wr :=
  ⟨⟨_, h.tab, by simp [tabCells_len]⟩, fun n _ hn => h.part n hn, fun n _ hn => h.right n hn, fun n _ hn => h.row n hn, hb, hm⟩
theorem Rest.drew {m z i j : Nat} {w1 wr : World} (h : Rest m z i j w1 wr) (n : Nat) : Rest m z i j w1 (wr.drewN n) :=
  ⟨h.tab, h.part, h.right, h.row, pw_below_drewN h.below n, h.hm⟩
theorem Rest.cut {m z i j : Nat} {w1 wr : World} (h : Rest m z i j w1 wr) : Rest m z i (j + 1) w1 wr := ⟨h.tab, h.part, h.right, fun n hn => h.row n (by omega), h.below, h.hm⟩
/-- A cell of row i's block is set. -/
theorem Rest.setRow {m z i : Nat} {w1 wr : World} (h : Rest m z i (i + 1) w1 wr) (hi : i < 74) (k : Nat) (v : Value) : Rest m z i (i + 1) w1 (wr.setCell ⟨z + i, k, none⟩ v) := by
  obtain ⟨cs, hcs, hz⟩ := h.tab
  have hblk : (wr.setCell ⟨z + i, k, none⟩ v).heap[z + 74]? = wr.heap[z + 74]? := Below.heap_setCell _ _ _ _ (by show z + 74 ≠ z + i; omega)
  refine ⟨⟨cs, hblk.trans hcs, hz⟩, fun n h1 h2 => ?_, fun n h1 h2 => ?_, fun n h1 h2 => ?_, h.below.setCell (p := ⟨z + i, k, none⟩) (by have := h.hm; show m ≤ z + i; omega) v, h.hm⟩
  · rw [World.cell?_of_block (w := wr) hblk]; exact h.part n h1 h2
  · rw [World.cell?_of_block (w := wr) hblk]; exact h.right n h1 h2
  · rw [Below.heap_setCell _ _ _ _ (by show z + n ≠ z + i; omega)]; exact h.row n h1 h2
/-- The part of row i is set. -/
theorem Rest.setPart {m z i : Nat} {w1 wr : World} (h : Rest m z i (i + 1) w1 wr) (hi : i < 74) (v : Value) : Rest m z (i + 1) (i + 1) w1 (wr.setCell ⟨z + 74, i * 2, none⟩ v) := by
  obtain ⟨cs, hcs, hz⟩ := h.tab
  have hblk := blk_set hcs (i * 2) v
  have hc : ∀ q, q ≠ i * 2 → (wr.setCell ⟨z + 74, i * 2, none⟩ v).cell? ⟨z + 74, q, none⟩ = wr.cell? ⟨z + 74, q, none⟩ := fun q hq => by
    rw [blk_cell hblk, blk_cell hcs, Array.getElem?_setIfInBounds_ne (by omega)]
  refine ⟨⟨_, hblk, by simpa using hz⟩, fun n h1 h2 => ?_, fun n h1 h2 => ?_, fun n h1 h2 => ?_, h.below.setCell (p := ⟨z + 74, i * 2, none⟩) (by have := h.hm; show m ≤ z + 74; omega) v, h.hm⟩
  · rw [hc _ (by omega)]; exact h.part n (by omega) h2
  · rw [hc _ (by omega)]; exact h.right n (by omega) h2
  · rw [Below.heap_setCell _ _ _ _ (by show z + n ≠ z + 74; omega)]; exact h.row n (by omega) h2
theorem len_u8s (l : List Nat) : (u8s l).size = l.length := by simp [u8s]
set_option maxHeartbeats 4000000 in
theorem lawRules_any (w : World) :
    Calls Try.prog 3 #[] w fun e w' => e = .returned (.bool true) ∧ Below w.heap.size w w' := by
  go_enter Try.func3, Try.ntmps3
  go_wp2_with fail
  refine (refRules_any _).mono ?_
  rintro e w1 ⟨g, rfl, hR, hb1⟩
  have HR := Aside0.mk hR
  have HB1 := Aside0.mk hb1
  clear hR hb1
  go_wp2
  go_loopw [2] (fun t wr => ∃ k : Nat, k ≤ 2 ∧ t = .int .i64 k ∧ Aside0 (Below w1.heap.size w1 wr)) (fun t _ => 2 - (intOf t).toNat)
  case atStart => exact ⟨0, by omega, rfl, ⟨Below.refl _ _⟩⟩
  case round =>
    obtain ⟨t, ht2, rfl, HT⟩ := hrel
    by_cases hlt : t < 2
    · have hd : decide ((t : Int) < 2) = true := by simp; omega
      go_wp2_with fail
      refine (rules_any _).mono ?_
      rintro e w2 ⟨rfl, hI, hb2, hz2⟩
      generalize hz : wr.heap.size = z at *
      have HS := Aside0.mk (Rest.of (m := w1.heap.size) (w1 := w1) hI (below_then HT.out HT.out.size (by rw [hz]; exact hb2)) (by rw [← hz]; exact HT.out.size))
      clear hI hb2 hz2
      go_wp2
      go_loopw [4] (fun t wr => ∃ k : Nat, k ≤ 74 ∧ t = .int .i64 k ∧ Aside0 (Rest w1.heap.size z k k w1 wr)) (fun t _ => 74 - (intOf t).toNat)
      case atStart => exact ⟨0, by omega, rfl, HS⟩
      case round =>
        obtain ⟨i, hi, rfl, HI⟩ := hrel
        by_cases hli : i < 74
        · have hd2 : decide ((i : Int) < 74) = true := by simp; omega
          have hp := HI.out.part i (Nat.le_refl _) hli
          have hr := HI.out.right i (Nat.le_refl _) hli
          have HRR := HR.out.below HI.out.below
          have hqp := HRR.part i hli
          obtain ⟨A, hqr, hqc⟩ := HRR.right i hli
          have hc1 : Kd.C (Kd.int .u8) wr (some ⟨z + i, 0, none⟩) (nrule i).2.length ((nrule i).2.map Int.ofNat) := C_u8s _ _ _ (by have := sl_len i hli; omega) (HI.out.row i (Nat.le_refl _) hli)
          have hi0 : (0 : Int) ≤ (i : Int) := by omega
          have hi74 : (i : Int) < 74 := by omega
          have HQC := Aside0.mk hqc
          have HC1 := Aside0.mk hc1
          have hsl := sl_len i hli
          clear hqc hc1
          go_wp2
          go_quiet ((go_at_call 10; exact same_quiet _ _ _ _ _ HC1.out HQC.out (by omega)))
          have HQ := Aside0.mk (HI.out.drew nq)
          have hrow0 : (wr.drewN nq).heap[z + i]? = some (.cells (u8s (nrule i).2) 5 (0, 0)) := HI.out.row i (Nat.le_refl _) hli
          clear hp hr hqp hqr HQC HC1 HRR
          generalize wr.drewN nq = wq at *
          have HROW := Aside0.mk hrow0
          clear hrow0
          go_wp2
          go_loopw [5] (fun t wk => ∃ k : Nat, k ≤ (nrule i).2.length ∧ t = .int .i64 k ∧ Aside0 (Rest w1.heap.size z i (i + 1) w1 wk) ∧ Aside0 (∃ cs, wk.heap[z + i]? = some (.cells cs 5 (0, 0)) ∧ cs.size = (nrule i).2.length)) (fun t _ => (nrule i).2.length - (intOf t).toNat)
          case atStart => exact ⟨0, by omega, rfl, ⟨HQ.out.cut⟩, ⟨_, HROW.out, len_u8s _⟩⟩
          case round =>
            obtain ⟨k, hk, rfl, HK, HKC⟩ := hrel
            have hp := HK.out.part i (Nat.le_refl _) hli
            have hr := HK.out.right i (Nat.le_refl _) hli
            have hk0 : (0 : Int) ≤ (k : Int) := by omega
            by_cases hlk : k < (nrule i).2.length
            · have hd3 : decide ((k : Int) < ((nrule i).2.length : Int)) = true := by simp; omega
              have hk1 : (k : Int) < ((nrule i).2.length : Int) := by omega
              obtain ⟨cs, hcs, hcz⟩ := HKC.out
              obtain ⟨v0, hv0⟩ : ∃ v0, cs[k]? = some v0 := ⟨_, Array.getElem?_eq_getElem (show k < cs.size by omega)⟩
              have hcell : wr.cell? ⟨z + i, k, none⟩ = some v0 := (blk_cell hcs k).trans hv0
              have hfz := blk_frozen hcs k
              have HN := Aside0.mk (HK.out.setRow hli k (.int .u8 99))
              have HNC := Aside0.mk (blk_set hcs k (.int .u8 99))
              have HZ : Aside0 ((cs.setIfInBounds k (.int .u8 99)).size = (nrule i).2.length) := ⟨by simpa using hcz⟩
              clear hcs hcz hv0
              go_wp2
              go_roundw
              case rel => exact ⟨k + 1, by omega, by go_num, HN, ⟨_, HNC.out, HZ.out⟩⟩
              case measure => simp [intOf]; omega
            · have hd3 : decide ((k : Int) < ((nrule i).2.length : Int)) = false := by simp; omega
              have HN := Aside0.mk (HK.out.setPart hli (.int .u8 99))
              have hfz : wr.frozen? ⟨z + 74, i * 2, none⟩ = false := by
                obtain ⟨cs, hcs, _⟩ := HK.out.tab
                exact blk_frozen hcs _
              go_wp2
              go_roundw
              case rel => exact ⟨i + 1, by omega, by go_num, HN⟩
              case measure => simp [intOf]; omega
        · obtain rfl : i = 74 := by omega
          have hd2 : decide (((74 : Nat) : Int) < 74) = false := by decide
          go_wp2
          go_roundw
          case rel => exact ⟨t + 1, by omega, by go_num, ⟨HI.out.below⟩⟩
          case measure => simp [intOf]; omega
    · obtain rfl : t = 2 := by omega
      have hd : decide (((2 : Nat) : Int) < 2) = false := by decide
      go_wp2_with fail
      refine (accepts_any _ _ _ [22, 23] (by decide) (by decide) ?_ 40 true (by decide) (by decide +kernel)).mono ?_
      · exact C_u8s _ _ [22, 23] (by decide) (heap_alloc_new _ _)
      rintro e w2 ⟨rfl, hb2⟩
      have HB2 := Aside0.mk hb2
      clear hb2
      go_wp2
      go_ret
      exact ⟨rfl, below_then HB1.out HB1.out.size (below_then HT.out HT.out.size (((Below.refl _ _).alloc (Nat.le_refl _) _).trans (HB2.out.mono (by rw [World.size_alloc]; omega))))⟩
end Go.Proofs.Ytlliokmcfmcigaa.GR
