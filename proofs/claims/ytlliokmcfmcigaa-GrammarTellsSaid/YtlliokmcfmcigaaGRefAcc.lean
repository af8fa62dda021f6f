/- The reference's Accepts, walked: it says whether the kinds are of a file. -/
import Derived.Test.YtlliokmcfmcigaaGMat
import Derived.Test.YtlliokmcfmcigaaGmEnds
namespace Go.Proofs.Ytlliokmcfmcigaa.GR
open Go.RowKit Go.Proofs.YtlliokmcfmcigaaW.PrintWords Go.Proofs.YtlliokmcfmcigaaW.PrintLast Go.Proofs.YtlliokmcfmcigaaW.PrintMore
set_option linter.unusedVariables false
set_option linter.unusedSimpArgs false
/-- The table of ends: rows of truths behind one another. -/
structure Mat (w : World) (z n : Nat) (M : Nat → Nat → Bool) : Prop where
  tab : ∃ cs, w.heap[z]? = some (.cells cs 58 (0, 0)) ∧ ∀ i, i < 256 * (n + 1) → cs[i]? = some (.slice (some ⟨z + 1 + i, 0, none⟩) (n + 1) (n + 1))
  row : ∀ i, i < 256 * (n + 1) → w.heap[z + 1 + i]? = some (.cells (boolRow (M i) (n + 1)) 4 (0, 0))
theorem Mat.cell {w : World} {z n : Nat} {M : Nat → Nat → Bool} (h : Mat w z n M) (i : Nat) (hi : i < 256 * (n + 1)) : w.cell? ⟨z, i, none⟩ = some (.slice (some ⟨z + 1 + i, 0, none⟩) (n + 1) (n + 1)) := by
  obtain ⟨cs, h1, h2⟩ := h.tab
  rw [blk_cell h1, h2 i hi]
theorem Mat.at {w : World} {z n : Nat} {M : Nat → Nat → Bool} (h : Mat w z n M) (i p : Nat) (hi : i < 256 * (n + 1)) (hp : p ≤ n) : w.cell? ⟨z + 1 + i, p, none⟩ = some (.bool (M i p)) := by
  rw [blk_cell (h.row i hi), boolRow_at _ _ _ (by omega)]
theorem Mat.move {w w' : World} {z n : Nat} {M : Nat → Nat → Bool} (h : Mat w z n M) (hb : ∀ k, k < z + 1 + 256 * (n + 1) → w'.heap[k]? = w.heap[k]?) : Mat w' z n M := by
  obtain ⟨cs, h1, h2⟩ := h.tab
  exact ⟨⟨cs, (hb z (by omega)).trans h1, h2⟩, fun i hi => (hb _ (by omega)).trans (h.row i hi)⟩
theorem Mat.set {w : World} {z n : Nat} {M : Nat → Nat → Bool} (h : Mat w z n M) (i p : Nat) (v : Bool) (hi : i < 256 * (n + 1)) : Mat (w.setCell ⟨z + 1 + i, p, none⟩ (.bool v)) z n (fun a b => if a = i ∧ b = p then v else M a b) := by
  obtain ⟨cs, h1, h2⟩ := h.tab
  refine ⟨⟨cs, (Below.heap_setCell _ _ _ _ (by show z ≠ z + 1 + i; omega)).trans h1, h2⟩, fun a ha => ?_⟩
  by_cases e : a = i
  · subst e
    rw [blk_set (h.row a hi), boolRow_set]
    congr 2
    exact boolRow_congr (fun j hj => by by_cases e : j = p <;> simp [e])
  · rw [Below.heap_setCell _ _ _ _ (by show z + 1 + a ≠ z + 1 + i; omega), h.row a ha]
    congr 2
    exact boolRow_congr (fun j hj => by simp [e])
theorem Mat.congr {w : World} {z n : Nat} {M M' : Nat → Nat → Bool} (h : Mat w z n M) (e : ∀ a b, M a b = M' a b) : Mat w z n M' := by
  have : M = M' := by funext a b; exact e a b
  exact this ▸ h
structure Tab (w1 wr : World) (z n : Nat) (M : Nat → Nat → Bool) : Prop where
  mat : Mat wr z n M
  below : Below z w1 wr
  size : z + 1 + 256 * (n + 1) ≤ wr.heap.size
theorem Tab.set {w1 wr : World} {z n : Nat} {M : Nat → Nat → Bool} (h : Tab w1 wr z n M) (i p : Nat) (v : Bool) (hi : i < 256 * (n + 1)) : Tab w1 (wr.setCell ⟨z + 1 + i, p, none⟩ (.bool v)) z n (fun a b => if a = i ∧ b = p then v else M a b) :=
  ⟨h.mat.set i p v hi, h.below.setCell (p := ⟨z + 1 + i, p, none⟩) (by show z ≤ z + 1 + i; omega) _, by rw [World.size_setCell]; exact h.size⟩
theorem Tab.alloc {w1 wr : World} {z n : Nat} {M : Nat → Nat → Bool} (h : Tab w1 wr z n M) (o : Obj) : Tab w1 (wr.alloc o) z n M :=
  ⟨h.mat.move (fun k hk => Below.heap_alloc _ _ _ (by have := h.size; omega)), h.below.alloc (by have := h.size; omega) o, by rw [World.size_alloc]; have := h.size; omega⟩
theorem Tab.far {w1 wr : World} {z n : Nat} {M : Nat → Nat → Bool} (h : Tab w1 wr z n M) {A : Nat} (hA : z + 1 + 256 * (n + 1) ≤ A) (j : Nat) (v : Value) : Tab w1 (wr.setCell ⟨A, j, none⟩ v) z n M :=
  ⟨h.mat.move (fun k hk => Below.heap_setCell _ _ _ _ (by show k ≠ A; omega)), h.below.setCell (p := ⟨A, j, none⟩) (by show z ≤ A; omega) v, by rw [World.size_setCell]; exact h.size⟩
theorem Tab.only {w1 wr w2 : World} {z n : Nat} {M : Nat → Nat → Bool} (h : Tab w1 wr z n M) {A : Nat} (hA : z + 1 + 256 * (n + 1) ≤ A) (ho : Only A wr w2) : Tab w1 w2 z n M :=
  ⟨h.mat.move (fun k hk => ho.block k (by omega)), below_then' h.below (ho.below (by omega)), by rw [ho.size]; exact h.size⟩
theorem Tab.congr {w1 wr : World} {z n : Nat} {M M' : Nat → Nat → Bool} (h : Tab w1 wr z n M) (e : ∀ a b, M a b = M' a b) : Tab w1 wr z n M' := ⟨h.mat.congr e, h.below, h.size⟩
/-- The rows laid so far. -/
structure MatTo (w1 wr : World) (z n i : Nat) : Prop where
  below : Below z w1 wr
  size : wr.heap.size = z + 1 + i
  tab : ∃ cs, wr.heap[z]? = some (.cells cs 58 (0, 0)) ∧ cs.size = 256 * (n + 1) ∧ ∀ j, j < i → cs[j]? = some (.slice (some ⟨z + 1 + j, 0, none⟩) (n + 1) (n + 1))
  row : ∀ j, j < i → wr.heap[z + 1 + j]? = some (.cells (boolRow (fun _ => false) (n + 1)) 4 (0, 0))
theorem MatTo.step {w1 wr : World} {z n i : Nat} (h : MatTo w1 wr z n i) (hi : i < 256 * (n + 1)) : MatTo w1 ((wr.alloc (.cells (boolRow (fun _ => false) (n + 1)) 4)).setCell ⟨z, i, none⟩ (.slice (some ⟨z + 1 + i, 0, none⟩) (n + 1) (n + 1))) z n (i + 1) := by
  obtain ⟨cs, h1, h2, h3⟩ := h.tab
  have hs := h.size
  have h1' := blk_set (blk_alloc h1 (.cells (boolRow (fun _ => false) (n + 1)) 4)) i (.slice (some ⟨z + 1 + i, 0, none⟩) (n + 1) (n + 1))
  refine ⟨(h.below.alloc (by omega) _).setCell (p := ⟨z, i, none⟩) (Nat.le_refl _) _, ?_, ⟨_, h1', by simpa using h2, fun j hj => ?_⟩, fun j hj => ?_⟩
  · rw [World.size_setCell, World.size_alloc]; omega
  · by_cases e : j = i
    · subst e
      exact Array.getElem?_setIfInBounds_self_of_lt (by omega)
    · rw [Array.getElem?_setIfInBounds_ne (by omega)]
      exact h3 j (by omega)
  · rw [Below.heap_setCell _ _ _ _ (by show z + 1 + j ≠ z; omega)]
    by_cases e : j = i
    · subst e
      rw [← hs, heap_alloc_new]
    · exact blk_alloc (h.row j (by omega)) _
theorem MatTo.mat {w1 wr : World} {z n : Nat} (h : MatTo w1 wr z n (256 * (n + 1))) : Mat wr z n (fun _ _ => false) := by
  obtain ⟨cs, h1, h2, h3⟩ := h.tab
  exact ⟨⟨cs, h1, h3⟩, h.row⟩
theorem make_tab (n : Nat) (hn : n ≤ 14) (W : World) : (Instr.makeSlice 57 (.int .i64 (256 * ((n : Int) + 1))) (.int .i64 (256 * ((n : Int) + 1)))).run Try.prog W = .ok (.slice (some ⟨W.heap.size, 0, none⟩) (256 * (n + 1)) (256 * (n + 1))) (W.alloc (.cells (Array.replicate (256 * (n + 1)) (.slice none 0 0)) 58)) := by
  have h := print_make_of (P := Try.prog) 57 58 (.slice none 0 0) 24 Try.underlying57 (by kernel_rfl) rfl (by decide) (256 * (n + 1)) (by omega) W
  rw [made_row] at h
  have e : ((256 * (n + 1) : Nat) : Int) = 256 * ((n : Int) + 1) := by omega
  rwa [e] at h
theorem make_truths (n : Nat) (hn : n ≤ 14) (W : World) : (Instr.makeSlice 58 (.int .i64 ((n : Int) + 1)) (.int .i64 ((n : Int) + 1))).run Try.prog W = .ok (.slice (some ⟨W.heap.size, 0, none⟩) (n + 1) (n + 1)) (W.alloc (.cells (boolRow (fun _ => false) (n + 1)) 4)) := by
  have h := print_make_of (P := Try.prog) 58 4 (.bool false) 1 Try.underlying58 (by kernel_rfl) rfl (by decide) (n + 1) (by omega) W
  rw [made_row, boolRow_new] at h
  exact h
set_option maxHeartbeats 16000000 in
set_option maxRecDepth 100000 in
theorem refAccepts_any (w : World) (A : Option Addr) (c : Nat) (ks : List Nat) (hl : ks.length ≤ 14) (hk : ∀ k, k ∈ ks → k < 256) (hC : Kd.C (Kd.int .u8) w A ks.length (ks.map Int.ofNat)) :
    Calls Try.prog 12 #[.slice A ks.length c] w fun e w' => ∃ b, (b = true ↔ Gm.Der [51] ks) ∧ e = .returned (.bool b) ∧ Below w.heap.size w w' := by
  have HC0 := Aside0.mk hC
  have HKS := Aside0.mk hk
  clear hC hk
  go_enter Try.func12, Try.ntmps12
  go_wp2_with fail
  refine (refRules_any _).mono ?_
  rintro e w1 ⟨g, rfl, hR, hb1⟩
  have HR := Aside0.mk hR
  have HB1 := Aside0.mk hb1
  have HC : Aside0 (Kd.C (Kd.int .u8) w1 A ks.length (ks.map Int.ofNat)) := ⟨Kd.C_below HC0.out hb1⟩
  clear hR hb1
  generalize hn : ks.length = n at *
  have HN := Aside0.mk hn
  clear hn
  have hmk1 := make_tab n hl
  have hmk2 := make_truths n hl
  go_wp2
  generalize hz : w1.heap.size = z at *
  have HZ := Aside0.mk hz
  clear hz hmk1
  go_loopw [6] (fun i wr => ∃ k : Nat, k ≤ 256 * (n + 1) ∧ i = .int .i64 k ∧ Aside0 (MatTo w1 wr z n k)) (fun i _ => 256 * (n + 1) - (intOf i).toNat)
  case atStart =>
    refine ⟨0, by omega, rfl, ⟨⟨(Below.refl _ _).alloc (by have := HZ.out; omega) _, by rw [World.size_alloc, HZ.out], ⟨_, by rw [← HZ.out]; exact heap_alloc_new _ _, by simp, fun j hj => absurd hj (by omega)⟩, fun j hj => absurd hj (by omega)⟩⟩⟩
  case round =>
    obtain ⟨k, hk, rfl, HM⟩ := hrel
    by_cases hlt : k < 256 * (n + 1)
    · have hd : decide ((k : Int) < 256 * ((n : Int) + 1)) = true := by simp; omega
      have hk0 : (0 : Int) ≤ (k : Int) := by omega
      have hk1 : (k : Int) < 256 * ((n : Int) + 1) := by omega
      have hsz := HM.out.size
      have HM2 := Aside0.mk (HM.out.step hlt)
      obtain ⟨v0, hc0⟩ : ∃ v0, (wr.alloc (.cells (boolRow (fun _ => false) (n + 1)) 4)).cell? ⟨z, k, none⟩ = some v0 := by
        obtain ⟨cs, h1, h2, _⟩ := HM.out.tab
        exact ⟨_, (blk_cell (blk_alloc h1 _) k).trans (Array.getElem?_eq_getElem (by omega))⟩
      have hf0 : (wr.alloc (.cells (boolRow (fun _ => false) (n + 1)) 4)).frozen? ⟨z, k, none⟩ = false := by
        obtain ⟨cs, h1, h2, _⟩ := HM.out.tab
        exact blk_frozen (blk_alloc h1 _) k
      go_wp2
      go_roundw
      case rel => exact ⟨k + 1, by omega, by go_num, HM2⟩
      case measure => simp [intOf]; omega
    · have hke : k = 256 * (n + 1) := by omega
      have hd : decide ((k : Int) < 256 * ((n : Int) + 1)) = false := by simp; omega
      have HM' : MatTo w1 wr z n (256 * (n + 1)) := hke ▸ HM.out
      have HMM := Aside0.mk (MatTo.mat HM')
      have HB2 := Aside0.mk HM'.below
      have HSZ := Aside0.mk HM'.size
      clear HM HM' hke hlt hk
      have hl0 : ks.length ≤ 14 := by have := HN.out; omega
      go_wp2
      go_loopw [7] (fun i wr => ∃ k : Nat, k ≤ n ∧ i = .int .i64 k ∧ ∃ M : Nat → Nat → Bool, Aside0 (Tab w1 wr z n M) ∧ Aside0 (Gm.TokSt ks M k)) (fun i _ => n - (intOf i).toNat)
      case atStart => exact ⟨0, by omega, rfl, _, ⟨⟨HMM.out, HB2.out, by have := HSZ.out; omega⟩⟩, ⟨Gm.TokSt.nil ks⟩⟩
      case round =>
        obtain ⟨f, hf, rfl, M, HM, HT⟩ := hrel
        by_cases hlt : f < n
        · have hd1 : decide ((f : Int) < (n : Int)) = true := by simp; omega
          have hf0 : (0 : Int) ≤ (f : Int) := by omega
          have hf1 : (f : Int) < (n : Int) := by omega
          have hfk : f < ks.length := by have := HN.out; omega
          obtain ⟨ad, e, hcell⟩ := Kd.at_int (Kd.C_below HC.out (by rw [HZ.out]; exact HM.out.below)) f hf0 hf1
          cases e
          rw [rd_map ks f hfk, Int.toNat_natCast] at hcell
          have hv8 := HKS.out _ (List.getElem_mem hfk)
          have HV := Aside0.mk (rfl : ks[f] = ks[f])
          revert hcell hv8 HV
          generalize hv : ks[f] = v
          intro hcell hv8 _
          have HV := Aside0.mk hv
          clear hv
          by_cases hg : 1 ≤ v ∧ v ≤ 40
          · have hg1 : decide ((0 : Int) < (v : Int)) = true := by simp; omega
            have hg2 : decide ((v : Int) ≤ 40) = true := by simp; omega
            have hix := Gm.idx_lt (n := n) hv8 (show f ≤ n by omega)
            have hcr := HM.out.mat.cell _ hix
            have hca := HM.out.mat.at _ (f + 1) hix (by omega)
            have hfz := blk_frozen (HM.out.mat.row _ hix) (f + 1)
            have HMN := Aside0.mk (HM.out.set _ (f + 1) true hix)
            obtain ⟨q, hq⟩ : ∃ q, q = v * (n + 1) := ⟨_, rfl⟩
            rw [← hq] at hix hcr hca hfz HMN
            have hw : IntKind.i64.wrap ((v : Int) * ((n : Int) + 1)) = (q : Int) := by
              rw [show (v : Int) * ((n : Int) + 1) = ((v * (n + 1) : Nat) : Int) by push_cast; rfl, ← hq]
              exact (IntKind.wrap_i64 _).trans (by omega)
            have HQ := Aside0.mk hq
            clear hq
            go_wp2
            go_roundw
            case rel =>
              refine ⟨f + 1, by omega, by go_num, _, HMN, ⟨?_⟩⟩
              have hn := HN.out
              subst hn
              have := HT.out.put hfk (by rw [HV.out]; exact hg.1) (by rw [HV.out]; exact hg.2)
              rw [HV.out, ← HQ.out] at this
              exact this
            case measure => simp [intOf]; omega
          · have HSK := Aside0.mk (HT.out.skip hfk (by rw [HV.out]; exact hg))
            by_cases h0 : v = 0
            · have hg1 : decide ((0 : Int) < (v : Int)) = false := by simp; omega
              go_wp2
              go_roundw
              case rel => exact ⟨f + 1, by omega, by go_num, _, HM, HSK⟩
              case measure => simp [intOf]; omega
            · have hg1 : decide ((0 : Int) < (v : Int)) = true := by simp; omega
              have hg2 : decide ((v : Int) ≤ 40) = false := by simp; omega
              go_wp2
              go_roundw
              case rel => exact ⟨f + 1, by omega, by go_num, _, HM, HSK⟩
              case measure => simp [intOf]; omega
        · obtain rfl : n = f := by omega
          have hd1 : decide ((n : Int) < (n : Int)) = false := by simp
          have HSN := Aside0.mk HT.out.sound
          have HKN : Aside0 (∀ f (h : f < ks.length), 1 ≤ ks[f] → ks[f] ≤ 40 → M (ks[f] * (ks.length + 1) + f) (f + 1) = true) := ⟨by
            have hn := HN.out
            have := HT.out
            rw [← hn] at this
            exact this.round.2⟩
          have HTB := HM
          clear HT HM HMM HB2 HSZ
          go_wp2
          go_loopg [8] (Gm.falses n M + 1) (fun kq v8 wr => ∃ (more : Bool) (M : Nat → Nat → Bool), v8 = .bool more ∧ Aside0 (Tab w1 wr z n M) ∧ Aside0 (Gm.SoundE (Gm.ofM n M) ks) ∧ Aside0 (∀ f (h : f < ks.length), 1 ≤ ks[f] → ks[f] ≤ 40 → M (ks[f] * (ks.length + 1) + f) (f + 1) = true) ∧ Aside0 (more = false → Gm.ClosedE (Gm.ofM n M) ks) ∧ Aside0 (Gm.falses n M + (if more then 1 else 0) ≤ kq))
          case atStart => exact ⟨true, M, rfl, HTB, ⟨by have := HSN.out; rwa [HN.out] at this⟩, HKN, ⟨fun h => by cases h⟩, ⟨Nat.le_refl _⟩⟩
          case round =>
            clear HSN HKN HTB
            obtain ⟨more, M, rfl, HM, HSN, HKN, HCL, HF⟩ := hrel
            cases more with
            | false =>
              have h51 := Gm.idx_lt (n := n) (s := 51) (f := 0) (by decide) (by omega)
              rw [Nat.add_zero] at h51
              have hcr := HM.out.mat.cell _ h51
              have hca := HM.out.mat.at _ n h51 (Nat.le_refl _)
              have HSAY := Aside0.mk (Gm.ends_say (HCL.out rfl) HSN.out)
              have HBB := Aside0.mk HM.out.below
              clear HCL HF HKN HSN
              go_wp2
              go_ret
              refine ⟨_, ?_, rfl, below_then HB1.out HB1.out.size (by rw [HZ.out]; exact HBB.out)⟩
              rw [← HSAY.out, HN.out, Gm.ofM_true, Nat.add_zero]
              exact ⟨fun h => ⟨by decide, by omega, Nat.le_refl _, h⟩, fun h => h.2.2.2⟩
            | true =>
              obtain ⟨k1, rfl⟩ : ∃ k1, gk = k1 + 1 := by
                cases gk with
                | zero => have := HF.out; simp at this
                | succ q => exact ⟨q, rfl⟩
              have HF2 : Aside0 (Gm.falses n M ≤ k1) := ⟨by have := HF.out; simp at this; omega⟩
              have HR0 : Aside0 (Gm.Round ks k1 M false 0 0) := ⟨by
                have hn := HN.out
                subst hn
                exact ⟨HSN.out, HKN.out, fun _ j f hj _ => by rcases hj with hj | ⟨_, hj⟩ <;> omega, by simpa using HF2.out⟩⟩
              clear HF HCL HSN HKN HF2
              go_wp2
              go_loopw [8, 9] (fun v8 v9 wr => ∃ (more : Bool) (M : Nat → Nat → Bool) (i : Nat), i ≤ 74 ∧ v8 = .bool more ∧ v9 = .int .i64 i ∧ Aside0 (Tab w1 wr z n M) ∧ Aside0 (Gm.Round ks k1 M more i 0)) (fun _ v9 _ => 74 - (intOf v9).toNat)
              case atStart => exact ⟨false, M, 0, by omega, rfl, rfl, HM, HR0⟩
              case round =>
                clear HM HR0
                obtain ⟨more, M, i, hi, rfl, rfl, HM, HRD⟩ := hrel
                by_cases hlt : i < 74
                · have hd3 : decide ((i : Int) < 74) = true := by simp; omega
                  obtain ⟨s, r, hir⟩ : ∃ s r, Gm.rules[i]? = some (s, r) := by
                    have h74 : Gm.rules.length = 74 := by decide +kernel
                    exact ⟨_, _, List.getElem?_eq_getElem (by rw [h74]; exact hlt)⟩
                  have hnr : nrule i = (s, r) := by unfold nrule; rw [List.getD_eq_getElem?_getD, hir]; rfl
                  have hrl : r.length ≤ 5 := by have := sl_len i hlt; rw [hnr] at this; exact this
                  have HIR := Aside0.mk hir
                  have HNR := Aside0.mk hnr
                  clear hir hnr
                  have hi0 : (0 : Int) ≤ (i : Int) := by omega
                  have hi1 : (i : Int) < 74 := by omega
                  go_wp2
                  go_loopw [8, 10] (fun v8 v10 wr => ∃ (more : Bool) (M : Nat → Nat → Bool) (f : Nat), f ≤ n + 1 ∧ v8 = .bool more ∧ v10 = .int .i64 f ∧ Aside0 (Tab w1 wr z n M) ∧ Aside0 (Gm.Round ks k1 M more i f)) (fun _ v10 _ => n + 1 - (intOf v10).toNat)
                  case atStart => exact ⟨more, M, 0, by omega, rfl, rfl, HM, HRD⟩
                  case round =>
                    clear HM HRD
                    obtain ⟨more, M, f, hf, rfl, rfl, HM, HRD⟩ := hrel
                    by_cases hlf : f ≤ n
                    · have hd4 : decide ((f : Int) ≤ (n : Int)) = true := by simp; omega
                      have hb0 := boolRow_at (fun _ => false) (n + 1) f (by omega)
                      have hf0 : (0 : Int) ≤ (f : Int) := by omega
                      have hsA : z + 1 + 256 * (n + 1) ≤ wr.heap.size := HM.out.size
                      have HS6 := Aside0.mk hsA
                      have HT6 : Aside0 (Tab w1 (wr.alloc (.cells ((boolRow (fun _ => false) (n + 1)).setIfInBounds f (.bool true)) 4)) z n M) := ⟨HM.out.alloc _⟩
                      have HA6 : Aside0 ((wr.alloc (.cells ((boolRow (fun _ => false) (n + 1)).setIfInBounds f (.bool true)) 4)).heap[wr.heap.size]? = some (.cells (boolRow (fun j => if j = f then true else false) (n + 1)) 4 (0, 0))) := ⟨by rw [heap_alloc_new, boolRow_set]⟩
                      clear hsA
                      go_wp2
                      go_loopw [11, 12] (fun v11 v12 wr => ∃ (a : Nat) (at_ : Nat → Bool) (k : Nat), k ≤ r.length ∧ v11 = .slice (some ⟨a, 0, none⟩) (n + 1) (n + 1) ∧ v12 = .int .i64 k ∧ Aside0 (Tab w1 wr z n M) ∧ Aside0 (wr.heap[a]? = some (.cells (boolRow at_ (n + 1)) 4 (0, 0))) ∧ Aside0 (z + 1 + 256 * (n + 1) ≤ a) ∧ Aside0 (∀ p, p ≤ n → (at_ p = true ↔ Gm.Path (Gm.ofM n M) (r.take k) f p))) (fun _ v12 _ => r.length - (intOf v12).toNat)
                      case atStart =>
                        refine ⟨_, _, 0, by omega, rfl, rfl, HT6, HA6, HS6, ⟨fun p hp => ?_⟩⟩
                        simp only [List.take_zero, Gm.Path]
                        by_cases e : p = f
                        · simp [e]
                        · simp [e]; exact fun e2 => e e2.symm
                      case round =>
                        clear HT6 HA6 HS6 HM hb0
                        obtain ⟨a, at_, k, hk, rfl, rfl, HM, HA, HSA, HP⟩ := hrel
                        have HRR := Aside0.mk (HR.out.below (by rw [HZ.out]; exact HM.out.below))
                        have hqp := HRR.out.part i hlt
                        obtain ⟨A', hqr, hqc⟩ := HRR.out.right i hlt
                        rw [HNR.out] at hqp hqr hqc
                        have HQC := Aside0.mk hqc
                        clear hqc HRR
                        by_cases hlk : k < r.length
                        · have hd5 : decide ((k : Int) < (r.length : Int)) = true := by simp; omega
                          go_wp2
                          generalize hsb : wr.heap.size = b at *
                          have HTB : Aside0 (Tab w1 (wr.alloc (.cells (boolRow (fun _ => false) (n + 1)) 4)) z n M) := ⟨HM.out.alloc _⟩
                          have HAB : Aside0 ((wr.alloc (.cells (boolRow (fun _ => false) (n + 1)) 4)).heap[a]? = some (.cells (boolRow at_ (n + 1)) 4 (0, 0))) := ⟨blk_alloc HA.out _⟩
                          have HBB : Aside0 ((wr.alloc (.cells (boolRow (fun _ => false) (n + 1)) 4)).heap[b]? = some (.cells (boolRow (fun _ => false) (n + 1)) 4 (0, 0))) := ⟨by rw [← hsb]; exact heap_alloc_new _ _⟩
                          have hab : a < b := by rw [← hsb]; exact blk_lt HA.out
                          have HSB : Aside0 (z + 1 + 256 * (n + 1) ≤ b) := ⟨by have := HSA.out; omega⟩
                          clear hsb
                          go_loopw [14] (fun v14 wr => ∃ (p : Nat) (h : Nat → Bool), p ≤ n + 1 ∧ v14 = .int .i64 p ∧ Aside0 (Tab w1 wr z n M) ∧ Aside0 (wr.heap[a]? = some (.cells (boolRow at_ (n + 1)) 4 (0, 0))) ∧ Aside0 (wr.heap[b]? = some (.cells (boolRow h (n + 1)) 4 (0, 0))) ∧ Aside0 (∀ q, q ≤ n → (h q = true ↔ ∃ p', p' < p ∧ at_ p' = true ∧ M (r.getD k 0 * (n + 1) + p') q = true))) (fun v14 _ => n + 1 - (intOf v14).toNat)
                          case atStart => exact ⟨0, _, by omega, rfl, HTB, HAB, HBB, ⟨fun q hq => by simp⟩⟩
                          case round =>
                            clear HTB HAB HBB HM HA hqp hqr HQC
                            obtain ⟨p, h, hp, rfl, HM, HA, HB, HH⟩ := hrel
                            by_cases hlp : p ≤ n
                            · have hd6 : decide ((p : Int) ≤ (n : Int)) = true := by simp; omega
                              have hp0 : (0 : Int) ≤ (p : Int) := by omega
                              have hca := (blk_cell HA.out p).trans (boolRow_at _ _ _ (show p < n + 1 by omega))
                              cases hat : at_ p with
                              | false =>
                                rw [hat] at hca
                                have HAT := Aside0.mk hat
                                clear hat
                                go_wp2
                                go_roundw
                                case rel =>
                                  refine ⟨p + 1, h, by omega, by go_num, HM, HA, HB, ⟨fun q hq => ?_⟩⟩
                                  rw [HH.out q hq]
                                  constructor
                                  · rintro ⟨p', h1, h2, h3⟩; exact ⟨p', by omega, h2, h3⟩
                                  · rintro ⟨p', h1, h2, h3⟩
                                    refine ⟨p', ?_, h2, h3⟩
                                    by_cases e : p' = p
                                    · rw [e, HAT.out] at h2; cases h2
                                    · omega
                                case measure => simp [intOf]; omega
                              | true =>
                                rw [hat] at hca
                                have HAT := Aside0.mk hat
                                clear hat
                                have HRR := Aside0.mk (HR.out.below (by rw [HZ.out]; exact HM.out.below))
                                obtain ⟨A', hqr, hqc⟩ := HRR.out.right i hlt
                                rw [HNR.out] at hqr hqc
                                have hs8 : r.getD k 0 < 256 := by
                                  have : Gm.rules.all (fun r => r.2.all (fun s => decide (s < 256))) = true := by decide +kernel
                                  have := List.all_eq_true.1 this _ (List.mem_of_getElem? HIR.out)
                                  have := List.all_eq_true.1 this (r.getD k 0) (by simp [List.getD_eq_getElem?_getD, hlk])
                                  simpa using this
                                have hk0 : (0 : Int) ≤ (k : Int) := by omega
                                have hk1 : (k : Int) < (r.length : Int) := by omega
                                obtain ⟨ad, e, hsy⟩ := Kd.at_int hqc k hk0 hk1
                                cases e
                                rw [show (((s, r) : Nat × List Nat)).2 = r from rfl, rd_map r k hlk, Int.toNat_natCast] at hsy
                                have hgk : r[k] = r.getD k 0 := by simp [List.getD_eq_getElem?_getD, hlk]
                                rw [hgk] at hsy
                                have hix := Gm.idx_lt (n := n) hs8 hlp
                                have hcr := HM.out.mat.cell _ hix
                                have HRW := Aside0.mk (HM.out.mat.row _ hix)
                                have HGK := Aside0.mk hgk
                                clear hqc hgk
                                generalize r.getD k 0 = y at *
                                obtain ⟨q, hq⟩ : ∃ q, q = y * (n + 1) := ⟨_, rfl⟩
                                rw [← hq] at hix hcr HRW
                                have hw : IntKind.i64.wrap ((y : Int) * ((n : Int) + 1)) = (q : Int) := by
                                  rw [show (y : Int) * ((n : Int) + 1) = ((y * (n + 1) : Nat) : Int) by push_cast; rfl, ← hq]
                                  exact (IntKind.wrap_i64 _).trans (by omega)
                                have HQ := Aside0.mk hq
                                clear hq
                                go_wp2_with fail
                                refine (add_any _ b (z + 1 + (q + p)) (n + 1) h _ HB.out HRW.out (by have := HSB.out; omega) (by omega)).mono ?_
                                rintro e w3 ⟨rfl, hb3, ho3⟩
                                have HB3 := Aside0.mk hb3
                                have HM3 := Aside0.mk (HM.out.only HSB.out ho3)
                                have HA3 := Aside0.mk ((ho3.block a (by omega)).trans HA.out)
                                clear hb3 ho3 HRW
                                go_wp2
                                go_roundw
                                case rel =>
                                  refine ⟨p + 1, _, by omega, by go_num, HM3, HA3, HB3, ⟨fun q' hq' => ?_⟩⟩
                                  simp only [Bool.or_eq_true]
                                  rw [HH.out q' hq']
                                  constructor
                                  · rintro (⟨p', h1, h2, h3⟩ | h3)
                                    · exact ⟨p', by omega, h2, h3⟩
                                    · exact ⟨p, by omega, HAT.out, by rw [← HQ.out]; exact h3⟩
                                  · rintro ⟨p', h1, h2, h3⟩
                                    by_cases e : p' = p
                                    · subst e
                                      right
                                      rw [HQ.out]
                                      exact h3
                                    · left
                                      exact ⟨p', by omega, h2, h3⟩
                                case measure => simp [intOf]; omega
                            · have hd6 : decide ((p : Int) ≤ (n : Int)) = false := by simp; omega
                              go_wp2
                              go_roundw
                              case rel =>
                                refine ⟨b, h, k + 1, by omega, rfl, by go_num, HM, HB, HSB, ⟨fun q hq => ?_⟩⟩
                                have hs8 : r.getD k 0 < 256 := by
                                  have : Gm.rules.all (fun r => r.2.all (fun s => decide (s < 256))) = true := by decide +kernel
                                  have := List.all_eq_true.1 this _ (List.mem_of_getElem? HIR.out)
                                  have := List.all_eq_true.1 this (r.getD k 0) (by simp [List.getD_eq_getElem?_getD, hlk])
                                  simpa using this
                                rw [Gm.Path.take_snoc hlk, HH.out q hq]
                                constructor
                                · rintro ⟨p', h1, h2, h3⟩
                                  exact ⟨p', (HP.out p' (by omega)).1 h2, Gm.ofM_true.2 ⟨hs8, by omega, hq, h3⟩⟩
                                · rintro ⟨p', h1, h2⟩
                                  obtain ⟨e1, e2, e3, e4⟩ := Gm.ofM_true.1 h2
                                  exact ⟨p', by omega, (HP.out p' e2).2 h1, e4⟩
                              case measure => simp [intOf]; omega
                        · have hd5 : decide ((k : Int) < (r.length : Int)) = false := by simp; omega
                          have hkr : r.take k = r := List.take_of_length_le (by omega)
                          have HPR : Aside0 (∀ p, p ≤ n → (at_ p = true ↔ Gm.Path (Gm.ofM n M) r f p)) := ⟨by have := HP.out; rwa [hkr] at this⟩
                          have hs8 : s < 256 := by
                            have : Gm.rules.all (fun r => decide (r.1 < 256)) = true := by decide +kernel
                            simpa using List.all_eq_true.1 this _ (List.mem_of_getElem? HIR.out)
                          have hix := Gm.idx_lt (n := n) hs8 hlf
                          have hcr := HM.out.mat.cell _ hix
                          clear HP hkr HQC
                          obtain ⟨q, hq⟩ : ∃ q, q = s * (n + 1) := ⟨_, rfl⟩
                          rw [← hq] at hix hcr
                          have hw : IntKind.i64.wrap ((s : Int) * ((n : Int) + 1)) = (q : Int) := by
                            rw [show (s : Int) * ((n : Int) + 1) = ((s * (n + 1) : Nat) : Int) by push_cast; rfl, ← hq]
                            exact (IntKind.wrap_i64 _).trans (by omega)
                          have HQ := Aside0.mk hq
                          clear hq
                          go_wp2
                          go_loopw [8, 16] (fun v8 v16 wr => ∃ (more' : Bool) (M' : Nat → Nat → Bool) (p : Nat), p ≤ n + 1 ∧ v8 = .bool more' ∧ v16 = .int .i64 p ∧ Aside0 (Tab w1 wr z n M') ∧ Aside0 (wr.heap[a]? = some (.cells (boolRow at_ (n + 1)) 4 (0, 0))) ∧ Aside0 (∀ a b, M' a b = (M a b || (a == q + f && (decide (b < p) && at_ b)))) ∧ Aside0 (more' = true ↔ more = true ∨ ∃ b, b < p ∧ at_ b = true ∧ M (q + f) b = false)) (fun _ v16 _ => n + 1 - (intOf v16).toNat)
                          case atStart => exact ⟨more, M, 0, by omega, rfl, rfl, HM, HA, ⟨fun a b => by simp⟩, ⟨by simp⟩⟩
                          case round =>
                            clear hcr HM HA hw
                            obtain ⟨more', M', p, hp, rfl, rfl, HM, HA, HME, HMO⟩ := hrel
                            by_cases hlp : p ≤ n
                            · have hd6 : decide ((p : Int) ≤ (n : Int)) = true := by simp; omega
                              have hp0 : (0 : Int) ≤ (p : Int) := by omega
                              have hca := (blk_cell HA.out p).trans (boolRow_at _ _ _ (show p < n + 1 by omega))
                              have hcm := HM.out.mat.at _ p hix hlp
                              have hpp : M' (q + f) p = M (q + f) p := by rw [HME.out]; simp
                              rw [hpp] at hcm
                              have hfm := blk_frozen (HM.out.mat.row _ hix) p
                              have HPP := Aside0.mk hpp
                              clear hpp
                              by_cases hnew : at_ p = true ∧ M (q + f) p = false
                              · obtain ⟨h1, h2⟩ := hnew
                                rw [h1] at hca
                                rw [h2] at hcm
                                have HAT := Aside0.mk h1
                                have HMF := Aside0.mk h2
                                clear h1 h2
                                have HM3 := Aside0.mk (HM.out.set (q + f) p true hix)
                                have HA3 : Aside0 ((wr.setCell ⟨z + 1 + (q + f), p, none⟩ (.bool true)).heap[a]? = some (.cells (boolRow at_ (n + 1)) 4 (0, 0))) := ⟨blk_far HA.out (by show a ≠ z + 1 + (q + f); have := HSA.out; omega) _⟩
                                go_wp2
                                go_roundw
                                case rel =>
                                  refine ⟨true, _, p + 1, by omega, rfl, by go_num, HM3, HA3, ⟨fun a' b' => ?_⟩, ⟨by simp; exact Or.inr ⟨p, by omega, HAT.out, HMF.out⟩⟩⟩
                                  rw [HME.out]
                                  by_cases e : a' = q + f ∧ b' = p
                                  · obtain ⟨rfl, rfl⟩ := e
                                    simp [HAT.out]
                                  · rw [if_neg e]
                                    by_cases e2 : a' = q + f
                                    · have : b' ≠ p := fun e3 => e ⟨e2, e3⟩
                                      have hd : decide (b' < p + 1) = decide (b' < p) := by
                                        by_cases e4 : b' < p
                                        · simp [e4]; omega
                                        · simp [e4]; omega
                                      rw [hd]
                                    · have : (a' == q + f) = false := by simpa using e2
                                      rw [this]; rfl
                                case measure => simp [intOf]; omega
                              · have HNO := Aside0.mk hnew
                                have hMN : Aside0 (∀ a b, M' a b = (M a b || (a == q + f && (decide (b < p + 1) && at_ b)))) := ⟨fun a' b' => by
                                  rw [HME.out]
                                  by_cases e2 : a' = q + f
                                  · by_cases e3 : b' = p
                                    · subst e2; subst e3
                                      cases h1 : at_ b' with
                                      | false => simp
                                      | true =>
                                        cases h2 : M (q + f) b' with
                                        | true => simp
                                        | false => exact absurd ⟨h1, h2⟩ HNO.out
                                    · have hd : decide (b' < p + 1) = decide (b' < p) := by
                                        by_cases e4 : b' < p
                                        · simp [e4]; omega
                                        · simp [e4]; omega
                                      rw [hd]
                                  · have : (a' == q + f) = false := by simpa using e2
                                    rw [this]; rfl⟩
                                have hMM : Aside0 (more' = true ↔ more = true ∨ ∃ b, b < p + 1 ∧ at_ b = true ∧ M (q + f) b = false) := ⟨by
                                  rw [HMO.out]
                                  constructor
                                  · rintro (h | ⟨b, h1, h2, h3⟩)
                                    · exact Or.inl h
                                    · exact Or.inr ⟨b, by omega, h2, h3⟩
                                  · rintro (h | ⟨b, h1, h2, h3⟩)
                                    · exact Or.inl h
                                    · refine Or.inr ⟨b, ?_, h2, h3⟩
                                      by_cases e : b = p
                                      · subst e; exact absurd ⟨h2, h3⟩ HNO.out
                                      · omega⟩
                                cases h1 : at_ p with
                                | false =>
                                  rw [h1] at hca
                                  clear h1 hnew hcm
                                  go_wp2
                                  go_roundw
                                  case rel => exact ⟨more', M', p + 1, by omega, rfl, by go_num, HM, HA, hMN, hMM⟩
                                  case measure => simp [intOf]; omega
                                | true =>
                                  have h2 : M (q + f) p = true := by
                                    cases h2 : M (q + f) p with
                                    | true => rfl
                                    | false => exact absurd ⟨h1, h2⟩ hnew
                                  rw [h1] at hca
                                  rw [h2] at hcm
                                  clear h1 h2 hnew
                                  go_wp2
                                  go_roundw
                                  case rel => exact ⟨more', M', p + 1, by omega, rfl, by go_num, HM, HA, hMN, hMM⟩
                                  case measure => simp [intOf]; omega
                            · have hd6 : decide ((p : Int) ≤ (n : Int)) = false := by simp; omega
                              have hpn : p = n + 1 := by omega
                              have HRN : Aside0 (Gm.Round ks k1 M' more' i (f + 1)) := ⟨by
                                have hn := HN.out
                                refine HRD.out.step HIR.out (by omega) (fun p hp => by rw [hn]; exact HPR.out p (by omega)) (fun a b => ?_) ?_
                                · rw [HME.out, hpn, hn, ← HQ.out]
                                  have : decide (b < n + 1) = decide (b ≤ n) := by
                                    by_cases e : b ≤ n
                                    · simp [e]; omega
                                    · simp [e]; omega
                                  rw [this]
                                · rw [HMO.out, hpn, hn, ← HQ.out]
                                  constructor
                                  · rintro (h | ⟨b, h1, h2, h3⟩)
                                    · exact Or.inl h
                                    · exact Or.inr ⟨b, by omega, h2, h3⟩
                                  · rintro (h | ⟨b, h1, h2, h3⟩)
                                    · exact Or.inl h
                                    · exact Or.inr ⟨b, by omega, h2, h3⟩⟩
                              go_wp2
                              go_roundw
                              case rel => exact ⟨more', M', f + 1, by omega, rfl, by go_num, HM, HRN⟩
                              case measure => simp [intOf]; omega
                    · have hd4 : decide ((f : Int) ≤ (n : Int)) = false := by simp; omega
                      have HRN : Aside0 (Gm.Round ks k1 M more (i + 1) 0) := ⟨by
                        have hf : f = ks.length + 1 := by have := HN.out; omega
                        have := HRD.out
                        rw [hf] at this
                        exact this.next⟩
                      go_wp2
                      go_roundw
                      case rel => exact ⟨more, M, i + 1, by omega, rfl, by go_num, HM, HRN⟩
                      case measure => simp [intOf]; omega
                · have hd3 : decide ((i : Int) < 74) = false := by simp; omega
                  have hi74 : i = 74 := by omega
                  have HS1 : Aside0 (Gm.SoundE (Gm.ofM n M) ks) := ⟨by have := HRD.out.sound; rwa [HN.out] at this⟩
                  have HK1 : Aside0 (∀ f (h : f < ks.length), 1 ≤ ks[f] → ks[f] ≤ 40 → M (ks[f] * (ks.length + 1) + f) (f + 1) = true) := ⟨HRD.out.kinds⟩
                  have HC1 : Aside0 (more = false → Gm.ClosedE (Gm.ofM n M) ks) := ⟨fun hm => by
                    have := HRD.out
                    rw [hm, hi74] at this
                    have := this.closed HKS.out
                    rwa [HN.out] at this⟩
                  have HF1 : Aside0 (Gm.falses n M + (if more then 1 else 0) ≤ k1) := ⟨by have := HRD.out.few; rwa [HN.out] at this⟩
                  go_wp2
                  go_roundg k1
                  case measure => omega
                  case rel => exact ⟨more, M, rfl, HM, HS1, HK1, HC1, HF1⟩
end Go.Proofs.Ytlliokmcfmcigaa.GR
