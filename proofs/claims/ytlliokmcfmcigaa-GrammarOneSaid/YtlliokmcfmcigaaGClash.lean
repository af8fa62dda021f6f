/- The program's Clash, walked: no two rules would do at one kind. -/
import Derived.Test.YtlliokmcfmcigaaGProg
namespace Go.Proofs.Ytlliokmcfmcigaa.GR
open Go.RowKit Go.Proofs.YtlliokmcfmcigaaW.PrintWords Go.Proofs.YtlliokmcfmcigaaW.PrintLast Go.Proofs.YtlliokmcfmcigaaW.PrintMore
set_option linter.unusedVariables false
set_option linter.unusedSimpArgs false
set_option maxRecDepth 1000000 in
theorem no_clash_all : (List.range 74).all (fun i => (List.range i).all (fun j => !((nrule i).1 == (nrule j).1) || (List.range 64).all (fun k => !(Gm.does (nrule i) k && Gm.does (nrule j) k)))) = true := by decide +kernel
theorem no_clash {i j k : Nat} (hi : i < 74) (hj : j < i) (hk : k < 64) (hp : (nrule i).1 = (nrule j).1) (hd : Gm.does (nrule i) k = true) : Gm.does (nrule j) k = false := by
  have h := List.all_eq_true.1 (List.all_eq_true.1 no_clash_all i (by simpa using hi)) j (by simpa using hj)
  rw [hp] at h
  simp only [beq_self_eq_true, Bool.not_true, Bool.false_or] at h
  have h := List.all_eq_true.1 h k (by simpa using hk)
  rw [hd] at h
  simpa using h
set_option maxHeartbeats 4000000 in
theorem clash_any (w : World) :
    Calls Try.prog 30 #[] w fun e w' => e = .returned (.bool false) ∧ Below w.heap.size w w' := by
  go_enter Try.func30, Try.ntmps30
  go_wp2_with fail
  refine (ready_any _).mono ?_
  rintro e w1 ⟨g, r, B, rfl, hg, hK, hb1⟩
  have hkr := hK.tab
  have HK := Aside0.mk hK
  have HB := Aside0.mk hb1
  clear hK hb1 hg
  go_wp2
  go_loopw [13] (fun v13 wr => ∃ i : Nat, i ≤ 74 ∧ v13 = .int .i64 i ∧ Aside0 (IsKnown wr g r B) ∧ Aside0 (Below w.heap.size w wr)) (fun v13 _ => 74 - (intOf v13).toNat)
  case atStart => exact ⟨0, by omega, rfl, HK, HB⟩
  case round =>
    clear HK HB hkr
    obtain ⟨i, hi, rfl, HK, HB⟩ := hrel
    by_cases hil : i < 74
    · have hd : decide ((i : Int) < 74) = true := by simp; omega
      have hi0 : (0 : Int) ≤ (i : Int) := by omega
      have hi1 : (i : Int) < 74 := by omega
      have hi2 : (i : Int) ≤ 74 := by omega
      have hkr := HK.out.tab
      have hka : ∀ o : Obj, (wr.alloc o).cell? ⟨g, 0, none⟩ = some (.slice (some ⟨r, 0, none⟩) 74 74) := fun o => (HK.out.alloc o).tab
      have hp := HK.out.rules.part i hil
      have hr := HK.out.rules.right i hil
      go_wp2
      have hbelow : Below wr.heap.size wr (wr.alloc (.cells #[.int .u8 (Int.ofNat (nrule i).1), .slice (some ⟨B i, 0, none⟩) (nrule i).2.length (nrule i).2.length] 28)) := (Below.refl _ _).alloc (Nat.le_refl _) _
      have HX0 : Aside0 ((wr.alloc (.cells #[.int .u8 (Int.ofNat (nrule i).1), .slice (some ⟨B i, 0, none⟩) (nrule i).2.length (nrule i).2.length] 28)).heap[wr.heap.size]? = some (.cells #[.int .u8 (Int.ofNat (nrule i).1), .slice (some ⟨B i, 0, none⟩) (nrule i).2.length (nrule i).2.length] 28 (0, 0))) := ⟨heap_alloc_new _ _⟩
      have HK0 : Aside0 (IsKnown (wr.alloc (.cells #[.int .u8 (Int.ofNat (nrule i).1), .slice (some ⟨B i, 0, none⟩) (nrule i).2.length (nrule i).2.length] 28)) g r B) := ⟨HK.out.below hbelow⟩
      have HB0 : Aside0 (Below w.heap.size w (wr.alloc (.cells #[.int .u8 (Int.ofNat (nrule i).1), .slice (some ⟨B i, 0, none⟩) (nrule i).2.length (nrule i).2.length] 28))) := ⟨below_then HB.out HB.out.size hbelow⟩
      have hkr0 := HK0.out.tab
      clear HK HB hkr hka hp hr hbelow
      generalize (wr.alloc (.cells #[.int .u8 (Int.ofNat (nrule i).1), .slice (some ⟨B i, 0, none⟩) (nrule i).2.length (nrule i).2.length] 28)) = w3 at *
      generalize wr.heap.size = bx at *
      go_loopw [25] (fun v25 wk => ∃ j : Nat, j ≤ i ∧ v25 = .int .i64 j ∧ Aside0 (IsKnown wk g r B) ∧ Aside0 (Below w.heap.size w wk) ∧ Aside0 (wk.heap[bx]? = some (.cells #[.int .u8 (Int.ofNat (nrule i).1), .slice (some ⟨B i, 0, none⟩) (nrule i).2.length (nrule i).2.length] 28 (0, 0)))) (fun v25 _ => i - (intOf v25).toNat)
      case atStart => exact ⟨0, by omega, rfl, HK0, HB0, HX0⟩
      case round =>
        clear HK0 HB0 HX0 hkr0
        obtain ⟨j, hj, rfl, HK, HB, HX⟩ := hrel
        by_cases hjl : j < i
        · have hd2 : decide ((j : Int) < (i : Int)) = true := by simp; omega
          have hj0 : (0 : Int) ≤ (j : Int) := by omega
          have hj1 : (j : Int) < (i : Int) := by omega
          have hp := HK.out.rules.part j (by omega)
          have hr := HK.out.rules.right j (by omega)
          go_wp2
          have hbelow : Below wr.heap.size wr (wr.alloc (.cells #[.int .u8 (Int.ofNat (nrule j).1), .slice (some ⟨B j, 0, none⟩) (nrule j).2.length (nrule j).2.length] 28)) := (Below.refl _ _).alloc (Nat.le_refl _) _
          have HY0 : Aside0 ((wr.alloc (.cells #[.int .u8 (Int.ofNat (nrule j).1), .slice (some ⟨B j, 0, none⟩) (nrule j).2.length (nrule j).2.length] 28)).heap[wr.heap.size]? = some (.cells #[.int .u8 (Int.ofNat (nrule j).1), .slice (some ⟨B j, 0, none⟩) (nrule j).2.length (nrule j).2.length] 28 (0, 0))) := ⟨heap_alloc_new _ _⟩
          have HX0 : Aside0 ((wr.alloc (.cells #[.int .u8 (Int.ofNat (nrule j).1), .slice (some ⟨B j, 0, none⟩) (nrule j).2.length (nrule j).2.length] 28)).heap[bx]? = some (.cells #[.int .u8 (Int.ofNat (nrule i).1), .slice (some ⟨B i, 0, none⟩) (nrule i).2.length (nrule i).2.length] 28 (0, 0))) := ⟨(hbelow.block _ (blk_lt HX.out)).trans HX.out⟩
          have HK0 : Aside0 (IsKnown (wr.alloc (.cells #[.int .u8 (Int.ofNat (nrule j).1), .slice (some ⟨B j, 0, none⟩) (nrule j).2.length (nrule j).2.length] 28)) g r B) := ⟨HK.out.below hbelow⟩
          have HB0 : Aside0 (Below w.heap.size w (wr.alloc (.cells #[.int .u8 (Int.ofNat (nrule j).1), .slice (some ⟨B j, 0, none⟩) (nrule j).2.length (nrule j).2.length] 28))) := ⟨below_then HB.out HB.out.size hbelow⟩
          clear HK HB HX hp hr hbelow
          generalize (wr.alloc (.cells #[.int .u8 (Int.ofNat (nrule j).1), .slice (some ⟨B j, 0, none⟩) (nrule j).2.length (nrule j).2.length] 28)) = w4 at *
          generalize wr.heap.size = bz at *
          go_loopw [29] (fun v29 wk => ∃ k : Nat, k ≤ 64 ∧ v29 = .int .u8 k ∧ Aside0 (IsKnown wk g r B) ∧ Aside0 (Below w.heap.size w wk) ∧ Aside0 (wk.heap[bx]? = some (.cells #[.int .u8 (Int.ofNat (nrule i).1), .slice (some ⟨B i, 0, none⟩) (nrule i).2.length (nrule i).2.length] 28 (0, 0))) ∧ Aside0 (wk.heap[bz]? = some (.cells #[.int .u8 (Int.ofNat (nrule j).1), .slice (some ⟨B j, 0, none⟩) (nrule j).2.length (nrule j).2.length] 28 (0, 0)))) (fun v29 _ => 64 - (intOf v29).toNat)
          case atStart => exact ⟨0, by omega, rfl, HK0, HB0, HX0, HY0⟩
          case round =>
            clear HK0 HB0 HX0 HY0
            obtain ⟨k, hk, rfl, HK, HB, HX, HY⟩ := hrel
            by_cases hkl : k < 64
            · have hd3 : decide ((k : Int) < 64) = true := by simp; omega
              have hk0 : (0 : Int) ≤ (k : Int) := by omega
              have hk1 : (k : Int) < 64 := by omega
              have x0 : wr.cell? ⟨bx, 0, none⟩ = some (.int .u8 (Int.ofNat (nrule i).1)) := by rw [blk_cell HX.out]; rfl
              have x1 : wr.cell? ⟨bx, 1, none⟩ = some (.slice (some ⟨B i, 0, none⟩) (nrule i).2.length (nrule i).2.length) := by rw [blk_cell HX.out]; rfl
              have y0 : wr.cell? ⟨bz, 0, none⟩ = some (.int .u8 (Int.ofNat (nrule j).1)) := by rw [blk_cell HY.out]; rfl
              have y1 : wr.cell? ⟨bz, 1, none⟩ = some (.slice (some ⟨B j, 0, none⟩) (nrule j).2.length (nrule j).2.length) := by rw [blk_cell HY.out]; rfl
              by_cases e : (nrule i).1 = (nrule j).1
              · have ee : (((nrule i).1 : Int) == ((nrule j).1 : Int)) = true := by rw [e]; simp
                have HNC := Aside0.mk (fun h => no_clash hil hjl hkl e h)
                clear e
                go_wp2_with fail
                refine (does_any _ g r B HK.out i hil k (by omega)).mono ?_
                rintro e w5 ⟨rfl, hb5⟩
                have HK5 := Aside0.mk (HK.out.below hb5)
                have HB5 : Aside0 (Below w.heap.size w w5) := ⟨below_then HB.out HB.out.size hb5⟩
                have HX5 := Aside0.mk ((hb5.block _ (blk_lt HX.out)).trans HX.out)
                have HY5 := Aside0.mk ((hb5.block _ (blk_lt HY.out)).trans HY.out)
                clear HK HB HX HY hb5 x0 x1 y0 y1
                have y0 : w5.cell? ⟨bz, 0, none⟩ = some (.int .u8 (Int.ofNat (nrule j).1)) := by rw [blk_cell HY5.out]; rfl
                have y1 : w5.cell? ⟨bz, 1, none⟩ = some (.slice (some ⟨B j, 0, none⟩) (nrule j).2.length (nrule j).2.length) := by rw [blk_cell HY5.out]; rfl
                cases hdo : Gm.does (nrule i) k with
                | false =>
                  clear hdo HNC
                  go_wp2
                  go_roundw
                  case rel => exact ⟨k + 1, by omega, by go_num, HK5, HB5, HX5, HY5⟩
                  case measure => simp [intOf]; omega
                | true =>
                  have hdj := HNC.out hdo
                  have hcall := does_any w5 g r B HK5.out j (by omega) k (by omega)
                  rw [hdj] at hcall
                  have HCA := Aside0.mk hcall
                  clear hcall hdj hdo HNC
                  go_wp2_with fail
                  refine (HCA.out).mono ?_
                  rintro e w6 ⟨rfl, hb6⟩
                  have HK6 := Aside0.mk (HK5.out.below hb6)
                  have HB6 : Aside0 (Below w.heap.size w w6) := ⟨below_then HB5.out HB5.out.size hb6⟩
                  have HX6 := Aside0.mk ((hb6.block _ (blk_lt HX5.out)).trans HX5.out)
                  have HY6 := Aside0.mk ((hb6.block _ (blk_lt HY5.out)).trans HY5.out)
                  clear HK5 HB5 HX5 HY5 hb6 y0 y1 HCA
                  go_wp2
                  go_roundw
                  case rel => exact ⟨k + 1, by omega, by go_num, HK6, HB6, HX6, HY6⟩
                  case measure => simp [intOf]; omega
              · have ee : (((nrule i).1 : Int) == ((nrule j).1 : Int)) = false := by simp; omega
                have HE := Aside0.mk e
                clear e
                go_wp2
                go_roundw
                case rel => exact ⟨k + 1, by omega, by go_num, HK, HB, HX, HY⟩
                case measure => simp [intOf]; omega
            · have hd3 : decide ((k : Int) < 64) = false := by simp; omega
              go_wp2
              go_roundw
              case rel => exact ⟨j + 1, by omega, by go_num, HK, HB, HX⟩
              case measure => simp [intOf]; omega
        · have hd2 : decide ((j : Int) < (i : Int)) = false := by simp; omega
          go_wp2
          go_roundw
          case rel => exact ⟨i + 1, by omega, by go_num, HK, HB⟩
          case measure => simp [intOf]; omega
    · have hd : decide ((i : Int) < 74) = false := by simp; omega
      go_wp2
      go_ret
      exact ⟨rfl, HB.out⟩
end Go.Proofs.Ytlliokmcfmcigaa.GR
