/- short of the law, walked. -/
import Derived.Test.YtlliokmcfmcigaaGmShort
import Derived.Test.YtlliokmcfmcigaaGAwake
import Derived.Test.YtlliokmcfmcigaaGMat
import Derived.StillTailTactics
namespace Go.Proofs.Ytlliokmcfmcigaa.GR
open Go.RowKit Go.Proofs.YtlliokmcfmcigaaW.PrintWords Go.Proofs.YtlliokmcfmcigaaW.PrintLast Go.Proofs.YtlliokmcfmcigaaW.PrintMore
attribute [local go_sem] min2_int min_two
set_option linter.unusedVariables false
set_option linter.unusedSimpArgs false
def intRow (f : Nat → Nat) (n : Nat) : Array Value := ((List.range n).map (fun j => Value.int .i64 (f j : Int))).toArray
theorem intRow_at (f : Nat → Nat) (n j : Nat) (h : j < n) : (intRow f n)[j]? = some (.int .i64 (f j : Int)) := by simp [intRow, h]
theorem intRow_congr {f g : Nat → Nat} {n : Nat} (h : ∀ j, j < n → f j = g j) : intRow f n = intRow g n := by
  unfold intRow
  congr 1
  refine List.map_congr_left (fun j hj => ?_)
  rw [h j (by simpa using hj)]
theorem intRow_set (f : Nat → Nat) (n i : Nat) (v : Nat) : (intRow f n).setIfInBounds i (.int .i64 (v : Int)) = intRow (fun j => if j = i then v else f j) n := by
  apply Array.ext
  · simp [intRow]
  · intro j h1 h2
    have hj : j < n := by simpa [intRow] using h2
    by_cases e : j = i
    · subst e; simp [intRow]
    · have e' : ¬ i = j := fun x => e x.symm
      simp [intRow, Array.getElem_setIfInBounds, e, e']
theorem int_put {f k : Nat → Nat} {n b i v : Nat} {t : TypeId} {w : World} (hx : w.heap[b]? = some (.cells (intRow f n) t (0, 0))) (h : ∀ j, j < n → (if j = i then v else f j) = k j) : (w.setCell ⟨b, i, none⟩ (.int .i64 (v : Int))).heap[b]? = some (.cells (intRow k n) t (0, 0)) := by
  rw [blk_set hx, intRow_set, intRow_congr h]
theorem int_some {f k : Nat → Nat} {n : Nat} {t : TypeId} {x : Option Obj} (hx : x = some (.cells (intRow f n) t (0, 0))) (h : ∀ j, j < n → f j = k j) : x = some (.cells (intRow k n) t (0, 0)) := by
  rw [hx, intRow_congr h]
theorem intRow_new (n : Nat) : Array.replicate n (Value.int .i64 0) = intRow (fun _ => 0) n := by
  apply Array.ext
  · simp [intRow]
  · intro j h1 h2
    simp [intRow]
theorem make_ints (W : World) : (Instr.makeSlice 41 (.int .i64 256) (.int .i64 256)).run Try.prog W = .ok (.slice (some ⟨W.heap.size, 0, none⟩) 256 256) (W.alloc (.cells (intRow (fun _ => 0) 256) 3)) := by
  have h := print_make_of (P := Try.prog) 41 3 (.int .i64 0) 8 Try.underlying41 (by kernel_rfl) rfl (by decide) 256 (by omega) W
  rw [made_row, intRow_new] at h
  exact h
theorem len_sym' {i : Nat} (hi : i < 74) : ∀ x ∈ (nrule i).2, x < 256 := by
  have : (List.range 74).all (fun i => (nrule i).2.all (fun x => decide (x < 256))) = true := by decide +kernel
  intro x hx
  simpa using List.all_eq_true.1 (List.all_eq_true.1 this i (by simpa using hi)) x hx
theorem drop_cons'' (l : List Nat) (k : Nat) (h : k < l.length) : l.drop k = l.getD k 0 :: l.drop (k + 1) := by
  rw [List.drop_eq_getElem_cons h]
  congr 1
  rw [List.getD_eq_getElem?_getD, List.getElem?_eq_getElem h]; rfl
theorem getD_lt' {i j : Nat} (hi : i < 74) (hj : j < (nrule i).2.length) : (nrule i).2.getD j 0 < 256 :=
  len_sym' hi _ (by rw [List.getD_eq_getElem?_getD, List.getElem?_eq_getElem hj]; exact List.getElem_mem _)
set_option maxHeartbeats 8000000 in
set_option maxRecDepth 100000 in
theorem short_any (w : World) (r : Nat) (B : Nat → Nat) (hR : IsRules w 28 r B) :
    Calls Try.prog 42 #[.slice (some ⟨r, 0, none⟩) 74 74] w fun e w' => ∃ q, e = .returned (.slice (some ⟨q, 0, none⟩) 256 256) ∧ w.heap.size ≤ q ∧ w'.heap[q]? = some (.cells (intRow Gm.least 256) 3 (0, 0)) ∧ Below w.heap.size w w' := by
  have hmk := make_ints
  have HR := Aside0.mk hR
  clear hR
  go_enter Try.func42, Try.ntmps42
  go_wp2
  have hb0 : Below w.heap.size w (w.alloc (.cells (intRow (fun _ => 0) 256) 3)) := (Below.refl _ _).alloc (Nat.le_refl _) _
  have HB0 := Aside0.mk hb0
  have HQ0 : Aside0 ((w.alloc (.cells (intRow (fun _ => 0) 256) 3)).heap[w.heap.size]? = some (.cells (intRow (fun _ => 0) 256) 3 (0, 0))) := ⟨heap_alloc_new _ _⟩
  clear hb0 hmk
  generalize (w.alloc (.cells (intRow (fun _ => 0) 256) 3)) = w1 at *
  generalize hm : w.heap.size = m at *
  have HM := Aside0.mk hm
  clear hm
  go_loopw [4] (fun v4 wr => ∃ i : Nat, 41 ≤ i ∧ i ≤ 256 ∧ v4 = .int .i64 i ∧ Aside0 (Below m w wr) ∧ Aside0 (wr.heap[m]? = some (.cells (intRow (fun s => if 41 ≤ s ∧ s < i then 1000 else 0) 256) 3 (0, 0)))) (fun v4 _ => 256 - (intOf v4).toNat)
  case atStart => exact ⟨41, by omega, by omega, rfl, HB0, ⟨int_some HQ0.out (fun j hj => by rw [if_neg (by omega)])⟩⟩
  case round =>
    clear HB0 HQ0
    obtain ⟨i, hi0, hi, rfl, HB, HQ⟩ := hrel
    by_cases hil : i < 256
    · have hd : decide ((i : Int) < 256) = true := by simp; omega
      have hj0 : (0 : Int) ≤ (i : Int) := by omega
      have hj1 : (i : Int) < 256 := by omega
      have hc : wr.cell? ⟨m, i, none⟩ = some (.int .i64 ((if 41 ≤ i ∧ i < i then 1000 else 0 : Nat) : Int)) := (blk_cell HQ.out i).trans (intRow_at _ _ _ hil)
      have hf : wr.frozen? ⟨m, i, none⟩ = false := blk_frozen HQ.out i
      have HB2 := Aside0.mk (HB.out.setCell (p := ⟨m, i, none⟩) (Nat.le_refl m) (.int .i64 1000))
      have HQ2 : Aside0 ((wr.setCell ⟨m, i, none⟩ (.int .i64 1000)).heap[m]? = some (.cells (intRow (fun s => if 41 ≤ s ∧ s < i + 1 then 1000 else 0) 256) 3 (0, 0))) := ⟨int_put (v := 1000) HQ.out (fun j hj => by
        by_cases e : j = i
        · rw [if_pos e, if_pos (by omega)]
        · rw [if_neg e]
          by_cases h : 41 ≤ j ∧ j < i
          · rw [if_pos h, if_pos (by omega)]
          · rw [if_neg h, if_neg (by omega)])⟩
      clear HB HQ
      go_wp2
      go_roundw
      case rel => exact ⟨i + 1, by omega, by omega, by go_num, HB2, HQ2⟩
      case measure => simp [intOf]; omega
    · have hd : decide ((i : Int) < 256) = false := by simp; omega
      have HQ3 : Aside0 (wr.heap[m]? = some (.cells (intRow (fun s => if s < 0 then 1 else if 41 ≤ s then 1000 else 0) 256) 3 (0, 0))) := ⟨by
        rw [HQ.out, intRow_congr (fun j hj => ?_)]
        rw [if_neg (show ¬ j < 0 by omega)]
        by_cases h : 41 ≤ j
        · rw [if_pos h, if_pos (by omega)]
        · rw [if_neg h, if_neg (by omega)]⟩
      clear HQ
      go_wp2
      go_loopw [5] (fun v5 wr => ∃ i : Nat, i ≤ 41 ∧ v5 = .int .i64 i ∧ Aside0 (Below m w wr) ∧ Aside0 (wr.heap[m]? = some (.cells (intRow (fun s => if s < i then 1 else if 41 ≤ s then 1000 else 0) 256) 3 (0, 0)))) (fun v5 _ => 41 - (intOf v5).toNat)
      case atStart => exact ⟨0, by omega, rfl, HB, HQ3⟩
      case round =>
        clear HB HQ3
        obtain ⟨i, hi, rfl, HB, HQ⟩ := hrel
        by_cases hil : i < 41
        · have hd : decide ((i : Int) < 41) = true := by simp; omega
          have hj0 : (0 : Int) ≤ (i : Int) := by omega
          have hj1 : (i : Int) < 256 := by omega
          have hc : wr.cell? ⟨m, i, none⟩ = some (.int .i64 ((if i < i then 1 else if 41 ≤ i then 1000 else 0 : Nat) : Int)) := (blk_cell HQ.out i).trans (intRow_at _ _ _ (by omega))
          have hf : wr.frozen? ⟨m, i, none⟩ = false := blk_frozen HQ.out i
          have HB2 := Aside0.mk (HB.out.setCell (p := ⟨m, i, none⟩) (Nat.le_refl m) (.int .i64 1))
          have HQ2 : Aside0 ((wr.setCell ⟨m, i, none⟩ (.int .i64 1)).heap[m]? = some (.cells (intRow (fun s => if s < i + 1 then 1 else if 41 ≤ s then 1000 else 0) 256) 3 (0, 0))) := ⟨int_put (v := 1) HQ.out (fun j hj => by
            by_cases e : j = i
            · rw [if_pos e, if_pos (by omega)]
            · rw [if_neg e]
              by_cases h : j < i
              · rw [if_pos h, if_pos (by omega)]
              · rw [if_neg h, if_neg (show ¬ j < i + 1 by omega)])⟩
          clear HB HQ
          go_wp2
          go_roundw
          case rel => exact ⟨i + 1, by omega, by go_num, HB2, HQ2⟩
          case measure => simp [intOf]; omega
        · have hd : decide ((i : Int) < 41) = false := by simp; omega
          have HQ3 : Aside0 (wr.heap[m]? = some (.cells (intRow (fun s => Gm.getT (Gm.shortTurns 0) s) 256) 3 (0, 0))) := ⟨by
            rw [HQ.out, intRow_congr (fun j hj => ?_)]
            rw [show Gm.shortTurns 0 = Gm.shortZero from rfl, Gm.short_zero j hj, show i = 41 by omega]
            by_cases h : j < 41
            · rw [if_pos h, if_pos h]
            · rw [if_neg h, if_neg h, if_pos (by omega)]⟩
          clear HQ
          go_wp2
          go_loopw [6] (fun v6 wr => ∃ t : Nat, t ≤ 74 ∧ v6 = .int .i64 t ∧ Aside0 (Below m w wr) ∧ Aside0 (wr.heap[m]? = some (.cells (intRow (fun s => Gm.getT (Gm.shortTurns t) s) 256) 3 (0, 0)))) (fun v6 _ => 74 - (intOf v6).toNat)
          case atStart => exact ⟨0, by omega, rfl, HB, HQ3⟩
          case round =>
            clear HB HQ3
            obtain ⟨t, ht, rfl, HB, HQ⟩ := hrel
            by_cases htl : t < 74
            · have hd : decide ((t : Int) < 74) = true := by simp; omega
              go_wp2
              go_loopw [7] (fun v7 wr => ∃ i T : Nat, i ≤ 74 ∧ v7 = .int .i64 i ∧ Aside0 (Below m w wr) ∧ Aside0 (wr.heap[m]? = some (.cells (intRow (fun s => Gm.getT T s) 256) 3 (0, 0))) ∧ Aside0 ((Gm.rules.drop i).foldl Gm.shortStep T = Gm.shortTurns (t + 1))) (fun v7 _ => 74 - (intOf v7).toNat)
              case atStart => exact ⟨0, _, by omega, rfl, HB, HQ, ⟨rfl⟩⟩
              case round =>
                clear HB HQ
                obtain ⟨i, T, hi, rfl, HB, HQ, HT⟩ := hrel
                by_cases hil : i < 74
                · have hd : decide ((i : Int) < 74) = true := by simp; omega
                  have hi0 : (0 : Int) ≤ (i : Int) := by omega
                  have hi1 : (i : Int) < 74 := by omega
                  have hpart := nrule_lt i
                  have hsl := sl_len i hil
                  have HDR := Aside0.mk (Gm.drop_rule' hil)
                  go_wp2
                  go_loopw [8, 9] (fun v8 v9 wr => ∃ n j : Nat, n ≤ 1000 ∧ j ≤ (nrule i).2.length ∧ v8 = .int .i64 n ∧ v9 = .int .i64 j ∧ Aside0 (Below m w wr) ∧ Aside0 (wr.heap[m]? = some (.cells (intRow (fun s => Gm.getT T s) 256) 3 (0, 0))) ∧ Aside0 (Gm.sumT T ((nrule i).2.drop j) n = Gm.sumT T (nrule i).2 0)) (fun _ v9 _ => (nrule i).2.length - (intOf v9).toNat)
                  case atStart => exact ⟨0, 0, by omega, by omega, rfl, rfl, HB, HQ, ⟨rfl⟩⟩
                  case round =>
                    clear HB HQ
                    obtain ⟨n, j, hn, hj, rfl, rfl, HB, HQ, HS⟩ := hrel
                    have hIR := HR.out.below (HM.out ▸ HB.out)
                    have hp : wr.cell? ⟨r, i * 2, none⟩ = some (.int .u8 ((nrule i).1 : Int)) := hIR.part i hil
                    have hr := hIR.right i hil
                    by_cases hjl : j < (nrule i).2.length
                    · have hd : decide ((j : Int) < ((nrule i).2.length : Int)) = true := by simp; omega
                      have hj0 : (0 : Int) ≤ (j : Int) := by omega
                      have hj1 : (j : Int) < ((nrule i).2.length : Int) := by omega
                      have hsy := hIR.sym i hil j hjl
                      have hx := getD_lt' hil hjl
                      have HDK := Aside0.mk (drop_cons'' _ j hjl)
                      have HGX : Aside0 ((nrule i).2.getD j 0 = (nrule i).2.getD j 0) := ⟨rfl⟩
                      generalize hgx : (nrule i).2.getD j 0 = x at *
                      clear hgx HGX
                      have hx0 : (0 : Int) ≤ (x : Int) := by omega
                      have hx1 : (x : Int) < 256 := by omega
                      have hc : wr.cell? ⟨m, x, none⟩ = some (.int .i64 ((Gm.getT T x : Nat) : Int)) := (blk_cell HQ.out x).trans (intRow_at _ _ _ hx)
                      have hg := Gm.getT_lt T x
                      have HS2 : Aside0 (Gm.sumT T ((nrule i).2.drop (j + 1)) (min (n + Gm.getT T x) 1000) = Gm.sumT T (nrule i).2 0) := ⟨by rw [← HS.out, HDK.out]; rfl⟩
                      generalize Gm.getT T x = gx at *
                      clear HS HDK hIR
                      by_cases hlt : 1000 < n + gx
                      · have hl2 : (1000 : Int) < (n : Int) + (gx : Int) := by omega
                        have hmn : min (n + gx) 1000 = 1000 := by omega
                        rw [hmn] at HS2
                        clear hmn
                        go_wp2
                        go_roundw
                        case rel => exact ⟨1000, j + 1, by omega, by omega, rfl, by go_num, HB, HQ, HS2⟩
                        case measure => simp [intOf]; omega
                      · have hl2 : ¬ (1000 : Int) < (n : Int) + (gx : Int) := by omega
                        have hmn : min (n + gx) 1000 = n + gx := by omega
                        rw [hmn] at HS2
                        clear hmn
                        go_wp2
                        go_roundw
                        case rel => exact ⟨n + gx, j + 1, by omega, by omega, by go_num, by go_num, HB, HQ, HS2⟩
                        case measure => simp [intOf]; omega
                    · have hd : decide ((j : Int) < ((nrule i).2.length : Int)) = false := by simp; omega
                      have HS2 : Aside0 (n = Gm.sumT T (nrule i).2 0) := ⟨by rw [← HS.out, List.drop_eq_nil_of_le (by omega)]; rfl⟩
                      have hp0 : (0 : Int) ≤ ((nrule i).1 : Int) := by omega
                      have hp1 : ((nrule i).1 : Int) < 256 := by omega
                      have hc : wr.cell? ⟨m, (nrule i).1, none⟩ = some (.int .i64 ((Gm.getT T (nrule i).1 : Nat) : Int)) := (blk_cell HQ.out _).trans (intRow_at _ _ _ hpart)
                      have hf : wr.frozen? ⟨m, (nrule i).1, none⟩ = false := blk_frozen HQ.out _
                      have hg := Gm.getT_lt T (nrule i).1
                      have hst : Gm.shortStep T (nrule i) = Gm.setT T (nrule i).1 (min (Gm.getT T (nrule i).1) n) := by unfold Gm.shortStep; rw [← HS2.out]
                      have HT2 : Aside0 ((Gm.rules.drop (i + 1)).foldl Gm.shortStep (Gm.setT T (nrule i).1 (min (Gm.getT T (nrule i).1) n)) = Gm.shortTurns (t + 1)) := ⟨by
                        rw [← hst, ← HT.out, HDR.out, List.foldl_cons]; rfl⟩
                      have HB2 := fun v => Aside0.mk (HB.out.setCell (p := ⟨m, (nrule i).1, none⟩) (Nat.le_refl m) (.int .i64 v))
                      have HQ2 : ∀ v : Nat, v = min (Gm.getT T (nrule i).1) n → Aside0 ((wr.setCell ⟨m, (nrule i).1, none⟩ (.int .i64 (v : Int))).heap[m]? = some (.cells (intRow (fun s => Gm.getT (Gm.setT T (nrule i).1 (min (Gm.getT T (nrule i).1) n)) s) 256) 3 (0, 0))) := fun v hv => ⟨int_put HQ.out (fun k hk => by
                        rw [hv, Gm.get_set _ _ _ _ (by omega)])⟩
                      have HA := Aside0.mk (And.intro HB2 HQ2)
                      clear hst HT HB HS HDR hIR HB2 HQ2 HQ
                      generalize hgx : Gm.getT T (nrule i).1 = gx at *
                      by_cases hlt : n < gx
                      · have hl2 : (n : Int) < (gx : Int) := by omega
                        have hmn : n = min gx n := by omega
                        have HB3 := HA.out.1 (n : Int)
                        have HQ3 := HA.out.2 n hmn
                        have HMN := Aside0.mk hmn
                        clear HA hmn hgx
                        go_wp2_with fail
                        go_still_tail 17, (by kernel_rfl)
                        go_wp2
                        go_roundw
                        case rel => exact ⟨i + 1, _, by omega, by go_num, ⟨pw_below_drewN HB3.out 1⟩, ⟨HQ3.out⟩, HT2⟩
                        case measure => simp [intOf]; omega
                      · have hl2 : ¬ (n : Int) < (gx : Int) := by omega
                        have hmn : gx = min gx n := by omega
                        have HB3 := HA.out.1 (gx : Int)
                        have HQ3 := HA.out.2 gx hmn
                        have HMN := Aside0.mk hmn
                        clear HA hmn hgx
                        go_wp2_with fail
                        go_still_tail 17, (by kernel_rfl)
                        go_wp2
                        go_roundw
                        case rel => exact ⟨i + 1, _, by omega, by go_num, ⟨pw_below_drewN HB3.out 1⟩, ⟨HQ3.out⟩, HT2⟩
                        case measure => simp [intOf]; omega
                · have hd : decide ((i : Int) < 74) = false := by simp; omega
                  have HTE : Aside0 (T = Gm.shortTurns (t + 1)) := ⟨by rw [← HT.out, List.drop_eq_nil_of_le (by rw [Gm.rules_len]; omega)]; rfl⟩
                  clear HT
                  go_wp2
                  go_roundw
                  case rel => exact ⟨t + 1, by omega, by go_num, HB, ⟨by rw [← HTE.out]; exact HQ.out⟩⟩
                  case measure => simp [intOf]; omega
            · have hd : decide ((t : Int) < 74) = false := by simp; omega
              have HTE : Aside0 (t = 74) := ⟨by omega⟩
              go_wp2
              go_ret
              refine ⟨m, rfl, by rw [HM.out]; exact Nat.le_refl _, ?_, by rw [HM.out]; exact HB.out⟩
              have := HQ.out
              rw [HTE.out] at this
              exact int_some this (fun j hj => Gm.short_least j hj)
end Go.Proofs.Ytlliokmcfmcigaa.GR
