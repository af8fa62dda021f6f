/- made of the law, walked: whatever is picked, it ends, and what it makes is of a file. -/
import Derived.Test.YtlliokmcfmcigaaGMadeSt
import Derived.Deep.Onto
namespace Go.Proofs.Ytlliokmcfmcigaa.GR
open Go.RowKit Go.Proofs.YtlliokmcfmcigaaW.PrintWords Go.Proofs.YtlliokmcfmcigaaW.PrintLast Go.Proofs.YtlliokmcfmcigaaW.PrintMore
set_option linter.unusedVariables false
set_option linter.unusedSimpArgs false
theorem pick_index (xv : Int) (L : Nat) (h0 : 0 < L) (h74 : L ≤ 74) : ∃ jj : Nat, jj < L ∧ wrap64 ((IntKind.u64.wrap xv).tmod (L : Int)) = (jj : Int) := by
  have hy : 0 ≤ IntKind.u64.wrap xv := by
    show 0 ≤ xv % _
    exact Int.emod_nonneg _ (by decide)
  generalize IntKind.u64.wrap xv = y at *
  rw [Int.tmod_eq_emod_of_nonneg hy]
  have h1 : 0 ≤ y % (L : Int) := Int.emod_nonneg _ (by omega)
  have h2 : y % (L : Int) < (L : Int) := Int.emod_lt_of_pos _ (by omega)
  generalize y % (L : Int) = z at *
  exact ⟨z.toNat, by omega, by rw [IntWalk.wrap64_in _ (by omega)]; omega⟩
def MadePost (w : World) (e : Ending) (w' : World) : Prop := ∃ (v : Value) (out : List Nat), e = .returned v ∧ w'.ownsRow w.heap.size 5 1 v out.length (u8n out) ∧ Gm.Der [51] out ∧ out.length ≤ 20000 ∧ Below w.heap.size w w'
set_option maxHeartbeats 8000000 in
set_option maxRecDepth 100000 in
theorem made_any (w : World) (A : Option Addr) (c : Nat) (pk : List Int) (hC : Kd.C (Kd.int .i64) w A pk.length pk) (hpk : pk.length ≤ 400) :
    Calls Try.prog 29 #[.slice A pk.length c] w (MadePost w) := by
  have HC := Aside0.mk hC
  clear hC
  go_enter Try.func29, Try.ntmps29
  go_wp2_with fail
  refine (rules_any _).mono ?_
  rintro e w1 ⟨rfl, hI, hb1, hz1⟩
  have HI := Aside0.mk hI
  have HB1 := Aside0.mk hb1
  clear hI hb1 hz1
  generalize w.heap.size + 74 = r at *
  generalize (fun n => w.heap.size + n) = B at *
  go_wp2_with fail
  refine (short_any _ r B HI.out).mono ?_
  rintro e w2 ⟨q, rfl, hq, hl, hb2⟩
  have HL := Aside0.mk hl
  have HI2 := Aside0.mk (HI.out.below hb2)
  have HB2 : Aside0 (Below w.heap.size w w2) := ⟨below_then HB1.out HB1.out.size hb2⟩
  have HC2 := Aside0.mk (Kd.C_below HC.out HB2.out)
  clear HI HB1 HC hq hl hb2
  go_wp2
  have hb3 : Below w2.heap.size w2 (w2.alloc (.cells #[.int .u8 51] 5)) := (Below.refl _ _).alloc (Nat.le_refl _) _
  have HS0 : Aside0 (MadeSt w2.heap.size w2 (w2.alloc (.cells #[.int .u8 51] 5)) (.slice (some ⟨w2.heap.size, 0, none⟩) 1 1) (.slice none 0 0) [51] []) :=
    ⟨⟨own_lit w2 w2.heap.size 5 .u8 [51] (Nat.le_refl _) (by decide), ⟨rfl, Or.inl ⟨rfl, rfl⟩⟩, fun b _ h => by simp [Value.ownBlock] at h, hb3, hb3.size⟩⟩
  generalize (w2.alloc (.cells #[.int .u8 51] 5)) = w3 at *
  generalize hD : w2.heap.size = D at *
  have HD := Aside0.mk hD
  clear hD hb3
  go_loopw [5, 6, 7] (fun v5 v6 v7 wr => ∃ (n : Nat) (st out : List Nat), v7 = .int .i64 n ∧ n + Gm.left n st ≤ 15000 ∧ out.length + Gm.left n st ≤ 15000 ∧ Aside0 (MadeSt D w2 wr v5 v6 st out) ∧ Aside0 (Gm.Makes out st) ∧ Aside0 (Gm.OkSt st)) (fun v5 _ v7 wr => Gm.left (intOf v7).toNat (stk wr v5))
  case atStart => exact ⟨0, [51], [], rfl, by decide, by decide, HS0, ⟨Gm.Makes.start⟩, ⟨Gm.ok_file⟩⟩
  case round =>
    clear HS0
    obtain ⟨n, st, out, rfl, hn1, hn2, HS, HM, HO⟩ := hrel
    have HSK := Aside0.mk (stk_of HS.out.row5)
    cases st with
    | nil =>
      obtain ⟨a5, c5, rfl, _⟩ := own_reads HS.out.row5
      have hol : out.length ≤ 20000 := by omega
      go_wp2
      go_ret
      refine ⟨_, out, rfl, World.ownsRow.mono HS.out.row6 (HD.out ▸ HB2.out.size), HM.out.done, hol, ?_⟩
      have := HS.out.below
      rw [← HD.out] at this
      exact below_then HB2.out HB2.out.size this
    | cons s st =>
      have hx : s < 256 := ok_lt HO.out s List.mem_cons_self
      have hro := HS.out.row5
      rw [List.length_cons] at hro
      obtain ⟨q5, cap5, rfl, hq1, hq2, hcap5⟩ := own_shape hro
      have htop : wr.cell? ⟨q5, st.length, none⟩ = some (.int .u8 (s : Int)) := own_last hro
      have hlg := len_goes st
      have hst : st.length ≤ 15000 := by
        have : Gm.left n (s :: st) = (400 - n) * 30 + (Gm.goes s + Gm.goesL st) := rfl
        omega
      have HP := Aside0.mk HS.out.pop
      clear hro hlg
      by_cases h40 : s ≤ 40
      · have hd : decide ((s : Int) ≤ 40) = true := by simp; omega
        have HTK : 1 ≤ s ∧ s ≤ 40 := by
          rcases HO.out s List.mem_cons_self with h | h
          · have := Gm.tok_part s h40
            rw [h] at this; cases this
          · exact h
        obtain ⟨i0, hi0, hz0, hz1, hz2⟩ := info_parts infoU8
        have hol : out.length ≤ 15000 := by omega
        have HLT := Aside0.mk (Gm.left_tok (n := n) (s := s) (st := st))
        go_wp2_with (at_builtin; refine wpList_append_lies _ rfl _ _ _ rfl D 5 i0 (.int .u8 0) 1 1 Try.underlying26 hi0 hz0 hz1 hz2 rfl (by decide) _ out.length (u8n out) rfl (HP.out.row6.alloc _) ⟨wr.heap.size, 0, none⟩ 1 1 [.int .u8 (s : Int)] rfl rfl ?n1 ?n2 (by omega) ?n3 ?n4 ?n5 (wr.heap.size + 1) ?n6 ?_)
        case n1 => exact World.news_of_block (cs := #[.int .u8 (s : Int)]) (t := 5) (fr := (0, 0)) (heap_alloc_new _ _)
        case n2 => simp [Value.oneCell']
        case n3 => unfold maxLen; omega
        case n4 => omega
        case n5 => have := HP.out.size; rw [World.size_alloc]; omega
        case n6 => rw [World.size_alloc]
        intro g cap w5 hown hgrow hat hlt
        have HN := Aside0.mk (HP.out.out hown hgrow hat)
        have HMN := Aside0.mk (HM.out.tok HTK.1 HTK.2)
        have HON : Aside0 (Gm.OkSt st) := ⟨fun y hy => HO.out y (List.mem_cons_of_mem _ hy)⟩
        have HSN := Aside0.mk (stk_of HN.out.row5)
        clear hown hgrow hat hlt htop
        go_wp2
        go_roundw
        case rel =>
          have := HLT.out
          exact ⟨n + 1, st, out ++ [s], by go_num, by omega, by rw [List.length_append]; simp; omega, HN, HMN, HON⟩
        case measure =>
          have := HLT.out
          rw [HSN.out, HSK.out]
          simpa [intOf] using this
      · have hd : decide ((s : Int) ≤ 40) = false := by simp; omega
        have hps : Gm.part s = true := by
          rcases HO.out s List.mem_cons_self with h | h
          · exact h
          · omega
        have HPP := Aside0.mk (Gm.pick_part s hps)
        have HPS := Aside0.mk hps
        clear hps
        go_wp2
        have hmz := HP.out.size
        have HB0 : Aside0 (Below wr.heap.size wr wr) := ⟨Below.refl _ _⟩
        generalize hm : wr.heap.size = m at *
        have HMZ := Aside0.mk hm
        clear hm htop
        go_loopw [9, 10, 11, 12] (fun v9 v10 v11 v12 wk => ∃ i : Nat, i ≤ 74 ∧ v10 = .int .i64 ((Gm.pickAt s i).best : Int) ∧ v11 = .int .i64 ((Gm.pickAt s i).size : Int) ∧ v12 = .int .i64 i ∧ Aside0 (wk.ownsRow m 3 1 v9 (Gm.pickAt s i).mine.length (i64n (Gm.pickAt s i).mine)) ∧ Aside0 (Below m wr wk) ∧ Aside0 (m ≤ wk.heap.size)) (fun _ _ _ v12 _ => 74 - (intOf v12).toNat)
        case atStart => exact ⟨0, by omega, rfl, rfl, rfl, ⟨⟨rfl, Or.inl ⟨rfl, rfl⟩⟩⟩, HB0, ⟨by rw [HMZ.out]; exact Nat.le_refl _⟩⟩
        case round =>
          obtain ⟨i, hi, rfl, rfl, rfl, HW, HBK, HMK⟩ := hrel
          have hIR : IsRules wr 28 r B := by
            have h1 := HS.out.later (HMZ.out.symm ▸ HBK.out)
            exact HI2.out.below (HD.out.symm ▸ h1.below)
          by_cases hil : i < 74
          · 
            -- [[
            have hd2 : decide ((i : Int) < 74) = true := by simp; omega
            have hi0 : (0 : Int) ≤ (i : Int) := by omega
            have hi1 : (i : Int) < 74 := by omega
            have hp : wr.cell? ⟨r, i * 2, none⟩ = some (.int .u8 ((nrule i).1 : Int)) := hIR.part i hil
            have hpl := Gm.pick_len s i
            by_cases e : (nrule i).1 = s
            · have ee : (((nrule i).1 : Int) != (s : Int)) = false := by simp; omega
              have HE := Aside0.mk e
              clear e
              obtain ⟨i0, hi0', hz0, hz1, hz2⟩ := info_parts infoInt
              go_wp2_with (at_builtin; refine wpList_append_lies _ rfl _ _ _ rfl m 3 i0 (.int .i64 0) 1 8 Try.underlying41 hi0' hz0 hz1 hz2 rfl (by decide) _ (Gm.pickAt s i).mine.length (i64n (Gm.pickAt s i).mine) rfl (HW.out.alloc _) ⟨wr.heap.size, 0, none⟩ 1 1 [.int .i64 (i : Int)] rfl rfl ?n1 ?n2 (by omega) ?n3 ?n4 ?n5 (wr.heap.size + 1) ?n6 ?_)
              case n1 => exact World.news_of_block (cs := #[.int .i64 (i : Int)]) (t := 3) (fr := (0, 0)) (heap_alloc_new _ _)
              case n2 => simp [Value.oneCell']
              case n3 => unfold maxLen; omega
              case n4 => omega
              case n5 => have := HMK.out; rw [World.size_alloc]; omega
              case n6 => rw [World.size_alloc]
              intro g cap w5 hown hgrow hat hlt
              obtain ⟨hbs, hms⟩ := row_snoc HW.out HBK.out HMK.out hgrow
              have HWN := Aside0.mk hown
              have HBN := Aside0.mk hbs
              have HMN := Aside0.mk hms
              clear hown hgrow hat hlt hbs hms hp hIR
              have hIR5 : IsRules w5 28 r B := by
                have h1 := HS.out.later (HMZ.out.symm ▸ HBN.out)
                exact HI2.out.below (HD.out.symm ▸ h1.below)
              have hq5' : w5.heap[q]? = some (.cells (intRow Gm.least 256) 3 (0, 0)) := by
                have h1 := HS.out.later (HMZ.out.symm ▸ HBN.out)
                have h2 : Below w2.heap.size w2 w5 := HD.out.symm ▸ h1.below
                exact (h2.block q (blk_lt HL.out)).trans HL.out
              have HIR5 := Aside0.mk hIR5
              have HQ5 := Aside0.mk hq5'
              have hsl := sl_len i hil
              have hsm : Gm.sizeOf (nrule i).2 ≤ 5000 := Gm.size_max i hil
              have hr := hIR5.right i hil
              clear hIR5 hq5'
              go_wp2
              go_loopw [13, 14] (fun v13 v14 wk => ∃ kk j : Nat, kk ≤ 5000 ∧ j ≤ (nrule i).2.length ∧ v13 = .int .i64 kk ∧ v14 = .int .i64 j ∧ wk = w5 ∧ Aside0 (kk + Gm.sizeOf ((nrule i).2.drop j) = Gm.sizeOf (nrule i).2)) (fun _ v14 _ => (nrule i).2.length - (intOf v14).toNat)
              case atStart => exact ⟨0, 0, by omega, by omega, rfl, rfl, rfl, ⟨by simp⟩⟩
              case round =>
                obtain ⟨kk, j, hkk, hj, rfl, rfl, rfl, HSZ⟩ := hrel
                by_cases hjl : j < (nrule i).2.length
                · have hd3 : decide ((j : Int) < ((nrule i).2.length : Int)) = true := by simp; omega
                  have hj0 : (0 : Int) ≤ (j : Int) := by omega
                  have hj1 : (j : Int) < ((nrule i).2.length : Int) := by omega
                  have hsy := HIR5.out.sym i hil j hjl
                  have hx' := getD_lt' hil hjl
                  have HDK := Aside0.mk (drop_cons'' _ j hjl)
                  have HGX : Aside0 ((nrule i).2.getD j 0 = (nrule i).2.getD j 0) := ⟨rfl⟩
                  generalize hgx : (nrule i).2.getD j 0 = x at *
                  clear hgx HGX
                  have hx0 : (0 : Int) ≤ (x : Int) := by omega
                  have hx1 : (x : Int) < 256 := by omega
                  have hc := (blk_cell HQ5.out x).trans (intRow_at _ _ _ hx')
                  have hlm := Gm.least_max x
                  have hss : kk + Gm.least x + Gm.sizeOf ((nrule i).2.drop (j + 1)) = Gm.sizeOf (nrule i).2 := by
                    rw [← HSZ.out, HDK.out]
                    simp only [Gm.sizeOf, List.map_cons, List.foldr_cons]
                    omega
                  have hkn : kk + Gm.least x ≤ 5000 := by omega
                  have HSN := Aside0.mk hss
                  generalize Gm.least x = lx at *
                  clear hss HSZ HDK
                  go_wp2
                  go_roundw
                  case rel => exact ⟨kk + lx, j + 1, by omega, by omega, by go_num, by go_num, by first | rfl | trivial, HSN⟩
                  case measure => simp [intOf]; omega
                · have hd3 : decide ((j : Int) < ((nrule i).2.length : Int)) = false := by simp; omega
                  have hke : kk = Gm.sizeOf (nrule i).2 := by
                    have := HSZ.out
                    rw [List.drop_eq_nil_of_le (by omega)] at this
                    simpa [Gm.sizeOf] using this
                  have hpe : Gm.pickAt s (i + 1) = ⟨(Gm.pickAt s i).mine ++ [i], if kk < (Gm.pickAt s i).size then i else (Gm.pickAt s i).best, if kk < (Gm.pickAt s i).size then kk else (Gm.pickAt s i).size⟩ := by
                    rw [hke]
                    show (if (Gm.rules.getD i (0, [])).1 = s then _ else _) = _
                    exact if_pos HE.out
                  have HPE := Aside0.mk hpe
                  clear hpe hke HSZ
                  have HWM : Aside0 (wr.ownsRow m 3 1 (.slice (some ⟨g, 0, none⟩) ((Gm.pickAt s i).mine.length + 1) cap) (Gm.pickAt s (i + 1)).mine.length (i64n (Gm.pickAt s (i + 1)).mine)) := ⟨by
                    rw [HPE.out, List.length_append, i64n_snoc]
                    exact HWN.out⟩
                  by_cases hlt : kk < (Gm.pickAt s i).size
                  · have hl2 : decide (kk < (Gm.pickAt s i).size) = true := by simp; omega
                    have HB1 : Aside0 ((Gm.pickAt s (i + 1)).best = i ∧ (Gm.pickAt s (i + 1)).size = kk) := ⟨by rw [HPE.out]; exact ⟨if_pos hlt, if_pos hlt⟩⟩
                    have HLT := Aside0.mk hlt
                    clear hlt
                    go_wp2
                    go_roundw
                    case rel => exact ⟨i + 1, by omega, by rw [HB1.out.1], by rw [HB1.out.2], by go_num, HWM, HBN, HMN⟩
                    case measure => simp [intOf]; omega
                  · have hl2 : decide (kk < (Gm.pickAt s i).size) = false := by simp; omega
                    have HB1 : Aside0 ((Gm.pickAt s (i + 1)).best = (Gm.pickAt s i).best ∧ (Gm.pickAt s (i + 1)).size = (Gm.pickAt s i).size) := ⟨by rw [HPE.out]; exact ⟨if_neg hlt, if_neg hlt⟩⟩
                    have HLT := Aside0.mk hlt
                    clear hlt
                    go_wp2
                    go_roundw
                    case rel => exact ⟨i + 1, by omega, by rw [HB1.out.1], by rw [HB1.out.2], by go_num, HWM, HBN, HMN⟩
                    case measure => simp [intOf]; omega
            · have ee : (((nrule i).1 : Int) != (s : Int)) = true := by simp; omega
              have hpe : Gm.pickAt s (i + 1) = Gm.pickAt s i := by
                show (if (Gm.rules.getD i (0, [])).1 = s then _ else _) = _
                exact if_neg e
              have HPE := Aside0.mk hpe
              clear hpe e
              go_wp2
              go_roundw
              case rel => exact ⟨i + 1, by omega, by rw [HPE.out], by rw [HPE.out], by go_num, ⟨by rw [HPE.out]; exact HW.out⟩, HBK, HMK⟩
              case measure => simp [intOf]; omega
            -- ]]
          · have hd2 : decide ((i : Int) < 74) = false := by simp; omega
            have hie : i = 74 := by omega
            rw [hie] at HW
            have HIE := Aside0.mk hie
            have hbe : (Gm.pickAt s i).best = (Gm.pickAt s 74).best := by rw [hie]
            have hse : (Gm.pickAt s i).size = (Gm.pickAt s 74).size := by rw [hie]
            rw [hbe, hse]
            clear hbe hse hie hIR
            have hml : 0 < (Gm.pickAt s 74).mine.length := List.length_pos_iff.2 HPP.out.1
            have hml2 := Gm.pick_len s 74
            obtain ⟨g9, cap9, rfl, hg9, hg9'⟩ := HW.out.form hml
            have HCM : Aside0 (∀ j, j < (Gm.pickAt s 74).mine.length → ∃ mm : Nat, wr.cell? ⟨g9, j, none⟩ = some (.int .i64 (mm : Int)) ∧ mm < 74 ∧ (Gm.rules.getD mm (0, [])).1 = s) := ⟨fun j hj => by
              have := HW.out.cells (g := g9) rfl j (.int .i64 (((Gm.pickAt s 74).mine[j] : Nat) : Int)) (by simp [i64n, nums, hj])
              rw [add_plain] at this
              exact ⟨_, this, Gm.pick_mem s 74 _ (List.getElem_mem hj)⟩⟩
            have HP2 := Aside0.mk (HP.out.later (HMZ.out.symm ▸ HBK.out))
            have HBEST := Aside0.mk (And.intro HPP.out.2.1 (And.intro HPP.out.2.2.1 (Gm.left_best (n := n) (st := st) HPS.out)))
            clear HW
            generalize hML : (Gm.pickAt s 74).mine.length = L at *
            generalize (Gm.pickAt s 74).best = bst at *
            have hl0 : ((L : Int) == 0) = false := by simp; omega
            have hIR : IsRules wr 28 r B := HI2.out.below (HD.out.symm ▸ HP2.out.below)
            have HIR := Aside0.mk hIR
            clear hIR
            go_upto_region 28 with fail
            go_cut [98] from 90 to 97 (fun v98 wx => wx = wr ∧ ∃ bb : Bool, v98 = .bool bb ∧ (bb = true → n < pk.length))
            case first =>
              by_cases hnl : n < pk.length
              · have hd3 : decide (n < pk.length) = true := by simp; omega
                by_cases h60 : st.length < 60
                · have hd4 : decide ((st.length : Int) < 60) = true := by simp; omega
                  go_wp2_with fail
                  go_meet
                  exact ⟨rfl, true, rfl, fun _ => hnl⟩
                · have hd4 : decide ((st.length : Int) < 60) = false := by simp; omega
                  go_wp2_with fail
                  go_meet
                  exact ⟨rfl, false, rfl, fun h => by cases h⟩
              · have hd3 : decide (n < pk.length) = false := by simp; omega
                go_wp2_with fail
                go_meet
                exact ⟨rfl, false, rfl, fun h => by cases h⟩
            case rest =>
              obtain ⟨rfl, bb, rfl, hbb⟩ := hcut
              have HBB := Aside0.mk hbb
              clear hbb
              go_upto_if 98 with fail
              go_cut [10] from 99 to 111 (fun v10 wx => wx = wc ∧ ∃ mm : Nat, mm < 74 ∧ v10 = .int .i64 mm ∧ Aside0 ((Gm.rules.getD mm (0, [])).1 = s ∧ Gm.left (n + 1) ((Gm.rules.getD mm (0, [])).2 ++ st) < Gm.left n (s :: st)))
              case first =>
                cases bb with
                | false =>
                  go_wp2_with fail
                  go_meet
                  exact ⟨rfl, bst, HBEST.out.1, rfl, ⟨HBEST.out.2⟩⟩
                | true =>
                  have hnl := HBB.out rfl
                  have hCn := Kd.C_below HC2.out (HD.out.symm ▸ HP2.out.below)
                  obtain ⟨ad, eA, hcell⟩ := Kd.at_int hCn (n : Int) (by omega) (by omega)
                  subst eA
                  generalize hxv : rd pk (n : Int) = xv at *
                  rw [Int.toNat_natCast] at hcell
                  clear hxv hCn
                  have hn0 : (0 : Int) ≤ (n : Int) := by omega
                  have hn1' : (n : Int) < (pk.length : Int) := by omega
                  obtain ⟨jj, hjj, hidx⟩ := pick_index xv L hml hml2
                  obtain ⟨mm, hcm, hmm1, hmm2⟩ := HCM.out jj hjj
                  have HJ0 : (0 : Int) ≤ (jj : Int) := by omega
                  have HJ1 : (jj : Int) < (L : Int) := by omega
                  have HLP := Aside0.mk (Gm.left_pick (n := n) (s := s) (st := st) (m := mm) (by omega) hmm1)
                  have HM2 := Aside0.mk hmm2
                  clear hmm2
                  go_wp2_with fail
                  go_meet
                  exact ⟨rfl, mm, hmm1, rfl, ⟨HM2.out, HLP.out⟩⟩
              case rest =>
                obtain ⟨rfl, mm, hmm, rfl, HMK2⟩ := hcut
                have hr := HIR.out.right mm hmm
                have hsl := sl_len mm hmm
                have hv6 : ∃ v6, Aside0 (MadeSt D w2 wc (.slice (some ⟨q5, 0, none⟩) st.length cap5) v6 st out) := ⟨_, HP2⟩
                go_wp2
                go_loopw [5, 15] (fun v5 v15 wk => ((∃ t : Nat, t < (nrule mm).2.length ∧ v15 = .int .i64 t ∧ Aside0 (MadeSt D w2 wk v5 u6 ((nrule mm).2.drop (t + 1) ++ st) out)) ∨ (v15 = .int .i64 (-1) ∧ Aside0 (MadeSt D w2 wk v5 u6 ((nrule mm).2 ++ st) out)))) (fun _ v15 _ => (intOf v15 + 1).toNat)
                case atStart =>
                  by_cases hl0 : (nrule mm).2.length = 0
                  · refine Or.inr ⟨congrArg (Value.int .i64) (by omega), ?_⟩
                    rw [List.length_eq_zero_iff.1 hl0]
                    exact HP2
                  · refine Or.inl ⟨(nrule mm).2.length - 1, by omega, congrArg (Value.int .i64) (by omega), ?_⟩
                    rw [List.drop_eq_nil_of_le (by omega)]
                    exact HP2
                case round =>
                  rcases hrel with ⟨t, ht, rfl, HT⟩ | ⟨rfl, HT⟩
                  · have hIR : IsRules wr 28 r B := HI2.out.below (HD.out.symm ▸ HT.out.below)
                    have hr := hIR.right mm hmm
                    have hsy := hIR.sym mm hmm t ht
                    have hd3 : decide ((0 : Int) ≤ (t : Int)) = true := by simp
                    have ht0 : (0 : Int) ≤ (t : Int) := by omega
                    have ht1 : (t : Int) < ((nrule mm).2.length : Int) := by omega
                    have HDK := Aside0.mk (drop_cons'' _ t ht)
                    generalize hgx : (nrule mm).2.getD t 0 = x at *
                    have hlen : ((nrule mm).2.drop (t + 1) ++ st).length ≤ 15010 := by
                      rw [List.length_append, List.length_drop]; omega
                    have HST2 : Aside0 (x :: ((nrule mm).2.drop (t + 1) ++ st) = (nrule mm).2.drop t ++ st) := ⟨by rw [HDK.out]; rfl⟩
                    clear hgx hIR HDK
                    generalize hls : (nrule mm).2.drop (t + 1) ++ st = ls at *
                    clear hls
                    obtain ⟨i0, hi0, hz0, hz1, hz2⟩ := info_parts infoU8
                    go_wp2_with (at_builtin; refine wpList_append_lies _ rfl _ _ _ rfl D 5 i0 (.int .u8 0) 1 1 Try.underlying26 hi0 hz0 hz1 hz2 rfl (by decide) _ ls.length (u8n ls.reverse) rfl (HT.out.row5.alloc _) ⟨wr.heap.size, 0, none⟩ 1 1 [.int .u8 (x : Int)] rfl rfl ?n1 ?n2 (by omega) ?n3 ?n4 ?n5 (wr.heap.size + 1) ?n6 ?_)
                    case n1 => exact World.news_of_block (cs := #[.int .u8 (x : Int)]) (t := 5) (fr := (0, 0)) (heap_alloc_new _ _)
                    case n2 => simp [Value.oneCell']
                    case n3 => unfold maxLen; omega
                    case n4 => omega
                    case n5 => have := HT.out.size; rw [World.size_alloc]; omega
                    case n6 => rw [World.size_alloc]
                    intro g cap w5 hown hgrow hat hlt
                    have hpush := HT.out.push hown hgrow hat
                    rw [HST2.out] at hpush
                    have HN := Aside0.mk hpush
                    clear hpush hown hgrow hat hlt hr hsy HST2 HT
                    cases t with
                    | zero =>
                      go_wp2
                      go_roundw
                      case rel => exact Or.inr ⟨rfl, HN⟩
                      case measure => simp [intOf]
                    | succ t =>
                      go_wp2
                      go_roundw
                      case rel => exact Or.inl ⟨t, by omega, by go_num, HN⟩
                      case measure => simp [intOf]; omega
                  · have HN := Aside0.mk (HM.out.rule hmm HMK2.out.1)
                    have HO2 : Aside0 (Gm.OkSt ((nrule mm).2 ++ st)) := ⟨Gm.OkSt.rule HO.out (by rw [Gm.rule_at hmm, HMK2.out.1]; rfl)⟩
                    have HSN := Aside0.mk (stk_of HT.out.row5)
                    have HLT : Aside0 (Gm.left (n + 1) ((nrule mm).2 ++ st) < Gm.left n (s :: st)) := ⟨HMK2.out.2⟩
                    go_wp2
                    go_roundw
                    case rel =>
                      have := HLT.out
                      exact ⟨n + 1, _, out, by go_num, by omega, by omega, HT, HN, HO2⟩
                    case measure =>
                      have := HLT.out
                      rw [HSN.out, HSK.out]
                      simpa [intOf] using this
end Go.Proofs.Ytlliokmcfmcigaa.GR
