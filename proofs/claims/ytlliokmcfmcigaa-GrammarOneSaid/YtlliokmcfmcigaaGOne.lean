/- The law GrammarOne, walked. -/
import Derived.Test.YtlliokmcfmcigaaGmOne
import Derived.Test.YtlliokmcfmcigaaGAwake
namespace Go.Proofs.Ytlliokmcfmcigaa.GR
open Go.RowKit Go.Proofs.YtlliokmcfmcigaaW.PrintWords Go.Proofs.YtlliokmcfmcigaaW.PrintLast Go.Proofs.YtlliokmcfmcigaaW.PrintMore
set_option linter.unusedVariables false
set_option linter.unusedSimpArgs false
theorem len_sym {i : Nat} (hi : i < 74) : ∀ x ∈ (nrule i).2, x < 256 := by
  have : (List.range 74).all (fun i => (nrule i).2.all (fun x => decide (x < 256))) = true := by decide +kernel
  intro x hx
  simpa using List.all_eq_true.1 (List.all_eq_true.1 this i (by simpa using hi)) x hx
theorem drop_cons' (l : List Nat) (k : Nat) (h : k < l.length) : l.drop k = l.getD k 0 :: l.drop (k + 1) := by
  rw [List.drop_eq_getElem_cons h]
  congr 1
  rw [List.getD_eq_getElem?_getD, List.getElem?_eq_getElem h]; rfl
theorem getD_lt {i j : Nat} (hi : i < 74) (hj : j < (nrule i).2.length) : (nrule i).2.getD j 0 < 256 :=
  len_sym hi _ (by rw [List.getD_eq_getElem?_getD, List.getElem?_eq_getElem hj]; exact List.getElem_mem _)
set_option maxHeartbeats 4000000 in
theorem ask_any (w : World) (r : Nat) (B : Nat → Nat) (h : IsRules w 28 r B) (n : Nat) (hn : n < 74) (k : Nat) (hk : k < 256) :
    Calls Try.prog 31 #[ruleV B n, .int .u8 (Int.ofNat k)] w fun e w' => e = .returned (.bool (askRow (nrule n).1 k (nrule n).2)) ∧ Below w.heap.size w w' := by
  show Calls _ _ #[.agg #[.int .u8 ((nrule n).1 : Int), .slice (some ⟨B n, 0, none⟩) (nrule n).2.length (nrule n).2.length], .int .u8 (k : Int)] _ _
  have HR := Aside0.mk h
  have hpart := nrule_lt n
  have hsl := sl_len n hn
  clear h
  go_enter Try.func31, Try.ntmps31
  go_wp2
  have hbelow : Below w.heap.size w (w.alloc (.cells #[.int .u8 ((nrule n).1 : Int), .slice (some ⟨B n, 0, none⟩) (nrule n).2.length (nrule n).2.length] 28)) := (Below.refl _ _).alloc (Nat.le_refl _) _
  have HX0 : Aside0 ((w.alloc (.cells #[.int .u8 ((nrule n).1 : Int), .slice (some ⟨B n, 0, none⟩) (nrule n).2.length (nrule n).2.length] 28)).heap[w.heap.size]? = some (.cells #[.int .u8 ((nrule n).1 : Int), .slice (some ⟨B n, 0, none⟩) (nrule n).2.length (nrule n).2.length] 28 (0, 0))) := ⟨heap_alloc_new _ _⟩
  have HR0 := Aside0.mk (HR.out.below hbelow)
  have HB0 := Aside0.mk hbelow
  clear HR hbelow
  generalize (w.alloc (.cells #[.int .u8 ((nrule n).1 : Int), .slice (some ⟨B n, 0, none⟩) (nrule n).2.length (nrule n).2.length] 28)) = w0 at *
  generalize hbx : w.heap.size = bx at *
  go_loopw [5] (fun v5 wr => ∃ j : Nat, j ≤ (nrule n).2.length ∧ v5 = .int .i64 j ∧ Aside0 (IsRules wr 28 r B) ∧ Aside0 (Below bx w wr) ∧ Aside0 (wr.heap[bx]? = some (.cells #[.int .u8 ((nrule n).1 : Int), .slice (some ⟨B n, 0, none⟩) (nrule n).2.length (nrule n).2.length] 28 (0, 0))) ∧ Aside0 (askRow (nrule n).1 k (nrule n).2 = askRow (nrule n).1 k ((nrule n).2.drop j))) (fun v5 _ => (nrule n).2.length - (intOf v5).toNat)
  case atStart => exact ⟨0, by omega, rfl, HR0, HB0, HX0, ⟨rfl⟩⟩
  case round =>
    clear HR0 HB0 HX0
    obtain ⟨j, hj, rfl, HR, HB, HX, HW⟩ := hrel
    have x0 : wr.cell? ⟨bx, 0, none⟩ = some (.int .u8 ((nrule n).1 : Int)) := by rw [blk_cell HX.out]; rfl
    have x1 : wr.cell? ⟨bx, 1, none⟩ = some (.slice (some ⟨B n, 0, none⟩) (nrule n).2.length (nrule n).2.length) := by rw [blk_cell HX.out]; rfl
    by_cases hjl : j < (nrule n).2.length
    · have hd : decide ((j : Int) < ((nrule n).2.length : Int)) = true := by simp; omega
      have hj0 : (0 : Int) ≤ (j : Int) := by omega
      have hj1 : (j : Int) < ((nrule n).2.length : Int) := by omega
      have hsy := HR.out.sym n hn j hjl
      have hx := getD_lt hn hjl
      have HDK := Aside0.mk (drop_cons' _ j hjl)
      have HGX : Aside0 ((nrule n).2.getD j 0 = (nrule n).2.getD j 0) := ⟨rfl⟩
      generalize hgx : (nrule n).2.getD j 0 = x at *
      have HXK := Aside0.mk hgx
      clear hgx HGX
      have HW2 : Aside0 (askRow (nrule n).1 k (nrule n).2 = if x ≤ 40 then x == k else if begs x k then true else if Gm.empty x then askRow (nrule n).1 k ((nrule n).2.drop (j + 1)) else false) := ⟨by rw [HW.out, HDK.out]; rfl⟩
      clear HW HDK
      by_cases h40 : x ≤ 40
      · have hd2 : decide ((x : Int) ≤ 40) = true := by simp; omega
        rw [if_pos h40] at HW2
        by_cases e : x = k
        · have ee : ((x : Int) == (k : Int)) = true := by simp; omega
          have HE : Aside0 ((x == k) = true) := ⟨by simpa using e⟩
          clear e
          go_wp2
          go_ret
          exact ⟨by rw [HW2.out, HE.out]; rfl, hbx ▸ HB.out⟩
        · have ee : ((x : Int) == (k : Int)) = false := by simp; omega
          have HE : Aside0 ((x == k) = false) := ⟨by simpa using e⟩
          clear e
          go_wp2
          go_ret
          exact ⟨by rw [HW2.out, HE.out]; rfl, hbx ▸ HB.out⟩
      · have hd2 : decide ((x : Int) ≤ 40) = false := by simp; omega
        rw [if_neg h40] at HW2
        go_wp2_with fail
        refine (progBegins_any _ x k hx hk).mono ?_
        rintro e w5 ⟨rfl, hb5⟩
        have HR5 := Aside0.mk (HR.out.below hb5)
        have HB5 : Aside0 (Below bx w w5) := ⟨below_then HB.out (Nat.le_trans (by rw [hbx]; exact Nat.le_refl _) HB.out.size) hb5⟩
        have HX5 := Aside0.mk ((hb5.block _ (blk_lt HX.out)).trans HX.out)
        clear HR HB HX hb5 x0 x1 hsy
        cases hbg : begs x k with
        | true =>
          rw [hbg] at HW2
          clear hbg
          go_wp2
          go_ret
          exact ⟨by rw [HW2.out]; rfl, hbx ▸ HB5.out⟩
        | false =>
          rw [hbg] at HW2
          clear hbg
          go_wp2_with fail
          refine (progEmpty_any _ x hx).mono ?_
          rintro e w6 ⟨rfl, hb6⟩
          have HR6 := Aside0.mk (HR5.out.below hb6)
          have HB6 : Aside0 (Below bx w w6) := ⟨below_then HB5.out (Nat.le_trans (by rw [hbx]; exact Nat.le_refl _) HB5.out.size) hb6⟩
          have HX6 := Aside0.mk ((hb6.block _ (blk_lt HX5.out)).trans HX5.out)
          clear HR5 HB5 HX5 hb6
          cases hem : Gm.empty x with
          | true =>
            rw [hem] at HW2
            clear hem
            go_wp2
            go_roundw
            case rel => exact ⟨j + 1, by omega, by go_num, HR6, HB6, HX6, ⟨by rw [HW2.out]; rfl⟩⟩
            case measure => simp [intOf]; omega
          | false =>
            rw [hem] at HW2
            clear hem
            go_wp2
            go_ret
            exact ⟨by rw [HW2.out]; rfl, hbx ▸ HB6.out⟩
    · have hd : decide ((j : Int) < ((nrule n).2.length : Int)) = false := by simp; omega
      have HW2 : Aside0 (askRow (nrule n).1 k (nrule n).2 = (followL (nrule n).1).contains k) := ⟨by rw [HW.out, List.drop_eq_nil_of_le (by omega)]; rfl⟩
      have hfl := followL_len (nrule n).1
      clear HW
      go_wp2_with fail
      refine (progFollow_any _ (nrule n).1 hpart).mono ?_
      rintro e w5 ⟨vb, rfl, hrb, hb5⟩
      obtain ⟨A2, c2, rfl, hc2, hcb⟩ := Kd.R_reads hrb
      rw [List.length_map] at hcb
      have HCB := Aside0.mk hcb
      have HB5 : Aside0 (Below w.heap.size w w5) := ⟨below_then (hbx ▸ HB.out) (hbx ▸ HB.out).size hb5⟩
      clear hrb hcb hb5 hc2 HR HB HX x0 x1
      generalize hfo : followL (nrule n).1 = fl at *
      clear hfo
      go_wp2
      go_loopw [8] (fun v8 wr => ∃ i : Nat, i ≤ fl.length ∧ v8 = .int .i64 i ∧ wr = w5 ∧ Aside0 (fl.contains k = (fl.drop i).contains k)) (fun v8 _ => fl.length - (intOf v8).toNat)
      case atStart => exact ⟨0, by omega, rfl, rfl, ⟨rfl⟩⟩
      case round =>
        obtain ⟨i, hi, rfl, rfl, HC⟩ := hrel
        by_cases hil : i < fl.length
        · have hd2 : decide ((i : Int) < (fl.length : Int)) = true := by simp; omega
          have hi0 : (0 : Int) ≤ (i : Int) := by omega
          have hi1 : (i : Int) < (fl.length : Int) := by omega
          obtain ⟨ad, eA⟩ := C_some HCB.out (by omega)
          subst eA
          have hck := C_lit HCB.out hil rfl
          have HDK := Aside0.mk (drop_cons' _ i hil)
          generalize fl.getD i 0 = x at *
          have HC2 : Aside0 (fl.contains k = (k == x || (fl.drop (i + 1)).contains k)) := ⟨by rw [HC.out, HDK.out, List.contains_cons]⟩
          clear HC HDK
          by_cases e : x = k
          · have ee : ((x : Int) == (k : Int)) = true := by simp; omega
            have HE : Aside0 ((k == x) = true) := ⟨by simpa using e.symm⟩
            clear e
            go_wp2
            go_ret
            exact ⟨by rw [HW2.out, HC2.out, HE.out]; rfl, HB5.out⟩
          · have ee : ((x : Int) == (k : Int)) = false := by simp; omega
            have HE : Aside0 ((k == x) = false) := ⟨by simpa using (fun h : k = x => e h.symm)⟩
            clear e
            go_wp2
            go_roundw
            case rel => exact ⟨i + 1, by omega, by go_num, by first | rfl | trivial, ⟨by rw [HC2.out, HE.out]; rfl⟩⟩
            case measure => simp [intOf]; omega
        · have hd2 : decide ((i : Int) < (fl.length : Int)) = false := by simp; omega
          have HC2 : Aside0 (fl.contains k = false) := ⟨by rw [HC.out, List.drop_eq_nil_of_le (by omega)]; rfl⟩
          clear HC
          go_wp2
          go_ret
          exact ⟨by rw [HW2.out, HC2.out]; rfl, HB5.out⟩
set_option maxHeartbeats 8000000 in
theorem lawOne_any (w : World) :
    Calls Try.prog 7 #[] w fun e w' => e = .returned (.bool true) ∧ Below w.heap.size w w' := by
  go_enter Try.func7, Try.ntmps7
  go_wp2_with fail
  refine (awake_any _).mono ?_
  rintro e w1 ⟨rfl, hb1⟩
  have HB1 := Aside0.mk hb1
  clear hb1
  go_wp2_with fail
  refine (clash_any _).mono ?_
  rintro e w2 ⟨rfl, hb2⟩
  have HB2 : Aside0 (Below w.heap.size w w2) := ⟨below_then HB1.out HB1.out.size hb2⟩
  clear HB1 hb2
  go_wp2_with fail
  refine (rules_any _).mono ?_
  rintro e w3 ⟨rfl, hI, hb3, hz3⟩
  have HR := Aside0.mk hI
  have HB : Aside0 (Below w.heap.size w w3) := ⟨below_then HB2.out HB2.out.size hb3⟩
  clear HB2 hb3 hz3 hI
  generalize w2.heap.size + 74 = r at *
  generalize (fun n => w2.heap.size + n) = B at *
  go_wp2
  go_loopw [2] (fun v2 wr => ∃ s : Nat, s ≤ 256 ∧ v2 = .int .i64 s ∧ Aside0 (IsRules wr 28 r B) ∧ Aside0 (Below w.heap.size w wr)) (fun v2 _ => 256 - (intOf v2).toNat)
  case atStart => exact ⟨0, by omega, rfl, HR, HB⟩
  case round =>
    clear HR HB
    obtain ⟨s, hs, rfl, HR, HB⟩ := hrel
    by_cases hsl : s < 256
    · have hd : decide ((s : Int) < 256) = true := by simp; omega
      go_wp2
      go_loopw [3] (fun v3 wr => ∃ k : Nat, k ≤ 45 ∧ v3 = .int .u8 k ∧ Aside0 (IsRules wr 28 r B) ∧ Aside0 (Below w.heap.size w wr)) (fun v3 _ => 45 - (intOf v3).toNat)
      case atStart => exact ⟨0, by omega, rfl, HR, HB⟩
      case round =>
        clear HR HB
        obtain ⟨k, hk, rfl, HR, HB⟩ := hrel
        by_cases hkl : k < 45
        · have hd2 : decide ((k : Int) < 45) = true := by simp; omega
          go_wp2
          go_loopw [4, 5, 6] (fun v4 v5 v6 wr => ∃ (n a : Int) (i : Nat), i ≤ 74 ∧ v4 = .int .i64 n ∧ v5 = .int .i64 a ∧ v6 = .int .i64 i ∧ Aside0 (Picked s k i n a) ∧ Aside0 (IsRules wr 28 r B) ∧ Aside0 (Below w.heap.size w wr)) (fun _ _ v6 _ => 74 - (intOf v6).toNat)
          case atStart => exact ⟨0, -1, 0, by omega, rfl, rfl, rfl, ⟨Picked.zero s k⟩, HR, HB⟩
          case round =>
            clear HR HB
            obtain ⟨n, a, i, hi, rfl, rfl, rfl, HP, HR, HB⟩ := hrel
            by_cases hil : i < 74
            · have hd3 : decide ((i : Int) < 74) = true := by simp; omega
              have hi0 : (0 : Int) ≤ (i : Int) := by omega
              have hi1 : (i : Int) < 74 := by omega
              have hpt := nrule_lt i
              have hp : wr.cell? ⟨r, i * 2, none⟩ = some (.int .u8 ((nrule i).1 : Int)) := HR.out.part i hil
              have hr := HR.out.right i hil
              by_cases e : (nrule i).1 = s
              · have ee : (((nrule i).1 : Int) == (s : Int)) = true := by simp; omega
                have HE := Aside0.mk e
                clear e
                go_wp2_with fail
                refine (ask_any _ r B HR.out i hil k (by omega)).mono ?_
                rintro e w5 ⟨rfl, hb5⟩
                have HR5 := Aside0.mk (HR.out.below hb5)
                have HB5 : Aside0 (Below w.heap.size w w5) := ⟨below_then HB.out HB.out.size hb5⟩
                have had := ask_does i k hil hkl
                rw [had]
                clear HR HB hb5 hp hr had
                cases hdo : Gm.does (nrule i) k with
                | false =>
                  have HD := Aside0.mk hdo
                  clear hdo
                  go_wp2
                  go_roundw
                  case rel => exact ⟨n, a, i + 1, by omega, rfl, rfl, by go_num, ⟨HP.out.no (fun h => by have := h.2; rw [HD.out] at this; cases this)⟩, HR5, HB5⟩
                  case measure => simp [intOf]; omega
                | true =>
                  obtain ⟨hn0, hpk⟩ := HP.out.yes ⟨HE.out, hdo⟩ hil (by omega)
                  have HPK := Aside0.mk hpk
                  subst hn0
                  clear hdo hpk HP
                  go_wp2
                  go_roundw
                  case rel => exact ⟨1, (i : Int), i + 1, by omega, by go_num, rfl, by go_num, HPK, HR5, HB5⟩
                  case measure => simp [intOf]; omega
              · have ee : (((nrule i).1 : Int) == (s : Int)) = false := by simp; omega
                have HE := Aside0.mk e
                clear e
                go_wp2
                go_roundw
                case rel => exact ⟨n, a, i + 1, by omega, rfl, rfl, by go_num, ⟨HP.out.no (fun h => HE.out h.1)⟩, HR, HB⟩
                case measure => simp [intOf]; omega
            · have hd3 : decide ((i : Int) < 74) = false := by simp; omega
              have hie : i = 74 := by omega
              have hpe := HP.out
              rw [hie] at hpe
              obtain ⟨hn1, hix⟩ := hpe.end_
              have HIE := Aside0.mk hie
              have hn2 : decide ((1 : Int) < n) = false := by simp; omega
              have hs0 : (0 : Int) ≤ (s : Int) := by omega
              have hs1 : (s : Int) < 256 := by omega
              have hcall := fun W => progChoose_any W s k hsl (by omega)
              rw [hix] at hcall
              have HCA := Aside0.mk hcall
              clear hpe hn1 hix HP hie hcall
              go_wp2_with fail
              refine (HCA.out _).mono ?_
              rintro e w5 ⟨rfl, hb5⟩
              have HR5 := Aside0.mk (HR.out.below hb5)
              have HB5 : Aside0 (Below w.heap.size w w5) := ⟨below_then HB.out HB.out.size hb5⟩
              clear HR HB hb5 HCA
              go_wp2
              go_roundw
              case rel => exact ⟨k + 1, by omega, by go_num, HR5, HB5⟩
              case measure => simp [intOf]; omega
        · have hd2 : decide ((k : Int) < 45) = false := by simp; omega
          go_wp2
          go_roundw
          case rel => exact ⟨s + 1, by omega, by go_num, HR, HB⟩
          case measure => simp [intOf]; omega
    · have hd : decide ((s : Int) < 256) = false := by simp; omega
      go_wp2
      go_loopw [7] (fun v7 wr => ∃ k : Nat, k ≤ 45 ∧ v7 = .int .u8 k ∧ Aside0 (Below w.heap.size w wr)) (fun v7 _ => 45 - (intOf v7).toNat)
      case atStart => exact ⟨0, by omega, rfl, HB⟩
      case round =>
        clear HR HB
        obtain ⟨k, hk, rfl, HB⟩ := hrel
        by_cases hkl : k < 45
        · have hd2 : decide ((k : Int) < 45) = true := by simp; omega
          go_upto_region 21 with fail
          go_cut [75] from 62 to 74 (fun v75 wx => v75 = .bool false ∧ Aside0 (Below w.heap.size w wx))
          case first =>
            obtain ⟨st, hst, hcs⟩ := one_stat k hkl
            have HST := Aside0.mk hst
            have HC1 := Aside0.mk (fun W => progBegins_any W 102 k (by decide) (by omega))
            have HC2 := Aside0.mk (fun W => progBegins_any W 60 k (by decide) (by omega))
            clear hst
            rcases hcs with ⟨rfl, h1, h2⟩ | ⟨rfl, h1, h2⟩ | ⟨h3, h4, h1, h2⟩
            all_goals
              rw [h1] at HC1
              rw [h2] at HC2
              clear h1 h2
            · skip
              go_wp2_with fail
              refine (HC1.out _).mono ?_
              rintro e w5 ⟨rfl, hb5⟩
              have HB5 : Aside0 (Below w.heap.size w w5) := ⟨below_then HB.out HB.out.size hb5⟩
              clear hb5
              go_wp2_with fail
              refine (PGrammarTells.grammar_Statement.calls _ _ _ HST.out).mono ?_
              rintro e w6 ⟨rfl, ⟨n6, rfl⟩⟩
              have HB6 : Aside0 (Below w.heap.size w (w5.drewN n6)) := ⟨pw_below_drewN HB5.out n6⟩
              generalize w5.drewN n6 = w6 at *
              go_wp2_with fail
              refine (HC2.out _).mono ?_
              rintro e w7 ⟨rfl, hb7⟩
              have HB7 : Aside0 (Below w.heap.size w w7) := ⟨below_then HB6.out HB6.out.size hb7⟩
              clear hb7
              go_wp2_with fail
              refine (PGrammarTells.grammar_Statement.calls _ _ _ HST.out).mono ?_
              rintro e w8 ⟨rfl, ⟨n8, rfl⟩⟩
              have HB8 : Aside0 (Below w.heap.size w (w7.drewN n8)) := ⟨pw_below_drewN HB7.out n8⟩
              generalize w7.drewN n8 = w8 at *
              go_wp2_with fail
              go_meet
              exact ⟨rfl, HB8⟩
            · skip
              go_wp2_with fail
              refine (HC1.out _).mono ?_
              rintro e w5 ⟨rfl, hb5⟩
              have HB5 : Aside0 (Below w.heap.size w w5) := ⟨below_then HB.out HB.out.size hb5⟩
              clear hb5
              go_wp2_with fail
              refine (PGrammarTells.grammar_Statement.calls _ _ _ HST.out).mono ?_
              rintro e w6 ⟨rfl, ⟨n6, rfl⟩⟩
              have HB6 : Aside0 (Below w.heap.size w (w5.drewN n6)) := ⟨pw_below_drewN HB5.out n6⟩
              generalize w5.drewN n6 = w6 at *
              go_wp2_with fail
              refine (HC2.out _).mono ?_
              rintro e w7 ⟨rfl, hb7⟩
              have HB7 : Aside0 (Below w.heap.size w w7) := ⟨below_then HB6.out HB6.out.size hb7⟩
              clear hb7
              go_wp2_with fail
              refine (PGrammarTells.grammar_Statement.calls _ _ _ HST.out).mono ?_
              rintro e w8 ⟨rfl, ⟨n8, rfl⟩⟩
              have HB8 : Aside0 (Below w.heap.size w (w7.drewN n8)) := ⟨pw_below_drewN HB7.out n8⟩
              generalize w7.drewN n8 = w8 at *
              go_wp2_with fail
              go_meet
              exact ⟨rfl, HB8⟩
            · have e1 : (st == 0) = false := by simpa using h3
              have e2 : (st != 0) = true := by simpa using h3
              have e3 : (st == 59) = false := by simpa using h4
              clear h3 h4
              go_wp2_with fail
              refine (HC1.out _).mono ?_
              rintro e w5 ⟨rfl, hb5⟩
              have HB5 : Aside0 (Below w.heap.size w w5) := ⟨below_then HB.out HB.out.size hb5⟩
              clear hb5
              go_wp2_with fail
              refine (PGrammarTells.grammar_Statement.calls _ _ _ HST.out).mono ?_
              rintro e w6 ⟨rfl, ⟨n6, rfl⟩⟩
              have HB6 : Aside0 (Below w.heap.size w (w5.drewN n6)) := ⟨pw_below_drewN HB5.out n6⟩
              generalize w5.drewN n6 = w6 at *
              go_wp2_with fail
              refine (HC2.out _).mono ?_
              rintro e w7 ⟨rfl, hb7⟩
              have HB7 : Aside0 (Below w.heap.size w w7) := ⟨below_then HB6.out HB6.out.size hb7⟩
              clear hb7
              go_wp2_with fail
              refine (PGrammarTells.grammar_Statement.calls _ _ _ HST.out).mono ?_
              rintro e w8 ⟨rfl, ⟨n8, rfl⟩⟩
              have HB8 : Aside0 (Below w.heap.size w (w7.drewN n8)) := ⟨pw_below_drewN HB7.out n8⟩
              generalize w7.drewN n8 = w8 at *
              go_wp2_with fail
              go_meet
              exact ⟨rfl, HB8⟩
          case rest =>
            obtain ⟨rfl, HB2⟩ := hcut
            go_wp2
            go_loopw [8] (fun v8 wr => ∃ n : Nat, 1 ≤ n ∧ n ≤ 6 ∧ v8 = .int .i64 n ∧ Aside0 (Below w.heap.size w wr)) (fun v8 _ => 6 - (intOf v8).toNat)
            case atStart => exact ⟨1, by omega, by omega, rfl, HB2⟩
            case round =>
              clear HB HB2
              obtain ⟨n, hn1, hn6, rfl, HB⟩ := hrel
              by_cases hnl : n < 6
              · have hd3 : decide ((n : Int) ≤ 5) = true := by simp; omega
                have hn0 : (1 : Int) ≤ (n : Int) := by omega
                have hn5 : (n : Int) ≤ 5 := by omega
                obtain ⟨lv, hlv, hcs⟩ := one_level k n hkl hnl
                have HLV := Aside0.mk hlv
                have hc1 : ∀ W, Calls Try.prog 18 #[.int .u8 (120 + (n : Int)), .int .u8 (k : Int)] W fun e w' => e = .returned (.bool (begs (120 + n) k)) ∧ Below W.heap.size W w' := fun W => by
                  have := progBegins_any W (120 + n) k (by omega) (by omega)
                  rw [show Int.ofNat (120 + n) = 120 + (n : Int) by simp] at this
                  exact this
                have HC1 := Aside0.mk hc1
                clear hlv hc1
                rcases hcs with ⟨h1, h2⟩ | ⟨h1, h2⟩
                · have h2 : begs (120 + n) k = true := by rcases h2 with h2 | h2; omega; exact h2
                  have e1 : (lv == (n : Int)) = true := by simpa using h1
                  rw [h2] at HC1
                  clear h1 h2
                  go_wp2_with fail
                  refine (HC1.out _).mono ?_
                  rintro e w5 ⟨rfl, hb5⟩
                  have HB5 : Aside0 (Below w.heap.size w w5) := ⟨below_then HB.out HB.out.size hb5⟩
                  clear hb5 HB
                  go_wp2_with fail
                  refine (PGrammarTells.grammar_Level.calls _ _ _ _ HLV.out).mono ?_
                  rintro e w6 ⟨rfl, ⟨n6, rfl⟩⟩
                  have HB6 : Aside0 (Below w.heap.size w (w5.drewN n6)) := ⟨pw_below_drewN HB5.out n6⟩
                  generalize w5.drewN n6 = w6 at *
                  go_wp2
                  go_roundw
                  case rel => exact ⟨n + 1, by omega, by omega, by go_num, HB6⟩
                  case measure => simp [intOf]; omega
                · have h2 : begs (120 + n) k = false := by rcases h2 with h2 | h2; omega; exact h2
                  have e1 : (lv == (n : Int)) = false := by simpa using h1
                  rw [h2] at HC1
                  clear h1 h2
                  go_wp2_with fail
                  refine (HC1.out _).mono ?_
                  rintro e w5 ⟨rfl, hb5⟩
                  have HB5 : Aside0 (Below w.heap.size w w5) := ⟨below_then HB.out HB.out.size hb5⟩
                  clear hb5 HB
                  go_wp2_with fail
                  refine (PGrammarTells.grammar_Level.calls _ _ _ _ HLV.out).mono ?_
                  rintro e w6 ⟨rfl, ⟨n6, rfl⟩⟩
                  have HB6 : Aside0 (Below w.heap.size w (w5.drewN n6)) := ⟨pw_below_drewN HB5.out n6⟩
                  generalize w5.drewN n6 = w6 at *
                  go_wp2
                  go_roundw
                  case rel => exact ⟨n + 1, by omega, by omega, by go_num, HB6⟩
                  case measure => simp [intOf]; omega
              · have hd3 : decide ((n : Int) ≤ 5) = false := by simp; omega
                go_wp2
                go_roundw
                case rel => exact ⟨k + 1, by omega, by go_num, HB⟩
                case measure => simp [intOf]; omega
        · have hd2 : decide ((k : Int) < 45) = false := by simp; omega
          go_wp2
          go_ret
          exact ⟨rfl, HB.out⟩
end Go.Proofs.Ytlliokmcfmcigaa.GR
