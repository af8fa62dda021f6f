/- The law GrammarTells, walked: true for every symbol and kind. -/
import Derived.Test.YtlliokmcfmcigaaGTells
import Derived.Test.YtlliokmcfmcigaaGLawAccepts
namespace Go.Proofs.Ytlliokmcfmcigaa.GR
open Go.RowKit Go.Proofs.YtlliokmcfmcigaaW.PrintWords Go.Proofs.YtlliokmcfmcigaaW.PrintLast Go.Proofs.YtlliokmcfmcigaaW.PrintMore
set_option linter.unusedVariables false
set_option linter.unusedSimpArgs false
/-- a slice's row that may be written -/
def Row (w : World) (m : Nat) (v : Value) (n : Nat) : Prop := n = 0 ∨ ∃ q cap cs, v = .slice (some ⟨q, 0, none⟩) n cap ∧ m ≤ q ∧ q < w.heap.size ∧ w.heap[q]? = some (.cells cs 5 (0, 0)) ∧ n ≤ cs.size
theorem Row.of {w : World} {m : Nat} {ok : Nat → Prop} {v : Value} {xs : List Int} (h : Kd.R (Kd.int .u8) 5 w m ok v xs) : Row w m v xs.length := by
  obtain ⟨inner, h1, h2⟩ := Kd.R_own h
  rcases h2 with ⟨_, h0⟩ | ⟨q, cap, cur, hv, hm, hq, hcap, _, hsz, _⟩
  · exact Or.inl h0
  · refine Or.inr ⟨q, cap, cur, hv, hm, blk_lt hq, hq, ?_⟩
    have : (Kd.int .u8).sz = 1 := rfl
    rw [this] at hsz
    omega
theorem Row.below {w w1 : World} {m n : Nat} {v : Value} (h : Row w m v n) (hb : Below w.heap.size w w1) : Row w1 m v n := by
  rcases h with h | ⟨q, cap, cs, h1, h2, h3, h4, h5⟩
  · exact Or.inl h
  · exact Or.inr ⟨q, cap, cs, h1, h2, Nat.lt_of_lt_of_le h3 hb.size, (hb.block q h3).trans h4, h5⟩
theorem Row.set {w : World} {m n b j : Nat} {u : Value} {v : Value} (h : Row w m v n) : Row (w.setCell ⟨b, j, none⟩ u) m v n := by
  rcases h with h | ⟨q, cap, cs, h1, h2, h3, h4, h5⟩
  · exact Or.inl h
  · by_cases e : q = b
    · subst e
      exact Or.inr ⟨q, cap, _, h1, h2, by rw [World.size_setCell]; exact h3, blk_set h4 j u, by simpa using h5⟩
    · exact Or.inr ⟨q, cap, cs, h1, h2, by rw [World.size_setCell]; exact h3, (Below.heap_setCell _ _ _ _ e).trans h4, h5⟩
theorem Row.lower {w : World} {m m' n : Nat} {v : Value} (h : Row w m v n) (hm : m' ≤ m) : Row w m' v n := by
  rcases h with h | ⟨q, cap, cs, h1, h2, h3⟩
  · exact Or.inl h
  · exact Or.inr ⟨q, cap, cs, h1, Nat.le_trans hm h2, h3⟩
theorem Row.cell {w : World} {m n j : Nat} {A : Option Addr} {c : Nat} (h : Row w m (.slice A n c) n) (hj : j < n) : ∃ q v0, A = some ⟨q, 0, none⟩ ∧ m ≤ q ∧ w.cell? ⟨q, j, none⟩ = some v0 ∧ w.frozen? ⟨q, j, none⟩ = false := by
  rcases h with h | ⟨q, cap, cs, h1, h2, h3, h4, h5⟩
  · omega
  · have e : A = some ⟨q, 0, none⟩ := by injection h1
    exact ⟨q, cs[j]'(by omega), e, h2, (blk_cell h4 j).trans (Array.getElem?_eq_getElem (by omega)), blk_frozen h4 j⟩
set_option maxHeartbeats 8000000 in
theorem lawTells_any (w : World) (s k : Nat) (hs : s < 256) (hk : k < 256) :
    Calls Try.prog 5 #[.int .u8 (s : Int), .int .u8 (k : Int)] w fun e w' => e = .returned (.bool true) ∧ Below w.heap.size w w' := by
  obtain ⟨st, hst1, hst2⟩ := state_same k hk
  obtain ⟨lv, hlv1, hlv2⟩ := level_same k hk
  have HS1 := Aside0.mk hst1
  have HS2 := Aside0.mk hst2
  have HL1 := Aside0.mk hlv1
  have HL2 := Aside0.mk hlv2
  clear hst1 hst2 hlv1 hlv2
  go_enter Try.func5, Try.ntmps5
  go_wp2_with fail
  refine (find_any _).mono ?_
  rintro e w1 ⟨L, a, b, rfl, hF, hR, hb1⟩
  have HF : Aside0 (FF w1 L) := ⟨hF⟩
  have HR := Aside0.mk hR.rules
  have HB := Aside0.mk hb1
  clear hF hR hb1
  go_wp2_with fail
  refine (PGrammarTells.grammar_Statement.calls _ st _ HS1.out).mono ?_
  rintro e w2 ⟨rfl, ⟨n2, rfl⟩⟩
  have HF2 : Aside0 (FF (w1.drewN n2) L) := ⟨FF.below HF.out (pw_below_drewN (Below.refl _ _) _)⟩
  have HR2 : Aside0 (RefRules (w1.drewN n2) L.g) := ⟨RefRules.below HR.out (pw_below_drewN (Below.refl _ _) _)⟩
  have HB2 : Aside0 (Below w.heap.size w (w1.drewN n2)) := ⟨pw_below_drewN HB.out n2⟩
  clear HF HR HB
  generalize w1.drewN n2 = w2 at *
  go_wp2_with fail
  refine (PGrammarTells.glossatorref14_Statement.calls 20 _ st _ HS2.out).mono ?_
  rintro e w3 ⟨rfl, hb3⟩
  have HF3 : Aside0 (FF w3 L) := ⟨FF.below HF2.out hb3⟩
  have HR3 : Aside0 (RefRules w3 L.g) := ⟨RefRules.below HR2.out hb3⟩
  have HB3 : Aside0 (Below w.heap.size w w3) := ⟨below_then HB2.out HB2.out.size hb3⟩
  clear HF2 HR2 HB2 hb3
  go_wp2_with fail
  refine (PGrammarTells.grammar_Level.calls 20 _ lv _ HL1.out).mono ?_
  rintro e w4 ⟨rfl, ⟨n4, rfl⟩⟩
  have HF4 : Aside0 (FF (w3.drewN n4) L) := ⟨FF.below HF3.out (pw_below_drewN (Below.refl _ _) _)⟩
  have HR4 : Aside0 (RefRules (w3.drewN n4) L.g) := ⟨RefRules.below HR3.out (pw_below_drewN (Below.refl _ _) _)⟩
  have HB4 : Aside0 (Below w.heap.size w (w3.drewN n4)) := ⟨pw_below_drewN HB3.out n4⟩
  clear HF3 HR3 HB3
  generalize w3.drewN n4 = w4 at *
  go_wp2_with fail
  refine (PGrammarTells.glossatorref14_Level.calls 30 _ lv _ HL2.out).mono ?_
  rintro e w5 ⟨rfl, hb5⟩
  have HF5 : Aside0 (FF w5 L) := ⟨FF.below HF4.out hb5⟩
  have HR5 : Aside0 (RefRules w5 L.g) := ⟨RefRules.below HR4.out hb5⟩
  have HB5 : Aside0 (Below w.heap.size w w5) := ⟨below_then HB4.out HB4.out.size hb5⟩
  clear HF4 HR4 HB4 hb5
  go_wp2_with fail
  refine (progBegins_any _ s k hs hk).mono ?_
  rintro e w6 ⟨rfl, hb6⟩
  have HF6 : Aside0 (FF w6 L) := ⟨FF.below HF5.out hb6⟩
  have HR6 : Aside0 (RefRules w6 L.g) := ⟨RefRules.below HR5.out hb6⟩
  have HB6 : Aside0 (Below w.heap.size w w6) := ⟨below_then HB5.out HB5.out.size hb6⟩
  clear HF5 HR5 HB5 hb6
  go_wp2_with fail
  refine (refBegins_any _ L HF6.out s k hs).mono ?_
  rintro e w7 ⟨rfl, hb7⟩
  have HF7 : Aside0 (FF w7 L) := ⟨FF.below HF6.out hb7⟩
  have HR7 : Aside0 (RefRules w7 L.g) := ⟨RefRules.below HR6.out hb7⟩
  have HB7 : Aside0 (Below w.heap.size w w7) := ⟨below_then HB6.out HB6.out.size hb7⟩
  clear HF6 HR6 HB6 hb7
  go_wp2_with fail
  refine (progEmpty_any _ s hs).mono ?_
  rintro e w8 ⟨rfl, hb8⟩
  have HF8 : Aside0 (FF w8 L) := ⟨FF.below HF7.out hb8⟩
  have HR8 : Aside0 (RefRules w8 L.g) := ⟨RefRules.below HR7.out hb8⟩
  have HB8 : Aside0 (Below w.heap.size w w8) := ⟨below_then HB7.out HB7.out.size hb8⟩
  clear HF7 HR7 HB7 hb8
  go_wp2_with fail
  refine (refEmpty_any _ L HF8.out s hs).mono ?_
  rintro e w9 ⟨rfl, rfl⟩
  have HF9 := HF8
  have HR9 := HR8
  have HB9 := HB8
  clear HF8 HR8 HB8
  go_wp2_with fail
  refine (progChoose_any _ s k hs hk).mono ?_
  rintro e w10 ⟨rfl, hb10⟩
  have HF10 : Aside0 (FF w10 L) := ⟨FF.below HF9.out hb10⟩
  have HR10 : Aside0 (RefRules w10 L.g) := ⟨RefRules.below HR9.out hb10⟩
  have HB10 : Aside0 (Below w.heap.size w w10) := ⟨below_then HB9.out HB9.out.size hb10⟩
  clear HF9 HR9 HB9 hb10
  go_wp2_with fail
  refine (refChoose_any _ L HF10.out HR10.out s k hs hk).mono ?_
  rintro e w11 ⟨rfl, hb11⟩
  have HF11 : Aside0 (FF w11 L) := ⟨FF.below HF10.out hb11⟩
  have HR11 : Aside0 (RefRules w11 L.g) := ⟨RefRules.below HR10.out hb11⟩
  have HB11 : Aside0 (Below w.heap.size w w11) := ⟨below_then HB10.out HB10.out.size hb11⟩
  clear HF10 HR10 HB10 hb11
  clear HS1 HS2 HL1 HL2
  go_wp2
  go_loopw [6] (fun v6 wr => ∃ t : Nat, t ≤ 2 ∧ v6 = .int .i64 t ∧ Aside0 (FF wr L) ∧ Aside0 (Below w.heap.size w wr)) (fun v6 _ => 2 - (intOf v6).toNat)
  case atStart => exact ⟨0, by omega, rfl, HF11, HB11⟩
  case round =>
    clear HF11 HR11 HB11
    obtain ⟨t, ht, rfl, HF, HB⟩ := hrel
    by_cases hlt : t < 2
    · have hd : decide ((t : Int) < 2) = true := by simp; omega
      have hfl := firstL_len s
      have hll := followL_len s
      go_wp2_with fail
      refine (progFirst_any _ s hs).mono ?_
      rintro e wa ⟨va, rfl, hra, hba⟩
      obtain ⟨A1, c1, rfl, hc1, hca⟩ := Kd.R_reads hra
      have hrow1 := Row.of hra
      rw [List.length_map] at hc1 hca hrow1
      have HRA := Aside0.mk hrow1
      have HC1 := Aside0.mk hc1
      have HCA := Aside0.mk hca
      have HBA := Aside0.mk hba
      clear hra hba hc1 hca hrow1
      go_wp2_with fail
      refine (progFollow_any _ s hs).mono ?_
      rintro e wb ⟨vb, rfl, hrb, hbb⟩
      obtain ⟨A2, c2, rfl, hc2, hcb⟩ := Kd.R_reads hrb
      have hrow2 := Row.of hrb
      rw [List.length_map] at hc2 hcb hrow2
      have HRB := Aside0.mk (hrow2.lower HBA.out.size)
      have HRA2 := Aside0.mk (HRA.out.below hbb)
      have HC2 := Aside0.mk hc2
      have HCB := Aside0.mk hcb
      have HCA2 := Aside0.mk (Kd.C_below HCA.out hbb)
      have HBB : Aside0 (Below wr.heap.size wr wb) := ⟨below_then HBA.out HBA.out.size hbb⟩
      have HFB : Aside0 (FF wb L) := ⟨FF.below HF.out HBB.out⟩
      clear hrb hbb hc2 hcb hrow2 HRA HCA HBA
      go_wp2_with fail
      refine (refFirst_any _ L HFB.out s hs).mono ?_
      rintro e wc ⟨vc, rfl, hrc, hbc⟩
      obtain ⟨A3, c3, rfl, hc3, hcc⟩ := Kd.R_reads hrc
      rw [List.length_map] at hc3 hcc
      have HC3 := Aside0.mk hc3
      have HCC := Aside0.mk hcc
      have HBC : Aside0 (Below wr.heap.size wr wc) := ⟨below_then HBB.out HBB.out.size hbc⟩
      have HFC : Aside0 (FF wc L) := ⟨FF.below HFB.out hbc⟩
      have HRA3 := Aside0.mk (HRA2.out.below hbc)
      have HRB3 := Aside0.mk (HRB.out.below hbc)
      have HCA3 := Aside0.mk (Kd.C_below HCA2.out hbc)
      have HCB3 := Aside0.mk (Kd.C_below HCB.out hbc)
      clear hrc hbc hc3 hcc HRA2 HRB HCA2 HCB HFB HBB
      go_wp2_with fail
      refine (same_nats _ A1 A3 c1 c3 (firstL s) HCA3.out HCC.out (by omega) HC1.out HC3.out).mono ?_
      rintro e wd ⟨rfl, ⟨nd, rfl⟩⟩
      have HBD : Aside0 (Below wr.heap.size wr (wc.drewN nd)) := ⟨pw_below_drewN HBC.out nd⟩
      have HFD : Aside0 (FF (wc.drewN nd) L) := ⟨FF.below HFC.out (pw_below_drewN (Below.refl _ _) _)⟩
      have HRA4 := Aside0.mk (HRA3.out.below (pw_below_drewN (Below.refl _ _) nd))
      have HRB4 := Aside0.mk (HRB3.out.below (pw_below_drewN (Below.refl _ _) nd))
      have HCB4 := Aside0.mk (Kd.C_below HCB3.out (pw_below_drewN (Below.refl _ _) nd))
      clear HRA3 HRB3 HCA3 HCB3 HCC HC3 HC1 HFC HBC
      generalize wc.drewN nd = wd at *
      go_wp2_with fail
      refine (refFollow_any _ L HFD.out s hs).mono ?_
      rintro e we ⟨ve, rfl, hre, hbe⟩
      obtain ⟨A5, c5, rfl, hc5, hce⟩ := Kd.R_reads hre
      rw [List.length_map] at hc5 hce
      have HC5 := Aside0.mk hc5
      have HCE := Aside0.mk hce
      have HBE : Aside0 (Below wr.heap.size wr we) := ⟨below_then HBD.out HBD.out.size hbe⟩
      have HRA5 := Aside0.mk (HRA4.out.below hbe)
      have HRB5 := Aside0.mk (HRB4.out.below hbe)
      have HCB5 := Aside0.mk (Kd.C_below HCB4.out hbe)
      clear hre hbe hc5 hce HRA4 HRB4 HCB4 HFD HBD
      go_wp2_with fail
      refine (same_nats _ A2 A5 c2 c5 (followL s) HCB5.out HCE.out (by omega) HC2.out HC5.out).mono ?_
      rintro e wf ⟨rfl, ⟨nf, rfl⟩⟩
      have HBF : Aside0 (Below wr.heap.size wr (we.drewN nf)) := ⟨pw_below_drewN HBE.out nf⟩
      have HRA6 := Aside0.mk (HRA5.out.below (pw_below_drewN (Below.refl _ _) nf))
      have HRB6 := Aside0.mk (HRB5.out.below (pw_below_drewN (Below.refl _ _) nf))
      clear HRA5 HRB5 HCB5 HCE HC5 HC2 HBE
      generalize we.drewN nf = wf at *
      generalize hm : wr.heap.size = m at *
      have HMZ := Aside0.mk hm
      clear hm
      generalize hl1 : (firstL s).length = l1 at *
      generalize hl2 : (followL s).length = l2 at *
      have HL1 := Aside0.mk hl1
      have HL2 := Aside0.mk hl2
      clear hl1 hl2
      go_wp2
      go_loopw [9] (fun v9 wk => ∃ i : Nat, i ≤ l1 ∧ v9 = .int .i64 i ∧ Aside0 (Below m wr wk) ∧ Aside0 (Row wk m (.slice A1 l1 c1) l1) ∧ Aside0 (Row wk m (.slice A2 l2 c2) l2)) (fun v9 _ => l1 - (intOf v9).toNat)
      case atStart => exact ⟨0, by omega, rfl, HBF, HRA6, HRB6⟩
      case round =>
        clear HBF HRA6 HRB6
        obtain ⟨i, hi, rfl, HBK, HR1, HR2⟩ := hrel
        by_cases hil : i < l1
        · have hd2 : decide ((i : Int) < (l1 : Int)) = true := by simp; omega
          have hi0 : (0 : Int) ≤ (i : Int) := by omega
          have hi1 : (i : Int) < (l1 : Int) := by omega
          obtain ⟨q, v0, eA, hq, hcq, hfq⟩ := HR1.out.cell hil
          subst eA
          have HBN := Aside0.mk (HBK.out.setCell (p := ⟨q, i, none⟩) hq (.int .u8 99))
          have HN1 := Aside0.mk (HR1.out.set (b := q) (j := i) (u := .int .u8 99))
          have HN2 := Aside0.mk (HR2.out.set (b := q) (j := i) (u := .int .u8 99))
          clear HBK HR1 HR2
          go_wp2
          go_roundw
          case rel => exact ⟨i + 1, by omega, by go_num, HBN, HN1, HN2⟩
          case measure => simp [intOf]; omega
        · have hd2 : decide ((i : Int) < (l1 : Int)) = false := by simp; omega
          go_wp2
          go_loopw [10] (fun v10 wk => ∃ i : Nat, i ≤ l2 ∧ v10 = .int .i64 i ∧ Aside0 (Below m wr wk) ∧ Aside0 (Row wk m (.slice A2 l2 c2) l2)) (fun v10 _ => l2 - (intOf v10).toNat)
          case atStart => exact ⟨0, by omega, rfl, ⟨Below.refl _ _⟩, HR2⟩
          case round =>
            rename_i hrel'
            obtain ⟨i2, hi2, rfl, HBK2, HR2⟩ := hrel
            by_cases hil2 : i2 < l2
            · have hd2 : decide ((i2 : Int) < (l2 : Int)) = true := by simp; omega
              have hi0 : (0 : Int) ≤ (i2 : Int) := by omega
              have hi1 : (i2 : Int) < (l2 : Int) := by omega
              obtain ⟨q, v0, eA, hq, hcq, hfq⟩ := HR2.out.cell hil2
              subst eA
              have HBN := Aside0.mk (HBK2.out.setCell (p := ⟨q, i2, none⟩) hq (.int .u8 99))
              have HN2 := Aside0.mk (HR2.out.set (b := q) (j := i2) (u := .int .u8 99))
              clear HBK2 HR2
              go_wp2
              go_roundw
              case rel => exact ⟨i2 + 1, by omega, by go_num, HBN, HN2⟩
              case measure => simp [intOf]; omega
            · have hd2 : decide ((i2 : Int) < (l2 : Int)) = false := by simp; omega
              have HBZ := Aside0.mk (HBK.out.trans HBK2.out)
              have HMM := HMZ.out
              subst HMM
              have HFZ : Aside0 (FF _ L) := ⟨FF.below HF.out HBZ.out⟩
              have HWZ : Aside0 (Below w.heap.size w _) := ⟨below_then HB.out HB.out.size HBZ.out⟩
              go_wp2
              go_roundw
              case rel => exact ⟨t + 1, by omega, by go_num, HFZ, HWZ⟩
              case measure => simp [intOf]; omega
    · have hd : decide ((t : Int) < 2) = false := by simp; omega
      go_wp2
      go_ret
      exact ⟨rfl, HB.out⟩
theorem u8_nat (x : Int) (h : (Lit.int .u8 x).wf = true) : ∃ k : Nat, x = (k : Int) ∧ k < 256 := by
  have hx : 0 ≤ x ∧ x ≤ 255 := by
    simp [Lit.wf, IntKind.min, IntKind.max, IntKind.signed, IntKind.bits] at h
    omega
  exact ⟨x.toNat, by omega, by omega⟩
theorem lawTells_row (w : World) (a : Int) (ha : (Lit.int .u8 a).wf = true) (b : Int) (hb : (Lit.int .u8 b).wf = true) :
    Calls Try.prog 5 #[.int .u8 a, .int .u8 b] w fun e w' => e = .returned (.bool true) ∧ Below w.heap.size w w' := by
  obtain ⟨s, rfl, hs⟩ := u8_nat a ha
  obtain ⟨k, rfl, hk⟩ := u8_nat b hb
  exact lawTells_any w s k hs hk
end Go.Proofs.Ytlliokmcfmcigaa.GR
