/- The program's Choose, Begins, Empty, First, Follow. -/
import Derived.Test.YtlliokmcfmcigaaGLawRules
import Derived.Test.YtlliokmcfmcigaaGPrinted
namespace Go.Proofs.Ytlliokmcfmcigaa.GR
open Go.RowKit Go.Proofs.YtlliokmcfmcigaaW.PrintWords Go.Proofs.YtlliokmcfmcigaaW.PrintLast Go.Proofs.YtlliokmcfmcigaaW.PrintMore
set_option linter.unusedVariables false
set_option linter.unusedSimpArgs false
theorem progChoose_any (w : World) (s k : Nat) (hs : s < 256) (hk : k < 256) :
    Calls Try.prog 22 #[.int .u8 (Int.ofNat s), .int .u8 (Int.ofNat k)] w fun e w' => e = .returned (.int .i64 (idx (Gm.choose s k))) ∧ Below w.heap.size w w' := by
  go_enter Try.func22, Try.ntmps22
  go_wp2_with fail
  refine (ready_any _).mono ?_
  rintro e w1 ⟨g, r, B, rfl, hg, hK, hb1⟩
  have HK := Aside0.mk hK
  have HB1 := Aside0.mk hb1
  clear hK hb1
  go_wp2_with fail
  refine (choose_any _ g r B HK.out s k hs hk).mono ?_
  rintro e w2 ⟨rfl, hb2⟩
  have HB2 := Aside0.mk hb2
  clear hb2
  go_wp2
  go_ret
  exact ⟨rfl, below_then HB1.out HB1.out.size HB2.out⟩
theorem progEmpty_any (w : World) (s : Nat) (hs : s < 256) :
    Calls Try.prog 20 #[.int .u8 (Int.ofNat s)] w fun e w' => e = .returned (.bool (Gm.empty s)) ∧ Below w.heap.size w w' := by
  go_enter Try.func20, Try.ntmps20
  go_wp2_with fail
  refine (ready_any _).mono ?_
  rintro e w1 ⟨g, r, B, rfl, hg, hK, hb1⟩
  have he := hK.empty s hs
  have hs0 : (0 : Int) ≤ (s : Int) := by omega
  have hs1 : (s : Int) < 256 := by omega
  have HK := Aside0.mk hK
  have HB1 := Aside0.mk hb1
  clear hK hb1
  go_wp2
  go_ret
  exact ⟨rfl, HB1.out⟩
def begs (s k : Nat) : Bool := Gm.part s && (decide (0 < k) && (decide (k < 64) && (Gm.first s).testBit k))
set_option maxHeartbeats 1000000 in
theorem progBegins_any (w : World) (s k : Nat) (hs : s < 256) (hk : k < 256) :
    Calls Try.prog 18 #[.int .u8 (Int.ofNat s), .int .u8 (Int.ofNat k)] w fun e w' => e = .returned (.bool (begs s k)) ∧ Below w.heap.size w w' := by
  go_enter Try.func18, Try.ntmps18
  go_wp2_with fail
  refine (ready_any _).mono ?_
  rintro e w1 ⟨g, r, B, rfl, hg, hK, hb1⟩
  have he := hK.part s hs
  have hf := hK.first s hs
  have hs0 : (0 : Int) ≤ (s : Int) := by omega
  have hs1 : (s : Int) < 256 := by omega
  have HK := Aside0.mk hK
  have HB1 := Aside0.mk hb1
  clear hK hb1
  have hq := bit_u64 (Gm.first s) k (first_lt s hs)
  cases hp : Gm.part s with
  | false =>
    rw [hp] at he
    have HP := Aside0.mk hp
    clear hp hf hq
    go_wp2
    go_ret
    exact ⟨by unfold begs; rw [HP.out]; rfl, HB1.out⟩
  | true =>
    rw [hp] at he
    have HP := Aside0.mk hp
    clear hp
    by_cases h0 : 0 < k
    · by_cases h64 : k < 64
      · have d0 : decide ((0 : Int) < (k : Int)) = true := by simp; omega
        have d1 : decide ((k : Int) < 64) = true := by simp; omega
        have hk64 : (k : Int) < 64 := by omega
        have hk0 : (0 : Int) ≤ (k : Int) := by omega
        have HE : Aside0 (begs s k = (Gm.first s).testBit k) := ⟨by unfold begs; rw [HP.out]; simp [h0, h64]⟩
        generalize (Gm.first s).testBit k = b1 at *
        go_wp2
        go_ret
        exact ⟨by rw [HE.out]; rfl, HB1.out⟩
      · have d0 : decide ((0 : Int) < (k : Int)) = true := by simp; omega
        have d1 : decide ((k : Int) < 64) = false := by simp; omega
        have HE : Aside0 (begs s k = false) := ⟨by unfold begs; simp [h64]⟩
        clear hq hf
        go_wp2
        go_ret
        exact ⟨by rw [HE.out]; rfl, HB1.out⟩
    · have d0 : decide ((0 : Int) < (k : Int)) = false := by simp; omega
      have HE : Aside0 (begs s k = false) := ⟨by unfold begs; simp [h0]⟩
      clear hq hf
      go_wp2
      go_ret
      exact ⟨by rw [HE.out]; rfl, HB1.out⟩
/-- the kinds of a set, rising -/
def kindsOf (m : Nat) : List Nat := (List.range 64).filter (fun k => m.testBit k)
set_option maxRecDepth 100000 in
theorem list_first (s : Nat) (hs : s < 256) : PGrammarTells.grammar_list.f 65 (Int.ofNat (Gm.first s)) = some ((kindsOf (Gm.first s)).map Int.ofNat) := by
  have : (List.range 256).all (fun s => decide (PGrammarTells.grammar_list.f 65 (Int.ofNat (Gm.first s)) = some ((kindsOf (Gm.first s)).map Int.ofNat))) = true := by decide +kernel
  simpa using List.all_eq_true.1 this s (by simpa using hs)
set_option maxRecDepth 100000 in
theorem list_follow (s : Nat) (hs : s < 256) : PGrammarTells.grammar_list.f 65 (Int.ofNat (Gm.follow s)) = some ((kindsOf (Gm.follow s)).map Int.ofNat) := by
  have : (List.range 256).all (fun s => decide (PGrammarTells.grammar_list.f 65 (Int.ofNat (Gm.follow s)) = some ((kindsOf (Gm.follow s)).map Int.ofNat))) = true := by decide +kernel
  simpa using List.all_eq_true.1 this s (by simpa using hs)
/-- what First tells; what Follow tells -/
def firstL (s : Nat) : List Nat := if Gm.part s then kindsOf (Gm.first s) else []
def followL (s : Nat) : List Nat := if Gm.part s then kindsOf (Gm.follow s) else []
theorem progFirst_any (w : World) (s : Nat) (hs : s < 256) :
    Calls Try.prog 24 #[.int .u8 (Int.ofNat s)] w fun e w' => ∃ v, e = .returned v ∧ Kd.R (Kd.int .u8) 5 w' w.heap.size (fun _ => True) v ((firstL s).map Int.ofNat) ∧ Below w.heap.size w w' := by
  go_enter Try.func24, Try.ntmps24
  go_wp2_with fail
  refine (ready_any _).mono ?_
  rintro e w1 ⟨g, r, B, rfl, hg, hK, hb1⟩
  have he := hK.part s hs
  have hf := hK.first s hs
  have hs0 : (0 : Int) ≤ (s : Int) := by omega
  have hs1 : (s : Int) < 256 := by omega
  have HK := Aside0.mk hK
  have HB1 := Aside0.mk hb1
  clear hK hb1
  cases hp : Gm.part s with
  | false =>
    rw [hp] at he
    have HP := Aside0.mk hp
    clear hp hf
    go_wp2
    go_ret
    exact ⟨_, rfl, by unfold firstL; rw [HP.out]; exact Kd.R_nil _ _ _ _ _, HB1.out⟩
  | true =>
    rw [hp] at he
    have HP := Aside0.mk hp
    clear hp
    go_wp2_with fail
    refine (PGrammarTells.grammar_list.calls 65 _ _ _ (list_first s hs)).mono ?_
    rintro e w2 ⟨v, rfl, hr, hb2⟩
    have HV := Aside0.mk hr
    have HB2 := Aside0.mk hb2
    clear hr hb2
    go_wp2
    go_ret
    refine ⟨_, rfl, ?_, below_then HB1.out HB1.out.size HB2.out⟩
    unfold firstL
    rw [if_pos HP.out]
    exact Kd.R_lower HV.out HB1.out.size
theorem progFollow_any (w : World) (s : Nat) (hs : s < 256) :
    Calls Try.prog 25 #[.int .u8 (Int.ofNat s)] w fun e w' => ∃ v, e = .returned v ∧ Kd.R (Kd.int .u8) 5 w' w.heap.size (fun _ => True) v ((followL s).map Int.ofNat) ∧ Below w.heap.size w w' := by
  go_enter Try.func25, Try.ntmps25
  go_wp2_with fail
  refine (ready_any _).mono ?_
  rintro e w1 ⟨g, r, B, rfl, hg, hK, hb1⟩
  have he := hK.part s hs
  have hf := hK.follow s hs
  have hs0 : (0 : Int) ≤ (s : Int) := by omega
  have hs1 : (s : Int) < 256 := by omega
  have HK := Aside0.mk hK
  have HB1 := Aside0.mk hb1
  clear hK hb1
  cases hp : Gm.part s with
  | false =>
    rw [hp] at he
    have HP := Aside0.mk hp
    clear hp hf
    go_wp2
    go_ret
    exact ⟨_, rfl, by unfold followL; rw [HP.out]; exact Kd.R_nil _ _ _ _ _, HB1.out⟩
  | true =>
    rw [hp] at he
    have HP := Aside0.mk hp
    clear hp
    go_wp2_with fail
    refine (PGrammarTells.grammar_list.calls 65 _ _ _ (list_follow s hs)).mono ?_
    rintro e w2 ⟨v, rfl, hr, hb2⟩
    have HV := Aside0.mk hr
    have HB2 := Aside0.mk hb2
    clear hr hb2
    go_wp2
    go_ret
    refine ⟨_, rfl, ?_, below_then HB1.out HB1.out.size HB2.out⟩
    unfold followL
    rw [if_pos HP.out]
    exact Kd.R_lower HV.out HB1.out.size
end Go.Proofs.Ytlliokmcfmcigaa.GR
