/- The law's awake, walked: the chapter's examples. -/
import Derived.Test.YtlliokmcfmcigaaGmTells
import Derived.Test.YtlliokmcfmcigaaGLawRules
namespace Go.Proofs.Ytlliokmcfmcigaa.GR
open Go.RowKit Go.Proofs.YtlliokmcfmcigaaW.PrintWords Go.Proofs.YtlliokmcfmcigaaW.PrintLast Go.Proofs.YtlliokmcfmcigaaW.PrintMore
set_option linter.unusedVariables false
set_option linter.unusedSimpArgs false
theorem first_67 : firstL 67 = [7, 8, 16, 17] := by decide +kernel
theorem follow_101 : followL 101 = [0, 23] := by decide +kernel
theorem choose_101_23 : Gm.choose 101 23 = some 2 := by decide +kernel
theorem choose_102_38 : Gm.choose 102 38 = some 9 := by decide +kernel
theorem C_lit {w : World} {ad : Addr} {l : List Nat} {n : Nat} (h : Kd.C (Kd.int .u8) w (some ad) n (l.map Int.ofNat)) {k x : Nat} (hk : k < l.length) (hx : l.getD k 0 = x) : w.cell? (ad.add k) = some (.int .u8 (x : Int)) := by
  have hn : n = l.length := by have := Kd.C_len h; rw [List.length_map] at this; exact this.symm
  subst hn
  obtain ⟨ad', e, hc⟩ := Kd.at_int h (k : Int) (by omega) (by omega)
  cases e
  rw [rd_map l k hk, Int.toNat_natCast] at hc
  rw [hc, ← hx]
  rw [List.getD_eq_getElem?_getD, List.getElem?_eq_getElem hk]; rfl
theorem C_some {w : World} {A : Option Addr} {l : List Nat} {n : Nat} (h : Kd.C (Kd.int .u8) w A n (l.map Int.ofNat)) (hl : 0 < l.length) : ∃ ad, A = some ad := by
  have hn : n = l.length := by have := Kd.C_len h; rw [List.length_map] at this; exact this.symm
  subst hn
  obtain ⟨ad', e, hc⟩ := Kd.at_int h (0 : Int) (by omega) (by omega)
  exact ⟨ad', e⟩
set_option maxHeartbeats 8000000 in
theorem awake_any (w : World) :
    Calls Try.prog 28 #[] w fun e w' => e = .returned (.bool true) ∧ Below w.heap.size w w' := by
  go_enter Try.func28, Try.ntmps28
  go_wp2_with fail
  refine (progFirst_any _ 67 (by decide)).mono ?_
  rintro e w1 ⟨va, rfl, hra, hb1⟩
  rw [first_67] at hra
  obtain ⟨A1, c1, rfl, hc1, hca⟩ := Kd.R_reads hra
  obtain ⟨ad1, rfl⟩ := C_some hca (by decide)
  have HCA := Aside0.mk hca
  have HB1 := Aside0.mk hb1
  clear hra hca hb1 hc1
  go_wp2_with fail
  refine (progFollow_any _ 101 (by decide)).mono ?_
  rintro e w2 ⟨vb, rfl, hrb, hb2⟩
  rw [follow_101] at hrb
  obtain ⟨A2, c2, rfl, hc2, hcb⟩ := Kd.R_reads hrb
  obtain ⟨ad2, rfl⟩ := C_some hcb (by decide)
  have HCB := Aside0.mk hcb
  have HCA2 := Aside0.mk (Kd.C_below HCA.out hb2)
  have HB2 : Aside0 (Below w.heap.size w w2) := ⟨below_then HB1.out HB1.out.size hb2⟩
  clear hrb hcb hb2 hc2 HCA HB1
  go_wp2_with fail
  refine (PGrammarTells.grammar_Statement.calls _ 59 _ (by decide)).mono ?_
  rintro e w3 ⟨rfl, ⟨n3, rfl⟩⟩
  have HB3 : Aside0 (Below w.heap.size w (w2.drewN n3)) := ⟨pw_below_drewN HB2.out n3⟩
  have HCA3 := Aside0.mk (Kd.C_below HCA2.out (pw_below_drewN (Below.refl _ _) n3))
  have HCB3 := Aside0.mk (Kd.C_below HCB.out (pw_below_drewN (Below.refl _ _) n3))
  clear HB2 HCA2 HCB
  generalize w2.drewN n3 = w3 at *
  go_wp2_with fail
  refine (PGrammarTells.grammar_Statement.calls _ 0 _ (by decide)).mono ?_
  rintro e w4 ⟨rfl, ⟨n4, rfl⟩⟩
  have HB4 : Aside0 (Below w.heap.size w (w3.drewN n4)) := ⟨pw_below_drewN HB3.out n4⟩
  have HCA4 := Aside0.mk (Kd.C_below HCA3.out (pw_below_drewN (Below.refl _ _) n4))
  have HCB4 := Aside0.mk (Kd.C_below HCB3.out (pw_below_drewN (Below.refl _ _) n4))
  clear HB3 HCA3 HCB3
  generalize w3.drewN n4 = w4 at *
  go_wp2_with fail
  refine (PGrammarTells.grammar_Level.calls 20 _ 3 _ (by decide)).mono ?_
  rintro e w5 ⟨rfl, ⟨n5, rfl⟩⟩
  have HB5 : Aside0 (Below w.heap.size w (w4.drewN n5)) := ⟨pw_below_drewN HB4.out n5⟩
  have HCA5 := Aside0.mk (Kd.C_below HCA4.out (pw_below_drewN (Below.refl _ _) n5))
  have HCB5 := Aside0.mk (Kd.C_below HCB4.out (pw_below_drewN (Below.refl _ _) n5))
  clear HB4 HCA4 HCB4
  generalize w4.drewN n5 = w5 at *
  have ca0 : w5.cell? ad1 = some (.int .u8 7) := C_lit HCA5.out (k := 0) (x := 7) (by decide) rfl
  have cb0 : w5.cell? ad2 = some (.int .u8 0) := C_lit HCB5.out (k := 0) (x := 0) (by decide) rfl
  have cb1 : w5.cell? ⟨ad2.block, ad2.off + 1, none⟩ = some (.int .u8 23) := C_lit HCB5.out (k := 1) (x := 23) (by decide) rfl
  clear HCA5 HCB5
  go_wp2_with fail
  refine (progEmpty_any _ 107 (by decide)).mono ?_
  rintro e w6 ⟨rfl, hb6⟩
  have HB6 : Aside0 (Below w.heap.size w w6) := ⟨below_then HB5.out HB5.out.size hb6⟩
  clear HB5 hb6
  clear ca0 cb0 cb1
  go_wp2_with fail
  refine (progEmpty_any _ 53 (by decide)).mono ?_
  rintro e w7 ⟨rfl, hb7⟩
  have HB7 : Aside0 (Below w.heap.size w w7) := ⟨below_then HB6.out HB6.out.size hb7⟩
  clear HB6 hb7
  go_wp2_with fail
  refine (progChoose_any _ 101 23 (by decide) (by decide)).mono ?_
  rintro e w8 ⟨rfl, hb8⟩
  have HB8 : Aside0 (Below w.heap.size w w8) := ⟨below_then HB7.out HB7.out.size hb8⟩
  clear HB7 hb8
  go_wp2_with fail
  refine (progChoose_any _ 102 38 (by decide) (by decide)).mono ?_
  rintro e w9 ⟨rfl, hb9⟩
  have HB9 : Aside0 (Below w.heap.size w w9) := ⟨below_then HB8.out HB8.out.size hb9⟩
  clear HB8 hb9
  go_wp2_with fail
  refine (accepts_any _ none 0 [] (by decide) (by decide) (C_none _) 40 true (by decide) (by decide +kernel)).mono ?_
  rintro e w10 ⟨rfl, hb10⟩
  have HB10 : Aside0 (Below w.heap.size w w10) := ⟨below_then HB9.out HB9.out.size hb10⟩
  clear HB9 hb10
  go_wp2_with fail
  refine (accepts_any _ _ _ [10, 6, 26, 7, 25] (by decide) (by decide) ?_ 6000 true (by decide) (by decide +kernel)).mono ?_
  · exact C_u8s _ _ [10, 6, 26, 7, 25] (by decide) (heap_alloc_new _ _)
  rintro e w11 ⟨rfl, hb11⟩
  have HB11 : Aside0 (Below w.heap.size w w11) := ⟨below_then HB10.out HB10.out.size (((Below.refl _ _).alloc (Nat.le_refl _) _).trans (hb11.mono (by rw [World.size_alloc]; omega)))⟩
  clear HB10 hb11
  go_wp2_with fail
  refine (accepts_any _ _ _ [6] (by decide) (by decide) ?_ 3000 false (by decide) (by decide +kernel)).mono ?_
  · exact C_u8s _ _ [6] (by decide) (heap_alloc_new _ _)
  rintro e w12 ⟨rfl, hb12⟩
  have HB12 : Aside0 (Below w.heap.size w w12) := ⟨below_then HB11.out HB11.out.size (((Below.refl _ _).alloc (Nat.le_refl _) _).trans (hb12.mono (by rw [World.size_alloc]; omega)))⟩
  clear HB11 hb12
  go_wp2
  go_ret
  exact ⟨rfl, HB12.out⟩
end Go.Proofs.Ytlliokmcfmcigaa.GR
