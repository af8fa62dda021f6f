/- Part 3 of the texts of this proof, in build order. -/
import Derived.Test.YtalnicdpcigocaaPk2
import Derived.Test.YtalnicdpcigocaaPk1
import Derived.Test.YtalnicdpcigocaaPParseTreesx2
import Derived.Test.YtalnicdpcigocaaPParseTreesx4
import Derived.Test.YtalnicdpcigocaaPParseTreesx5
namespace Go.Proofs.Ytalnicdpcigocaa.PR
open Go.RowKit Ps PM PL PP GR Go.Proofs.YtalnicdpcigocaaW.PrintWords Go.Proofs.YtalnicdpcigocaaW.PrintLast Go.Proofs.YtalnicdpcigocaaW.PrintMore
set_option linter.unusedVariables false
set_option linter.unusedSimpArgs false
set_option maxHeartbeats 600000 in
set_option maxRecDepth 100000 in
theorem rprimary_succ (C : RC) {n : Nat} (ih : RAll C n) (w : World) (pb : Nat) (st : RSt) (r : Tr × RSt) (hP : RPar C w pb st) (hk : st.kd C.L ≠ 0) (hr : Ps.primary C.L C.orc (n + 1) st = some r) :
    Calls Try.prog 70 #[.pointer (some ⟨pb, 0, none⟩)] w (RLv C pb w r.1 r.2) := by
  rw [Ps.primary] at hr
  have h1 := rnext_len C st
  have hpw := hP.lt
  have HR := Aside0.mk ((RRun.start0 hP).box w.heap.size #[.int .u8 0, .int .u8 0, .int .i64 0, .slice none 0 0] 25 rfl)
  have HK := Aside0.mk hk
  have hle := hP.le
  have hle1 := (next_ok hk).2
  clear hP
  by_cases h6 : st.kd C.L = 6
  · rw [if_pos h6] at hr
    obtain rfl := Option.some.inj hr
    have HKD := Aside0.mk (fun w h => h6 ▸ rkind_any C w pb st h)
    clear hr h6 hk
    go_enter Try.func70, Try.ntmps70
    go_wp2_with fail
    (try clear r0 r1 r2 r3 rf)
    go_at_call 15; refine (HKD.out _ HR.out.par).mono ?_; rintro e w1 ⟨rfl, hb⟩; have hR := HR.out.below hb; clear hb; clear HR; have HR := Aside0.mk hR; clear hR; obtain ⟨r0, r1, r2, r3, rf⟩ := HR.out.box0
    go_wp2_with fail
    (try clear r0 r1 r2 r3 rf)
    go_at_call 29; refine (HR.out.take0 66 HK.out).mono ?_; rintro e w2 ⟨v2, rfl, hR⟩; obtain ⟨A2, n2, c2, rfl⟩ := hR.sl; clear HR; have HR := Aside0.mk hR; clear hR; generalize hs2 : wsum ((nextL C.L st).1) 0 = s2; have HS := Aside0.mk hs2; clear hs2; obtain ⟨r0, r1, r2, r3, rf⟩ := HR.out.box0
    go_wp2
    have hR := (HR.out).st0 (.int .u8 66) (.int .u8 0) (.int .i64 s2) (.slice A2 n2 c2)
    refine bodyPost_ret (results_cell_row rfl _ _ w.heap.size 25 _ (0, 0) _ rfl hR.bx0 Try.underlying25 rfl (by kernel_rfl)) rfl (hR.leafw (by (try simp only [List.length_append, List.length_nil, List.length_singleton, List.length_cons]); omega) 66 HS.out)
  · rw [if_neg h6] at hr
    have b6 := nb h6
    by_cases h20 : st.kd C.L = 20
    · rw [if_pos h20] at hr
      obtain ⟨b, hb, hr⟩ := Option.bind_eq_some_iff.mp hr
      obtain rfl := Option.some.inj hr
      have HKD := Aside0.mk (fun w h => h20 ▸ rkind_any C w pb st h)
      have hbl := rexpr_len C hle1 hb
      have hwl := rwant_len C 21 b.2
      have HB := Aside0.mk hb
      have hb1 := hbl.1
      clear hr h6 h20 hk b6 hb hbl
      go_enter Try.func70, Try.ntmps70
      go_wp2_with fail
      (try clear r0 r1 r2 r3 rf)
      go_at_call 15; refine (HKD.out _ HR.out.par).mono ?_; rintro e w1 ⟨rfl, hb⟩; have hR := HR.out.below hb; clear hb; clear HR; have HR := Aside0.mk hR; clear hR; obtain ⟨r0, r1, r2, r3, rf⟩ := HR.out.box0
      go_wp2_with fail
      (try clear r0 r1 r2 r3 rf)
      go_at_call 29; refine (HR.out.take0 65 HK.out).mono ?_; rintro e w2 ⟨v2, rfl, hR⟩; obtain ⟨A2, n2, c2, rfl⟩ := hR.sl; clear HR; have HR := Aside0.mk hR; clear hR; generalize hs2 : wsum ((nextL C.L st).1) 0 = s2; have HS := Aside0.mk hs2; clear hs2; obtain ⟨r0, r1, r2, r3, rf⟩ := HR.out.box0
      have hbl2 := blk_lt HR.out.bx0
      have hbn2 := Nat.ne_of_lt hbl2
      have hbm2 := Nat.ne_of_gt hbl2
      go_wp2_with fail
      have hR := HR.out.box w2.heap.size #[.int .u8 65, .int .u8 0, .int .i64 s2, .slice A2 n2 c2] 25 rfl; clear HR; have HR := Aside0.mk hR; clear hR
      (try clear r0 r1 r2 r3 rf)
      (try clear y0 y1 y2 y3 yf)
      go_at_call 41; refine (HR.out.expr ih 65 _ b HS.out (by (try simp only [List.length_append, List.length_nil, List.length_singleton, List.length_cons]); omega) HB.out).mono ?_; rintro e w3 ⟨v3, rfl, hR⟩; obtain ⟨A3, n3, c3, rfl⟩ := hR.sl; clear HR; have HR := Aside0.mk hR; clear hR; generalize hs3 : wsum ((nextL C.L st).1 ++ b.1) 0 = s3; have HS := Aside0.mk hs3; clear hs3; obtain ⟨y0, y1, y2, y3, yf⟩ := HR.out.box0; obtain ⟨r0, r1, r2, r3, rf⟩ := HR.out.box1
      go_wp2_with fail
      have hR := HR.out.st0 (.int .u8 65) (.int .u8 0) (.int .i64 s3) (.slice A3 n3 c3); clear HR; have HR := Aside0.mk hR; clear hR
      (try clear r0 r1 r2 r3 rf)
      (try clear y0 y1 y2 y3 yf)
      go_at_call 40; refine (HR.out.want 65 _ 21 (by decide) HS.out (by (try simp only [List.length_append, List.length_nil, List.length_singleton, List.length_cons]); omega)).mono ?_; rintro e w4 ⟨v4, rfl, hR⟩; obtain ⟨A4, n4, c4, rfl⟩ := hR.sl; clear HR; have HR := Aside0.mk hR; clear hR; generalize hs4 : wsum (((nextL C.L st).1 ++ b.1) ++ (wantL C.L 21 b.2).1) 0 = s4; have HS := Aside0.mk hs4; clear hs4; obtain ⟨y0, y1, y2, y3, yf⟩ := HR.out.box0; obtain ⟨r0, r1, r2, r3, rf⟩ := HR.out.box1
      go_wp2
      have hR := (HR.out).st1 (.int .u8 65) (.int .u8 0) (.int .i64 s4) (.slice A4 n4 c4)
      refine bodyPost_ret (results_cell_row rfl _ _ w.heap.size 25 _ (0, 0) _ rfl hR.bx1 Try.underlying25 rfl (by kernel_rfl)) rfl (hR.leafw (by (try simp only [List.length_append, List.length_nil, List.length_singleton, List.length_cons]); omega) 65 HS.out)
    · rw [if_neg h20] at hr
      obtain rfl := Option.some.inj hr
      have b20 := nb h20
      have HKD := Aside0.mk (fun w h => rkind_any C w pb st h)
      generalize st.kd C.L = kd at HKD b6 b20
      clear hr h6 h20 hk
      go_enter Try.func70, Try.ntmps70
      go_wp2_with fail
      (try clear r0 r1 r2 r3 rf)
      go_at_call 15; refine (HKD.out _ HR.out.par).mono ?_; rintro e w1 ⟨rfl, hb⟩; have hR := HR.out.below hb; clear hb; clear HR; have HR := Aside0.mk hR; clear hR; obtain ⟨r0, r1, r2, r3, rf⟩ := HR.out.box0
      go_wp2_with fail
      (try clear r0 r1 r2 r3 rf)
      go_at_call 29; refine (HR.out.take0 67 HK.out).mono ?_; rintro e w2 ⟨v2, rfl, hR⟩; obtain ⟨A2, n2, c2, rfl⟩ := hR.sl; clear HR; have HR := Aside0.mk hR; clear hR; generalize hs2 : wsum ((nextL C.L st).1) 0 = s2; have HS := Aside0.mk hs2; clear hs2; obtain ⟨r0, r1, r2, r3, rf⟩ := HR.out.box0
      go_wp2
      have hR := (HR.out).st0 (.int .u8 67) (.int .u8 0) (.int .i64 s2) (.slice A2 n2 c2)
      refine bodyPost_ret (results_cell_row rfl _ _ w.heap.size 25 _ (0, 0) _ rfl hR.bx0 Try.underlying25 rfl (by kernel_rfl)) rfl (hR.leafw (by (try simp only [List.length_append, List.length_nil, List.length_singleton, List.length_cons]); omega) 67 HS.out)
end Go.Proofs.Ytalnicdpcigocaa.PR
namespace Go.Proofs.Ytalnicdpcigocaa.PR
open Go.RowKit Ps PM PL PP GR Go.Proofs.YtalnicdpcigocaaW.PrintWords Go.Proofs.YtalnicdpcigocaaW.PrintLast Go.Proofs.YtalnicdpcigocaaW.PrintMore
set_option linter.unusedVariables false
set_option linter.unusedSimpArgs false
set_option maxHeartbeats 600000 in
set_option maxRecDepth 100000 in
theorem rargs_succ (C : RC) {n : Nat} (ih : ∀ k, k ≤ n → RAll C k) (w : World) (pb : Nat) (st : RSt) (r : Tr × RSt) (hP : RPar C w pb st) (hk : st.kd C.L ≠ 0) (hr : Ps.args C.L C.orc (n + 1) st = some r) :
    Calls Try.prog 71 #[.pointer (some ⟨pb, 0, none⟩)] w (RLv C pb w r.1 r.2) := by
  rw [Ps.args] at hr
  dsimp only at hr
  have h1 := rnext_len C st
  have hpw := hP.lt
  have HR := Aside0.mk ((RRun.start0 hP).box w.heap.size #[.int .u8 0, .int .u8 0, .int .i64 0, .slice none 0 0] 25 rfl)
  have hL := C.hL
  have HK := Aside0.mk hk
  have hng := next_goes hk
  have hnl := next_len (L := C.L) st
  have HKD := Aside0.mk (fun w h => rkind_any C w pb (nextL C.L st).2 h)
  clear hP hk
  cases hb : begins ((nextL C.L st).2.kd C.L) with
  | false =>
    rw [hb] at hr
    obtain rfl := Option.some.inj hr
    have h2 := rwant_len C 21 (nextL C.L st).2
    have HE := Aside0.mk (fun w => hb ▸ rexpr_any ((nextL C.L st).2.kd C.L) w)
    generalize (nextL C.L st).2.kd C.L = kd at HKD HE
    clear hr hb hng hnl
    go_enter Try.func71, Try.ntmps71
    go_wp2_with fail
    (try clear r0 r1 r2 r3 rf)
    go_at_call 29; refine (HR.out.take0 64 HK.out).mono ?_; rintro e w1 ⟨v1, rfl, hR⟩; obtain ⟨A1, n1, c1, rfl⟩ := hR.sl; clear HR; have HR := Aside0.mk hR; clear hR; generalize hs1 : wsum ((nextL C.L st).1) 0 = s1; have HS := Aside0.mk hs1; clear hs1; obtain ⟨r0, r1, r2, r3, rf⟩ := HR.out.box0
    have hbl1 := blk_lt HR.out.bx0
    have hbn1 := Nat.ne_of_lt hbl1
    have hbm1 := Nat.ne_of_gt hbl1
    go_wp2_with fail
    have hR := HR.out.box w1.heap.size #[.int .u8 64, .int .u8 0, .int .i64 s1, .slice A1 n1 c1] 25 rfl; clear HR; have HR := Aside0.mk hR; clear hR
    (try clear r0 r1 r2 r3 rf)
    (try clear y0 y1 y2 y3 yf)
    go_at_call 15; refine (HKD.out _ HR.out.par).mono ?_; rintro e w2 ⟨rfl, hb⟩; have hR := HR.out.below hb; clear hb; clear HR; have HR := Aside0.mk hR; clear hR; obtain ⟨y0, y1, y2, y3, yf⟩ := HR.out.box0; obtain ⟨r0, r1, r2, r3, rf⟩ := HR.out.box1
    go_wp2_with fail
    go_at_call 39; refine (HE.out _).mono ?_; rintro e w3 ⟨rfl, hw⟩; obtain rfl := hw.symm
    go_wp2_with fail
    (try clear r0 r1 r2 r3 rf)
    (try clear y0 y1 y2 y3 yf)
    go_at_call 40; refine (HR.out.want 64 _ 21 (by decide) HS.out (by (try simp only [List.length_append, List.length_nil, List.length_singleton, List.length_cons]); omega)).mono ?_; rintro e w4 ⟨v4, rfl, hR⟩; obtain ⟨A4, n4, c4, rfl⟩ := hR.sl; clear HR; have HR := Aside0.mk hR; clear hR; generalize hs4 : wsum ((nextL C.L st).1 ++ (wantL C.L 21 (nextL C.L st).2).1) 0 = s4; have HS := Aside0.mk hs4; clear hs4; obtain ⟨y0, y1, y2, y3, yf⟩ := HR.out.box0; obtain ⟨r0, r1, r2, r3, rf⟩ := HR.out.box1
    go_wp2
    have hR := (HR.out).st1 (.int .u8 64) (.int .u8 0) (.int .i64 s4) (.slice A4 n4 c4)
    refine bodyPost_ret (results_cell_row rfl _ _ w.heap.size 25 _ (0, 0) _ rfl hR.bx1 Try.underlying25 rfl (by kernel_rfl)) rfl (hR.leafw (by (try simp only [List.length_append, List.length_nil, List.length_singleton, List.length_cons]); omega) 64 HS.out)
  | true =>
    rw [if_pos hb] at hr
    obtain ⟨b, hx, hr⟩ := Option.bind_eq_some_iff.mp hr
    obtain ⟨R, hlp, rfl⟩ := Option.map_eq_some_iff.mp hr
    have hbg := ((mon n : Mon C.L C.orc n).expr _ _ hng.2.2.1 hx).1
    have HX := Aside0.mk hx
    have HLP := Aside0.mk hlp
    have hbl : ((nextL C.L st).1 ++ b.1).length + 2 * (C.L.length - b.2.at_) ≤ 100000 := by
      have h2 := hbg.2.2
      have h3 := hbg.2.1
      rw [List.length_append]
      omega
    have HBL := Aside0.mk hbl
    have HE := Aside0.mk (fun w => hb ▸ rexpr_any ((nextL C.L st).2.kd C.L) w)
    generalize (nextL C.L st).2.kd C.L = kd at HKD HE
    clear hr hb hx hlp hbg hng hnl hbl
    go_enter Try.func71, Try.ntmps71
    go_wp2_with fail
    (try clear r0 r1 r2 r3 rf)
    go_at_call 29; refine (HR.out.take0 64 HK.out).mono ?_; rintro e w1 ⟨v1, rfl, hR⟩; obtain ⟨A1, n1, c1, rfl⟩ := hR.sl; clear HR; have HR := Aside0.mk hR; clear hR; generalize hs1 : wsum ((nextL C.L st).1) 0 = s1; have HS := Aside0.mk hs1; clear hs1; obtain ⟨r0, r1, r2, r3, rf⟩ := HR.out.box0
    have hbl1 := blk_lt HR.out.bx0
    have hbn1 := Nat.ne_of_lt hbl1
    have hbm1 := Nat.ne_of_gt hbl1
    go_wp2_with fail
    have hR := HR.out.box w1.heap.size #[.int .u8 64, .int .u8 0, .int .i64 s1, .slice A1 n1 c1] 25 rfl; clear HR; have HR := Aside0.mk hR; clear hR
    (try clear r0 r1 r2 r3 rf)
    (try clear y0 y1 y2 y3 yf)
    go_at_call 15; refine (HKD.out _ HR.out.par).mono ?_; rintro e w2 ⟨rfl, hb⟩; have hR := HR.out.below hb; clear hb; clear HR; have HR := Aside0.mk hR; clear hR; obtain ⟨y0, y1, y2, y3, yf⟩ := HR.out.box0; obtain ⟨r0, r1, r2, r3, rf⟩ := HR.out.box1
    go_wp2_with fail
    go_at_call 39; refine (HE.out _).mono ?_; rintro e w3 ⟨rfl, hw⟩; obtain rfl := hw.symm
    go_wp2_with fail
    (try clear r0 r1 r2 r3 rf)
    (try clear y0 y1 y2 y3 yf)
    go_at_call 41; refine (HR.out.expr (ih n (Nat.le_refl _)) 64 _ b HS.out (by (try simp only [List.length_append, List.length_nil, List.length_singleton, List.length_cons]); omega) HX.out).mono ?_; rintro e w4 ⟨v4, rfl, hR⟩; obtain ⟨A4, n4, c4, rfl⟩ := hR.sl; clear HR; have HR := Aside0.mk hR; clear hR; generalize hs4 : wsum ((nextL C.L st).1 ++ b.1) 0 = s4; have HS := Aside0.mk hs4; clear hs4; obtain ⟨y0, y1, y2, y3, yf⟩ := HR.out.box0; obtain ⟨r0, r1, r2, r3, rf⟩ := HR.out.box1
    go_wp2_with fail
    have hR := HR.out.st0 (.int .u8 64) (.int .u8 0) (.int .i64 s4) (.slice A4 n4 c4); clear HR; have HR := Aside0.mk hR; clear hR
    go_loopg [] n (fun kq wr => ∃ (acc : List Tr) (stc : RSt) (v' : Value) (s' : Int), Aside0 (RRun C (fun _ => False) [(w1.heap.size, #[.int .u8 64, .int .u8 0, .int .i64 s', v'], 25), (w.heap.size, #[.int .u8 0, .int .u8 0, .int .i64 0, .slice none 0 0], 25)] pb w (.slice none 0 0) acc stc wr v') ∧ Aside0 (wsum acc 0 = s') ∧ Aside0 (Ps.argsLoop C.L C.orc kq acc stc = some R) ∧ Aside0 (kq ≤ n) ∧ Aside0 (acc.length + 2 * (C.L.length - stc.at_) ≤ 100000))
    case atStart => exact ⟨_, _, _, _, HR, HS, HLP, ⟨Nat.le_refl _⟩, HBL⟩
    case round =>
      clear HR HS HLP HBL HX HKD HE HK
      (try clear y0 y1 y2 y3 yf)
      (try clear r0 r1 r2 r3 rf)
      obtain ⟨acc, stc, v', s', HR, HS, HA, HKn, HBc⟩ := hrel
      obtain ⟨Aq, nq, cq, rfl⟩ := HR.out.sl
      have hA := HA.out
      cases gk with
      | zero => rw [Ps.argsLoop] at hA; cases hA
      | succ k1 =>
        rw [Ps.argsLoop] at hA
        have HKD := Aside0.mk (fun w h => rkind_any C w pb stc h)
        have hal := HBc.out
        by_cases h24 : stc.kd C.L = 24
        · rw [if_pos h24] at hA
          obtain ⟨q, hx, hA⟩ := Option.bind_eq_some_iff.mp hA
          have hk1 : stc.kd C.L ≠ 0 := by rw [h24]; decide
          rw [h24] at HKD
          have hng := next_goes hk1
          have hnl := next_len (L := C.L) stc
          have hbg := ((mon k1 : Mon C.L C.orc k1).expr _ _ hng.2.2.1 hx).1
          have HX := Aside0.mk hx
          have HA2 := Aside0.mk hA
          have hlb : (acc ++ (nextL C.L stc).1 ++ q.1).length + 2 * (C.L.length - q.2.at_) ≤ 100000 := by
            have h2 := hbg.2.2
            have h3 := hbg.2.1
            have h4 := hng.1
            have h5 := hbg.1
            rw [List.length_append, List.length_append]
            omega
          have HLB := Aside0.mk hlb
          have hnx := rnext_len C stc
          have HK1 := Aside0.mk hk1
          clear hA hx h24 hng hnl hbg hlb HA hk1
          go_wp2_with fail
          (try clear r0 r1 r2 r3 rf)
          (try clear y0 y1 y2 y3 yf)
          go_at_call 15; refine (HKD.out _ HR.out.par).mono ?_; rintro e w21 ⟨rfl, hb⟩; have hR := HR.out.below hb; clear hb; clear HR; have HR := Aside0.mk hR; clear hR; obtain ⟨y0, y1, y2, y3, yf⟩ := HR.out.box0; obtain ⟨r0, r1, r2, r3, rf⟩ := HR.out.box1
          go_wp2_with fail
          (try clear r0 r1 r2 r3 rf)
          (try clear y0 y1 y2 y3 yf)
          go_at_call 29; refine (HR.out.take 64 _ HS.out (by (try simp only [List.length_append, List.length_nil, List.length_singleton, List.length_cons]); omega) HK1.out).mono ?_; rintro e w22 ⟨v22, rfl, hR⟩; obtain ⟨A22, n22, c22, rfl⟩ := hR.sl; clear HR; have HR := Aside0.mk hR; clear hR; generalize hs22 : wsum (acc ++ (nextL C.L stc).1) 0 = s22; have HS := Aside0.mk hs22; clear hs22; obtain ⟨y0, y1, y2, y3, yf⟩ := HR.out.box0; obtain ⟨r0, r1, r2, r3, rf⟩ := HR.out.box1
          go_wp2_with fail
          have hR := HR.out.st0 (.int .u8 64) (.int .u8 0) (.int .i64 s22) (.slice A22 n22 c22); clear HR; have HR := Aside0.mk hR; clear hR
          (try clear r0 r1 r2 r3 rf)
          (try clear y0 y1 y2 y3 yf)
          go_at_call 41; refine (HR.out.expr (ih k1 (by have := HKn.out; omega)) 64 _ q HS.out (by (try simp only [List.length_append, List.length_nil, List.length_singleton, List.length_cons]); omega) HX.out).mono ?_; rintro e w23 ⟨v23, rfl, hR⟩; obtain ⟨A23, n23, c23, rfl⟩ := hR.sl; clear HR; have HR := Aside0.mk hR; clear hR; generalize hs23 : wsum (acc ++ (nextL C.L stc).1 ++ q.1) 0 = s23; have HS := Aside0.mk hs23; clear hs23; obtain ⟨y0, y1, y2, y3, yf⟩ := HR.out.box0; obtain ⟨r0, r1, r2, r3, rf⟩ := HR.out.box1
          go_wp2_with fail
          have hR := HR.out.st0 (.int .u8 64) (.int .u8 0) (.int .i64 s23) (.slice A23 n23 c23); clear HR; have HR := Aside0.mk hR; clear hR
          go_roundg k1
          case measure => omega
          case rel => exact ⟨_, _, _, _, HR, HS, HA2, ⟨by have := HKn.out; omega⟩, HLB⟩
        · rw [if_neg h24] at hA
          obtain rfl := Option.some.inj hA
          have b24 := nb h24
          have h2 := rwant_len C 21 stc
          generalize stc.kd C.L = kd at HKD b24
          clear hA h24 HA
          go_wp2_with fail
          (try clear r0 r1 r2 r3 rf)
          (try clear y0 y1 y2 y3 yf)
          go_at_call 15; refine (HKD.out _ HR.out.par).mono ?_; rintro e w41 ⟨rfl, hb⟩; have hR := HR.out.below hb; clear hb; clear HR; have HR := Aside0.mk hR; clear hR; obtain ⟨y0, y1, y2, y3, yf⟩ := HR.out.box0; obtain ⟨r0, r1, r2, r3, rf⟩ := HR.out.box1
          go_wp2_with fail
          (try clear r0 r1 r2 r3 rf)
          (try clear y0 y1 y2 y3 yf)
          go_at_call 40; refine (HR.out.want 64 _ 21 (by decide) HS.out (by (try simp only [List.length_append, List.length_nil, List.length_singleton, List.length_cons]); omega)).mono ?_; rintro e w42 ⟨v42, rfl, hR⟩; obtain ⟨A42, n42, c42, rfl⟩ := hR.sl; clear HR; have HR := Aside0.mk hR; clear hR; generalize hs42 : wsum (acc ++ (wantL C.L 21 stc).1) 0 = s42; have HS := Aside0.mk hs42; clear hs42; obtain ⟨y0, y1, y2, y3, yf⟩ := HR.out.box0; obtain ⟨r0, r1, r2, r3, rf⟩ := HR.out.box1
          go_wp2
          have hR := (HR.out).st1 (.int .u8 64) (.int .u8 0) (.int .i64 s42) (.slice A42 n42 c42)
          refine bodyPost_ret (results_cell_row rfl _ _ w.heap.size 25 _ (0, 0) _ rfl hR.bx1 Try.underlying25 rfl (by kernel_rfl)) rfl (hR.leafw (by (try simp only [List.length_append, List.length_nil, List.length_singleton, List.length_cons]); omega) 64 HS.out)
set_option maxHeartbeats 600000 in
set_option maxRecDepth 100000 in
theorem rparams_any (C : RC) {n : Nat} (w : World) (pb : Nat) (st : RSt) (r : Tr × RSt) (hP : RPar C w pb st) (hr : Ps.params C.L n st = some r) :
    Calls Try.prog 42 #[.pointer (some ⟨pb, 0, none⟩)] w (RLv C pb w r.1 r.2) := by
  unfold Ps.params at hr
  have h1 := rnext_len C st
  have hpw := hP.lt
  have HR := Aside0.mk ((RRun.start0 hP).box w.heap.size #[.int .u8 0, .int .u8 0, .int .i64 0, .slice none 0 0] 25 rfl)
  have hL := C.hL
  have hwg := want_goes (L := C.L) (k := 20) (by decide) hP.le
  have hw1 := rwant_len C 20 st
  have HKD := Aside0.mk (fun w h => rkind_any C w pb (wantL C.L 20 st).2 h)
  clear hP
  by_cases h6 : (wantL C.L 20 st).2.kd C.L = 6
  · rw [if_pos h6] at hr
    obtain ⟨R, hlp, rfl⟩ := Option.map_eq_some_iff.mp hr
    have hk1 : (wantL C.L 20 st).2.kd C.L ≠ 0 := by rw [h6]; decide
    have hng := next_goes hk1
    have hnl := next_len (L := C.L) (wantL C.L 20 st).2
    have h2 := rnext_len C (wantL C.L 20 st).2
    have HLP := Aside0.mk hlp
    have HBL : Aside0 (((wantL C.L 20 st).1 ++ (nextL C.L (wantL C.L 20 st).2).1).length + 2 * (C.L.length - (nextL C.L (wantL C.L 20 st).2).2.at_) ≤ 100000) := ⟨by
      have a1 := hwg.2.2
      have a2 := hwg.2.1
      have a3 := hng.2.2.1
      rw [List.length_append]
      omega⟩
    have HK1 := Aside0.mk hk1
    rw [h6] at HKD
    clear hr h6 hlp hk1 hng hnl hwg
    go_enter Try.func42, Try.ntmps42
    go_wp2_with fail
    (try clear r0 r1 r2 r3 rf)
    go_at_call 40; refine (HR.out.want0 55 20 (by decide)).mono ?_; rintro e w1 ⟨v1, rfl, hR⟩; obtain ⟨A1, n1, c1, rfl⟩ := hR.sl; clear HR; have HR := Aside0.mk hR; clear hR; generalize hs1 : wsum ((wantL C.L 20 st).1) 0 = s1; have HS := Aside0.mk hs1; clear hs1; obtain ⟨r0, r1, r2, r3, rf⟩ := HR.out.box0
    have hbl1 := blk_lt HR.out.bx0
    have hbn1 := Nat.ne_of_lt hbl1
    have hbm1 := Nat.ne_of_gt hbl1
    go_wp2_with fail
    have hR := HR.out.box w1.heap.size #[.int .u8 55, .int .u8 0, .int .i64 s1, .slice A1 n1 c1] 25 rfl; clear HR; have HR := Aside0.mk hR; clear hR
    (try clear r0 r1 r2 r3 rf)
    (try clear y0 y1 y2 y3 yf)
    go_at_call 15; refine (HKD.out _ HR.out.par).mono ?_; rintro e w2 ⟨rfl, hb⟩; have hR := HR.out.below hb; clear hb; clear HR; have HR := Aside0.mk hR; clear hR; obtain ⟨y0, y1, y2, y3, yf⟩ := HR.out.box0; obtain ⟨r0, r1, r2, r3, rf⟩ := HR.out.box1
    go_wp2_with fail
    (try clear r0 r1 r2 r3 rf)
    (try clear y0 y1 y2 y3 yf)
    go_at_call 29; refine (HR.out.take 55 _ HS.out (by (try simp only [List.length_append, List.length_nil, List.length_singleton, List.length_cons]); omega) HK1.out).mono ?_; rintro e w3 ⟨v3, rfl, hR⟩; obtain ⟨A3, n3, c3, rfl⟩ := hR.sl; clear HR; have HR := Aside0.mk hR; clear hR; generalize hs3 : wsum ((wantL C.L 20 st).1 ++ (nextL C.L (wantL C.L 20 st).2).1) 0 = s3; have HS := Aside0.mk hs3; clear hs3; obtain ⟨y0, y1, y2, y3, yf⟩ := HR.out.box0; obtain ⟨r0, r1, r2, r3, rf⟩ := HR.out.box1
    go_wp2_with fail
    have hR := HR.out.st0 (.int .u8 55) (.int .u8 0) (.int .i64 s3) (.slice A3 n3 c3); clear HR; have HR := Aside0.mk hR; clear hR
    go_loopg [] n (fun kq wr => ∃ (acc : List Tr) (stc : RSt) (v' : Value) (s' : Int), Aside0 (RRun C (fun _ => False) [(w1.heap.size, #[.int .u8 55, .int .u8 0, .int .i64 s', v'], 25), (w.heap.size, #[.int .u8 0, .int .u8 0, .int .i64 0, .slice none 0 0], 25)] pb w (.slice none 0 0) acc stc wr v') ∧ Aside0 (wsum acc 0 = s') ∧ Aside0 (Ps.namesLoop C.L kq acc stc = some R) ∧ Aside0 (kq ≤ n) ∧ Aside0 (acc.length + 2 * (C.L.length - stc.at_) ≤ 100000))
    case atStart => exact ⟨_, _, _, _, HR, HS, HLP, ⟨Nat.le_refl _⟩, HBL⟩
    case round =>
      clear HR HS HLP HBL HKD HK1
      (try clear y0 y1 y2 y3 yf)
      (try clear r0 r1 r2 r3 rf)
      obtain ⟨acc, stc, v', s', HR, HS, HA, HKn, HBc⟩ := hrel
      obtain ⟨Aq, nq, cq, rfl⟩ := HR.out.sl
      have hA := HA.out
      cases gk with
      | zero => rw [Ps.namesLoop] at hA; cases hA
      | succ k1 =>
        rw [Ps.namesLoop] at hA
        have HKD := Aside0.mk (fun w h => rkind_any C w pb stc h)
        have hal := HBc.out
        by_cases h24 : stc.kd C.L = 24
        · rw [if_pos h24] at hA
          have hk1 : stc.kd C.L ≠ 0 := by rw [h24]; decide
          rw [h24] at HKD
          have hng := next_goes hk1
          have hnl := next_len (L := C.L) stc
          have hwg := want_goes (L := C.L) (k := 6) (by decide) hng.2.2.1
          have HA2 := Aside0.mk hA
          have hlb : (acc ++ (nextL C.L stc).1 ++ (wantL C.L 6 (nextL C.L stc).2).1).length + 2 * (C.L.length - (wantL C.L 6 (nextL C.L stc).2).2.at_) ≤ 100000 := by
            have h2 := hwg.2.2
            have h3 := hwg.2.1
            have h4 := hng.1
            have h5 := hwg.1
            rw [List.length_append, List.length_append]
            omega
          have HLB := Aside0.mk hlb
          have hnx := rnext_len C stc
          have hwx := rwant_len C 6 (nextL C.L stc).2
          have HK1 := Aside0.mk hk1
          clear hA h24 hng hnl hwg hlb HA hk1
          go_wp2_with fail
          (try clear r0 r1 r2 r3 rf)
          (try clear y0 y1 y2 y3 yf)
          go_at_call 15; refine (HKD.out _ HR.out.par).mono ?_; rintro e w21 ⟨rfl, hb⟩; have hR := HR.out.below hb; clear hb; clear HR; have HR := Aside0.mk hR; clear hR; obtain ⟨y0, y1, y2, y3, yf⟩ := HR.out.box0; obtain ⟨r0, r1, r2, r3, rf⟩ := HR.out.box1
          go_wp2_with fail
          (try clear r0 r1 r2 r3 rf)
          (try clear y0 y1 y2 y3 yf)
          go_at_call 29; refine (HR.out.take 55 _ HS.out (by (try simp only [List.length_append, List.length_nil, List.length_singleton, List.length_cons]); omega) HK1.out).mono ?_; rintro e w22 ⟨v22, rfl, hR⟩; obtain ⟨A22, n22, c22, rfl⟩ := hR.sl; clear HR; have HR := Aside0.mk hR; clear hR; generalize hs22 : wsum (acc ++ (nextL C.L stc).1) 0 = s22; have HS := Aside0.mk hs22; clear hs22; obtain ⟨y0, y1, y2, y3, yf⟩ := HR.out.box0; obtain ⟨r0, r1, r2, r3, rf⟩ := HR.out.box1
          go_wp2_with fail
          have hR := HR.out.st0 (.int .u8 55) (.int .u8 0) (.int .i64 s22) (.slice A22 n22 c22); clear HR; have HR := Aside0.mk hR; clear hR
          (try clear r0 r1 r2 r3 rf)
          (try clear y0 y1 y2 y3 yf)
          go_at_call 40; refine (HR.out.want 55 _ 6 (by decide) HS.out (by (try simp only [List.length_append, List.length_nil, List.length_singleton, List.length_cons]); omega)).mono ?_; rintro e w23 ⟨v23, rfl, hR⟩; obtain ⟨A23, n23, c23, rfl⟩ := hR.sl; clear HR; have HR := Aside0.mk hR; clear hR; generalize hs23 : wsum (acc ++ (nextL C.L stc).1 ++ (wantL C.L 6 (nextL C.L stc).2).1) 0 = s23; have HS := Aside0.mk hs23; clear hs23; obtain ⟨y0, y1, y2, y3, yf⟩ := HR.out.box0; obtain ⟨r0, r1, r2, r3, rf⟩ := HR.out.box1
          go_wp2_with fail
          have hR := HR.out.st0 (.int .u8 55) (.int .u8 0) (.int .i64 s23) (.slice A23 n23 c23); clear HR; have HR := Aside0.mk hR; clear hR
          go_roundg k1
          case measure => omega
          case rel => exact ⟨_, _, _, _, HR, HS, HA2, ⟨by have := HKn.out; omega⟩, HLB⟩
        · rw [if_neg h24] at hA
          obtain rfl := Option.some.inj hA
          have b24 := nb h24
          have h2 := rwant_len C 21 stc
          generalize stc.kd C.L = kd at HKD b24
          clear hA h24 HA
          go_wp2_with fail
          (try clear r0 r1 r2 r3 rf)
          (try clear y0 y1 y2 y3 yf)
          go_at_call 15; refine (HKD.out _ HR.out.par).mono ?_; rintro e w41 ⟨rfl, hb⟩; have hR := HR.out.below hb; clear hb; clear HR; have HR := Aside0.mk hR; clear hR; obtain ⟨y0, y1, y2, y3, yf⟩ := HR.out.box0; obtain ⟨r0, r1, r2, r3, rf⟩ := HR.out.box1
          go_wp2_with fail
          (try clear r0 r1 r2 r3 rf)
          (try clear y0 y1 y2 y3 yf)
          go_at_call 40; refine (HR.out.want 55 _ 21 (by decide) HS.out (by (try simp only [List.length_append, List.length_nil, List.length_singleton, List.length_cons]); omega)).mono ?_; rintro e w42 ⟨v42, rfl, hR⟩; obtain ⟨A42, n42, c42, rfl⟩ := hR.sl; clear HR; have HR := Aside0.mk hR; clear hR; generalize hs42 : wsum (acc ++ (wantL C.L 21 stc).1) 0 = s42; have HS := Aside0.mk hs42; clear hs42; obtain ⟨y0, y1, y2, y3, yf⟩ := HR.out.box0; obtain ⟨r0, r1, r2, r3, rf⟩ := HR.out.box1
          go_wp2
          have hR := (HR.out).st1 (.int .u8 55) (.int .u8 0) (.int .i64 s42) (.slice A42 n42 c42)
          refine bodyPost_ret (results_cell_row rfl _ _ w.heap.size 25 _ (0, 0) _ rfl hR.bx1 Try.underlying25 rfl (by kernel_rfl)) rfl (hR.leafw (by (try simp only [List.length_append, List.length_nil, List.length_singleton, List.length_cons]); omega) 55 HS.out)
  · rw [if_neg h6] at hr
    obtain rfl := Option.some.inj hr
    have b6 := nb h6
    have h2 := rwant_len C 21 (wantL C.L 20 st).2
    generalize (wantL C.L 20 st).2.kd C.L = kd at HKD b6
    clear hr h6 hwg
    go_enter Try.func42, Try.ntmps42
    go_wp2_with fail
    (try clear r0 r1 r2 r3 rf)
    go_at_call 40; refine (HR.out.want0 55 20 (by decide)).mono ?_; rintro e w1 ⟨v1, rfl, hR⟩; obtain ⟨A1, n1, c1, rfl⟩ := hR.sl; clear HR; have HR := Aside0.mk hR; clear hR; generalize hs1 : wsum ((wantL C.L 20 st).1) 0 = s1; have HS := Aside0.mk hs1; clear hs1; obtain ⟨r0, r1, r2, r3, rf⟩ := HR.out.box0
    have hbl1 := blk_lt HR.out.bx0
    have hbn1 := Nat.ne_of_lt hbl1
    have hbm1 := Nat.ne_of_gt hbl1
    go_wp2_with fail
    have hR := HR.out.box w1.heap.size #[.int .u8 55, .int .u8 0, .int .i64 s1, .slice A1 n1 c1] 25 rfl; clear HR; have HR := Aside0.mk hR; clear hR
    (try clear r0 r1 r2 r3 rf)
    (try clear y0 y1 y2 y3 yf)
    go_at_call 15; refine (HKD.out _ HR.out.par).mono ?_; rintro e w2 ⟨rfl, hb⟩; have hR := HR.out.below hb; clear hb; clear HR; have HR := Aside0.mk hR; clear hR; obtain ⟨y0, y1, y2, y3, yf⟩ := HR.out.box0; obtain ⟨r0, r1, r2, r3, rf⟩ := HR.out.box1
    go_wp2_with fail
    (try clear r0 r1 r2 r3 rf)
    (try clear y0 y1 y2 y3 yf)
    go_at_call 40; refine (HR.out.want 55 _ 21 (by decide) HS.out (by (try simp only [List.length_append, List.length_nil, List.length_singleton, List.length_cons]); omega)).mono ?_; rintro e w3 ⟨v3, rfl, hR⟩; obtain ⟨A3, n3, c3, rfl⟩ := hR.sl; clear HR; have HR := Aside0.mk hR; clear hR; generalize hs3 : wsum ((wantL C.L 20 st).1 ++ (wantL C.L 21 (wantL C.L 20 st).2).1) 0 = s3; have HS := Aside0.mk hs3; clear hs3; obtain ⟨y0, y1, y2, y3, yf⟩ := HR.out.box0; obtain ⟨r0, r1, r2, r3, rf⟩ := HR.out.box1
    go_wp2
    have hR := (HR.out).st1 (.int .u8 55) (.int .u8 0) (.int .i64 s3) (.slice A3 n3 c3)
    refine bodyPost_ret (results_cell_row rfl _ _ w.heap.size 25 _ (0, 0) _ rfl hR.bx1 Try.underlying25 rfl (by kernel_rfl)) rfl (hR.leafw (by (try simp only [List.length_append, List.length_nil, List.length_singleton, List.length_cons]); omega) 55 HS.out)
end Go.Proofs.Ytalnicdpcigocaa.PR
namespace Go.Proofs.Ytalnicdpcigocaa.PR
open Go.RowKit Ps PM PL PP GR Go.Proofs.YtalnicdpcigocaaW.PrintWords Go.Proofs.YtalnicdpcigocaaW.PrintLast Go.Proofs.YtalnicdpcigocaaW.PrintMore
set_option linter.unusedVariables false
set_option linter.unusedSimpArgs false
set_option maxHeartbeats 600000 in
set_option maxRecDepth 100000 in
theorem rexpr_succ (C : RC) {n : Nat} (ih : RAll C n) (Z : Nat → Prop) (w : World) (pb : Nat) (kind wd : Int) (kids : List Tr) (v : Value) (st : RSt) (r : List Tr × RSt) (hwd : wsum kids 0 = wd) (hZ : ¬ Z pb) (hD : ND C Z w kids v) (hP : RPar C w pb st) (hlen : kids.length ≤ 200000) (hr : Ps.expr C.L C.orc (n + 1) st = some r) :
    Calls Try.prog 41 #[.pointer (some ⟨pb, 0, none⟩), .agg #[.int .u8 kind, .int .u8 0, .int .i64 wd, v]] w (RPost C Z pb w v kind (kids ++ r.1) r.2) := by
  obtain ⟨A0, c0, rfl⟩ : ∃ A c, v = .slice A kids.length c := PP.own_slice hD.row.choose_spec.1
  generalize hkl : kids.length = kl at *
  have HR := Aside0.mk (((RRun.start hD hP hZ).box w.heap.size #[.int .u8 kind, .int .u8 0, .int .i64 wd, .slice A0 kl c0] 25 rfl).box (w.heap.size + 1) #[.int .u8 0, .int .u8 0, .int .i64 0, .slice none 0 0] 25 (by simp only [World.size_alloc]))
  have HS := Aside0.mk hwd
  have hgl := rgap_len C st
  have hle := hP.le
  have hnn := nx_nx C.L st.at_ hP.le
  have hpw := hP.lt
  clear hD hP hwd
  rw [Ps.expr] at hr
  have HKD := Aside0.mk (fun w h => rkind_any C w pb st h)
  have HNX : Aside0 (nx C.L (st.to C.L).at_ = (st.to C.L).at_) := ⟨hnn⟩
  cases hb : begins (st.kd C.L) with
  | false =>
    rw [hb] at hr
    obtain rfl := Option.some.inj hr
    have HE := Aside0.mk (fun w => hb ▸ rexpr_any (st.kd C.L) w)
    generalize st.kd C.L = kd at HKD HE
    clear hr hb
    go_enter Try.func41, Try.ntmps41
    go_wp2_with fail
    (try clear r0 r1 r2 r3 rf)
    (try clear y0 y1 y2 y3 yf)
    go_at_call 15; refine (HKD.out _ HR.out.par).mono ?_; rintro e w1 ⟨rfl, hb⟩; have hR := HR.out.below hb; clear hb; clear HR; have HR := Aside0.mk hR; clear hR; obtain ⟨r0, r1, r2, r3, rf⟩ := HR.out.box0; obtain ⟨y0, y1, y2, y3, yf⟩ := HR.out.box1
    go_wp2_with fail
    go_at_call 39; refine (HE.out _).mono ?_; rintro e w2 ⟨rfl, hw⟩; obtain rfl := hw.symm
    go_wp2_with fail
    (try clear r0 r1 r2 r3 rf)
    (try clear y0 y1 y2 y3 yf)
    go_at_call 52; refine (HR.out.miss kind wd 60 HS.out (by (try simp only [List.length_append, List.length_nil, List.length_singleton, List.length_cons]); omega)).mono ?_; rintro e w3 ⟨v3, rfl, hR⟩; obtain ⟨A3, n3, c3, rfl⟩ := hR.sl; clear HR; have HR := Aside0.mk hR; clear hR; generalize hs3 : wsum (kids ++ [Ps.missing 60]) 0 = s3; have HS := Aside0.mk hs3; clear hs3; obtain ⟨r0, r1, r2, r3, rf⟩ := HR.out.box0; obtain ⟨y0, y1, y2, y3, yf⟩ := HR.out.box1
    go_wp2
    have hR := (HR.out).st0 (.int .u8 kind) (.int .u8 0) (.int .i64 s3) (.slice A3 n3 c3)
    refine bodyPost_ret (results_cell_row rfl _ _ (w.heap.size + 1) 25 _ (0, 0) _ rfl hR.bx0 Try.underlying25 rfl (by kernel_rfl)) rfl (hR.postw kind HS.out)
  | true =>
    rw [if_pos hb, putL_hit] at hr
    have hkn : (st.to C.L).kd C.L ≠ 0 := by rw [to_kd hle]; exact of_begins hb
    have HKN := Aside0.mk hkn
    have HE := Aside0.mk (fun w => hb ▸ rexpr_any (st.kd C.L) w)
    generalize st.kd C.L = kd at HKD HE
    clear hb hkn
    cases hh : hit C.T C.L.length 60 (nx C.L st.at_) with
    | some x =>
      obtain ⟨t, c⟩ := x
      rw [hh] at hr
      obtain rfl := Option.some.inj hr
      have HH := Aside0.mk hh
      clear hr hh
      go_enter Try.func41, Try.ntmps41
      go_wp2_with fail
      (try clear r0 r1 r2 r3 rf)
      (try clear y0 y1 y2 y3 yf)
      go_at_call 15; refine (HKD.out _ HR.out.par).mono ?_; rintro e w1 ⟨rfl, hb⟩; have hR := HR.out.below hb; clear hb; clear HR; have HR := Aside0.mk hR; clear hR; obtain ⟨r0, r1, r2, r3, rf⟩ := HR.out.box0; obtain ⟨y0, y1, y2, y3, yf⟩ := HR.out.box1
      go_wp2_with fail
      go_at_call 39; refine (HE.out _).mono ?_; rintro e w2 ⟨rfl, hw⟩; obtain rfl := hw.symm
      go_wp2_with fail
      (try clear r0 r1 r2 r3 rf)
      (try clear y0 y1 y2 y3 yf)
      go_at_call 17; refine (HR.out.gap kind wd HS.out (by (try simp only [List.length_append, List.length_nil, List.length_singleton, List.length_cons]); omega)).mono ?_; rintro e w3 ⟨v3, rfl, hR⟩; obtain ⟨A3, n3, c3, rfl⟩ := hR.sl; clear HR; have HR := Aside0.mk hR; clear hR; generalize hs3 : wsum (kids ++ gapL C.L st) 0 = s3; have HS := Aside0.mk hs3; clear hs3; obtain ⟨r0, r1, r2, r3, rf⟩ := HR.out.box0; obtain ⟨y0, y1, y2, y3, yf⟩ := HR.out.box1
      go_wp2_with fail
      have hR := HR.out.st1 (.int .u8 kind) (.int .u8 0) (.int .i64 s3) (.slice A3 n3 c3); clear HR; have HR := Aside0.mk hR; clear hR
      (try clear r0 r1 r2 r3 rf)
      (try clear y0 y1 y2 y3 yf)
      go_at_call 26
      refine (HR.out.tkYes kind _ 60 HS.out (by (try simp only [List.length_append, List.length_nil, List.length_singleton, List.length_cons]); omega) HNX.out HH.out).mono ?_
      rintro e w4 ⟨v4, rfl, hR⟩
      obtain ⟨A4, n4, c4, rfl⟩ := hR.sl; clear HR; have HR := Aside0.mk hR; clear hR; generalize hs4 : wsum (kids ++ gapL C.L st ++ [t]) 0 = s4; have HS := Aside0.mk hs4; clear hs4; obtain ⟨r0, r1, r2, r3, rf⟩ := HR.out.box0; obtain ⟨y0, y1, y2, y3, yf⟩ := HR.out.box1
      have hlt0 := blk_lt HR.out.bx0
      have hlt1 := blk_lt HR.out.bx1
      go_wp2
      have hR := (HR.out.st0 (.int .u8 kind) (.int .u8 0) (.int .i64 s4) (.slice A4 n4 c4)).box w4.heap.size #[.int .u8 kind, .int .u8 0, .int .i64 s4, .slice A4 n4 c4] 25 (by simp only [World.size_setCell])
      refine bodyPost_ret (results_cell_row rfl _ _ (w.heap.size + 1) 25 _ (0, 0) _ rfl hR.bx1 Try.underlying25 rfl (by kernel_rfl)) rfl ((hR.postw kind HS.out).kids (List.append_assoc _ _ _))
    | none =>
      rw [hh] at hr
      obtain ⟨q, hq, rfl⟩ := Option.map_eq_some_iff.mp hr
      obtain ⟨q2, hq2, rfl⟩ := Option.map_eq_some_iff.mp hq
      have HH := Aside0.mk hh
      have HQ := Aside0.mk hq2
      clear hr hh hq hq2
      go_enter Try.func41, Try.ntmps41
      go_wp2_with fail
      (try clear r0 r1 r2 r3 rf)
      (try clear y0 y1 y2 y3 yf)
      go_at_call 15; refine (HKD.out _ HR.out.par).mono ?_; rintro e w1 ⟨rfl, hb⟩; have hR := HR.out.below hb; clear hb; clear HR; have HR := Aside0.mk hR; clear hR; obtain ⟨r0, r1, r2, r3, rf⟩ := HR.out.box0; obtain ⟨y0, y1, y2, y3, yf⟩ := HR.out.box1
      go_wp2_with fail
      go_at_call 39; refine (HE.out _).mono ?_; rintro e w2 ⟨rfl, hw⟩; obtain rfl := hw.symm
      go_wp2_with fail
      (try clear r0 r1 r2 r3 rf)
      (try clear y0 y1 y2 y3 yf)
      go_at_call 17; refine (HR.out.gap kind wd HS.out (by (try simp only [List.length_append, List.length_nil, List.length_singleton, List.length_cons]); omega)).mono ?_; rintro e w3 ⟨v3, rfl, hR⟩; obtain ⟨A3, n3, c3, rfl⟩ := hR.sl; clear HR; have HR := Aside0.mk hR; clear hR; generalize hs3 : wsum (kids ++ gapL C.L st) 0 = s3; have HS := Aside0.mk hs3; clear hs3; obtain ⟨r0, r1, r2, r3, rf⟩ := HR.out.box0; obtain ⟨y0, y1, y2, y3, yf⟩ := HR.out.box1
      go_wp2_with fail
      have hR := HR.out.st1 (.int .u8 kind) (.int .u8 0) (.int .i64 s3) (.slice A3 n3 c3); clear HR; have HR := Aside0.mk hR; clear hR
      (try clear r0 r1 r2 r3 rf)
      (try clear y0 y1 y2 y3 yf)
      go_at_call 26
      refine (HR.out.tkNo kind _ 60 HS.out (by (try simp only [List.length_append, List.length_nil, List.length_singleton, List.length_cons]); omega) HNX.out HH.out).mono ?_
      rintro e w4 ⟨rfl, hR⟩; clear HR; have HR := Aside0.mk hR; clear hR; obtain ⟨r0, r1, r2, r3, rf⟩ := HR.out.box0; obtain ⟨y0, y1, y2, y3, yf⟩ := HR.out.box1
      go_wp2_with fail
      have hR := HR.out.box w4.heap.size #[.int .u8 kind, .int .u8 0, .int .i64 s3, .slice A3 n3 c3] 25 rfl; clear HR; have HR := Aside0.mk hR; clear hR
      (try clear r0 r1 r2 r3 rf)
      (try clear y0 y1 y2 y3 yf)
      generalize (w4.alloc (.cells #[.int .u8 kind, .int .u8 0, .int .i64 s3, .slice A3 n3 c3] 25)) = w5 at *
      have hR := HR.out.below (Below.refl _ _).drew
      obtain ⟨y0, y1, y2, y3, yf⟩ := HR.out.box2; clear HR; have HR := Aside0.mk hR; clear hR
      go_region_held3 (fun w' => w'.cell? ⟨w.heap.size, 0, none⟩ = some (.int .u8 kind) ∧ w'.cell? ⟨w.heap.size, 1, none⟩ = some (.int .u8 0) ∧ w'.cell? ⟨w.heap.size, 2, none⟩ = some (.int .i64 s3) ∧ w'.cell? ⟨w.heap.size, 3, none⟩ = some (.slice A3 n3 c3)) (first | go_keep | exact ⟨y0, y1, y2, y3⟩) ((first | (go_at_call 53; refine (ih.level _ pb (st.to C.L) 1 q2 (by decide) HR.out.par HKN.out HQ.out).mono ?_; rintro e w6 ⟨cs6, rfl, hN, hP, hF⟩; obtain ⟨A6, n6, c6, rfl, _⟩ := hN.four; have hR := HR.out.part hF hP; have HO := Aside0.mk HR.out; have HNa := Aside0.mk hN; have HPa := Aside0.mk hP; have HFa := Aside0.mk hF; clear hN hP hF; clear HR; have HR := Aside0.mk hR; clear hR; clear y0 y1 y2 y3 yf; obtain ⟨r0, r1, r2, r3, rf⟩ := HR.out.box1; obtain ⟨y0, y1, y2, y3, yf⟩ := HR.out.box2) | (go_at_call 27; refine (radd_wrap C _ _ pb q2.2 60 q2.1 _ HNa.out HPa.out HFa.out).mono ?_; clear HNa HPa HFa; rintro e w7 ⟨cs7, rfl, hN, hP, hF⟩; obtain ⟨A7, n7, c7, rfl, _⟩ := hN.four; generalize Ps.node 60 [q2.1] = T7 at *; have HNb := Aside0.mk (HO.out.kid hN); have hR := HO.out.part hF hP; clear hN hP hF HO; clear HR; have HR := Aside0.mk hR; clear hR; clear y0 y1 y2 y3 yf; (try clear r0 r1 r2 r3 rf); obtain ⟨r0, r1, r2, r3, rf⟩ := HR.out.box1; obtain ⟨y0, y1, y2, y3, yf⟩ := HR.out.box2) | (go_at_call 27; refine (HR.out.addN kind _ T7 _ HS.out HNb.out (by (try simp only [List.length_append, List.length_nil, List.length_singleton, List.length_cons]); omega)).mono ?_; clear HNb; rintro e w8 ⟨v8, rfl, hR⟩; obtain ⟨A8, n8, c8, rfl⟩ := hR.sl; clear HR; have HR := Aside0.mk hR; clear hR; generalize hs : wsum (kids ++ gapL C.L st ++ [T7]) 0 = s8; have HS := Aside0.mk hs; clear hs; clear y0 y1 y2 y3 yf; (try clear r0 r1 r2 r3 rf); obtain ⟨r0, r1, r2, r3, rf⟩ := HR.out.box1; obtain ⟨y0, y1, y2, y3, yf⟩ := HR.out.box2)))
      go_wp2
      have hR := (HR.out).st1 (.int .u8 kind) (.int .u8 0) (.int .i64 s8) (.slice A8 n8 c8)
      refine bodyPost_ret (results_cell_row rfl _ _ (w.heap.size + 1) 25 _ (0, 0) _ rfl hR.bx1 Try.underlying25 rfl (by kernel_rfl)) rfl ((hR.postw kind HS.out).kids (List.append_assoc _ _ _))
set_option maxHeartbeats 600000 in
set_option maxRecDepth 100000 in
theorem rblock_succ (C : RC) {n : Nat} (ih : ∀ k, k ≤ n → RAll C k) (Z : Nat → Prop) (w : World) (pb : Nat) (kind wd : Int) (kids : List Tr) (v : Value) (st : RSt) (r : List Tr × RSt) (hwd : wsum kids 0 = wd) (hZ : ¬ Z pb) (hD : ND C Z w kids v) (hP : RPar C w pb st) (hlen : kids.length ≤ 200000) (hr : Ps.block C.L C.orc (n + 1) st = some r) :
    Calls Try.prog 43 #[.pointer (some ⟨pb, 0, none⟩), .agg #[.int .u8 kind, .int .u8 0, .int .i64 wd, v]] w (RPost C Z pb w v kind (kids ++ r.1) r.2) := by
  obtain ⟨A0, c0, rfl⟩ : ∃ A c, v = .slice A kids.length c := PP.own_slice hD.row.choose_spec.1
  generalize hkl : kids.length = kl at *
  have HR := Aside0.mk (((RRun.start hD hP hZ).box w.heap.size #[.int .u8 kind, .int .u8 0, .int .i64 wd, .slice A0 kl c0] 25 rfl).box (w.heap.size + 1) #[.int .u8 0, .int .u8 0, .int .i64 0, .slice none 0 0] 25 (by simp only [World.size_alloc]))
  have HS := Aside0.mk hwd
  have hgl := rgap_len C st
  have hle := hP.le
  have hnn := nx_nx C.L st.at_ hP.le
  have hpw := hP.lt
  clear hD hP hwd
  rw [Ps.block] at hr
  have HKD := Aside0.mk (fun w h => rkind_any C w pb st h)
  have HNX : Aside0 (nx C.L (st.to C.L).at_ = (st.to C.L).at_) := ⟨hnn⟩
  by_cases hb : st.kd C.L = 22
  · rw [if_pos hb, putL_hit] at hr
    have hkn : (st.to C.L).kd C.L ≠ 0 := by rw [to_kd hle, hb]; decide
    have HKN := Aside0.mk hkn
    rw [hb] at HKD
    clear hb hkn
    cases hh : hit C.T C.L.length 52 (nx C.L st.at_) with
    | some x =>
      obtain ⟨t, c⟩ := x
      rw [hh] at hr
      obtain rfl := Option.some.inj hr
      have HH := Aside0.mk hh
      clear hr hh
      go_enter Try.func43, Try.ntmps43
      go_wp2_with fail
      (try clear r0 r1 r2 r3 rf)
      (try clear y0 y1 y2 y3 yf)
      go_at_call 15; refine (HKD.out _ HR.out.par).mono ?_; rintro e w1 ⟨rfl, hb⟩; have hR := HR.out.below hb; clear hb; clear HR; have HR := Aside0.mk hR; clear hR; obtain ⟨r0, r1, r2, r3, rf⟩ := HR.out.box0; obtain ⟨y0, y1, y2, y3, yf⟩ := HR.out.box1
      go_wp2_with fail
      (try clear r0 r1 r2 r3 rf)
      (try clear y0 y1 y2 y3 yf)
      go_at_call 17; refine (HR.out.gap kind wd HS.out (by (try simp only [List.length_append, List.length_nil, List.length_singleton, List.length_cons]); omega)).mono ?_; rintro e w2 ⟨v2, rfl, hR⟩; obtain ⟨A2, n2, c2, rfl⟩ := hR.sl; clear HR; have HR := Aside0.mk hR; clear hR; generalize hs2 : wsum (kids ++ gapL C.L st) 0 = s2; have HS := Aside0.mk hs2; clear hs2; obtain ⟨r0, r1, r2, r3, rf⟩ := HR.out.box0; obtain ⟨y0, y1, y2, y3, yf⟩ := HR.out.box1
      go_wp2_with fail
      have hR := HR.out.st1 (.int .u8 kind) (.int .u8 0) (.int .i64 s2) (.slice A2 n2 c2); clear HR; have HR := Aside0.mk hR; clear hR
      (try clear r0 r1 r2 r3 rf)
      (try clear y0 y1 y2 y3 yf)
      go_at_call 26
      refine (HR.out.tkYes kind _ 52 HS.out (by (try simp only [List.length_append, List.length_nil, List.length_singleton, List.length_cons]); omega) HNX.out HH.out).mono ?_
      rintro e w3 ⟨v3, rfl, hR⟩
      obtain ⟨A3, n3, c3, rfl⟩ := hR.sl; clear HR; have HR := Aside0.mk hR; clear hR; generalize hs3 : wsum (kids ++ gapL C.L st ++ [t]) 0 = s3; have HS := Aside0.mk hs3; clear hs3; obtain ⟨r0, r1, r2, r3, rf⟩ := HR.out.box0; obtain ⟨y0, y1, y2, y3, yf⟩ := HR.out.box1
      have hlt0 := blk_lt HR.out.bx0
      have hlt1 := blk_lt HR.out.bx1
      go_wp2
      have hR := (HR.out.st0 (.int .u8 kind) (.int .u8 0) (.int .i64 s3) (.slice A3 n3 c3)).box w3.heap.size #[.int .u8 kind, .int .u8 0, .int .i64 s3, .slice A3 n3 c3] 25 (by simp only [World.size_setCell])
      refine bodyPost_ret (results_cell_row rfl _ _ (w.heap.size + 1) 25 _ (0, 0) _ rfl hR.bx1 Try.underlying25 rfl (by kernel_rfl)) rfl ((hR.postw kind HS.out).kids (List.append_assoc _ _ _))
    | none =>
      rw [hh] at hr
      obtain ⟨q, hq, rfl⟩ := Option.map_eq_some_iff.mp hr
      have HH := Aside0.mk hh
      have HQ := Aside0.mk hq
      clear hr hh hq
      go_enter Try.func43, Try.ntmps43
      go_wp2_with fail
      (try clear r0 r1 r2 r3 rf)
      (try clear y0 y1 y2 y3 yf)
      go_at_call 15; refine (HKD.out _ HR.out.par).mono ?_; rintro e w1 ⟨rfl, hb⟩; have hR := HR.out.below hb; clear hb; clear HR; have HR := Aside0.mk hR; clear hR; obtain ⟨r0, r1, r2, r3, rf⟩ := HR.out.box0; obtain ⟨y0, y1, y2, y3, yf⟩ := HR.out.box1
      go_wp2_with fail
      (try clear r0 r1 r2 r3 rf)
      (try clear y0 y1 y2 y3 yf)
      go_at_call 17; refine (HR.out.gap kind wd HS.out (by (try simp only [List.length_append, List.length_nil, List.length_singleton, List.length_cons]); omega)).mono ?_; rintro e w2 ⟨v2, rfl, hR⟩; obtain ⟨A2, n2, c2, rfl⟩ := hR.sl; clear HR; have HR := Aside0.mk hR; clear hR; generalize hs2 : wsum (kids ++ gapL C.L st) 0 = s2; have HS := Aside0.mk hs2; clear hs2; obtain ⟨r0, r1, r2, r3, rf⟩ := HR.out.box0; obtain ⟨y0, y1, y2, y3, yf⟩ := HR.out.box1
      go_wp2_with fail
      have hR := HR.out.st1 (.int .u8 kind) (.int .u8 0) (.int .i64 s2) (.slice A2 n2 c2); clear HR; have HR := Aside0.mk hR; clear hR
      (try clear r0 r1 r2 r3 rf)
      (try clear y0 y1 y2 y3 yf)
      go_at_call 26
      refine (HR.out.tkNo kind _ 52 HS.out (by (try simp only [List.length_append, List.length_nil, List.length_singleton, List.length_cons]); omega) HNX.out HH.out).mono ?_
      rintro e w3 ⟨rfl, hR⟩; clear HR; have HR := Aside0.mk hR; clear hR; obtain ⟨r0, r1, r2, r3, rf⟩ := HR.out.box0; obtain ⟨y0, y1, y2, y3, yf⟩ := HR.out.box1
      go_wp2_with fail
      have hR := HR.out.box w3.heap.size #[.int .u8 kind, .int .u8 0, .int .i64 s2, .slice A2 n2 c2] 25 rfl; clear HR; have HR := Aside0.mk hR; clear hR
      (try clear r0 r1 r2 r3 rf)
      (try clear y0 y1 y2 y3 yf)
      generalize (w3.alloc (.cells #[.int .u8 kind, .int .u8 0, .int .i64 s2, .slice A2 n2 c2] 25)) = w4 at *
      have hR := HR.out.below (Below.refl _ _).drew
      obtain ⟨y0, y1, y2, y3, yf⟩ := HR.out.box2; clear HR; have HR := Aside0.mk hR; clear hR
      go_region_held3 (fun w' => w'.cell? ⟨w.heap.size, 0, none⟩ = some (.int .u8 kind) ∧ w'.cell? ⟨w.heap.size, 1, none⟩ = some (.int .u8 0) ∧ w'.cell? ⟨w.heap.size, 2, none⟩ = some (.int .i64 s2) ∧ w'.cell? ⟨w.heap.size, 3, none⟩ = some (.slice A2 n2 c2)) (first | go_keep | exact ⟨y0, y1, y2, y3⟩) ((first | (go_at_call 44; refine ((ih n (Nat.le_refl n)).begun _ pb (st.to C.L) q HR.out.par HKN.out HQ.out).mono ?_; rintro e w5 ⟨cs5, rfl, hN, hP, hF⟩; obtain ⟨A5, n5, c5, rfl, _⟩ := hN.four; have HNb := Aside0.mk (HR.out.kid hN); have hR := HR.out.part hF hP; clear hN hP hF; clear HR; have HR := Aside0.mk hR; clear hR; clear y0 y1 y2 y3 yf; obtain ⟨r0, r1, r2, r3, rf⟩ := HR.out.box1; obtain ⟨y0, y1, y2, y3, yf⟩ := HR.out.box2) | (go_at_call 27; refine (HR.out.addN kind _ q.1 _ HS.out HNb.out (by (try simp only [List.length_append, List.length_nil, List.length_singleton, List.length_cons]); omega)).mono ?_; clear HNb; rintro e w6 ⟨v6, rfl, hR⟩; obtain ⟨A6, n6, c6, rfl⟩ := hR.sl; clear HR; have HR := Aside0.mk hR; clear hR; generalize hs : wsum (kids ++ gapL C.L st ++ [q.1]) 0 = s6; have HS := Aside0.mk hs; clear hs; clear y0 y1 y2 y3 yf; (try clear r0 r1 r2 r3 rf); obtain ⟨r0, r1, r2, r3, rf⟩ := HR.out.box1; obtain ⟨y0, y1, y2, y3, yf⟩ := HR.out.box2)))
      go_wp2
      have hR := (HR.out).st1 (.int .u8 kind) (.int .u8 0) (.int .i64 s6) (.slice A6 n6 c6)
      refine bodyPost_ret (results_cell_row rfl _ _ (w.heap.size + 1) 25 _ (0, 0) _ rfl hR.bx1 Try.underlying25 rfl (by kernel_rfl)) rfl ((hR.postw kind HS.out).kids (List.append_assoc _ _ _))
  · rw [if_neg hb] at hr
    obtain rfl := Option.some.inj hr
    have b22 := nb hb
    have c22 : (st.kd C.L != 22) = true := bne_iff_ne.mpr hb
    generalize st.kd C.L = kd at HKD b22 c22
    clear hr hb
    go_enter Try.func43, Try.ntmps43
    go_wp2_with fail
    (try clear r0 r1 r2 r3 rf)
    (try clear y0 y1 y2 y3 yf)
    go_at_call 15; refine (HKD.out _ HR.out.par).mono ?_; rintro e w1 ⟨rfl, hb⟩; have hR := HR.out.below hb; clear hb; clear HR; have HR := Aside0.mk hR; clear hR; obtain ⟨r0, r1, r2, r3, rf⟩ := HR.out.box0; obtain ⟨y0, y1, y2, y3, yf⟩ := HR.out.box1
    go_wp2_with fail
    (try clear r0 r1 r2 r3 rf)
    (try clear y0 y1 y2 y3 yf)
    go_at_call 52; refine (HR.out.miss kind wd 52 HS.out (by (try simp only [List.length_append, List.length_nil, List.length_singleton, List.length_cons]); omega)).mono ?_; rintro e w2 ⟨v2, rfl, hR⟩; obtain ⟨A2, n2, c2, rfl⟩ := hR.sl; clear HR; have HR := Aside0.mk hR; clear hR; generalize hs2 : wsum (kids ++ [Ps.missing 52]) 0 = s2; have HS := Aside0.mk hs2; clear hs2; obtain ⟨r0, r1, r2, r3, rf⟩ := HR.out.box0; obtain ⟨y0, y1, y2, y3, yf⟩ := HR.out.box1
    go_wp2
    have hR := (HR.out).st0 (.int .u8 kind) (.int .u8 0) (.int .i64 s2) (.slice A2 n2 c2)
    refine bodyPost_ret (results_cell_row rfl _ _ (w.heap.size + 1) 25 _ (0, 0) _ rfl hR.bx0 Try.underlying25 rfl (by kernel_rfl)) rfl (hR.postw kind HS.out)
end Go.Proofs.Ytalnicdpcigocaa.PR
namespace Go.Proofs.Ytalnicdpcigocaa.PR
open Go.RowKit Ps PM PL PP GR Go.Proofs.YtalnicdpcigocaaW.PrintWords Go.Proofs.YtalnicdpcigocaaW.PrintLast Go.Proofs.YtalnicdpcigocaaW.PrintMore
set_option linter.unusedVariables false
set_option linter.unusedSimpArgs false
abbrev RR0 (C : RC) (bs : List Bx) (pb : Nat) (w : World) (st : RSt) (w1 : World) : Prop := RRun C (fun _ => False) bs pb w (.slice none 0 0) [] st w1 (.slice none 0 0)
/-- a finished node in memory of its own, apart from the boxes -/
def Hold (C : RC) (bs : List Bx) (w w1 : World) (t : Tr) (cs : List Value) : Prop := NodeC (fun b => Up C (fun _ => False) w.heap.size b ∧ ∀ x ∈ bs, x.1 ≠ b) w1 t cs
theorem RRun.fin {C : RC} {bs : List Bx} {pb : Nat} {w : World} {kids : List Tr} {st : RSt} {w1 : World} {v1 : Value} (h : RRun C (fun _ => False) bs pb w (.slice none 0 0) kids st w1 v1) (hlen : kids.length ≤ 1000000) (kind : Int) {wd : Int} (hwd : wsum kids 0 = wd) :
    RR0 C bs pb w st w1 ∧ Hold C bs w w1 (Ps.node kind kids) [.int .u8 kind, .int .u8 0, .int .i64 wd, v1] := by
  subst hwd
  exact ⟨⟨Or.inl rfl, ND.nil _ _ _, h.par, h.fr, h.bx, h.dis, h.hZ, h.plt⟩, h.nd.tree hlen kind⟩
theorem RRun.drop0 {C : RC} {Z : Nat → Prop} {x : Bx} {bs : List Bx} {pb : Nat} {w : World} {v : Value} {kids : List Tr} {st : RSt} {w1 : World} {v1 : Value} (h : RRun C Z (x :: bs) pb w v kids st w1 v1) : RRun C Z bs pb w v kids st w1 v1 :=
  ⟨h.own, h.nd.move (fun b hb _ => ⟨⟨hb.1, fun y hy => hb.2 y (List.mem_cons_of_mem _ hy)⟩, rfl⟩), h.par, h.fr, fun y hy => h.bx y (List.mem_cons_of_mem _ hy), (List.nodup_cons.1 (by simpa using h.dis)).2, h.hZ, h.plt⟩
theorem Hold.drop0 {C : RC} {x : Bx} {bs : List Bx} {w w1 : World} {t : Tr} {cs : List Value} (h : Hold C (x :: bs) w w1 t cs) : Hold C bs w w1 t cs :=
  h.move (fun b hb _ => ⟨⟨hb.1, fun y hy => hb.2 y (List.mem_cons_of_mem _ hy)⟩, rfl⟩)
theorem Hold.below {C : RC} {bs : List Bx} {w w1 w2 : World} {t : Tr} {cs : List Value} (h : Hold C bs w w1 t cs) (b : Below w1.heap.size w1 w2) : Hold C bs w w2 t cs := h.move (fun k hk hlt => ⟨hk, b.block k hlt⟩)
theorem Hold.box {C : RC} {bs : List Bx} {w w1 : World} {t : Tr} {cs : List Value} (h : Hold C bs w w1 t cs) (nb : Nat) (ds : Array Value) (T : TypeId) (hn : nb = w1.heap.size) : Hold C ((nb, ds, T) :: bs) w (w1.alloc (.cells ds T)) t cs := by
  subst hn
  refine h.move (fun k hk hlt => ⟨⟨hk.1, fun x hx => ?_⟩, heap_alloc_old _ _ hlt⟩)
  rcases List.mem_cons.1 hx with rfl | hx
  · exact Nat.ne_of_gt hlt
  · exact hk.2 x hx
theorem Hold.set {C : RC} {bs bs' : List Bx} {w w1 w2 : World} {t : Tr} {cs : List Value} {nb : Nat} (h : Hold C bs w w1 t cs) (hm : ∃ x ∈ bs, x.1 = nb) (hF : FrX (fun b => b = nb) w1 w2) (hbs : bs'.map (fun x => x.1) = bs.map (fun x => x.1)) : Hold C bs' w w2 t cs := by
  obtain ⟨y, hy, rfl⟩ := hm
  refine h.move (fun k hk hlt => ⟨⟨hk.1, fun x hx => ?_⟩, hF.block k hlt (fun e => hk.2 y hy e.symm)⟩)
  have : x.1 ∈ bs'.map (fun x => x.1) := List.mem_map_of_mem hx
  rw [hbs] at this
  obtain ⟨z, hz, e⟩ := List.mem_map.1 this
  rw [← e]
  exact hk.2 z hz
theorem Hold.st0 {C : RC} {bs : List Bx} {w w1 : World} {t : Tr} {cs : List Value} {nb : Nat} {ds : Array Value} {T : TypeId} (h : Hold C ((nb, ds, T) :: bs) w w1 t cs) (a b c d : Value) :
    Hold C ((nb, #[a, b, c, d], T) :: bs) w ((((w1.setCell ⟨nb, 0, none⟩ a).setCell ⟨nb, 1, none⟩ b).setCell ⟨nb, 2, none⟩ c).setCell ⟨nb, 3, none⟩ d) t cs :=
  h.set ⟨_, List.mem_cons_self, rfl⟩ (set4_fr (X := fun b => b = nb) (FrX.refl _ _) rfl _ _ _ _) rfl
theorem Hold.st1 {C : RC} {bs : List Bx} {w w1 : World} {t : Tr} {cs : List Value} {y : Bx} {nb : Nat} {ds : Array Value} {T : TypeId} (h : Hold C (y :: (nb, ds, T) :: bs) w w1 t cs) (a b c d : Value) :
    Hold C (y :: (nb, #[a, b, c, d], T) :: bs) w ((((w1.setCell ⟨nb, 0, none⟩ a).setCell ⟨nb, 1, none⟩ b).setCell ⟨nb, 2, none⟩ c).setCell ⟨nb, 3, none⟩ d) t cs :=
  h.set ⟨_, List.mem_cons_of_mem _ List.mem_cons_self, rfl⟩ (set4_fr (X := fun b => b = nb) (FrX.refl _ _) rfl _ _ _ _) rfl
theorem Hold.kid {C : RC} {bs : List Bx} {w w1 : World} {t : Tr} {cs : List Value} (h : Hold C bs w w1 t cs) : NodeC (fun b => (Up C (fun _ => False) w.heap.size b ∧ ∀ x ∈ bs, x.1 ≠ b) ∧ (Value.slice none 0 0).ownBlock ≠ some b) w1 t cs :=
  h.move (fun b hb _ => ⟨⟨hb, fun e => by cases e⟩, rfl⟩)
theorem hold_of {C : RC} {bs : List Bx} {w w1 : World} {t : Tr} {cs : List Value} (h : NodeC (fun b => (Up C (fun _ => False) w.heap.size b ∧ ∀ x ∈ bs, x.1 ≠ b) ∧ (Value.slice none 0 0).ownBlock ≠ some b) w1 t cs) : Hold C bs w w1 t cs :=
  h.move (fun b hb _ => ⟨hb.1, rfl⟩)
theorem Hold.ret {C : RC} {bs : List Bx} {pb : Nat} {w : World} {st : RSt} {w1 : World} {t : Tr} {a b c d : Value} (h : Hold C bs w w1 t [a, b, c, d]) (hR : RR0 C bs pb w st w1) : RLv C pb w t st (.returned (.agg #[a, b, c, d])) w1 :=
  hR.pass (fun b hb => hb.1.elim (fun e => e.elim) id) h
end Go.Proofs.Ytalnicdpcigocaa.PR
namespace Go.Proofs.Ytalnicdpcigocaa.PR
open Go.RowKit Ps PM PL PP GR Go.Proofs.YtalnicdpcigocaaW.PrintWords Go.Proofs.YtalnicdpcigocaaW.PrintLast Go.Proofs.YtalnicdpcigocaaW.PrintMore
set_option linter.unusedVariables false
set_option linter.unusedSimpArgs false
set_option maxHeartbeats 600000 in
set_option maxRecDepth 100000 in
theorem rbegun_succ (C : RC) {n : Nat} (ih : ∀ k, k ≤ n → RAll C k) (w : World) (pb : Nat) (st : RSt) (r : Tr × RSt) (hP : RPar C w pb st) (hk : st.kd C.L ≠ 0) (hr : Ps.begun C.L C.orc (n + 1) st = some r) :
    Calls Try.prog 44 #[.pointer (some ⟨pb, 0, none⟩)] w (RLv C pb w r.1 r.2) := by
  rw [Ps.begun] at hr
  obtain ⟨R, hlp, rfl⟩ := Option.map_eq_some_iff.mp hr
  have h1 := rnext_len C st
  have hpw := hP.lt
  have HR := Aside0.mk ((RRun.start0 hP).box w.heap.size #[.int .u8 0, .int .u8 0, .int .i64 0, .slice none 0 0] 25 rfl)
  have hL := C.hL
  have HK := Aside0.mk hk
  have hng := next_goes hk
  have hnl := next_len (L := C.L) st
  have HBL : Aside0 ((nextL C.L st).1.length + 2 * (C.L.length - (nextL C.L st).2.at_) ≤ 100000) := ⟨by have := hng.2.2.1; omega⟩
  have HLP := Aside0.mk hlp
  clear hP hk hr hlp hng hnl
  go_enter Try.func44, Try.ntmps44
  go_wp2_with fail
  (try clear r0 r1 r2 r3 rf)
  go_at_call 29; refine (HR.out.take0 52 HK.out).mono ?_; rintro e w1 ⟨v1, rfl, hR⟩; obtain ⟨A1, n1, c1, rfl⟩ := hR.sl; clear HR; have HR := Aside0.mk hR; clear hR; generalize hs1 : wsum ((nextL C.L st).1) 0 = s1; have HS := Aside0.mk hs1; clear hs1; obtain ⟨r0, r1, r2, r3, rf⟩ := HR.out.box0
  have hbl1 := blk_lt HR.out.bx0
  have hbn1 := Nat.ne_of_lt hbl1
  have hbm1 := Nat.ne_of_gt hbl1
  go_wp2_with fail
  have hR := HR.out.box w1.heap.size #[.int .u8 52, .int .u8 0, .int .i64 s1, .slice A1 n1 c1] 25 rfl; clear HR; have HR := Aside0.mk hR; clear hR
  go_loopg [] n (fun kq wr => ∃ (acc : List Tr) (stc : RSt) (v' : Value) (s' : Int), Aside0 (RRun C (fun _ => False) [(w1.heap.size, #[.int .u8 52, .int .u8 0, .int .i64 s', v'], 25), (w.heap.size, #[.int .u8 0, .int .u8 0, .int .i64 0, .slice none 0 0], 25)] pb w (.slice none 0 0) acc stc wr v') ∧ Aside0 (wsum acc 0 = s') ∧ Aside0 (Ps.bodyLoop C.L C.orc kq acc stc = some R) ∧ Aside0 (kq ≤ n) ∧ Aside0 (acc.length + 2 * (C.L.length - stc.at_) ≤ 100000))
  case atStart => exact ⟨_, _, _, _, HR, HS, HLP, ⟨Nat.le_refl _⟩, HBL⟩
  case round =>
    clear HR HS HLP HBL HK
    (try clear y0 y1 y2 y3 yf)
    (try clear r0 r1 r2 r3 rf)
    obtain ⟨acc, stc, v', s', HR, HS, HA, HKn, HBc⟩ := hrel
    obtain ⟨Aq, nq, cq, rfl⟩ := HR.out.sl
    have hA := HA.out
    cases gk with
    | zero => rw [Ps.bodyLoop] at hA; cases hA
    | succ k1 =>
      rw [Ps.bodyLoop] at hA
      have HKD := Aside0.mk (fun w h => rkind_any C w pb stc h)
      have hal := HBc.out
      have h2 := rwant_len C 23 stc
      by_cases h23 : stc.kd C.L = 23
      · rw [if_neg (fun h => h.1 h23)] at hA
        obtain rfl := Option.some.inj hA
        rw [h23] at HKD
        clear hA h23 HA
        go_wp2_with fail
        (try clear r0 r1 r2 r3 rf)
        (try clear y0 y1 y2 y3 yf)
        go_at_call 15; refine (HKD.out _ HR.out.par).mono ?_; rintro e w21 ⟨rfl, hb⟩; have hR := HR.out.below hb; clear hb; clear HR; have HR := Aside0.mk hR; clear hR; obtain ⟨y0, y1, y2, y3, yf⟩ := HR.out.box0; obtain ⟨r0, r1, r2, r3, rf⟩ := HR.out.box1
        go_wp2_with fail
        (try clear r0 r1 r2 r3 rf)
        (try clear y0 y1 y2 y3 yf)
        go_at_call 40; refine (HR.out.want 52 _ 23 (by decide) HS.out (by (try simp only [List.length_append, List.length_nil, List.length_singleton, List.length_cons]); omega)).mono ?_; rintro e w22 ⟨v22, rfl, hR⟩; obtain ⟨A22, n22, c22, rfl⟩ := hR.sl; clear HR; have HR := Aside0.mk hR; clear hR; generalize hs22 : wsum (acc ++ (wantL C.L 23 stc).1) 0 = s22; have HS := Aside0.mk hs22; clear hs22; obtain ⟨y0, y1, y2, y3, yf⟩ := HR.out.box0; obtain ⟨r0, r1, r2, r3, rf⟩ := HR.out.box1
        go_wp2
        have hR := (HR.out).st1 (.int .u8 52) (.int .u8 0) (.int .i64 s22) (.slice A22 n22 c22)
        refine bodyPost_ret (results_cell_row rfl _ _ w.heap.size 25 _ (0, 0) _ rfl hR.bx1 Try.underlying25 rfl (by kernel_rfl)) rfl (hR.leafw (by (try simp only [List.length_append, List.length_nil, List.length_singleton, List.length_cons]); omega) 52 HS.out)
      · have b23 := nb h23
        have c23 : (stc.kd C.L != 23) = true := bne_iff_ne.mpr h23
        by_cases h0 : stc.kd C.L = 0
        · rw [if_neg (fun h => h.2 h0)] at hA
          obtain rfl := Option.some.inj hA
          rw [h0] at HKD
          clear hA h23 h0 HA b23 c23
          go_wp2_with fail
          (try clear r0 r1 r2 r3 rf)
          (try clear y0 y1 y2 y3 yf)
          go_at_call 15; refine (HKD.out _ HR.out.par).mono ?_; rintro e w41 ⟨rfl, hb⟩; have hR := HR.out.below hb; clear hb; clear HR; have HR := Aside0.mk hR; clear hR; obtain ⟨y0, y1, y2, y3, yf⟩ := HR.out.box0; obtain ⟨r0, r1, r2, r3, rf⟩ := HR.out.box1
          go_wp2_with fail
          (try clear r0 r1 r2 r3 rf)
          (try clear y0 y1 y2 y3 yf)
          go_at_call 15; refine (HKD.out _ HR.out.par).mono ?_; rintro e w42 ⟨rfl, hb⟩; have hR := HR.out.below hb; clear hb; clear HR; have HR := Aside0.mk hR; clear hR; obtain ⟨y0, y1, y2, y3, yf⟩ := HR.out.box0; obtain ⟨r0, r1, r2, r3, rf⟩ := HR.out.box1
          go_wp2_with fail
          (try clear r0 r1 r2 r3 rf)
          (try clear y0 y1 y2 y3 yf)
          go_at_call 40; refine (HR.out.want 52 _ 23 (by decide) HS.out (by (try simp only [List.length_append, List.length_nil, List.length_singleton, List.length_cons]); omega)).mono ?_; rintro e w43 ⟨v43, rfl, hR⟩; obtain ⟨A43, n43, c43, rfl⟩ := hR.sl; clear HR; have HR := Aside0.mk hR; clear hR; generalize hs43 : wsum (acc ++ (wantL C.L 23 stc).1) 0 = s43; have HS := Aside0.mk hs43; clear hs43; obtain ⟨y0, y1, y2, y3, yf⟩ := HR.out.box0; obtain ⟨r0, r1, r2, r3, rf⟩ := HR.out.box1
          go_wp2
          have hR := (HR.out).st1 (.int .u8 52) (.int .u8 0) (.int .i64 s43) (.slice A43 n43 c43)
          refine bodyPost_ret (results_cell_row rfl _ _ w.heap.size 25 _ (0, 0) _ rfl hR.bx1 Try.underlying25 rfl (by kernel_rfl)) rfl (hR.leafw (by (try simp only [List.length_append, List.length_nil, List.length_singleton, List.length_cons]); omega) 52 HS.out)
        · rw [if_pos ⟨h23, h0⟩] at hA
          obtain ⟨q, hx, hA⟩ := Option.bind_eq_some_iff.mp hA
          have b0 := nb h0
          have c0 : (stc.kd C.L != 0) = true := bne_iff_ne.mpr h0
          have hig := (mon k1 : Mon C.L C.orc k1).inner _ _ HR.out.par.le h0 hx
          have HA2 := Aside0.mk hA
          have HX := Aside0.mk hx
          have HK0 := Aside0.mk h0
          have hlb : q.1.length ≤ 40000 ∧ (acc ++ q.1).length + 2 * (C.L.length - q.2.at_) ≤ 100000 := by
            have a1 := hig.2.2.2
            have a2 := hig.2.2.1
            have a3 := hig.1
            have a4 := HR.out.par.le
            rw [List.length_append]
            omega
          have HLB := Aside0.mk hlb.2
          generalize stc.kd C.L = kd at HKD b0 b23 c0 c23
          clear hA hx h23 h0 hig HA hlb
          go_wp2_with fail
          (try clear r0 r1 r2 r3 rf)
          (try clear y0 y1 y2 y3 yf)
          go_at_call 15; refine (HKD.out _ HR.out.par).mono ?_; rintro e w61 ⟨rfl, hb⟩; have hR := HR.out.below hb; clear hb; clear HR; have HR := Aside0.mk hR; clear hR; obtain ⟨y0, y1, y2, y3, yf⟩ := HR.out.box0; obtain ⟨r0, r1, r2, r3, rf⟩ := HR.out.box1
          go_wp2_with fail
          (try clear r0 r1 r2 r3 rf)
          (try clear y0 y1 y2 y3 yf)
          go_at_call 15; refine (HKD.out _ HR.out.par).mono ?_; rintro e w62 ⟨rfl, hb⟩; have hR := HR.out.below hb; clear hb; clear HR; have HR := Aside0.mk hR; clear hR; obtain ⟨y0, y1, y2, y3, yf⟩ := HR.out.box0; obtain ⟨r0, r1, r2, r3, rf⟩ := HR.out.box1
          go_wp2_with fail
          (try clear r0 r1 r2 r3 rf)
          (try clear y0 y1 y2 y3 yf)
          go_at_call 16; refine (HR.out.inner (ih k1 (by have := HKn.out; omega)) 52 _ q HS.out (by (try simp only [List.length_append, List.length_nil, List.length_singleton, List.length_cons]); omega) HK0.out HX.out).mono ?_; rintro e w63 ⟨v63, rfl, hR⟩; obtain ⟨A63, n63, c63, rfl⟩ := hR.sl; clear HR; have HR := Aside0.mk hR; clear hR; generalize hs63 : wsum (acc ++ q.1) 0 = s63; have HS := Aside0.mk hs63; clear hs63; obtain ⟨y0, y1, y2, y3, yf⟩ := HR.out.box0; obtain ⟨r0, r1, r2, r3, rf⟩ := HR.out.box1
          go_wp2_with fail
          have hR := HR.out.st0 (.int .u8 52) (.int .u8 0) (.int .i64 s63) (.slice A63 n63 c63); clear HR; have HR := Aside0.mk hR; clear hR
          go_roundg k1
          case measure => omega
          case rel => exact ⟨_, _, _, _, HR, HS, HA2, ⟨by have := HKn.out; omega⟩, HLB⟩
set_option maxHeartbeats 600000 in
set_option maxRecDepth 100000 in
theorem runary_sign (C : RC) {n : Nat} (ih : ∀ k, k ≤ n → RAll C k) (w : World) (pb : Nat) (st : RSt) (o : List Tr × RSt) (hP : RPar C w pb st) (hk : st.kd C.L ≠ 0) (hs : st.kd C.L = 34 ∨ st.kd C.L = 38) (ho : operandL C.L (Ps.unary C.L C.orc n) (nextL C.L st).2 = some o) :
    Calls Try.prog 65 #[.pointer (some ⟨pb, 0, none⟩)] w (RLv C pb w (Ps.node 62 ((nextL C.L st).1 ++ o.1)) o.2) := by
  have h1 := rnext_len C st
  have hpw := hP.lt
  have HR := Aside0.mk ((RRun.start0 hP).box w.heap.size #[.int .u8 0, .int .u8 0, .int .i64 0, .slice none 0 0] 25 rfl)
  have hL := C.hL
  have HK := Aside0.mk hk
  have hle1 := (next_ok hk).2
  have HKD := Aside0.mk (fun w h => rkind_any C w pb st h)
  have HKD2 := Aside0.mk (fun w h => rkind_any C w pb (nextL C.L st).2 h)
  have hgl := rgap_len C (nextL C.L st).2
  clear hP hk
  unfold operandL at ho
  cases hb : begins ((nextL C.L st).2.kd C.L) with
  | false =>
    rw [hb] at ho
    obtain rfl := Option.some.inj ho
    have HE := Aside0.mk (fun w => hb ▸ rexpr_any ((nextL C.L st).2.kd C.L) w)
    generalize (nextL C.L st).2.kd C.L = kd2 at HKD2 HE
    clear ho hb
    rcases hs with hs | hs
    · rw [hs] at HKD
      clear hs
      go_enter Try.func65, Try.ntmps65
      go_wp2_with fail
      (try clear r0 r1 r2 r3 rf)
      go_at_call 15; refine (HKD.out _ HR.out.par).mono ?_; rintro e w1 ⟨rfl, hb⟩; have hR := HR.out.below hb; clear hb; clear HR; have HR := Aside0.mk hR; clear hR; obtain ⟨r0, r1, r2, r3, rf⟩ := HR.out.box0
      go_wp2_with fail
      (try clear r0 r1 r2 r3 rf)
      go_at_call 29; refine (HR.out.take0 62 HK.out).mono ?_; rintro e w2 ⟨v2, rfl, hR⟩; obtain ⟨A2, n2, c2, rfl⟩ := hR.sl; clear HR; have HR := Aside0.mk hR; clear hR; generalize hs2 : wsum ((nextL C.L st).1) 0 = s2; have HS := Aside0.mk hs2; clear hs2; obtain ⟨r0, r1, r2, r3, rf⟩ := HR.out.box0
      have hbl2 := blk_lt HR.out.bx0
      have hbn2 := Nat.ne_of_lt hbl2
      have hbm2 := Nat.ne_of_gt hbl2
      go_wp2_with fail
      have hR := HR.out.box w2.heap.size #[.int .u8 62, .int .u8 0, .int .i64 s2, .slice A2 n2 c2] 25 rfl; clear HR; have HR := Aside0.mk hR; clear hR
      (try clear r0 r1 r2 r3 rf)
      (try clear y0 y1 y2 y3 yf)
      go_at_call 15; refine (HKD2.out _ HR.out.par).mono ?_; rintro e w3 ⟨rfl, hb⟩; have hR := HR.out.below hb; clear hb; clear HR; have HR := Aside0.mk hR; clear hR; obtain ⟨y0, y1, y2, y3, yf⟩ := HR.out.box0; obtain ⟨r0, r1, r2, r3, rf⟩ := HR.out.box1
      go_wp2_with fail
      go_at_call 39; refine (HE.out _).mono ?_; rintro e w4 ⟨rfl, hw⟩; obtain rfl := hw.symm
      go_wp2_with fail
      (try clear r0 r1 r2 r3 rf)
      (try clear y0 y1 y2 y3 yf)
      go_at_call 52; refine (HR.out.miss 62 _ 60 HS.out (by (try simp only [List.length_append, List.length_nil, List.length_singleton, List.length_cons]); omega)).mono ?_; rintro e w5 ⟨v5, rfl, hR⟩; obtain ⟨A5, n5, c5, rfl⟩ := hR.sl; clear HR; have HR := Aside0.mk hR; clear hR; generalize hs5 : wsum ((nextL C.L st).1 ++ [Ps.missing 60]) 0 = s5; have HS := Aside0.mk hs5; clear hs5; obtain ⟨y0, y1, y2, y3, yf⟩ := HR.out.box0; obtain ⟨r0, r1, r2, r3, rf⟩ := HR.out.box1
      go_wp2
      have hR := (HR.out).st1 (.int .u8 62) (.int .u8 0) (.int .i64 s5) (.slice A5 n5 c5)
      refine bodyPost_ret (results_cell_row rfl _ _ w.heap.size 25 _ (0, 0) _ rfl hR.bx1 Try.underlying25 rfl (by kernel_rfl)) rfl (hR.leafw (by (try simp only [List.length_append, List.length_nil, List.length_singleton, List.length_cons]); omega) 62 HS.out)
    · rw [hs] at HKD
      clear hs
      go_enter Try.func65, Try.ntmps65
      go_wp2_with fail
      (try clear r0 r1 r2 r3 rf)
      go_at_call 15; refine (HKD.out _ HR.out.par).mono ?_; rintro e w1 ⟨rfl, hb⟩; have hR := HR.out.below hb; clear hb; clear HR; have HR := Aside0.mk hR; clear hR; obtain ⟨r0, r1, r2, r3, rf⟩ := HR.out.box0
      go_wp2_with fail
      (try clear r0 r1 r2 r3 rf)
      go_at_call 15; refine (HKD.out _ HR.out.par).mono ?_; rintro e w2 ⟨rfl, hb⟩; have hR := HR.out.below hb; clear hb; clear HR; have HR := Aside0.mk hR; clear hR; obtain ⟨r0, r1, r2, r3, rf⟩ := HR.out.box0
      go_wp2_with fail
      (try clear r0 r1 r2 r3 rf)
      go_at_call 29; refine (HR.out.take0 62 HK.out).mono ?_; rintro e w3 ⟨v3, rfl, hR⟩; obtain ⟨A3, n3, c3, rfl⟩ := hR.sl; clear HR; have HR := Aside0.mk hR; clear hR; generalize hs3 : wsum ((nextL C.L st).1) 0 = s3; have HS := Aside0.mk hs3; clear hs3; obtain ⟨r0, r1, r2, r3, rf⟩ := HR.out.box0
      have hbl3 := blk_lt HR.out.bx0
      have hbn3 := Nat.ne_of_lt hbl3
      have hbm3 := Nat.ne_of_gt hbl3
      go_wp2_with fail
      have hR := HR.out.box w3.heap.size #[.int .u8 62, .int .u8 0, .int .i64 s3, .slice A3 n3 c3] 25 rfl; clear HR; have HR := Aside0.mk hR; clear hR
      (try clear r0 r1 r2 r3 rf)
      (try clear y0 y1 y2 y3 yf)
      go_at_call 15; refine (HKD2.out _ HR.out.par).mono ?_; rintro e w4 ⟨rfl, hb⟩; have hR := HR.out.below hb; clear hb; clear HR; have HR := Aside0.mk hR; clear hR; obtain ⟨y0, y1, y2, y3, yf⟩ := HR.out.box0; obtain ⟨r0, r1, r2, r3, rf⟩ := HR.out.box1
      go_wp2_with fail
      go_at_call 39; refine (HE.out _).mono ?_; rintro e w5 ⟨rfl, hw⟩; obtain rfl := hw.symm
      go_wp2_with fail
      (try clear r0 r1 r2 r3 rf)
      (try clear y0 y1 y2 y3 yf)
      go_at_call 52; refine (HR.out.miss 62 _ 60 HS.out (by (try simp only [List.length_append, List.length_nil, List.length_singleton, List.length_cons]); omega)).mono ?_; rintro e w6 ⟨v6, rfl, hR⟩; obtain ⟨A6, n6, c6, rfl⟩ := hR.sl; clear HR; have HR := Aside0.mk hR; clear hR; generalize hs6 : wsum ((nextL C.L st).1 ++ [Ps.missing 60]) 0 = s6; have HS := Aside0.mk hs6; clear hs6; obtain ⟨y0, y1, y2, y3, yf⟩ := HR.out.box0; obtain ⟨r0, r1, r2, r3, rf⟩ := HR.out.box1
      go_wp2
      have hR := (HR.out).st1 (.int .u8 62) (.int .u8 0) (.int .i64 s6) (.slice A6 n6 c6)
      refine bodyPost_ret (results_cell_row rfl _ _ w.heap.size 25 _ (0, 0) _ rfl hR.bx1 Try.underlying25 rfl (by kernel_rfl)) rfl (hR.leafw (by (try simp only [List.length_append, List.length_nil, List.length_singleton, List.length_cons]); omega) 62 HS.out)
  | true =>
    rw [if_pos hb] at ho
    obtain ⟨q, hq, rfl⟩ := Option.map_eq_some_iff.mp ho
    have hkn : ((nextL C.L st).2.to C.L).kd C.L ≠ 0 := by rw [to_kd hle1]; exact of_begins hb
    have HKN := Aside0.mk hkn
    have HQ := Aside0.mk hq
    have HE := Aside0.mk (fun w => hb ▸ rexpr_any ((nextL C.L st).2.kd C.L) w)
    generalize (nextL C.L st).2.kd C.L = kd2 at HKD2 HE
    clear ho hb hkn hq
    rcases hs with hs | hs
    · rw [hs] at HKD
      clear hs
      go_enter Try.func65, Try.ntmps65
      go_wp2_with fail
      (try clear r0 r1 r2 r3 rf)
      go_at_call 15; refine (HKD.out _ HR.out.par).mono ?_; rintro e w1 ⟨rfl, hb⟩; have hR := HR.out.below hb; clear hb; clear HR; have HR := Aside0.mk hR; clear hR; obtain ⟨r0, r1, r2, r3, rf⟩ := HR.out.box0
      go_wp2_with fail
      (try clear r0 r1 r2 r3 rf)
      go_at_call 29; refine (HR.out.take0 62 HK.out).mono ?_; rintro e w2 ⟨v2, rfl, hR⟩; obtain ⟨A2, n2, c2, rfl⟩ := hR.sl; clear HR; have HR := Aside0.mk hR; clear hR; generalize hs2 : wsum ((nextL C.L st).1) 0 = s2; have HS := Aside0.mk hs2; clear hs2; obtain ⟨r0, r1, r2, r3, rf⟩ := HR.out.box0
      have hbl2 := blk_lt HR.out.bx0
      have hbn2 := Nat.ne_of_lt hbl2
      have hbm2 := Nat.ne_of_gt hbl2
      go_wp2_with fail
      have hR := HR.out.box w2.heap.size #[.int .u8 62, .int .u8 0, .int .i64 s2, .slice A2 n2 c2] 25 rfl; clear HR; have HR := Aside0.mk hR; clear hR
      (try clear r0 r1 r2 r3 rf)
      (try clear y0 y1 y2 y3 yf)
      go_at_call 15; refine (HKD2.out _ HR.out.par).mono ?_; rintro e w3 ⟨rfl, hb⟩; have hR := HR.out.below hb; clear hb; clear HR; have HR := Aside0.mk hR; clear hR; obtain ⟨y0, y1, y2, y3, yf⟩ := HR.out.box0; obtain ⟨r0, r1, r2, r3, rf⟩ := HR.out.box1
      go_wp2_with fail
      go_at_call 39; refine (HE.out _).mono ?_; rintro e w4 ⟨rfl, hw⟩; obtain rfl := hw.symm
      go_wp2_with fail
      (try clear r0 r1 r2 r3 rf)
      (try clear y0 y1 y2 y3 yf)
      go_at_call 17; refine (HR.out.gap 62 _ HS.out (by (try simp only [List.length_append, List.length_nil, List.length_singleton, List.length_cons]); omega)).mono ?_; rintro e w5 ⟨v5, rfl, hR⟩; obtain ⟨A5, n5, c5, rfl⟩ := hR.sl; clear HR; have HR := Aside0.mk hR; clear hR; generalize hs5 : wsum ((nextL C.L st).1 ++ gapL C.L (nextL C.L st).2) 0 = s5; have HS := Aside0.mk hs5; clear hs5; obtain ⟨y0, y1, y2, y3, yf⟩ := HR.out.box0; obtain ⟨r0, r1, r2, r3, rf⟩ := HR.out.box1
      go_wp2_with fail
      have hR := HR.out.st0 (.int .u8 62) (.int .u8 0) (.int .i64 s5) (.slice A5 n5 c5); clear HR; have HR := Aside0.mk hR; clear hR
      (try clear r0 r1 r2 r3 rf)
      (try clear y0 y1 y2 y3 yf)
      generalize ((((w5.setCell ⟨w2.heap.size, 0, none⟩ (.int .u8 62)).setCell ⟨w2.heap.size, 1, none⟩ (.int .u8 0)).setCell ⟨w2.heap.size, 2, none⟩ (.int .i64 s5)).setCell ⟨w2.heap.size, 3, none⟩ (.slice A5 n5 c5)) = w6 at *
      have hR := HR.out.below (Below.refl _ _).drew
      obtain ⟨y0, y1, y2, y3, yf⟩ := HR.out.box0; clear HR; have HR := Aside0.mk hR; clear hR
      go_region_held3 (fun w' => w'.cell? ⟨w2.heap.size, 0, none⟩ = some (.int .u8 62) ∧ w'.cell? ⟨w2.heap.size, 1, none⟩ = some (.int .u8 0) ∧ w'.cell? ⟨w2.heap.size, 2, none⟩ = some (.int .i64 s5) ∧ w'.cell? ⟨w2.heap.size, 3, none⟩ = some (.slice A5 n5 c5)) (first | go_keep | exact ⟨y0, y1, y2, y3⟩) ((first | (go_at_call 65; refine ((ih n (Nat.le_refl n)).unary _ pb ((nextL C.L st).2.to C.L) q HR.out.par HKN.out HQ.out).mono ?_; rintro e w7 ⟨cs7, rfl, hN, hP, hF⟩; obtain ⟨A7, n7, c7, rfl, _⟩ := hN.four; have HNb := Aside0.mk (HR.out.kid hN); have hR := HR.out.part hF hP; clear hN hP hF; clear HR; have HR := Aside0.mk hR; clear hR; clear y0 y1 y2 y3 yf; obtain ⟨y0, y1, y2, y3, yf⟩ := HR.out.box0; obtain ⟨r0, r1, r2, r3, rf⟩ := HR.out.box1) | (go_at_call 27; refine (HR.out.addN 62 _ q.1 _ HS.out HNb.out (by (try simp only [List.length_append, List.length_nil, List.length_singleton, List.length_cons]); omega)).mono ?_; clear HNb; rintro e w8 ⟨v8, rfl, hR⟩; obtain ⟨A8, n8, c8, rfl⟩ := hR.sl; clear HR; have HR := Aside0.mk hR; clear hR; generalize hs : wsum ((nextL C.L st).1 ++ gapL C.L (nextL C.L st).2 ++ [q.1]) 0 = s8; have HS := Aside0.mk hs; clear hs; clear y0 y1 y2 y3 yf; (try clear r0 r1 r2 r3 rf); obtain ⟨y0, y1, y2, y3, yf⟩ := HR.out.box0; obtain ⟨r0, r1, r2, r3, rf⟩ := HR.out.box1)))
      go_wp2
      have hR := (HR.out).st1 (.int .u8 62) (.int .u8 0) (.int .i64 s8) (.slice A8 n8 c8)
      refine bodyPost_ret (results_cell_row rfl _ _ w.heap.size 25 _ (0, 0) _ rfl hR.bx1 Try.underlying25 rfl (by kernel_rfl)) rfl ((hR.leafw (by (try simp only [List.length_append, List.length_nil, List.length_singleton, List.length_cons]); omega) 62 HS.out).tree (by rw [List.append_assoc]))
    · rw [hs] at HKD
      clear hs
      go_enter Try.func65, Try.ntmps65
      go_wp2_with fail
      (try clear r0 r1 r2 r3 rf)
      go_at_call 15; refine (HKD.out _ HR.out.par).mono ?_; rintro e w1 ⟨rfl, hb⟩; have hR := HR.out.below hb; clear hb; clear HR; have HR := Aside0.mk hR; clear hR; obtain ⟨r0, r1, r2, r3, rf⟩ := HR.out.box0
      go_wp2_with fail
      (try clear r0 r1 r2 r3 rf)
      go_at_call 15; refine (HKD.out _ HR.out.par).mono ?_; rintro e w2 ⟨rfl, hb⟩; have hR := HR.out.below hb; clear hb; clear HR; have HR := Aside0.mk hR; clear hR; obtain ⟨r0, r1, r2, r3, rf⟩ := HR.out.box0
      go_wp2_with fail
      (try clear r0 r1 r2 r3 rf)
      go_at_call 29; refine (HR.out.take0 62 HK.out).mono ?_; rintro e w3 ⟨v3, rfl, hR⟩; obtain ⟨A3, n3, c3, rfl⟩ := hR.sl; clear HR; have HR := Aside0.mk hR; clear hR; generalize hs3 : wsum ((nextL C.L st).1) 0 = s3; have HS := Aside0.mk hs3; clear hs3; obtain ⟨r0, r1, r2, r3, rf⟩ := HR.out.box0
      have hbl3 := blk_lt HR.out.bx0
      have hbn3 := Nat.ne_of_lt hbl3
      have hbm3 := Nat.ne_of_gt hbl3
      go_wp2_with fail
      have hR := HR.out.box w3.heap.size #[.int .u8 62, .int .u8 0, .int .i64 s3, .slice A3 n3 c3] 25 rfl; clear HR; have HR := Aside0.mk hR; clear hR
      (try clear r0 r1 r2 r3 rf)
      (try clear y0 y1 y2 y3 yf)
      go_at_call 15; refine (HKD2.out _ HR.out.par).mono ?_; rintro e w4 ⟨rfl, hb⟩; have hR := HR.out.below hb; clear hb; clear HR; have HR := Aside0.mk hR; clear hR; obtain ⟨y0, y1, y2, y3, yf⟩ := HR.out.box0; obtain ⟨r0, r1, r2, r3, rf⟩ := HR.out.box1
      go_wp2_with fail
      go_at_call 39; refine (HE.out _).mono ?_; rintro e w5 ⟨rfl, hw⟩; obtain rfl := hw.symm
      go_wp2_with fail
      (try clear r0 r1 r2 r3 rf)
      (try clear y0 y1 y2 y3 yf)
      go_at_call 17; refine (HR.out.gap 62 _ HS.out (by (try simp only [List.length_append, List.length_nil, List.length_singleton, List.length_cons]); omega)).mono ?_; rintro e w6 ⟨v6, rfl, hR⟩; obtain ⟨A6, n6, c6, rfl⟩ := hR.sl; clear HR; have HR := Aside0.mk hR; clear hR; generalize hs6 : wsum ((nextL C.L st).1 ++ gapL C.L (nextL C.L st).2) 0 = s6; have HS := Aside0.mk hs6; clear hs6; obtain ⟨y0, y1, y2, y3, yf⟩ := HR.out.box0; obtain ⟨r0, r1, r2, r3, rf⟩ := HR.out.box1
      go_wp2_with fail
      have hR := HR.out.st0 (.int .u8 62) (.int .u8 0) (.int .i64 s6) (.slice A6 n6 c6); clear HR; have HR := Aside0.mk hR; clear hR
      (try clear r0 r1 r2 r3 rf)
      (try clear y0 y1 y2 y3 yf)
      generalize ((((w6.setCell ⟨w3.heap.size, 0, none⟩ (.int .u8 62)).setCell ⟨w3.heap.size, 1, none⟩ (.int .u8 0)).setCell ⟨w3.heap.size, 2, none⟩ (.int .i64 s6)).setCell ⟨w3.heap.size, 3, none⟩ (.slice A6 n6 c6)) = w7 at *
      have hR := HR.out.below (Below.refl _ _).drew
      obtain ⟨y0, y1, y2, y3, yf⟩ := HR.out.box0; clear HR; have HR := Aside0.mk hR; clear hR
      go_region_held3 (fun w' => w'.cell? ⟨w3.heap.size, 0, none⟩ = some (.int .u8 62) ∧ w'.cell? ⟨w3.heap.size, 1, none⟩ = some (.int .u8 0) ∧ w'.cell? ⟨w3.heap.size, 2, none⟩ = some (.int .i64 s6) ∧ w'.cell? ⟨w3.heap.size, 3, none⟩ = some (.slice A6 n6 c6)) (first | go_keep | exact ⟨y0, y1, y2, y3⟩) ((first | (go_at_call 65; refine ((ih n (Nat.le_refl n)).unary _ pb ((nextL C.L st).2.to C.L) q HR.out.par HKN.out HQ.out).mono ?_; rintro e w8 ⟨cs8, rfl, hN, hP, hF⟩; obtain ⟨A8, n8, c8, rfl, _⟩ := hN.four; have HNb := Aside0.mk (HR.out.kid hN); have hR := HR.out.part hF hP; clear hN hP hF; clear HR; have HR := Aside0.mk hR; clear hR; clear y0 y1 y2 y3 yf; obtain ⟨y0, y1, y2, y3, yf⟩ := HR.out.box0; obtain ⟨r0, r1, r2, r3, rf⟩ := HR.out.box1) | (go_at_call 27; refine (HR.out.addN 62 _ q.1 _ HS.out HNb.out (by (try simp only [List.length_append, List.length_nil, List.length_singleton, List.length_cons]); omega)).mono ?_; clear HNb; rintro e w9 ⟨v9, rfl, hR⟩; obtain ⟨A9, n9, c9, rfl⟩ := hR.sl; clear HR; have HR := Aside0.mk hR; clear hR; generalize hs : wsum ((nextL C.L st).1 ++ gapL C.L (nextL C.L st).2 ++ [q.1]) 0 = s9; have HS := Aside0.mk hs; clear hs; clear y0 y1 y2 y3 yf; (try clear r0 r1 r2 r3 rf); obtain ⟨y0, y1, y2, y3, yf⟩ := HR.out.box0; obtain ⟨r0, r1, r2, r3, rf⟩ := HR.out.box1)))
      go_wp2
      have hR := (HR.out).st1 (.int .u8 62) (.int .u8 0) (.int .i64 s9) (.slice A9 n9 c9)
      refine bodyPost_ret (results_cell_row rfl _ _ w.heap.size 25 _ (0, 0) _ rfl hR.bx1 Try.underlying25 rfl (by kernel_rfl)) rfl ((hR.leafw (by (try simp only [List.length_append, List.length_nil, List.length_singleton, List.length_cons]); omega) 62 HS.out).tree (by rw [List.append_assoc]))
end Go.Proofs.Ytalnicdpcigocaa.PR
namespace Go.Proofs.Ytalnicdpcigocaa.PR
open Go.RowKit Ps PM PL PP GR Go.Proofs.YtalnicdpcigocaaW.PrintWords Go.Proofs.YtalnicdpcigocaaW.PrintLast Go.Proofs.YtalnicdpcigocaaW.PrintMore
set_option linter.unusedVariables false
set_option linter.unusedSimpArgs false
set_option maxHeartbeats 600000 in
set_option maxRecDepth 100000 in
theorem runary_calls (C : RC) {n : Nat} (ih : ∀ k, k ≤ n → RAll C k) (w : World) (pb : Nat) (st : RSt) (q R : Tr × RSt) (hP : RPar C w pb st) (hk : st.kd C.L ≠ 0) (h34 : st.kd C.L ≠ 34) (h38 : st.kd C.L ≠ 38) (hq : Ps.primary C.L C.orc n st = some q) (hR0 : Ps.callLoop C.L C.orc n q.1 q.2 = some R) :
    Calls Try.prog 65 #[.pointer (some ⟨pb, 0, none⟩)] w (RLv C pb w R.1 R.2) := by
  have h1 := rnext_len C st
  have hpw := hP.lt
  have HR := Aside0.mk ((RRun.start0 hP).box w.heap.size #[.int .u8 0, .int .u8 0, .int .i64 0, .slice none 0 0] 25 rfl)
  have hL := C.hL
  have HK := Aside0.mk hk
  have HKD := Aside0.mk (fun w h => rkind_any C w pb st h)
  have b34 := nb h34
  have b38 := nb h38
  have HQ := Aside0.mk hq
  have HLP := Aside0.mk hR0
  clear hP
  generalize st.kd C.L = kd at HKD b34 b38
  clear h34 h38 hq hR0 hk
  go_enter Try.func65, Try.ntmps65
  go_wp2_with fail
  (try clear r0 r1 r2 r3 rf)
  go_at_call 15; refine (HKD.out _ HR.out.par).mono ?_; rintro e w1 ⟨rfl, hb⟩; have hR := HR.out.below hb; clear hb; clear HR; have HR := Aside0.mk hR; clear hR; obtain ⟨r0, r1, r2, r3, rf⟩ := HR.out.box0
  go_wp2_with fail
  (try clear r0 r1 r2 r3 rf)
  go_at_call 15; refine (HKD.out _ HR.out.par).mono ?_; rintro e w2 ⟨rfl, hb⟩; have hR := HR.out.below hb; clear hb; clear HR; have HR := Aside0.mk hR; clear hR; obtain ⟨r0, r1, r2, r3, rf⟩ := HR.out.box0
  go_wp2_with fail
  (try clear r0 r1 r2 r3 rf)
  go_at_call 70
  refine ((ih n (Nat.le_refl n)).primary _ pb st q HR.out.par HK.out HQ.out).mono ?_
  rintro e w3 ⟨cs3, rfl, hN, hP, hF⟩
  obtain ⟨A3, n3, c3, rfl, _⟩ := hN.four
  have HN := Aside0.mk (HR.out.kid hN)
  have HN0 := Aside0.mk hN
  have hR := HR.out.part hF hP
  clear hN hF hP; clear HR; have HR := Aside0.mk hR; clear hR; obtain ⟨r0, r1, r2, r3, rf⟩ := HR.out.box0
  go_wp2_with fail
  have hbl3 := blk_lt HR.out.bx0
  have hbn3 := Nat.ne_of_lt hbl3
  have hbm3 := Nat.ne_of_gt hbl3
  have HH := Aside0.mk ((hold_of HN.out).box w3.heap.size #[.int .u8 q.1.kind, .int .u8 q.1.want, .int .i64 q.1.width, .slice A3 n3 c3] 25 rfl)
  have hR := HR.out.box w3.heap.size #[.int .u8 q.1.kind, .int .u8 q.1.want, .int .i64 q.1.width, .slice A3 n3 c3] 25 rfl; clear HR; have HR := Aside0.mk hR; clear hR
  clear HN HN0
  go_loopg [] n (fun kq wr => ∃ (T : Tr) (stc : RSt) (x0 x1 x2 : Int) (A : Option Addr) (n' c : Nat), Aside0 (RR0 C [(w3.heap.size, #[.int .u8 x0, .int .u8 x1, .int .i64 x2, .slice A n' c], 25), (w.heap.size, #[.int .u8 0, .int .u8 0, .int .i64 0, .slice none 0 0], 25)] pb w stc wr) ∧ Aside0 (Hold C [(w3.heap.size, #[.int .u8 x0, .int .u8 x1, .int .i64 x2, .slice A n' c], 25), (w.heap.size, #[.int .u8 0, .int .u8 0, .int .i64 0, .slice none 0 0], 25)] w wr T [.int .u8 x0, .int .u8 x1, .int .i64 x2, .slice A n' c]) ∧ Aside0 (Ps.callLoop C.L C.orc kq T stc = some R) ∧ Aside0 (kq ≤ n))
  case atStart => exact ⟨_, _, _, _, _, _, _, _, HR, HH, HLP, ⟨Nat.le_refl _⟩⟩
  case round =>
    clear HR HH HLP HKD HK HQ
    (try clear y0 y1 y2 y3 yf)
    (try clear r0 r1 r2 r3 rf)
    obtain ⟨T, stc, x0, x1, x2, A, n', c, HR, HH, HA, HKn⟩ := hrel
    have hA := HA.out
    cases gk with
    | zero => rw [Ps.callLoop] at hA; cases hA
    | succ k1 =>
      rw [Ps.callLoop] at hA
      have HKD := Aside0.mk (fun w h => rkind_any C w pb stc h)
      have hle := HR.out.par.le
      have hgl := rgap_len C stc
      have hnx := rnext_len C stc
      by_cases h20 : stc.kd C.L = 20
      · rw [if_pos h20] at hA
        obtain ⟨p, hx, hA⟩ := Option.bind_eq_some_iff.mp hA
        have hkn : (stc.to C.L).kd C.L ≠ 0 := by rw [to_kd hle, h20]; decide
        rw [h20] at HKD
        have HKN := Aside0.mk hkn
        have HX := Aside0.mk hx
        have HA2 := Aside0.mk hA
        clear hA hx h20 HA hkn
        go_wp2_with fail
        (try clear r0 r1 r2 r3 rf)
        (try clear y0 y1 y2 y3 yf)
        go_at_call 15; refine (HKD.out _ HR.out.par).mono ?_; rintro e w21 ⟨rfl, hb⟩; have hR := HR.out.below hb; have hH := HH.out.below hb; clear HH; have HH := Aside0.mk hH; clear hH; clear hb; clear HR; have HR := Aside0.mk hR; clear hR; obtain ⟨y0, y1, y2, y3, yf⟩ := HR.out.box0; obtain ⟨r0, r1, r2, r3, rf⟩ := HR.out.box1
        go_wp2_with fail
        (try clear r0 r1 r2 r3 rf)
        (try clear y0 y1 y2 y3 yf)
        go_at_call 27; refine (HR.out.addN0 63 T [.int .u8 x0, .int .u8 x1, .int .i64 x2, .slice A n' c] HH.out.kid).mono ?_; rintro e w22 ⟨v22, rfl, hR⟩; obtain ⟨A22, n22, c22, rfl⟩ := hR.sl; clear HR; have HR := Aside0.mk hR; clear hR; generalize hs22 : wsum ([T]) 0 = s22; have HS := Aside0.mk hs22; clear hs22; obtain ⟨y0, y1, y2, y3, yf⟩ := HR.out.box0; obtain ⟨r0, r1, r2, r3, rf⟩ := HR.out.box1
        clear HH
        go_wp2_with fail
        (try clear r0 r1 r2 r3 rf)
        (try clear y0 y1 y2 y3 yf)
        go_at_call 17; refine (HR.out.gap 63 _ HS.out (by (try simp only [List.length_append, List.length_nil, List.length_singleton, List.length_cons]); omega)).mono ?_; rintro e w23 ⟨v23, rfl, hR⟩; obtain ⟨A23, n23, c23, rfl⟩ := hR.sl; clear HR; have HR := Aside0.mk hR; clear hR; generalize hs23 : wsum ([T] ++ gapL C.L stc) 0 = s23; have HS := Aside0.mk hs23; clear hs23; obtain ⟨y0, y1, y2, y3, yf⟩ := HR.out.box0; obtain ⟨r0, r1, r2, r3, rf⟩ := HR.out.box1
        have hlt0 := blk_lt HR.out.bx1
        have hln0 := Nat.ne_of_lt hlt0
        have hlm0 := Nat.ne_of_gt hlt0
        have hbl23 := blk_lt HR.out.bx0
        have hbn23 := Nat.ne_of_lt hbl23
        have hbm23 := Nat.ne_of_gt hbl23
        go_wp2_with fail
        have hR := HR.out.box w23.heap.size #[.int .u8 63, .int .u8 0, .int .i64 s23, .slice A23 n23 c23] 25 rfl; clear HR; have HR := Aside0.mk hR; clear hR
        (try clear r0 r1 r2 r3 rf)
        (try clear y0 y1 y2 y3 yf)
        (try clear z0 z1 z2 z3 zf)
        generalize (w23.alloc (.cells #[.int .u8 63, .int .u8 0, .int .i64 s23, .slice A23 n23 c23] 25)) = w24 at *
        have hR := HR.out.below (Below.refl _ _).drew
        obtain ⟨y0, y1, y2, y3, yf⟩ := HR.out.box0; clear HR; have HR := Aside0.mk hR; clear hR
        go_region_held3 (fun w' => w'.cell? ⟨w23.heap.size, 0, none⟩ = some (.int .u8 63) ∧ w'.cell? ⟨w23.heap.size, 1, none⟩ = some (.int .u8 0) ∧ w'.cell? ⟨w23.heap.size, 2, none⟩ = some (.int .i64 s23) ∧ w'.cell? ⟨w23.heap.size, 3, none⟩ = some (.slice A23 n23 c23)) (first | go_keep | exact ⟨y0, y1, y2, y3⟩) ((first | (go_at_call 71; refine ((ih k1 (by have := HKn.out; omega)).args _ pb (stc.to C.L) p HR.out.par HKN.out HX.out).mono ?_; rintro e w25 ⟨cs25, rfl, hN, hP, hF⟩; obtain ⟨A25, n25, c25, rfl, _⟩ := hN.four; have HNb := Aside0.mk (HR.out.kid hN); have hR := HR.out.part hF hP; clear hN hP hF; clear HR; have HR := Aside0.mk hR; clear hR; clear y0 y1 y2 y3 yf; obtain ⟨y0, y1, y2, y3, yf⟩ := HR.out.box0; obtain ⟨z0, z1, z2, z3, zf⟩ := HR.out.box1; obtain ⟨r0, r1, r2, r3, rf⟩ := HR.out.box2) | (go_at_call 27; refine (HR.out.addN 63 _ p.1 _ HS.out HNb.out (by (try simp only [List.length_append, List.length_nil, List.length_singleton, List.length_cons]); omega)).mono ?_; clear HNb; rintro e w26 ⟨v26, rfl, hR⟩; obtain ⟨A26, n26, c26, rfl⟩ := hR.sl; clear HR; have HR := Aside0.mk hR; clear hR; generalize hs : wsum ([T] ++ gapL C.L stc ++ [p.1]) 0 = s26; have HS := Aside0.mk hs; clear hs; clear y0 y1 y2 y3 yf; (try clear r0 r1 r2 r3 rf); obtain ⟨y0, y1, y2, y3, yf⟩ := HR.out.box0; obtain ⟨z0, z1, z2, z3, zf⟩ := HR.out.box1; obtain ⟨r0, r1, r2, r3, rf⟩ := HR.out.box2)))
        go_wp2_with fail
        have hf := (HR.out.st1 (.int .u8 63) (.int .u8 0) (.int .i64 s26) (.slice A26 n26 c26)).fin (by (try simp only [List.length_append, List.length_nil, List.length_singleton, List.length_cons]); omega) 63 HS.out
        go_roundg k1
        case measure => omega
        case rel => exact ⟨_, _, _, _, _, _, _, _, ⟨hf.1.drop0⟩, ⟨hf.2.drop0⟩, HA2, ⟨by have := HKn.out; omega⟩⟩
      · rw [if_neg h20] at hA
        obtain rfl := Option.some.inj hA
        have b20 := nb h20
        generalize stc.kd C.L = kd2 at HKD b20
        clear hA h20 HA
        go_wp2_with fail
        (try clear r0 r1 r2 r3 rf)
        (try clear y0 y1 y2 y3 yf)
        go_at_call 15; refine (HKD.out _ HR.out.par).mono ?_; rintro e w41 ⟨rfl, hb⟩; have hR := HR.out.below hb; have hH := HH.out.below hb; clear HH; have HH := Aside0.mk hH; clear hH; clear hb; clear HR; have HR := Aside0.mk hR; clear hR; obtain ⟨y0, y1, y2, y3, yf⟩ := HR.out.box0; obtain ⟨r0, r1, r2, r3, rf⟩ := HR.out.box1
        go_wp2
        have hR := HR.out.st1 (.int .u8 x0) (.int .u8 x1) (.int .i64 x2) (.slice A n' c)
        refine bodyPost_ret (results_cell_row rfl _ _ w.heap.size 25 _ (0, 0) _ rfl hR.bx1 Try.underlying25 rfl (by kernel_rfl)) rfl ((HH.out.st1 (.int .u8 x0) (.int .u8 x1) (.int .i64 x2) (.slice A n' c)).ret hR)
theorem runary_succ (C : RC) {n : Nat} (ih : ∀ k, k ≤ n → RAll C k) (w : World) (pb : Nat) (st : RSt) (r : Tr × RSt) (hP : RPar C w pb st) (hk : st.kd C.L ≠ 0) (hr : Ps.unary C.L C.orc (n + 1) st = some r) :
    Calls Try.prog 65 #[.pointer (some ⟨pb, 0, none⟩)] w (RLv C pb w r.1 r.2) := by
  rw [Ps.unary] at hr
  by_cases hs : st.kd C.L = 34 ∨ st.kd C.L = 38
  · rw [if_pos hs] at hr
    obtain ⟨o, ho, rfl⟩ := Option.map_eq_some_iff.mp hr
    exact runary_sign C ih w pb st o hP hk hs ho
  · rw [if_neg hs] at hr
    obtain ⟨q, hq, hr⟩ := Option.bind_eq_some_iff.mp hr
    exact runary_calls C ih w pb st q r hP hk (fun e => hs (Or.inl e)) (fun e => hs (Or.inr e)) hq hr
end Go.Proofs.Ytalnicdpcigocaa.PR
namespace Go.Proofs.Ytalnicdpcigocaa.PR
open Go.RowKit Ps PM PL PP GR Go.Proofs.YtalnicdpcigocaaW.PrintWords Go.Proofs.YtalnicdpcigocaaW.PrintLast Go.Proofs.YtalnicdpcigocaaW.PrintMore
set_option linter.unusedVariables false
set_option linter.unusedSimpArgs false
set_option maxHeartbeats 600000 in
set_option maxRecDepth 100000 in
theorem rlevel_top (C : RC) {n : Nat} (ih : RAll C n) (w : World) (pb : Nat) (st : RSt) (k : Nat) (hk6 : k = 6) (r : Tr × RSt) (hP : RPar C w pb st) (hk : st.kd C.L ≠ 0) (hr : Ps.unary C.L C.orc n st = some r) :
    Calls Try.prog 53 #[.pointer (some ⟨pb, 0, none⟩), .int .i64 (k : Int)] w (RLv C pb w r.1 r.2) := by
  subst hk6
  have h1 := rnext_len C st
  have hpw := hP.lt
  have HR := Aside0.mk ((RRun.start0 hP).box w.heap.size #[.int .u8 0, .int .u8 0, .int .i64 0, .slice none 0 0] 25 rfl)
  have hL := C.hL
  have HK := Aside0.mk hk
  have HQ := Aside0.mk hr
  clear hP hr hk
  go_enter Try.func53, Try.ntmps53
  go_wp2_with fail
  (try clear r0 r1 r2 r3 rf)
  go_at_call 65
  refine (ih.unary _ pb st r HR.out.par HK.out HQ.out).mono ?_
  rintro e w1 ⟨cs1, rfl, hN, hP, hF⟩
  obtain ⟨A1, n1, c1, rfl, _⟩ := hN.four
  have HN := Aside0.mk (HR.out.kid hN)
  have HN0 := Aside0.mk hN
  have hR := HR.out.part hF hP
  clear hN hF hP; clear HR; have HR := Aside0.mk hR; clear hR; obtain ⟨r0, r1, r2, r3, rf⟩ := HR.out.box0
  have HH := Aside0.mk (hold_of HN.out)
  clear HN HN0
  go_wp2
  have hR := HR.out.st0 (.int .u8 r.1.kind) (.int .u8 r.1.want) (.int .i64 r.1.width) (.slice A1 n1 c1)
  refine bodyPost_ret (results_cell_row rfl _ _ w.heap.size 25 _ (0, 0) _ rfl hR.bx0 Try.underlying25 rfl (by kernel_rfl)) rfl ((HH.out.st0 (.int .u8 r.1.kind) (.int .u8 r.1.want) (.int .i64 r.1.width) (.slice A1 n1 c1)).ret hR)
set_option maxHeartbeats 600000 in
set_option maxRecDepth 100000 in
theorem rlevel_low (C : RC) {n : Nat} (ih : ∀ k, k ≤ n → RAll C k) (w : World) (pb : Nat) (st : RSt) (k : Nat) (hk5 : k ≤ 5) (q R : Tr × RSt) (hP : RPar C w pb st) (hk : st.kd C.L ≠ 0) (hq : Ps.level C.L C.orc n (k + 1) st = some q) (hR0 : Ps.levelLoop C.L C.orc n k q.1 q.2 = some R) (hk1 : 1 ≤ k) :
    Calls Try.prog 53 #[.pointer (some ⟨pb, 0, none⟩), .int .i64 (k : Int)] w (RLv C pb w R.1 R.2) := by
  have h1 := rnext_len C st
  have hpw := hP.lt
  have HR := Aside0.mk ((RRun.start0 hP).box w.heap.size #[.int .u8 0, .int .u8 0, .int .i64 0, .slice none 0 0] 25 rfl)
  have hL := C.hL
  have HK := Aside0.mk hk
  have hcast : ((k + 1 : Nat) : Int) = (k : Int) + 1 := by omega
  have HLV := Aside0.mk (fun w h => hcast ▸ (ih n (Nat.le_refl n)).level w pb st (k + 1) q (by omega) h hk hq)
  have HIH : Aside0 (∀ (k1 : Nat) (w : World) (st : RSt) (q : Tr × RSt), k1 ≤ n → RPar C w pb st → st.kd C.L ≠ 0 → Ps.level C.L C.orc k1 (k + 1) st = some q → Calls Try.prog 53 #[.pointer (some ⟨pb, 0, none⟩), .int .i64 ((k : Int) + 1)] w (RLv C pb w q.1 q.2)) := ⟨fun k1 w st q h1 h2 h3 h4 => hcast ▸ (ih k1 h1).level w pb st (k + 1) q (by omega) h2 h3 h4⟩
  have HLP := Aside0.mk hR0
  have d6 : ((k : Int) == 6) = false := by simp; omega
  have hk0 : (1 : Int) ≤ (k : Int) := by omega
  have HWR : Aside0 (IntKind.i64.wrap ((k : Int) + 1) = (k : Int) + 1) := ⟨by rw [i64_w]; unfold wrap64; omega⟩
  have hk9 : (k : Int) ≤ 5 := by omega
  have HIN := Aside0.mk ih
  clear hP hq hR0 hk hcast ih
  go_enter Try.func53, Try.ntmps53
  go_wp2_with fail
  (try clear r0 r1 r2 r3 rf)
  go_at_call 53
  refine (HLV.out _ HR.out.par).mono ?_
  rintro e w1 ⟨cs1, rfl, hN, hP, hF⟩
  obtain ⟨A1, n1, c1, rfl, _⟩ := hN.four
  have HN := Aside0.mk (HR.out.kid hN)
  have HN0 := Aside0.mk hN
  have hR := HR.out.part hF hP
  clear hN hF hP; clear HR; have HR := Aside0.mk hR; clear hR; obtain ⟨r0, r1, r2, r3, rf⟩ := HR.out.box0
  go_wp2_with fail
  have hbl1 := blk_lt HR.out.bx0
  have hbn1 := Nat.ne_of_lt hbl1
  have hbm1 := Nat.ne_of_gt hbl1
  have HH := Aside0.mk ((hold_of HN.out).box w1.heap.size #[.int .u8 q.1.kind, .int .u8 q.1.want, .int .i64 q.1.width, .slice A1 n1 c1] 25 rfl)
  have hR := HR.out.box w1.heap.size #[.int .u8 q.1.kind, .int .u8 q.1.want, .int .i64 q.1.width, .slice A1 n1 c1] 25 rfl; clear HR; have HR := Aside0.mk hR; clear hR
  clear HN HN0
  have HQ := HLV
  have HKD := HLV
  go_loopg [] n (fun kq wr => ∃ (T : Tr) (stc : RSt) (x0 x1 x2 : Int) (A : Option Addr) (n' c : Nat), Aside0 (RR0 C [(w1.heap.size, #[.int .u8 x0, .int .u8 x1, .int .i64 x2, .slice A n' c], 25), (w.heap.size, #[.int .u8 0, .int .u8 0, .int .i64 0, .slice none 0 0], 25)] pb w stc wr) ∧ Aside0 (Hold C [(w1.heap.size, #[.int .u8 x0, .int .u8 x1, .int .i64 x2, .slice A n' c], 25), (w.heap.size, #[.int .u8 0, .int .u8 0, .int .i64 0, .slice none 0 0], 25)] w wr T [.int .u8 x0, .int .u8 x1, .int .i64 x2, .slice A n' c]) ∧ Aside0 (Ps.levelLoop C.L C.orc kq k T stc = some R) ∧ Aside0 (kq ≤ n))
  case atStart => exact ⟨_, _, _, _, _, _, _, _, HR, HH, HLP, ⟨Nat.le_refl _⟩⟩
  case round =>
    clear HR HH HLP HKD HK HQ
    (try clear y0 y1 y2 y3 yf)
    (try clear r0 r1 r2 r3 rf)
    obtain ⟨T, stc, x0, x1, x2, A, n', c, HR, HH, HA, HKn⟩ := hrel
    have hA := HA.out
    cases gk with
    | zero => rw [Ps.levelLoop] at hA; cases hA
    | succ k1 =>
      rw [Ps.levelLoop] at hA
      have HKD := Aside0.mk (fun w h => rkind_any C w pb stc h)
      have hle := HR.out.par.le
      have hgl := rgap_len C stc
      have hnx := rnext_len C stc
      have HLL := Aside0.mk (fun w => rlvl_any (stc.kd C.L) w)
      by_cases hl : lvl (stc.kd C.L) = (k : Int)
      · rw [if_pos hl] at hA
        obtain ⟨o, hx, hA⟩ := Option.bind_eq_some_iff.mp hA
        have hkn : stc.kd C.L ≠ 0 := fun e => by rw [e, lvl_zero] at hl; omega
        have hle1 := (next_ok hkn).2
        rw [hl] at HLL
        have HKN := Aside0.mk hkn
        have HA2 := Aside0.mk hA
        have HKD2 := Aside0.mk (fun w h => rkind_any C w pb (nextL C.L stc).2 h)
        have hgl2 := rgap_len C (nextL C.L stc).2
        unfold operandL at hx
        generalize stc.kd C.L = kd at HKD HLL
        clear hA hl HA hkn
        cases hb : begins ((nextL C.L stc).2.kd C.L) with
        | false =>
          rw [hb] at hx
          obtain rfl := Option.some.inj hx
          have HE := Aside0.mk (fun w => hb ▸ rexpr_any ((nextL C.L stc).2.kd C.L) w)
          generalize (nextL C.L stc).2.kd C.L = kd2 at HKD2 HE
          clear hx hb
          go_wp2_with fail
          (try clear r0 r1 r2 r3 rf)
          (try clear y0 y1 y2 y3 yf)
          go_at_call 15; refine (HKD.out _ HR.out.par).mono ?_; rintro e w21 ⟨rfl, hb⟩; have hR := HR.out.below hb; have hH := HH.out.below hb; clear HH; have HH := Aside0.mk hH; clear hH; clear hb; clear HR; have HR := Aside0.mk hR; clear hR; obtain ⟨y0, y1, y2, y3, yf⟩ := HR.out.box0; obtain ⟨r0, r1, r2, r3, rf⟩ := HR.out.box1
          go_wp2_with fail
          go_at_call 66; refine (HLL.out _).mono ?_; rintro e w22 ⟨rfl, hw⟩; obtain rfl := hw.symm
          go_wp2_with fail
          (try clear r0 r1 r2 r3 rf)
          (try clear y0 y1 y2 y3 yf)
          go_at_call 27; refine (HR.out.addN0 61 T [.int .u8 x0, .int .u8 x1, .int .i64 x2, .slice A n' c] HH.out.kid).mono ?_; rintro e w23 ⟨v23, rfl, hR⟩; obtain ⟨A23, n23, c23, rfl⟩ := hR.sl; clear HR; have HR := Aside0.mk hR; clear hR; generalize hs23 : wsum ([T]) 0 = s23; have HS := Aside0.mk hs23; clear hs23; obtain ⟨y0, y1, y2, y3, yf⟩ := HR.out.box0; obtain ⟨r0, r1, r2, r3, rf⟩ := HR.out.box1
          clear HH
          go_wp2_with fail
          (try clear r0 r1 r2 r3 rf)
          (try clear y0 y1 y2 y3 yf)
          go_at_call 29; refine (HR.out.take 61 _ HS.out (by (try simp only [List.length_append, List.length_nil, List.length_singleton, List.length_cons]); omega) HKN.out).mono ?_; rintro e w24 ⟨v24, rfl, hR⟩; obtain ⟨A24, n24, c24, rfl⟩ := hR.sl; clear HR; have HR := Aside0.mk hR; clear hR; generalize hs24 : wsum ([T] ++ (nextL C.L stc).1) 0 = s24; have HS := Aside0.mk hs24; clear hs24; obtain ⟨y0, y1, y2, y3, yf⟩ := HR.out.box0; obtain ⟨r0, r1, r2, r3, rf⟩ := HR.out.box1
          have hlt0 := blk_lt HR.out.bx1
          have hln0 := Nat.ne_of_lt hlt0
          have hlm0 := Nat.ne_of_gt hlt0
          have hbl24 := blk_lt HR.out.bx0
          have hbn24 := Nat.ne_of_lt hbl24
          have hbm24 := Nat.ne_of_gt hbl24
          go_wp2_with fail
          have hR := HR.out.box w24.heap.size #[.int .u8 61, .int .u8 0, .int .i64 s24, .slice A24 n24 c24] 25 rfl; clear HR; have HR := Aside0.mk hR; clear hR
          (try clear r0 r1 r2 r3 rf)
          (try clear y0 y1 y2 y3 yf)
          (try clear z0 z1 z2 z3 zf)
          go_at_call 15; refine (HKD2.out _ HR.out.par).mono ?_; rintro e w25 ⟨rfl, hb⟩; have hR := HR.out.below hb; clear hb; clear HR; have HR := Aside0.mk hR; clear hR; obtain ⟨y0, y1, y2, y3, yf⟩ := HR.out.box0; obtain ⟨z0, z1, z2, z3, zf⟩ := HR.out.box1; obtain ⟨r0, r1, r2, r3, rf⟩ := HR.out.box2
          go_wp2_with fail
          go_at_call 39; refine (HE.out _).mono ?_; rintro e w26 ⟨rfl, hw⟩; obtain rfl := hw.symm
          go_wp2_with fail
          (try clear r0 r1 r2 r3 rf)
          (try clear y0 y1 y2 y3 yf)
          (try clear z0 z1 z2 z3 zf)
          go_at_call 52; refine (HR.out.miss 61 _ 60 HS.out (by (try simp only [List.length_append, List.length_nil, List.length_singleton, List.length_cons]); omega)).mono ?_; rintro e w27 ⟨v27, rfl, hR⟩; obtain ⟨A27, n27, c27, rfl⟩ := hR.sl; clear HR; have HR := Aside0.mk hR; clear hR; generalize hs27 : wsum ([T] ++ (nextL C.L stc).1 ++ [Ps.missing 60]) 0 = s27; have HS := Aside0.mk hs27; clear hs27; obtain ⟨y0, y1, y2, y3, yf⟩ := HR.out.box0; obtain ⟨z0, z1, z2, z3, zf⟩ := HR.out.box1; obtain ⟨r0, r1, r2, r3, rf⟩ := HR.out.box2
          go_wp2_with fail
          have hf := ((HR.out.st0 (.int .u8 61) (.int .u8 0) (.int .i64 s27) (.slice A27 n27 c27)).st1 (.int .u8 61) (.int .u8 0) (.int .i64 s27) (.slice A27 n27 c27)).fin (by (try simp only [List.length_append, List.length_nil, List.length_singleton, List.length_cons]); omega) 61 HS.out
          go_roundg k1
          case measure => omega
          case rel => exact ⟨_, _, _, _, _, _, _, _, ⟨hf.1.drop0⟩, ⟨hf.2.drop0⟩, HA2, ⟨by have := HKn.out; omega⟩⟩
        | true =>
          rw [if_pos hb] at hx
          obtain ⟨p, hq, rfl⟩ := Option.map_eq_some_iff.mp hx
          have hkn2 : ((nextL C.L stc).2.to C.L).kd C.L ≠ 0 := by rw [to_kd hle1]; exact of_begins hb
          have HKN2 := Aside0.mk hkn2
          have HX := Aside0.mk hq
          have HE := Aside0.mk (fun w => hb ▸ rexpr_any ((nextL C.L stc).2.kd C.L) w)
          generalize (nextL C.L stc).2.kd C.L = kd2 at HKD2 HE
          clear hx hb hkn2 hq
          go_wp2_with fail
          (try clear r0 r1 r2 r3 rf)
          (try clear y0 y1 y2 y3 yf)
          go_at_call 15; refine (HKD.out _ HR.out.par).mono ?_; rintro e w41 ⟨rfl, hb⟩; have hR := HR.out.below hb; have hH := HH.out.below hb; clear HH; have HH := Aside0.mk hH; clear hH; clear hb; clear HR; have HR := Aside0.mk hR; clear hR; obtain ⟨y0, y1, y2, y3, yf⟩ := HR.out.box0; obtain ⟨r0, r1, r2, r3, rf⟩ := HR.out.box1
          go_wp2_with fail
          go_at_call 66; refine (HLL.out _).mono ?_; rintro e w42 ⟨rfl, hw⟩; obtain rfl := hw.symm
          go_wp2_with fail
          (try clear r0 r1 r2 r3 rf)
          (try clear y0 y1 y2 y3 yf)
          go_at_call 27; refine (HR.out.addN0 61 T [.int .u8 x0, .int .u8 x1, .int .i64 x2, .slice A n' c] HH.out.kid).mono ?_; rintro e w43 ⟨v43, rfl, hR⟩; obtain ⟨A43, n43, c43, rfl⟩ := hR.sl; clear HR; have HR := Aside0.mk hR; clear hR; generalize hs43 : wsum ([T]) 0 = s43; have HS := Aside0.mk hs43; clear hs43; obtain ⟨y0, y1, y2, y3, yf⟩ := HR.out.box0; obtain ⟨r0, r1, r2, r3, rf⟩ := HR.out.box1
          clear HH
          go_wp2_with fail
          (try clear r0 r1 r2 r3 rf)
          (try clear y0 y1 y2 y3 yf)
          go_at_call 29; refine (HR.out.take 61 _ HS.out (by (try simp only [List.length_append, List.length_nil, List.length_singleton, List.length_cons]); omega) HKN.out).mono ?_; rintro e w44 ⟨v44, rfl, hR⟩; obtain ⟨A44, n44, c44, rfl⟩ := hR.sl; clear HR; have HR := Aside0.mk hR; clear hR; generalize hs44 : wsum ([T] ++ (nextL C.L stc).1) 0 = s44; have HS := Aside0.mk hs44; clear hs44; obtain ⟨y0, y1, y2, y3, yf⟩ := HR.out.box0; obtain ⟨r0, r1, r2, r3, rf⟩ := HR.out.box1
          have hlt0 := blk_lt HR.out.bx1
          have hln0 := Nat.ne_of_lt hlt0
          have hlm0 := Nat.ne_of_gt hlt0
          have hbl44 := blk_lt HR.out.bx0
          have hbn44 := Nat.ne_of_lt hbl44
          have hbm44 := Nat.ne_of_gt hbl44
          go_wp2_with fail
          have hR := HR.out.box w44.heap.size #[.int .u8 61, .int .u8 0, .int .i64 s44, .slice A44 n44 c44] 25 rfl; clear HR; have HR := Aside0.mk hR; clear hR
          (try clear r0 r1 r2 r3 rf)
          (try clear y0 y1 y2 y3 yf)
          (try clear z0 z1 z2 z3 zf)
          go_at_call 15; refine (HKD2.out _ HR.out.par).mono ?_; rintro e w45 ⟨rfl, hb⟩; have hR := HR.out.below hb; clear hb; clear HR; have HR := Aside0.mk hR; clear hR; obtain ⟨y0, y1, y2, y3, yf⟩ := HR.out.box0; obtain ⟨z0, z1, z2, z3, zf⟩ := HR.out.box1; obtain ⟨r0, r1, r2, r3, rf⟩ := HR.out.box2
          go_wp2_with fail
          go_at_call 39; refine (HE.out _).mono ?_; rintro e w46 ⟨rfl, hw⟩; obtain rfl := hw.symm
          go_wp2_with fail
          (try clear r0 r1 r2 r3 rf)
          (try clear y0 y1 y2 y3 yf)
          (try clear z0 z1 z2 z3 zf)
          go_at_call 17; refine (HR.out.gap 61 _ HS.out (by (try simp only [List.length_append, List.length_nil, List.length_singleton, List.length_cons]); omega)).mono ?_; rintro e w47 ⟨v47, rfl, hR⟩; obtain ⟨A47, n47, c47, rfl⟩ := hR.sl; clear HR; have HR := Aside0.mk hR; clear hR; generalize hs47 : wsum ([T] ++ (nextL C.L stc).1 ++ gapL C.L (nextL C.L stc).2) 0 = s47; have HS := Aside0.mk hs47; clear hs47; obtain ⟨y0, y1, y2, y3, yf⟩ := HR.out.box0; obtain ⟨z0, z1, z2, z3, zf⟩ := HR.out.box1; obtain ⟨r0, r1, r2, r3, rf⟩ := HR.out.box2
          go_wp2_with fail
          have hR := HR.out.st0 (.int .u8 61) (.int .u8 0) (.int .i64 s47) (.slice A47 n47 c47); clear HR; have HR := Aside0.mk hR; clear hR
          (try clear r0 r1 r2 r3 rf)
          (try clear y0 y1 y2 y3 yf)
          (try clear z0 z1 z2 z3 zf)
          generalize ((((w47.setCell ⟨w44.heap.size, 0, none⟩ (.int .u8 61)).setCell ⟨w44.heap.size, 1, none⟩ (.int .u8 0)).setCell ⟨w44.heap.size, 2, none⟩ (.int .i64 s47)).setCell ⟨w44.heap.size, 3, none⟩ (.slice A47 n47 c47)) = w48 at *
          have hR := HR.out.below (Below.refl _ _).drew
          obtain ⟨y0, y1, y2, y3, yf⟩ := HR.out.box0; clear HR; have HR := Aside0.mk hR; clear hR
          go_region_with (first | (go_at_call 53; rw [HWR.out]; refine (HIH.out k1 _ ((nextL C.L stc).2.to C.L) p (by have := HKn.out; omega) HR.out.par HKN2.out HX.out).mono ?_; rintro e w49 ⟨cs49, rfl, hN, hP, hF⟩; obtain ⟨A49, n49, c49, rfl, _⟩ := hN.four; have HNb := Aside0.mk (HR.out.kid hN); have hR := HR.out.part hF hP; clear hN hP hF; clear HR; have HR := Aside0.mk hR; clear hR; clear y0 y1 y2 y3 yf; obtain ⟨y0, y1, y2, y3, yf⟩ := HR.out.box0; obtain ⟨z0, z1, z2, z3, zf⟩ := HR.out.box1; obtain ⟨r0, r1, r2, r3, rf⟩ := HR.out.box2) | (go_at_call 27; refine (HR.out.addN 61 _ p.1 _ HS.out HNb.out (by (try simp only [List.length_append, List.length_nil, List.length_singleton, List.length_cons]); omega)).mono ?_; clear HNb; rintro e w50 ⟨v50, rfl, hR⟩; obtain ⟨A50, n50, c50, rfl⟩ := hR.sl; clear HR; have HR := Aside0.mk hR; clear hR; generalize hs : wsum ([T] ++ (nextL C.L stc).1 ++ gapL C.L (nextL C.L stc).2 ++ [p.1]) 0 = s50; have HS := Aside0.mk hs; clear hs; clear y0 y1 y2 y3 yf; (try clear r0 r1 r2 r3 rf); obtain ⟨y0, y1, y2, y3, yf⟩ := HR.out.box0; obtain ⟨z0, z1, z2, z3, zf⟩ := HR.out.box1; obtain ⟨r0, r1, r2, r3, rf⟩ := HR.out.box2))
          all_goals
            go_wp2_with fail
            have hKK : [T] ++ (nextL C.L stc).1 ++ gapL C.L (nextL C.L stc).2 ++ [p.1] = [T] ++ (nextL C.L stc).1 ++ (gapL C.L (nextL C.L stc).2 ++ [p.1]) := by simp only [List.append_assoc]
            have HA3 : Aside0 (Ps.levelLoop C.L C.orc k1 k (Ps.node 61 ([T] ++ (nextL C.L stc).1 ++ gapL C.L (nextL C.L stc).2 ++ [p.1])) p.2 = some R) := ⟨by rw [hKK]; exact HA2.out⟩
            have hf := ((HR.out.st0 (.int .u8 61) (.int .u8 0) (.int .i64 s50) (.slice A50 n50 c50)).st1 (.int .u8 61) (.int .u8 0) (.int .i64 s50) (.slice A50 n50 c50)).fin (by (try simp only [List.length_append, List.length_nil, List.length_singleton, List.length_cons]); omega) 61 HS.out
            go_roundg k1
            case measure => omega
            case rel => exact ⟨_, _, _, _, _, _, _, _, ⟨hf.1.drop0⟩, ⟨hf.2.drop0⟩, HA3, ⟨by have := HKn.out; omega⟩⟩
      · rw [if_neg hl] at hA
        obtain rfl := Option.some.inj hA
        have bl : (lvl (stc.kd C.L) == (k : Int)) = false := nb hl
        generalize stc.kd C.L = kd at HKD HLL bl
        generalize lvl kd = lv at HLL bl
        clear hA hl HA
        go_wp2_with fail
        (try clear r0 r1 r2 r3 rf)
        (try clear y0 y1 y2 y3 yf)
        go_at_call 15; refine (HKD.out _ HR.out.par).mono ?_; rintro e w61 ⟨rfl, hb⟩; have hR := HR.out.below hb; have hH := HH.out.below hb; clear HH; have HH := Aside0.mk hH; clear hH; clear hb; clear HR; have HR := Aside0.mk hR; clear hR; obtain ⟨y0, y1, y2, y3, yf⟩ := HR.out.box0; obtain ⟨r0, r1, r2, r3, rf⟩ := HR.out.box1
        go_wp2_with fail
        go_at_call 66; refine (HLL.out _).mono ?_; rintro e w62 ⟨rfl, hw⟩; obtain rfl := hw.symm
        go_wp2
        have hR := HR.out.st1 (.int .u8 x0) (.int .u8 x1) (.int .i64 x2) (.slice A n' c)
        refine bodyPost_ret (results_cell_row rfl _ _ w.heap.size 25 _ (0, 0) _ rfl hR.bx1 Try.underlying25 rfl (by kernel_rfl)) rfl ((HH.out.st1 (.int .u8 x0) (.int .u8 x1) (.int .i64 x2) (.slice A n' c)).ret hR)
theorem rlevel_succ (C : RC) {n : Nat} (ih : ∀ k, k ≤ n → RAll C k) (w : World) (pb : Nat) (st : RSt) (k : Nat) (r : Tr × RSt) (hk : 1 ≤ k ∧ k ≤ 6) (hP : RPar C w pb st) (hkd : st.kd C.L ≠ 0) (hr : Ps.level C.L C.orc (n + 1) k st = some r) :
    Calls Try.prog 53 #[.pointer (some ⟨pb, 0, none⟩), .int .i64 (k : Int)] w (RLv C pb w r.1 r.2) := by
  rw [Ps.level] at hr
  by_cases h5 : 5 < k
  · rw [if_pos h5] at hr
    exact rlevel_top C (ih n (Nat.le_refl _)) w pb st k (by omega) r hP hkd hr
  · rw [if_neg h5] at hr
    obtain ⟨q, hq, hr⟩ := Option.bind_eq_some_iff.mp hr
    exact rlevel_low C ih w pb st k (by omega) q r hP hkd hq hr hk.1
end Go.Proofs.Ytalnicdpcigocaa.PR
namespace Go.Proofs.Ytalnicdpcigocaa.PR
open Go.RowKit Ps PM PL PP GR Go.Proofs.YtalnicdpcigocaaW.PrintWords Go.Proofs.YtalnicdpcigocaaW.PrintLast Go.Proofs.YtalnicdpcigocaaW.PrintMore
set_option linter.unusedVariables false
set_option linter.unusedSimpArgs false
theorem RRun.endx {C : RC} {bs : List Bx} {pb : Nat} {w : World} {kids : List Tr} {st : RSt} {w1 : World} {v1 : Value} (h : RRun C (fun _ => False) bs pb w (.slice none 0 0) kids st w1 v1) (hlen : kids.length ≤ 1000000) (kind : Int) {wd : Int} (hwd : wsum kids 0 = wd) :
    NodeC (fun b => C.S0 b ∨ w.heap.size ≤ b) w1 (Ps.node kind kids) [.int .u8 kind, .int .u8 0, .int .i64 wd, v1] ∧ FrX (fun b => b = pb) w w1 := by
  subst hwd
  exact ⟨(h.nd.tree hlen kind).move (fun b hb _ => ⟨hb.1.elim (fun e => e.elim) id, rfl⟩), h.fr.mono (fun b _ hx => by rcases hx with hx | hx; exact hx; cases hx)⟩
theorem rwrong_len (C : RC) {m : Nat} {st : RSt} {R : List Tr × RSt} (hk : st.kd C.L ≠ 0) (hr : Ps.wrongLoop C.L m [] st = some R) : R.1.length ≤ 100000 := by
  have h := (wrong_goes (L := C.L) m [] st R hk hr).2
  have h1 := h.2.2
  have h2 := h.2.1
  have h3 := C.hL
  simp only [List.length_nil] at h1
  omega
set_option maxHeartbeats 600000 in
set_option maxRecDepth 100000 in
theorem rinner_succ (C : RC) {n : Nat} (ih : ∀ k, k ≤ n → RAll C k) (Z : Nat → Prop) (w : World) (pb : Nat) (kind wd : Int) (kids : List Tr) (v : Value) (st : RSt) (r : List Tr × RSt) (hwd : wsum kids 0 = wd) (hZ : ¬ Z pb) (hD : ND C Z w kids v) (hP : RPar C w pb st) (hlen : kids.length ≤ 200000) (hk0 : st.kd C.L ≠ 0) (hr : Ps.inner C.L C.orc (n + 1) st = some r) :
    Calls Try.prog 16 #[.pointer (some ⟨pb, 0, none⟩), .agg #[.int .u8 kind, .int .u8 0, .int .i64 wd, v]] w (RPost C Z pb w v kind (kids ++ r.1) r.2) := by
  obtain ⟨A0, c0, rfl⟩ : ∃ A c, v = .slice A kids.length c := PP.own_slice hD.row.choose_spec.1
  generalize hkl : kids.length = kl at *
  have HR := Aside0.mk (((RRun.start hD hP hZ).box w.heap.size #[.int .u8 kind, .int .u8 0, .int .i64 wd, .slice A0 kl c0] 25 rfl).box (w.heap.size + 1) #[.int .u8 0, .int .u8 0, .int .i64 0, .slice none 0 0] 25 (by simp only [World.size_alloc]))
  have HS := Aside0.mk hwd
  have hgl := rgap_len C st
  have hle := hP.le
  have hnn := nx_nx C.L st.at_ hP.le
  have hpw := hP.lt
  clear hD hP hwd
  rw [Ps.inner] at hr
  have hkt : (st.to C.L).kd C.L = st.kd C.L := to_kd hle
  have HKD : Aside0 (∀ (w : World), RPar C w pb (st.to C.L) → Calls Try.prog 15 #[.pointer (some ⟨pb, 0, none⟩)] w fun e w' => e = .returned (.int .u8 (st.kd C.L)) ∧ Below w.heap.size w w') := ⟨fun w h => hkt ▸ rkind_any C w pb (st.to C.L) h⟩
  have HST := Aside0.mk (fun w => rstat_any (st.kd C.L) w)
  have HNX : Aside0 (nx C.L (st.to C.L).at_ = (st.to C.L).at_) := ⟨hnn⟩
  by_cases hs : stat (st.kd C.L) ≠ 0
  · rw [if_pos hs, putL_hit] at hr
    have c0 : (stat (st.kd C.L) != 0) = true := bne_iff_ne.mpr hs
    have HSK : Aside0 (stat ((st.to C.L).kd C.L) ≠ 0) := ⟨by rw [hkt]; exact hs⟩
    generalize st.kd C.L = kd at HKD HST c0
    generalize stat kd = sk at HST c0
    clear hs hkt hk0
    cases hh : hit C.T C.L.length 59 (nx C.L st.at_) with
    | some x =>
      obtain ⟨t, c⟩ := x
      rw [hh] at hr
      obtain rfl := Option.some.inj hr
      have HH := Aside0.mk hh
      clear hr hh
      go_enter Try.func16, Try.ntmps16
      go_wp2_with fail
      (try clear r0 r1 r2 r3 rf)
      (try clear y0 y1 y2 y3 yf)
      go_at_call 17; refine (HR.out.gap kind wd HS.out (by (try simp only [List.length_append, List.length_nil, List.length_singleton, List.length_cons]); omega)).mono ?_; rintro e w1 ⟨v1, rfl, hR⟩; obtain ⟨A1, n1, c1, rfl⟩ := hR.sl; clear HR; have HR := Aside0.mk hR; clear hR; generalize hs1 : wsum (kids ++ gapL C.L st) 0 = s1; have HS := Aside0.mk hs1; clear hs1; obtain ⟨r0, r1, r2, r3, rf⟩ := HR.out.box0; obtain ⟨y0, y1, y2, y3, yf⟩ := HR.out.box1
      go_wp2_with fail
      have hR := HR.out.st1 (.int .u8 kind) (.int .u8 0) (.int .i64 s1) (.slice A1 n1 c1); clear HR; have HR := Aside0.mk hR; clear hR
      (try clear r0 r1 r2 r3 rf)
      (try clear y0 y1 y2 y3 yf)
      go_at_call 15; refine (HKD.out _ HR.out.par).mono ?_; rintro e w2 ⟨rfl, hb⟩; have hR := HR.out.below hb; clear hb; clear HR; have HR := Aside0.mk hR; clear hR; obtain ⟨r0, r1, r2, r3, rf⟩ := HR.out.box0; obtain ⟨y0, y1, y2, y3, yf⟩ := HR.out.box1
      go_wp2_with fail
      go_at_call 25; refine (HST.out _).mono ?_; rintro e w3 ⟨rfl, hw⟩; obtain rfl := hw.symm
      go_wp2_with fail
      (try clear r0 r1 r2 r3 rf)
      (try clear y0 y1 y2 y3 yf)
      go_at_call 26
      refine (HR.out.tkYes kind _ 59 HS.out (by (try simp only [List.length_append, List.length_nil, List.length_singleton, List.length_cons]); omega) HNX.out HH.out).mono ?_
      rintro e w4 ⟨v4, rfl, hR⟩
      obtain ⟨A4, n4, c4, rfl⟩ := hR.sl; clear HR; have HR := Aside0.mk hR; clear hR; generalize hs4 : wsum (kids ++ gapL C.L st ++ [t]) 0 = s4; have HS := Aside0.mk hs4; clear hs4; obtain ⟨r0, r1, r2, r3, rf⟩ := HR.out.box0; obtain ⟨y0, y1, y2, y3, yf⟩ := HR.out.box1
      have hlt0 := blk_lt HR.out.bx0
      have hlt1 := blk_lt HR.out.bx1
      go_wp2
      have hR := (HR.out.st0 (.int .u8 kind) (.int .u8 0) (.int .i64 s4) (.slice A4 n4 c4)).box w4.heap.size #[.int .u8 kind, .int .u8 0, .int .i64 s4, .slice A4 n4 c4] 25 (by simp only [World.size_setCell])
      refine bodyPost_ret (results_cell_row rfl _ _ (w.heap.size + 1) 25 _ (0, 0) _ rfl hR.bx1 Try.underlying25 rfl (by kernel_rfl)) rfl ((hR.postw kind HS.out).kids (List.append_assoc _ _ _))
    | none =>
      rw [hh] at hr
      obtain ⟨q, hq, rfl⟩ := Option.map_eq_some_iff.mp hr
      have HH := Aside0.mk hh
      have HQ := Aside0.mk hq
      clear hr hh hq
      go_enter Try.func16, Try.ntmps16
      go_wp2_with fail
      (try clear r0 r1 r2 r3 rf)
      (try clear y0 y1 y2 y3 yf)
      go_at_call 17; refine (HR.out.gap kind wd HS.out (by (try simp only [List.length_append, List.length_nil, List.length_singleton, List.length_cons]); omega)).mono ?_; rintro e w1 ⟨v1, rfl, hR⟩; obtain ⟨A1, n1, c1, rfl⟩ := hR.sl; clear HR; have HR := Aside0.mk hR; clear hR; generalize hs1 : wsum (kids ++ gapL C.L st) 0 = s1; have HS := Aside0.mk hs1; clear hs1; obtain ⟨r0, r1, r2, r3, rf⟩ := HR.out.box0; obtain ⟨y0, y1, y2, y3, yf⟩ := HR.out.box1
      go_wp2_with fail
      have hR := HR.out.st1 (.int .u8 kind) (.int .u8 0) (.int .i64 s1) (.slice A1 n1 c1); clear HR; have HR := Aside0.mk hR; clear hR
      (try clear r0 r1 r2 r3 rf)
      (try clear y0 y1 y2 y3 yf)
      go_at_call 15; refine (HKD.out _ HR.out.par).mono ?_; rintro e w2 ⟨rfl, hb⟩; have hR := HR.out.below hb; clear hb; clear HR; have HR := Aside0.mk hR; clear hR; obtain ⟨r0, r1, r2, r3, rf⟩ := HR.out.box0; obtain ⟨y0, y1, y2, y3, yf⟩ := HR.out.box1
      go_wp2_with fail
      go_at_call 25; refine (HST.out _).mono ?_; rintro e w3 ⟨rfl, hw⟩; obtain rfl := hw.symm
      go_wp2_with fail
      (try clear r0 r1 r2 r3 rf)
      (try clear y0 y1 y2 y3 yf)
      go_at_call 26
      refine (HR.out.tkNo kind _ 59 HS.out (by (try simp only [List.length_append, List.length_nil, List.length_singleton, List.length_cons]); omega) HNX.out HH.out).mono ?_
      rintro e w4 ⟨rfl, hR⟩; clear HR; have HR := Aside0.mk hR; clear hR; obtain ⟨r0, r1, r2, r3, rf⟩ := HR.out.box0; obtain ⟨y0, y1, y2, y3, yf⟩ := HR.out.box1
      go_wp2_with fail
      have hR := HR.out.box w4.heap.size #[.int .u8 kind, .int .u8 0, .int .i64 s1, .slice A1 n1 c1] 25 rfl; clear HR; have HR := Aside0.mk hR; clear hR
      (try clear r0 r1 r2 r3 rf)
      (try clear y0 y1 y2 y3 yf)
      generalize (w4.alloc (.cells #[.int .u8 kind, .int .u8 0, .int .i64 s1, .slice A1 n1 c1] 25)) = w5 at *
      have hR := HR.out.below (Below.refl _ _).drew
      obtain ⟨y0, y1, y2, y3, yf⟩ := HR.out.box2; clear HR; have HR := Aside0.mk hR; clear hR
      go_region_held3 (fun w' => w'.cell? ⟨w.heap.size, 0, none⟩ = some (.int .u8 kind) ∧ w'.cell? ⟨w.heap.size, 1, none⟩ = some (.int .u8 0) ∧ w'.cell? ⟨w.heap.size, 2, none⟩ = some (.int .i64 s1) ∧ w'.cell? ⟨w.heap.size, 3, none⟩ = some (.slice A1 n1 c1)) (first | go_keep | exact ⟨y0, y1, y2, y3⟩) ((first | (go_at_call 28; refine ((ih n (Nat.le_refl n)).statement _ pb (st.to C.L) q HR.out.par HSK.out HNX.out HQ.out).mono ?_; rintro e w6 ⟨cs6, rfl, hN, hP, hF⟩; obtain ⟨A6, n6, c6, rfl, _⟩ := hN.four; have HNb := Aside0.mk (HR.out.kid hN); have hR := HR.out.part hF hP; clear hN hP hF; clear HR; have HR := Aside0.mk hR; clear hR; clear y0 y1 y2 y3 yf; obtain ⟨r0, r1, r2, r3, rf⟩ := HR.out.box1; obtain ⟨y0, y1, y2, y3, yf⟩ := HR.out.box2) | (go_at_call 27; refine (HR.out.addN kind _ q.1 _ HS.out HNb.out (by (try simp only [List.length_append, List.length_nil, List.length_singleton, List.length_cons]); omega)).mono ?_; clear HNb; rintro e w7 ⟨v7, rfl, hR⟩; obtain ⟨A7, n7, c7, rfl⟩ := hR.sl; clear HR; have HR := Aside0.mk hR; clear hR; generalize hs : wsum (kids ++ gapL C.L st ++ [q.1]) 0 = s7; have HS := Aside0.mk hs; clear hs; clear y0 y1 y2 y3 yf; (try clear r0 r1 r2 r3 rf); obtain ⟨r0, r1, r2, r3, rf⟩ := HR.out.box1; obtain ⟨y0, y1, y2, y3, yf⟩ := HR.out.box2)))
      go_wp2
      have hR := (HR.out).st1 (.int .u8 kind) (.int .u8 0) (.int .i64 s7) (.slice A7 n7 c7)
      refine bodyPost_ret (results_cell_row rfl _ _ (w.heap.size + 1) 25 _ (0, 0) _ rfl hR.bx1 Try.underlying25 rfl (by kernel_rfl)) rfl ((hR.postw kind HS.out).kids (List.append_assoc _ _ _))
  · rw [if_neg hs] at hr
    have hs0 : stat (st.kd C.L) = 0 := Classical.not_not.mp hs
    obtain ⟨R, hw, rfl⟩ := Option.map_eq_some_iff.mp hr
    have hkt0 : (st.to C.L).kd C.L ≠ 0 := by rw [hkt]; exact hk0
    have HRL := Aside0.mk (rwrong_len C hkt0 hw)
    have HLP := Aside0.mk hw
    have HK := Aside0.mk hkt0
    have hL := C.hL
    rw [hs0] at HST
    generalize st.kd C.L = kd at HKD HST
    clear hs hs0 hkt hkt0 hk0 hw hr
    go_enter Try.func16, Try.ntmps16
    go_wp2_with fail
    (try clear r0 r1 r2 r3 rf)
    (try clear y0 y1 y2 y3 yf)
    go_at_call 17; refine (HR.out.gap kind wd HS.out (by (try simp only [List.length_append, List.length_nil, List.length_singleton, List.length_cons]); omega)).mono ?_; rintro e w1 ⟨v1, rfl, hR⟩; obtain ⟨A1, n1, c1, rfl⟩ := hR.sl; clear HR; have HR := Aside0.mk hR; clear hR; generalize hs1 : wsum (kids ++ gapL C.L st) 0 = s1; have HS := Aside0.mk hs1; clear hs1; obtain ⟨r0, r1, r2, r3, rf⟩ := HR.out.box0; obtain ⟨y0, y1, y2, y3, yf⟩ := HR.out.box1
    go_wp2_with fail
    have hR := HR.out.st1 (.int .u8 kind) (.int .u8 0) (.int .i64 s1) (.slice A1 n1 c1); clear HR; have HR := Aside0.mk hR; clear hR
    (try clear r0 r1 r2 r3 rf)
    (try clear y0 y1 y2 y3 yf)
    go_at_call 15; refine (HKD.out _ HR.out.par).mono ?_; rintro e w2 ⟨rfl, hb⟩; have hR := HR.out.below hb; clear hb; clear HR; have HR := Aside0.mk hR; clear hR; obtain ⟨r0, r1, r2, r3, rf⟩ := HR.out.box0; obtain ⟨y0, y1, y2, y3, yf⟩ := HR.out.box1
    go_wp2_with fail
    go_at_call 25; refine (HST.out _).mono ?_; rintro e w3 ⟨rfl, hw⟩; obtain rfl := hw.symm
    go_wp2_with fail
    have HRN := HR
    have HSN := HS
    clear HR HS
    have hR := (RRun.start0 HRN.out.par).box w2.heap.size #[.int .u8 68, .int .u8 0, .int .i64 0, .slice none 0 0] 25 rfl
    have HR := Aside0.mk hR
    clear hR
    have hnl0 := blk_lt HRN.out.bx0
    have hnl1 := blk_lt HRN.out.bx1
    have hnn0 := Nat.ne_of_lt hnl0
    have hnm0 := Nat.ne_of_gt hnl0
    have hnn1 := Nat.ne_of_lt hnl1
    have hnm1 := Nat.ne_of_gt hnl1
    go_loopg [] n (fun kq wr => ∃ (acc : List Tr) (stc : RSt) (v' : Value) (s' : Int), Aside0 (RRun C (fun _ => False) [(w2.heap.size, #[.int .u8 68, .int .u8 0, .int .i64 s', v'], 25)] pb w2 (.slice none 0 0) acc stc wr v') ∧ Aside0 (wsum acc 0 = s') ∧ Aside0 (Ps.wrongLoop C.L kq acc stc = some R) ∧ Aside0 (stc.kd C.L ≠ 0) ∧ Aside0 (acc.length + 2 * (C.L.length - stc.at_) ≤ 100000))
    case atStart => exact ⟨[], _, _, _, HR, ⟨rfl⟩, HLP, HK, ⟨by simp only [List.length_nil]; omega⟩⟩
    case round =>
      clear HR HLP HK
      (try clear y0 y1 y2 y3 yf)
      (try clear r0 r1 r2 r3 rf)
      obtain ⟨acc, stc, v', s', HR, HS, HA, HK, HBc⟩ := hrel
      obtain ⟨Aq, nq, cq, rfl⟩ := HR.out.sl
      obtain ⟨x0, x1, x2, x3, xf⟩ := HR.out.box0
      have hA := HA.out
      cases gk with
      | zero => rw [Ps.wrongLoop] at hA; cases hA
      | succ k1 =>
        rw [Ps.wrongLoop] at hA
        have hal := HBc.out
        have HKD1 := Aside0.mk (fun w h => rkind_any C w pb stc h)
        have HKD2 := Aside0.mk (fun w h => rkind_any C w pb (nextL C.L stc).2 h)
        have hng := next_goes HK.out
        have hnl := next_len (L := C.L) stc
        have h1 := rnext_len C stc
        have HST := Aside0.mk (fun w => rstat_any ((nextL C.L stc).2.kd C.L) w)
        have HLB : Aside0 ((acc ++ (nextL C.L stc).1).length + 2 * (C.L.length - (nextL C.L stc).2.at_) ≤ 100000) := ⟨by
          have a1 := hng.2.2.1
          rw [List.length_append]
          omega⟩
        clear hng hnl HA
        by_cases h1a : stc.kd C.L = 23
        · rw [if_pos (Or.inl h1a)] at hA
          obtain rfl := Option.some.inj hA
          rw [h1a] at HKD1
          clear hA h1a
          go_wp2_with fail
          (try clear x0 x1 x2 x3 xf)
          go_at_call 15; refine (HKD1.out _ HR.out.par).mono ?_; rintro e w21 ⟨rfl, hb⟩; have hR := HR.out.below hb; clear hb; clear HR; have HR := Aside0.mk hR; clear hR; obtain ⟨x0, x1, x2, x3, xf⟩ := HR.out.box0
          go_wp2_with fail
          (try clear x0 x1 x2 x3 xf)
          go_at_call 29; refine (HR.out.take 68 _ HS.out (by (try simp only [List.length_append, List.length_nil, List.length_singleton, List.length_cons]); omega) HK.out).mono ?_; rintro e w22 ⟨v22, rfl, hR⟩; obtain ⟨A22, n22, c22, rfl⟩ := hR.sl; clear HR; have HR := Aside0.mk hR; clear hR; generalize hs22 : wsum (acc ++ (nextL C.L stc).1) 0 = s22; have HS := Aside0.mk hs22; clear hs22; obtain ⟨x0, x1, x2, x3, xf⟩ := HR.out.box0
          go_wp2_with fail
          have hR := HR.out.st0 (.int .u8 68) (.int .u8 0) (.int .i64 s22) (.slice A22 n22 c22); clear HR; have HR := Aside0.mk hR; clear hR
          (try clear x0 x1 x2 x3 xf)
          go_at_call 15; refine (HKD2.out _ HR.out.par).mono ?_; rintro e w23 ⟨rfl, hb⟩; have hR := HR.out.below hb; clear hb; clear HR; have HR := Aside0.mk hR; clear hR; obtain ⟨x0, x1, x2, x3, xf⟩ := HR.out.box0
          have hE := HR.out.endx (by (try simp only [List.length_append, List.length_nil, List.length_singleton, List.length_cons]); omega) 68 HS.out
          have HNb := Aside0.mk (HRN.out.kid hE.1)
          have hR := HRN.out.part hE.2 HR.out.par
          clear hE HR
          have HR := Aside0.mk hR
          clear hR
          obtain ⟨y0, y1, y2, y3, yf⟩ := HR.out.box1
          obtain ⟨r0, r1, r2, r3, rf⟩ := HR.out.box0
          generalize hT : Ps.node 68 (acc ++ (nextL C.L stc).1) = T at *
          have HT := Aside0.mk hT
          clear hT
          go_wp2_with fail
          go_at_call 27
          refine (HR.out.addN kind _ T _ HSN.out HNb.out (by (try simp only [List.length_append, List.length_nil, List.length_singleton, List.length_cons]); omega)).mono ?_
          rintro e w24 ⟨v24, rfl, hR⟩
          obtain ⟨A24, n24, c24, rfl⟩ := hR.sl
          clear HR HS
          have HR := Aside0.mk hR
          clear hR; generalize hs24 : wsum (kids ++ gapL C.L st ++ [T]) 0 = s24; have HS := Aside0.mk hs24; clear hs24
          clear r0 r1 r2 r3 rf
          obtain ⟨r0, r1, r2, r3, rf⟩ := HR.out.box0
          go_wp2
          have hR := (HR.out).st0 (.int .u8 kind) (.int .u8 0) (.int .i64 s24) (.slice A24 n24 c24)
          refine bodyPost_ret (results_cell_row rfl _ _ (w.heap.size + 1) 25 _ (0, 0) _ rfl hR.bx0 Try.underlying25 rfl (by kernel_rfl)) rfl ((hR.postw kind HS.out).kids (List.append_assoc _ _ _))
        · have q1 := nb h1a
          by_cases h2a : stc.kd C.L = 25
          · rw [if_pos (Or.inr (Or.inl h2a))] at hA
            obtain rfl := Option.some.inj hA
            rw [h2a] at HKD1
            clear hA h1a h2a q1
            go_wp2_with fail
            (try clear x0 x1 x2 x3 xf)
            go_at_call 15; refine (HKD1.out _ HR.out.par).mono ?_; rintro e w31 ⟨rfl, hb⟩; have hR := HR.out.below hb; clear hb; clear HR; have HR := Aside0.mk hR; clear hR; obtain ⟨x0, x1, x2, x3, xf⟩ := HR.out.box0
            go_wp2_with fail
            (try clear x0 x1 x2 x3 xf)
            go_at_call 29; refine (HR.out.take 68 _ HS.out (by (try simp only [List.length_append, List.length_nil, List.length_singleton, List.length_cons]); omega) HK.out).mono ?_; rintro e w32 ⟨v32, rfl, hR⟩; obtain ⟨A32, n32, c32, rfl⟩ := hR.sl; clear HR; have HR := Aside0.mk hR; clear hR; generalize hs32 : wsum (acc ++ (nextL C.L stc).1) 0 = s32; have HS := Aside0.mk hs32; clear hs32; obtain ⟨x0, x1, x2, x3, xf⟩ := HR.out.box0
            go_wp2_with fail
            have hR := HR.out.st0 (.int .u8 68) (.int .u8 0) (.int .i64 s32) (.slice A32 n32 c32); clear HR; have HR := Aside0.mk hR; clear hR
            (try clear x0 x1 x2 x3 xf)
            go_at_call 15; refine (HKD2.out _ HR.out.par).mono ?_; rintro e w33 ⟨rfl, hb⟩; have hR := HR.out.below hb; clear hb; clear HR; have HR := Aside0.mk hR; clear hR; obtain ⟨x0, x1, x2, x3, xf⟩ := HR.out.box0
            have hE := HR.out.endx (by (try simp only [List.length_append, List.length_nil, List.length_singleton, List.length_cons]); omega) 68 HS.out
            have HNb := Aside0.mk (HRN.out.kid hE.1)
            have hR := HRN.out.part hE.2 HR.out.par
            clear hE HR
            have HR := Aside0.mk hR
            clear hR
            obtain ⟨y0, y1, y2, y3, yf⟩ := HR.out.box1
            obtain ⟨r0, r1, r2, r3, rf⟩ := HR.out.box0
            generalize hT : Ps.node 68 (acc ++ (nextL C.L stc).1) = T at *
            have HT := Aside0.mk hT
            clear hT
            go_wp2_with fail
            go_at_call 27
            refine (HR.out.addN kind _ T _ HSN.out HNb.out (by (try simp only [List.length_append, List.length_nil, List.length_singleton, List.length_cons]); omega)).mono ?_
            rintro e w34 ⟨v34, rfl, hR⟩
            obtain ⟨A34, n34, c34, rfl⟩ := hR.sl
            clear HR HS
            have HR := Aside0.mk hR
            clear hR; generalize hs34 : wsum (kids ++ gapL C.L st ++ [T]) 0 = s34; have HS := Aside0.mk hs34; clear hs34
            clear r0 r1 r2 r3 rf
            obtain ⟨r0, r1, r2, r3, rf⟩ := HR.out.box0
            go_wp2
            have hR := (HR.out).st0 (.int .u8 kind) (.int .u8 0) (.int .i64 s34) (.slice A34 n34 c34)
            refine bodyPost_ret (results_cell_row rfl _ _ (w.heap.size + 1) 25 _ (0, 0) _ rfl hR.bx0 Try.underlying25 rfl (by kernel_rfl)) rfl ((hR.postw kind HS.out).kids (List.append_assoc _ _ _))
          · have q2 := nb h2a
            generalize hk1 : stc.kd C.L = kd1 at HKD1 q1 q2 h1a h2a hA
            by_cases h3a : (nextL C.L stc).2.kd C.L = 0
            · rw [if_pos (Or.inr (Or.inr (Or.inl h3a)))] at hA
              obtain rfl := Option.some.inj hA
              rw [h3a] at HKD2
              clear hA h1a h2a h3a hk1
              go_wp2_with fail
              (try clear x0 x1 x2 x3 xf)
              go_at_call 15; refine (HKD1.out _ HR.out.par).mono ?_; rintro e w41 ⟨rfl, hb⟩; have hR := HR.out.below hb; clear hb; clear HR; have HR := Aside0.mk hR; clear hR; obtain ⟨x0, x1, x2, x3, xf⟩ := HR.out.box0
              go_wp2_with fail
              (try clear x0 x1 x2 x3 xf)
              go_at_call 29; refine (HR.out.take 68 _ HS.out (by (try simp only [List.length_append, List.length_nil, List.length_singleton, List.length_cons]); omega) HK.out).mono ?_; rintro e w42 ⟨v42, rfl, hR⟩; obtain ⟨A42, n42, c42, rfl⟩ := hR.sl; clear HR; have HR := Aside0.mk hR; clear hR; generalize hs42 : wsum (acc ++ (nextL C.L stc).1) 0 = s42; have HS := Aside0.mk hs42; clear hs42; obtain ⟨x0, x1, x2, x3, xf⟩ := HR.out.box0
              go_wp2_with fail
              have hR := HR.out.st0 (.int .u8 68) (.int .u8 0) (.int .i64 s42) (.slice A42 n42 c42); clear HR; have HR := Aside0.mk hR; clear hR
              (try clear x0 x1 x2 x3 xf)
              go_at_call 15; refine (HKD2.out _ HR.out.par).mono ?_; rintro e w43 ⟨rfl, hb⟩; have hR := HR.out.below hb; clear hb; clear HR; have HR := Aside0.mk hR; clear hR; obtain ⟨x0, x1, x2, x3, xf⟩ := HR.out.box0
              have hE := HR.out.endx (by (try simp only [List.length_append, List.length_nil, List.length_singleton, List.length_cons]); omega) 68 HS.out
              have HNb := Aside0.mk (HRN.out.kid hE.1)
              have hR := HRN.out.part hE.2 HR.out.par
              clear hE HR
              have HR := Aside0.mk hR
              clear hR
              obtain ⟨y0, y1, y2, y3, yf⟩ := HR.out.box1
              obtain ⟨r0, r1, r2, r3, rf⟩ := HR.out.box0
              generalize hT : Ps.node 68 (acc ++ (nextL C.L stc).1) = T at *
              have HT := Aside0.mk hT
              clear hT
              go_wp2_with fail
              go_at_call 27
              refine (HR.out.addN kind _ T _ HSN.out HNb.out (by (try simp only [List.length_append, List.length_nil, List.length_singleton, List.length_cons]); omega)).mono ?_
              rintro e w44 ⟨v44, rfl, hR⟩
              obtain ⟨A44, n44, c44, rfl⟩ := hR.sl
              clear HR HS
              have HR := Aside0.mk hR
              clear hR; generalize hs44 : wsum (kids ++ gapL C.L st ++ [T]) 0 = s44; have HS := Aside0.mk hs44; clear hs44
              clear r0 r1 r2 r3 rf
              obtain ⟨r0, r1, r2, r3, rf⟩ := HR.out.box0
              go_wp2
              have hR := (HR.out).st0 (.int .u8 kind) (.int .u8 0) (.int .i64 s44) (.slice A44 n44 c44)
              refine bodyPost_ret (results_cell_row rfl _ _ (w.heap.size + 1) 25 _ (0, 0) _ rfl hR.bx0 Try.underlying25 rfl (by kernel_rfl)) rfl ((hR.postw kind HS.out).kids (List.append_assoc _ _ _))
            · have q3 := nb h3a
              by_cases h4a : (nextL C.L stc).2.kd C.L = 23
              · rw [if_pos (Or.inr (Or.inr (Or.inr (Or.inl h4a))))] at hA
                obtain rfl := Option.some.inj hA
                rw [h4a] at HKD2
                clear hA h1a h2a h3a h4a hk1 q3
                go_wp2_with fail
                (try clear x0 x1 x2 x3 xf)
                go_at_call 15; refine (HKD1.out _ HR.out.par).mono ?_; rintro e w51 ⟨rfl, hb⟩; have hR := HR.out.below hb; clear hb; clear HR; have HR := Aside0.mk hR; clear hR; obtain ⟨x0, x1, x2, x3, xf⟩ := HR.out.box0
                go_wp2_with fail
                (try clear x0 x1 x2 x3 xf)
                go_at_call 29; refine (HR.out.take 68 _ HS.out (by (try simp only [List.length_append, List.length_nil, List.length_singleton, List.length_cons]); omega) HK.out).mono ?_; rintro e w52 ⟨v52, rfl, hR⟩; obtain ⟨A52, n52, c52, rfl⟩ := hR.sl; clear HR; have HR := Aside0.mk hR; clear hR; generalize hs52 : wsum (acc ++ (nextL C.L stc).1) 0 = s52; have HS := Aside0.mk hs52; clear hs52; obtain ⟨x0, x1, x2, x3, xf⟩ := HR.out.box0
                go_wp2_with fail
                have hR := HR.out.st0 (.int .u8 68) (.int .u8 0) (.int .i64 s52) (.slice A52 n52 c52); clear HR; have HR := Aside0.mk hR; clear hR
                (try clear x0 x1 x2 x3 xf)
                go_at_call 15; refine (HKD2.out _ HR.out.par).mono ?_; rintro e w53 ⟨rfl, hb⟩; have hR := HR.out.below hb; clear hb; clear HR; have HR := Aside0.mk hR; clear hR; obtain ⟨x0, x1, x2, x3, xf⟩ := HR.out.box0
                have hE := HR.out.endx (by (try simp only [List.length_append, List.length_nil, List.length_singleton, List.length_cons]); omega) 68 HS.out
                have HNb := Aside0.mk (HRN.out.kid hE.1)
                have hR := HRN.out.part hE.2 HR.out.par
                clear hE HR
                have HR := Aside0.mk hR
                clear hR
                obtain ⟨y0, y1, y2, y3, yf⟩ := HR.out.box1
                obtain ⟨r0, r1, r2, r3, rf⟩ := HR.out.box0
                generalize hT : Ps.node 68 (acc ++ (nextL C.L stc).1) = T at *
                have HT := Aside0.mk hT
                clear hT
                go_wp2_with fail
                go_at_call 27
                refine (HR.out.addN kind _ T _ HSN.out HNb.out (by (try simp only [List.length_append, List.length_nil, List.length_singleton, List.length_cons]); omega)).mono ?_
                rintro e w54 ⟨v54, rfl, hR⟩
                obtain ⟨A54, n54, c54, rfl⟩ := hR.sl
                clear HR HS
                have HR := Aside0.mk hR
                clear hR; generalize hs54 : wsum (kids ++ gapL C.L st ++ [T]) 0 = s54; have HS := Aside0.mk hs54; clear hs54
                clear r0 r1 r2 r3 rf
                obtain ⟨r0, r1, r2, r3, rf⟩ := HR.out.box0
                go_wp2
                have hR := (HR.out).st0 (.int .u8 kind) (.int .u8 0) (.int .i64 s54) (.slice A54 n54 c54)
                refine bodyPost_ret (results_cell_row rfl _ _ (w.heap.size + 1) 25 _ (0, 0) _ rfl hR.bx0 Try.underlying25 rfl (by kernel_rfl)) rfl ((hR.postw kind HS.out).kids (List.append_assoc _ _ _))
              · have q4 := nb h4a
                have HK2 := Aside0.mk h3a
                by_cases h5a : stat ((nextL C.L stc).2.kd C.L) ≠ 0
                · rw [if_pos (Or.inr (Or.inr (Or.inr (Or.inr h5a))))] at hA
                  obtain rfl := Option.some.inj hA
                  have q5 : (stat ((nextL C.L stc).2.kd C.L) != 0) = true := bne_iff_ne.mpr h5a
                  generalize (nextL C.L stc).2.kd C.L = kd2 at HKD2 q3 q4 q5 HST
                  generalize stat kd2 = sk at HST q5
                  clear hA h1a h2a h3a h4a h5a hk1 HK2
                  go_wp2_with fail
                  (try clear x0 x1 x2 x3 xf)
                  go_at_call 15; refine (HKD1.out _ HR.out.par).mono ?_; rintro e w61 ⟨rfl, hb⟩; have hR := HR.out.below hb; clear hb; clear HR; have HR := Aside0.mk hR; clear hR; obtain ⟨x0, x1, x2, x3, xf⟩ := HR.out.box0
                  go_wp2_with fail
                  (try clear x0 x1 x2 x3 xf)
                  go_at_call 29; refine (HR.out.take 68 _ HS.out (by (try simp only [List.length_append, List.length_nil, List.length_singleton, List.length_cons]); omega) HK.out).mono ?_; rintro e w62 ⟨v62, rfl, hR⟩; obtain ⟨A62, n62, c62, rfl⟩ := hR.sl; clear HR; have HR := Aside0.mk hR; clear hR; generalize hs62 : wsum (acc ++ (nextL C.L stc).1) 0 = s62; have HS := Aside0.mk hs62; clear hs62; obtain ⟨x0, x1, x2, x3, xf⟩ := HR.out.box0
                  go_wp2_with fail
                  have hR := HR.out.st0 (.int .u8 68) (.int .u8 0) (.int .i64 s62) (.slice A62 n62 c62); clear HR; have HR := Aside0.mk hR; clear hR
                  (try clear x0 x1 x2 x3 xf)
                  go_at_call 15; refine (HKD2.out _ HR.out.par).mono ?_; rintro e w63 ⟨rfl, hb⟩; have hR := HR.out.below hb; clear hb; clear HR; have HR := Aside0.mk hR; clear hR; obtain ⟨x0, x1, x2, x3, xf⟩ := HR.out.box0
                  go_wp2_with fail
                  go_at_call 25; refine (HST.out _).mono ?_; rintro e w64 ⟨rfl, hw⟩; obtain rfl := hw.symm
                  have hE := HR.out.endx (by (try simp only [List.length_append, List.length_nil, List.length_singleton, List.length_cons]); omega) 68 HS.out
                  have HNb := Aside0.mk (HRN.out.kid hE.1)
                  have hR := HRN.out.part hE.2 HR.out.par
                  clear hE HR
                  have HR := Aside0.mk hR
                  clear hR
                  obtain ⟨y0, y1, y2, y3, yf⟩ := HR.out.box1
                  obtain ⟨r0, r1, r2, r3, rf⟩ := HR.out.box0
                  generalize hT : Ps.node 68 (acc ++ (nextL C.L stc).1) = T at *
                  have HT := Aside0.mk hT
                  clear hT
                  go_wp2_with fail
                  go_at_call 27
                  refine (HR.out.addN kind _ T _ HSN.out HNb.out (by (try simp only [List.length_append, List.length_nil, List.length_singleton, List.length_cons]); omega)).mono ?_
                  rintro e w65 ⟨v65, rfl, hR⟩
                  obtain ⟨A65, n65, c65, rfl⟩ := hR.sl
                  clear HR HS
                  have HR := Aside0.mk hR
                  clear hR; generalize hs65 : wsum (kids ++ gapL C.L st ++ [T]) 0 = s65; have HS := Aside0.mk hs65; clear hs65
                  clear r0 r1 r2 r3 rf
                  obtain ⟨r0, r1, r2, r3, rf⟩ := HR.out.box0
                  go_wp2
                  have hR := (HR.out).st0 (.int .u8 kind) (.int .u8 0) (.int .i64 s65) (.slice A65 n65 c65)
                  refine bodyPost_ret (results_cell_row rfl _ _ (w.heap.size + 1) 25 _ (0, 0) _ rfl hR.bx0 Try.underlying25 rfl (by kernel_rfl)) rfl ((hR.postw kind HS.out).kids (List.append_assoc _ _ _))
                · have h5b : stat ((nextL C.L stc).2.kd C.L) = 0 := Classical.not_not.mp h5a
                  rw [if_neg (fun h => by rcases h with h | h | h | h | h <;> contradiction)] at hA
                  rw [h5b] at HST
                  have HA2 := Aside0.mk hA
                  generalize hk2 : (nextL C.L stc).2.kd C.L = kd2 at HKD2 q3 q4 HST
                  clear hA h1a h2a h3a h4a h5a h5b hk1 hk2
                  go_wp2_with fail
                  (try clear x0 x1 x2 x3 xf)
                  go_at_call 15; refine (HKD1.out _ HR.out.par).mono ?_; rintro e w71 ⟨rfl, hb⟩; have hR := HR.out.below hb; clear hb; clear HR; have HR := Aside0.mk hR; clear hR; obtain ⟨x0, x1, x2, x3, xf⟩ := HR.out.box0
                  go_wp2_with fail
                  (try clear x0 x1 x2 x3 xf)
                  go_at_call 29; refine (HR.out.take 68 _ HS.out (by (try simp only [List.length_append, List.length_nil, List.length_singleton, List.length_cons]); omega) HK.out).mono ?_; rintro e w72 ⟨v72, rfl, hR⟩; obtain ⟨A72, n72, c72, rfl⟩ := hR.sl; clear HR; have HR := Aside0.mk hR; clear hR; generalize hs72 : wsum (acc ++ (nextL C.L stc).1) 0 = s72; have HS := Aside0.mk hs72; clear hs72; obtain ⟨x0, x1, x2, x3, xf⟩ := HR.out.box0
                  go_wp2_with fail
                  have hR := HR.out.st0 (.int .u8 68) (.int .u8 0) (.int .i64 s72) (.slice A72 n72 c72); clear HR; have HR := Aside0.mk hR; clear hR
                  (try clear x0 x1 x2 x3 xf)
                  go_at_call 15; refine (HKD2.out _ HR.out.par).mono ?_; rintro e w73 ⟨rfl, hb⟩; have hR := HR.out.below hb; clear hb; clear HR; have HR := Aside0.mk hR; clear hR; obtain ⟨x0, x1, x2, x3, xf⟩ := HR.out.box0
                  go_wp2_with fail
                  go_at_call 25; refine (HST.out _).mono ?_; rintro e w74 ⟨rfl, hw⟩; obtain rfl := hw.symm
                  go_wp2_with fail
                  go_roundg k1
                  case measure => omega
                  case rel => exact ⟨_, _, _, _, HR, HS, HA2, HK2, HLB⟩
end Go.Proofs.Ytalnicdpcigocaa.PR
namespace Go.Proofs.Ytalnicdpcigocaa.PR
open Go.RowKit Ps PM PL PP GR Go.Proofs.YtalnicdpcigocaaW.PrintWords Go.Proofs.YtalnicdpcigocaaW.PrintLast Go.Proofs.YtalnicdpcigocaaW.PrintMore
set_option linter.unusedVariables false
set_option linter.unusedSimpArgs false
set_option maxHeartbeats 600000 in
set_option maxRecDepth 100000 in
theorem rstmt_let (C : RC) {n : Nat} (ih : ∀ k, k ≤ n → RAll C k) (w : World) (pb : Nat) (st : RSt) (hP : RPar C w pb st) (hs : stat (st.kd C.L) = 53) (d : List Tr × RSt) (hd : Ps.expr C.L C.orc n (wantL C.L 26 (wantL C.L 6 (nextL C.L st).2).2).2 = some d) :
    Calls Try.prog 28 #[.pointer (some ⟨pb, 0, none⟩)] w (RLv C pb w (Ps.node 53 ((nextL C.L st).1 ++ (wantL C.L 6 (nextL C.L st).2).1 ++ (wantL C.L 26 (wantL C.L 6 (nextL C.L st).2).2).1 ++ d.1 ++ (wantL C.L 25 d.2).1)) ((wantL C.L 25 d.2).2)) := by
  have hk : st.kd C.L ≠ 0 := of_stat (by rw [hs]; decide)
  have h1 := rnext_len C st
  have hpw := hP.lt
  have HR := Aside0.mk ((RRun.start0 hP).box w.heap.size #[.int .u8 0, .int .u8 0, .int .i64 0, .slice none 0 0] 25 rfl)
  have hL := C.hL
  have HK := Aside0.mk hk
  have hle1 := (next_ok hk).2
  have HKD := Aside0.mk (fun w h => rkind_any C w pb st h)
  have HST := Aside0.mk (fun w => hs ▸ rstat_any (st.kd C.L) w)
  have hw1 := rwant_len C 6 (nextL C.L st).2
  have hw2 := rwant_len C 26 (wantL C.L 6 (nextL C.L st).2).2
  have hw3 := rwant_len C 25 d.2
  have hle2 := (want_ok (L := C.L) (k := 6) (by decide) hle1).2
  have hle3 := (want_ok (L := C.L) (k := 26) (by decide) hle2).2
  have he := (rexpr_len C hle3 hd).1
  have HX := Aside0.mk hd
  clear hd
  clear hP
  generalize st.kd C.L = kd at HKD HST
  clear hs hk
  go_enter Try.func28, Try.ntmps28
  go_wp2_with fail
  (try clear r0 r1 r2 r3 rf)
  go_at_call 15; refine (HKD.out _ HR.out.par).mono ?_; rintro e w1 ⟨rfl, hb⟩; have hR := HR.out.below hb; clear hb; clear HR; have HR := Aside0.mk hR; clear hR; obtain ⟨r0, r1, r2, r3, rf⟩ := HR.out.box0
  go_wp2_with fail
  go_at_call 25; refine (HST.out _).mono ?_; rintro e w2 ⟨rfl, hw⟩; obtain rfl := hw.symm
  go_wp2_with fail
  have hbl := blk_lt HR.out.bx0
  have hbn := Nat.ne_of_lt hbl
  have hbm := Nat.ne_of_gt hbl
  clear HKD HST
  go_wp2_with fail
  have hR := HR.out.box w1.heap.size #[.int .u8 53, .int .u8 0, .int .i64 0, .slice none 0 0] 25 rfl; clear HR; have HR := Aside0.mk hR; clear hR
  (try clear r0 r1 r2 r3 rf)
  (try clear y0 y1 y2 y3 yf)
  go_at_call 29; refine (HR.out.take0 53 HK.out).mono ?_; rintro e w3 ⟨v3, rfl, hR⟩; obtain ⟨A3, n3, c3, rfl⟩ := hR.sl; clear HR; have HR := Aside0.mk hR; clear hR; generalize hs3 : wsum ((nextL C.L st).1) 0 = s3; have HS := Aside0.mk hs3; clear hs3; obtain ⟨y0, y1, y2, y3, yf⟩ := HR.out.box0; obtain ⟨r0, r1, r2, r3, rf⟩ := HR.out.box1
  go_wp2_with fail
  have hR := HR.out.st0 (.int .u8 53) (.int .u8 0) (.int .i64 s3) (.slice A3 n3 c3); clear HR; have HR := Aside0.mk hR; clear hR
  (try clear r0 r1 r2 r3 rf)
  (try clear y0 y1 y2 y3 yf)
  go_at_call 40; refine (HR.out.want 53 _ 6 (by decide) HS.out (by (try simp only [List.length_append, List.length_nil, List.length_singleton, List.length_cons]); omega)).mono ?_; rintro e w4 ⟨v4, rfl, hR⟩; obtain ⟨A4, n4, c4, rfl⟩ := hR.sl; clear HR; have HR := Aside0.mk hR; clear hR; generalize hs4 : wsum ((nextL C.L st).1 ++ (wantL C.L 6 (nextL C.L st).2).1) 0 = s4; have HS := Aside0.mk hs4; clear hs4; obtain ⟨y0, y1, y2, y3, yf⟩ := HR.out.box0; obtain ⟨r0, r1, r2, r3, rf⟩ := HR.out.box1
  go_wp2_with fail
  have hR := HR.out.st0 (.int .u8 53) (.int .u8 0) (.int .i64 s4) (.slice A4 n4 c4); clear HR; have HR := Aside0.mk hR; clear hR
  (try clear r0 r1 r2 r3 rf)
  (try clear y0 y1 y2 y3 yf)
  go_at_call 40; refine (HR.out.want 53 _ 26 (by decide) HS.out (by (try simp only [List.length_append, List.length_nil, List.length_singleton, List.length_cons]); omega)).mono ?_; rintro e w5 ⟨v5, rfl, hR⟩; obtain ⟨A5, n5, c5, rfl⟩ := hR.sl; clear HR; have HR := Aside0.mk hR; clear hR; generalize hs5 : wsum ((nextL C.L st).1 ++ (wantL C.L 6 (nextL C.L st).2).1 ++ (wantL C.L 26 (wantL C.L 6 (nextL C.L st).2).2).1) 0 = s5; have HS := Aside0.mk hs5; clear hs5; obtain ⟨y0, y1, y2, y3, yf⟩ := HR.out.box0; obtain ⟨r0, r1, r2, r3, rf⟩ := HR.out.box1
  go_wp2_with fail
  have hR := HR.out.st0 (.int .u8 53) (.int .u8 0) (.int .i64 s5) (.slice A5 n5 c5); clear HR; have HR := Aside0.mk hR; clear hR
  (try clear r0 r1 r2 r3 rf)
  (try clear y0 y1 y2 y3 yf)
  go_at_call 41; refine (HR.out.expr (ih n (Nat.le_refl n)) 53 _ d HS.out (by (try simp only [List.length_append, List.length_nil, List.length_singleton, List.length_cons]); omega) HX.out).mono ?_; rintro e w6 ⟨v6, rfl, hR⟩; obtain ⟨A6, n6, c6, rfl⟩ := hR.sl; clear HR; have HR := Aside0.mk hR; clear hR; generalize hs6 : wsum ((nextL C.L st).1 ++ (wantL C.L 6 (nextL C.L st).2).1 ++ (wantL C.L 26 (wantL C.L 6 (nextL C.L st).2).2).1 ++ d.1) 0 = s6; have HS := Aside0.mk hs6; clear hs6; obtain ⟨y0, y1, y2, y3, yf⟩ := HR.out.box0; obtain ⟨r0, r1, r2, r3, rf⟩ := HR.out.box1
  go_wp2_with fail
  have hR := HR.out.st0 (.int .u8 53) (.int .u8 0) (.int .i64 s6) (.slice A6 n6 c6); clear HR; have HR := Aside0.mk hR; clear hR
  (try clear r0 r1 r2 r3 rf)
  (try clear y0 y1 y2 y3 yf)
  go_at_call 40; refine (HR.out.want 53 _ 25 (by decide) HS.out (by (try simp only [List.length_append, List.length_nil, List.length_singleton, List.length_cons]); omega)).mono ?_; rintro e w7 ⟨v7, rfl, hR⟩; obtain ⟨A7, n7, c7, rfl⟩ := hR.sl; clear HR; have HR := Aside0.mk hR; clear hR; generalize hs7 : wsum ((nextL C.L st).1 ++ (wantL C.L 6 (nextL C.L st).2).1 ++ (wantL C.L 26 (wantL C.L 6 (nextL C.L st).2).2).1 ++ d.1 ++ (wantL C.L 25 d.2).1) 0 = s7; have HS := Aside0.mk hs7; clear hs7; obtain ⟨y0, y1, y2, y3, yf⟩ := HR.out.box0; obtain ⟨r0, r1, r2, r3, rf⟩ := HR.out.box1
  go_wp2
  have hR := (HR.out).st1 (.int .u8 53) (.int .u8 0) (.int .i64 s7) (.slice A7 n7 c7)
  refine bodyPost_ret (results_cell_row rfl _ _ w.heap.size 25 _ (0, 0) _ rfl hR.bx1 Try.underlying25 rfl (by kernel_rfl)) rfl (hR.leafw (by (try simp only [List.length_append, List.length_nil, List.length_singleton, List.length_cons]); omega) 53 HS.out)
set_option maxHeartbeats 600000 in
set_option maxRecDepth 100000 in
theorem rstmt_loop (C : RC) {n : Nat} (ih : ∀ k, k ≤ n → RAll C k) (w : World) (pb : Nat) (st : RSt) (hP : RPar C w pb st) (hs : stat (st.kd C.L) = 57) (b c : List Tr × RSt) (hb : Ps.expr C.L C.orc n (nextL C.L st).2 = some b) (hc : Ps.block C.L C.orc n b.2 = some c) (hcl : c.1.length ≤ 100000) :
    Calls Try.prog 28 #[.pointer (some ⟨pb, 0, none⟩)] w (RLv C pb w (Ps.node 57 ((nextL C.L st).1 ++ b.1 ++ c.1)) (c.2)) := by
  have hk : st.kd C.L ≠ 0 := of_stat (by rw [hs]; decide)
  have h1 := rnext_len C st
  have hpw := hP.lt
  have HR := Aside0.mk ((RRun.start0 hP).box w.heap.size #[.int .u8 0, .int .u8 0, .int .i64 0, .slice none 0 0] 25 rfl)
  have hL := C.hL
  have HK := Aside0.mk hk
  have hle1 := (next_ok hk).2
  have HKD := Aside0.mk (fun w h => rkind_any C w pb st h)
  have HST := Aside0.mk (fun w => hs ▸ rstat_any (st.kd C.L) w)
  have he := (rexpr_len C hle1 hb).1
  have HB := Aside0.mk hb
  have HC := Aside0.mk hc
  clear hb hc
  clear hP
  generalize st.kd C.L = kd at HKD HST
  clear hs hk
  go_enter Try.func28, Try.ntmps28
  go_wp2_with fail
  (try clear r0 r1 r2 r3 rf)
  go_at_call 15; refine (HKD.out _ HR.out.par).mono ?_; rintro e w1 ⟨rfl, hb⟩; have hR := HR.out.below hb; clear hb; clear HR; have HR := Aside0.mk hR; clear hR; obtain ⟨r0, r1, r2, r3, rf⟩ := HR.out.box0
  go_wp2_with fail
  go_at_call 25; refine (HST.out _).mono ?_; rintro e w2 ⟨rfl, hw⟩; obtain rfl := hw.symm
  go_wp2_with fail
  have hbl := blk_lt HR.out.bx0
  have hbn := Nat.ne_of_lt hbl
  have hbm := Nat.ne_of_gt hbl
  clear HKD HST
  go_wp2_with fail
  have hR := HR.out.box w1.heap.size #[.int .u8 57, .int .u8 0, .int .i64 0, .slice none 0 0] 25 rfl; clear HR; have HR := Aside0.mk hR; clear hR
  (try clear r0 r1 r2 r3 rf)
  (try clear y0 y1 y2 y3 yf)
  go_at_call 29; refine (HR.out.take0 57 HK.out).mono ?_; rintro e w3 ⟨v3, rfl, hR⟩; obtain ⟨A3, n3, c3, rfl⟩ := hR.sl; clear HR; have HR := Aside0.mk hR; clear hR; generalize hs3 : wsum ((nextL C.L st).1) 0 = s3; have HS := Aside0.mk hs3; clear hs3; obtain ⟨y0, y1, y2, y3, yf⟩ := HR.out.box0; obtain ⟨r0, r1, r2, r3, rf⟩ := HR.out.box1
  go_wp2_with fail
  have hR := HR.out.st0 (.int .u8 57) (.int .u8 0) (.int .i64 s3) (.slice A3 n3 c3); clear HR; have HR := Aside0.mk hR; clear hR
  (try clear r0 r1 r2 r3 rf)
  (try clear y0 y1 y2 y3 yf)
  go_at_call 41; refine (HR.out.expr (ih n (Nat.le_refl n)) 57 _ b HS.out (by (try simp only [List.length_append, List.length_nil, List.length_singleton, List.length_cons]); omega) HB.out).mono ?_; rintro e w4 ⟨v4, rfl, hR⟩; obtain ⟨A4, n4, c4, rfl⟩ := hR.sl; clear HR; have HR := Aside0.mk hR; clear hR; generalize hs4 : wsum ((nextL C.L st).1 ++ b.1) 0 = s4; have HS := Aside0.mk hs4; clear hs4; obtain ⟨y0, y1, y2, y3, yf⟩ := HR.out.box0; obtain ⟨r0, r1, r2, r3, rf⟩ := HR.out.box1
  go_wp2_with fail
  have hR := HR.out.st0 (.int .u8 57) (.int .u8 0) (.int .i64 s4) (.slice A4 n4 c4); clear HR; have HR := Aside0.mk hR; clear hR
  (try clear r0 r1 r2 r3 rf)
  (try clear y0 y1 y2 y3 yf)
  go_at_call 43; refine (HR.out.block (ih n (Nat.le_refl n)) 57 _ c HS.out (by (try simp only [List.length_append, List.length_nil, List.length_singleton, List.length_cons]); omega) HC.out).mono ?_; rintro e w5 ⟨v5, rfl, hR⟩; obtain ⟨A5, n5, c5, rfl⟩ := hR.sl; clear HR; have HR := Aside0.mk hR; clear hR; generalize hs5 : wsum ((nextL C.L st).1 ++ b.1 ++ c.1) 0 = s5; have HS := Aside0.mk hs5; clear hs5; obtain ⟨y0, y1, y2, y3, yf⟩ := HR.out.box0; obtain ⟨r0, r1, r2, r3, rf⟩ := HR.out.box1
  go_wp2
  have hR := (HR.out).st1 (.int .u8 57) (.int .u8 0) (.int .i64 s5) (.slice A5 n5 c5)
  refine bodyPost_ret (results_cell_row rfl _ _ w.heap.size 25 _ (0, 0) _ rfl hR.bx1 Try.underlying25 rfl (by kernel_rfl)) rfl (hR.leafw (by (try simp only [List.length_append, List.length_nil, List.length_singleton, List.length_cons]); omega) 57 HS.out)
set_option maxHeartbeats 600000 in
set_option maxRecDepth 100000 in
theorem rstmt_back1 (C : RC) {n : Nat} (ih : ∀ k, k ≤ n → RAll C k) (w : World) (pb : Nat) (st : RSt) (hP : RPar C w pb st) (hs : stat (st.kd C.L) = 58) (b : List Tr × RSt) (hbe : begins ((nextL C.L st).2.kd C.L) = true) (hb : Ps.expr C.L C.orc n (nextL C.L st).2 = some b) :
    Calls Try.prog 28 #[.pointer (some ⟨pb, 0, none⟩)] w (RLv C pb w (Ps.node 58 ((nextL C.L st).1 ++ b.1 ++ (wantL C.L 25 b.2).1)) ((wantL C.L 25 b.2).2)) := by
  have hk : st.kd C.L ≠ 0 := of_stat (by rw [hs]; decide)
  have h1 := rnext_len C st
  have hpw := hP.lt
  have HR := Aside0.mk ((RRun.start0 hP).box w.heap.size #[.int .u8 0, .int .u8 0, .int .i64 0, .slice none 0 0] 25 rfl)
  have hL := C.hL
  have HK := Aside0.mk hk
  have hle1 := (next_ok hk).2
  have HKD := Aside0.mk (fun w h => rkind_any C w pb st h)
  have HST := Aside0.mk (fun w => hs ▸ rstat_any (st.kd C.L) w)
  have HE := Aside0.mk (fun w => hbe ▸ rexpr_any ((nextL C.L st).2.kd C.L) w)
  have HKD2 := Aside0.mk (fun w h => rkind_any C w pb (nextL C.L st).2 h)
  have hw := rwant_len C 25 b.2
  generalize (nextL C.L st).2.kd C.L = kd2 at HE HKD2
  have he := (rexpr_len C hle1 hb).1
  have HB := Aside0.mk hb
  clear hb
  clear hbe
  clear hP
  generalize st.kd C.L = kd at HKD HST
  clear hs hk
  go_enter Try.func28, Try.ntmps28
  go_wp2_with fail
  (try clear r0 r1 r2 r3 rf)
  go_at_call 15; refine (HKD.out _ HR.out.par).mono ?_; rintro e w1 ⟨rfl, hb⟩; have hR := HR.out.below hb; clear hb; clear HR; have HR := Aside0.mk hR; clear hR; obtain ⟨r0, r1, r2, r3, rf⟩ := HR.out.box0
  go_wp2_with fail
  go_at_call 25; refine (HST.out _).mono ?_; rintro e w2 ⟨rfl, hw⟩; obtain rfl := hw.symm
  go_wp2_with fail
  have hbl := blk_lt HR.out.bx0
  have hbn := Nat.ne_of_lt hbl
  have hbm := Nat.ne_of_gt hbl
  clear HKD HST
  go_wp2_with fail
  have hR := HR.out.box w1.heap.size #[.int .u8 58, .int .u8 0, .int .i64 0, .slice none 0 0] 25 rfl; clear HR; have HR := Aside0.mk hR; clear hR
  (try clear r0 r1 r2 r3 rf)
  (try clear y0 y1 y2 y3 yf)
  go_at_call 29; refine (HR.out.take0 58 HK.out).mono ?_; rintro e w3 ⟨v3, rfl, hR⟩; obtain ⟨A3, n3, c3, rfl⟩ := hR.sl; clear HR; have HR := Aside0.mk hR; clear hR; generalize hs3 : wsum ((nextL C.L st).1) 0 = s3; have HS := Aside0.mk hs3; clear hs3; obtain ⟨y0, y1, y2, y3, yf⟩ := HR.out.box0; obtain ⟨r0, r1, r2, r3, rf⟩ := HR.out.box1
  go_wp2_with fail
  have hR := HR.out.st0 (.int .u8 58) (.int .u8 0) (.int .i64 s3) (.slice A3 n3 c3); clear HR; have HR := Aside0.mk hR; clear hR
  (try clear r0 r1 r2 r3 rf)
  (try clear y0 y1 y2 y3 yf)
  go_at_call 15; refine (HKD2.out _ HR.out.par).mono ?_; rintro e w4 ⟨rfl, hb⟩; have hR := HR.out.below hb; clear hb; clear HR; have HR := Aside0.mk hR; clear hR; obtain ⟨y0, y1, y2, y3, yf⟩ := HR.out.box0; obtain ⟨r0, r1, r2, r3, rf⟩ := HR.out.box1
  go_wp2_with fail
  go_at_call 39; refine (HE.out _).mono ?_; rintro e w5 ⟨rfl, hw⟩; obtain rfl := hw.symm
  go_wp2_with fail
  (try clear r0 r1 r2 r3 rf)
  (try clear y0 y1 y2 y3 yf)
  go_at_call 41; refine (HR.out.expr (ih n (Nat.le_refl n)) 58 _ b HS.out (by (try simp only [List.length_append, List.length_nil, List.length_singleton, List.length_cons]); omega) HB.out).mono ?_; rintro e w6 ⟨v6, rfl, hR⟩; obtain ⟨A6, n6, c6, rfl⟩ := hR.sl; clear HR; have HR := Aside0.mk hR; clear hR; generalize hs6 : wsum ((nextL C.L st).1 ++ b.1) 0 = s6; have HS := Aside0.mk hs6; clear hs6; obtain ⟨y0, y1, y2, y3, yf⟩ := HR.out.box0; obtain ⟨r0, r1, r2, r3, rf⟩ := HR.out.box1
  go_wp2_with fail
  have hR := HR.out.st0 (.int .u8 58) (.int .u8 0) (.int .i64 s6) (.slice A6 n6 c6); clear HR; have HR := Aside0.mk hR; clear hR
  (try clear r0 r1 r2 r3 rf)
  (try clear y0 y1 y2 y3 yf)
  go_at_call 40; refine (HR.out.want 58 _ 25 (by decide) HS.out (by (try simp only [List.length_append, List.length_nil, List.length_singleton, List.length_cons]); omega)).mono ?_; rintro e w7 ⟨v7, rfl, hR⟩; obtain ⟨A7, n7, c7, rfl⟩ := hR.sl; clear HR; have HR := Aside0.mk hR; clear hR; generalize hs7 : wsum ((nextL C.L st).1 ++ b.1 ++ (wantL C.L 25 b.2).1) 0 = s7; have HS := Aside0.mk hs7; clear hs7; obtain ⟨y0, y1, y2, y3, yf⟩ := HR.out.box0; obtain ⟨r0, r1, r2, r3, rf⟩ := HR.out.box1
  go_wp2
  have hR := (HR.out).st1 (.int .u8 58) (.int .u8 0) (.int .i64 s7) (.slice A7 n7 c7)
  refine bodyPost_ret (results_cell_row rfl _ _ w.heap.size 25 _ (0, 0) _ rfl hR.bx1 Try.underlying25 rfl (by kernel_rfl)) rfl (hR.leafw (by (try simp only [List.length_append, List.length_nil, List.length_singleton, List.length_cons]); omega) 58 HS.out)
set_option maxHeartbeats 600000 in
set_option maxRecDepth 100000 in
theorem rstmt_back0 (C : RC) {n : Nat} (ih : ∀ k, k ≤ n → RAll C k) (w : World) (pb : Nat) (st : RSt) (hP : RPar C w pb st) (hs : stat (st.kd C.L) = 58) (hbe : begins ((nextL C.L st).2.kd C.L) = false) :
    Calls Try.prog 28 #[.pointer (some ⟨pb, 0, none⟩)] w (RLv C pb w (Ps.node 58 ((nextL C.L st).1 ++ (wantL C.L 25 (nextL C.L st).2).1)) ((wantL C.L 25 (nextL C.L st).2).2)) := by
  have hk : st.kd C.L ≠ 0 := of_stat (by rw [hs]; decide)
  have h1 := rnext_len C st
  have hpw := hP.lt
  have HR := Aside0.mk ((RRun.start0 hP).box w.heap.size #[.int .u8 0, .int .u8 0, .int .i64 0, .slice none 0 0] 25 rfl)
  have hL := C.hL
  have HK := Aside0.mk hk
  have hle1 := (next_ok hk).2
  have HKD := Aside0.mk (fun w h => rkind_any C w pb st h)
  have HST := Aside0.mk (fun w => hs ▸ rstat_any (st.kd C.L) w)
  have HE := Aside0.mk (fun w => hbe ▸ rexpr_any ((nextL C.L st).2.kd C.L) w)
  have HKD2 := Aside0.mk (fun w h => rkind_any C w pb (nextL C.L st).2 h)
  have hw := rwant_len C 25 (nextL C.L st).2
  generalize (nextL C.L st).2.kd C.L = kd2 at HE HKD2
  clear hbe
  clear hP
  generalize st.kd C.L = kd at HKD HST
  clear hs hk
  go_enter Try.func28, Try.ntmps28
  go_wp2_with fail
  (try clear r0 r1 r2 r3 rf)
  go_at_call 15; refine (HKD.out _ HR.out.par).mono ?_; rintro e w1 ⟨rfl, hb⟩; have hR := HR.out.below hb; clear hb; clear HR; have HR := Aside0.mk hR; clear hR; obtain ⟨r0, r1, r2, r3, rf⟩ := HR.out.box0
  go_wp2_with fail
  go_at_call 25; refine (HST.out _).mono ?_; rintro e w2 ⟨rfl, hw⟩; obtain rfl := hw.symm
  go_wp2_with fail
  have hbl := blk_lt HR.out.bx0
  have hbn := Nat.ne_of_lt hbl
  have hbm := Nat.ne_of_gt hbl
  clear HKD HST
  go_wp2_with fail
  have hR := HR.out.box w1.heap.size #[.int .u8 58, .int .u8 0, .int .i64 0, .slice none 0 0] 25 rfl; clear HR; have HR := Aside0.mk hR; clear hR
  (try clear r0 r1 r2 r3 rf)
  (try clear y0 y1 y2 y3 yf)
  go_at_call 29; refine (HR.out.take0 58 HK.out).mono ?_; rintro e w3 ⟨v3, rfl, hR⟩; obtain ⟨A3, n3, c3, rfl⟩ := hR.sl; clear HR; have HR := Aside0.mk hR; clear hR; generalize hs3 : wsum ((nextL C.L st).1) 0 = s3; have HS := Aside0.mk hs3; clear hs3; obtain ⟨y0, y1, y2, y3, yf⟩ := HR.out.box0; obtain ⟨r0, r1, r2, r3, rf⟩ := HR.out.box1
  go_wp2_with fail
  have hR := HR.out.st0 (.int .u8 58) (.int .u8 0) (.int .i64 s3) (.slice A3 n3 c3); clear HR; have HR := Aside0.mk hR; clear hR
  (try clear r0 r1 r2 r3 rf)
  (try clear y0 y1 y2 y3 yf)
  go_at_call 15; refine (HKD2.out _ HR.out.par).mono ?_; rintro e w4 ⟨rfl, hb⟩; have hR := HR.out.below hb; clear hb; clear HR; have HR := Aside0.mk hR; clear hR; obtain ⟨y0, y1, y2, y3, yf⟩ := HR.out.box0; obtain ⟨r0, r1, r2, r3, rf⟩ := HR.out.box1
  go_wp2_with fail
  go_at_call 39; refine (HE.out _).mono ?_; rintro e w5 ⟨rfl, hw⟩; obtain rfl := hw.symm
  go_wp2_with fail
  (try clear r0 r1 r2 r3 rf)
  (try clear y0 y1 y2 y3 yf)
  go_at_call 40; refine (HR.out.want 58 _ 25 (by decide) HS.out (by (try simp only [List.length_append, List.length_nil, List.length_singleton, List.length_cons]); omega)).mono ?_; rintro e w6 ⟨v6, rfl, hR⟩; obtain ⟨A6, n6, c6, rfl⟩ := hR.sl; clear HR; have HR := Aside0.mk hR; clear hR; generalize hs6 : wsum ((nextL C.L st).1 ++ (wantL C.L 25 (nextL C.L st).2).1) 0 = s6; have HS := Aside0.mk hs6; clear hs6; obtain ⟨y0, y1, y2, y3, yf⟩ := HR.out.box0; obtain ⟨r0, r1, r2, r3, rf⟩ := HR.out.box1
  go_wp2
  have hR := (HR.out).st1 (.int .u8 58) (.int .u8 0) (.int .i64 s6) (.slice A6 n6 c6)
  refine bodyPost_ret (results_cell_row rfl _ _ w.heap.size 25 _ (0, 0) _ rfl hR.bx1 Try.underlying25 rfl (by kernel_rfl)) rfl (hR.leafw (by (try simp only [List.length_append, List.length_nil, List.length_singleton, List.length_cons]); omega) 58 HS.out)
set_option maxHeartbeats 600000 in
set_option maxRecDepth 100000 in
theorem rstmt_do1 (C : RC) {n : Nat} (ih : ∀ k, k ≤ n → RAll C k) (w : World) (pb : Nat) (st : RSt) (hP : RPar C w pb st) (hs : stat (st.kd C.L) = 59) (a c : List Tr × RSt) (ha : Ps.expr C.L C.orc n st = some a) (h26 : a.2.kd C.L = 26) (hc : Ps.expr C.L C.orc n (nextL C.L a.2).2 = some c) :
    Calls Try.prog 28 #[.pointer (some ⟨pb, 0, none⟩)] w (RLv C pb w (Ps.node 59 (a.1 ++ (nextL C.L a.2).1 ++ c.1 ++ (wantL C.L 25 c.2).1)) ((wantL C.L 25 c.2).2)) := by
  have hk : st.kd C.L ≠ 0 := of_stat (by rw [hs]; decide)
  have h1 := rnext_len C st
  have hpw := hP.lt
  have HR := Aside0.mk ((RRun.start0 hP).box w.heap.size #[.int .u8 0, .int .u8 0, .int .i64 0, .slice none 0 0] 25 rfl)
  have hL := C.hL
  have HK := Aside0.mk hk
  have hle1 := (next_ok hk).2
  have HKD := Aside0.mk (fun w h => rkind_any C w pb st h)
  have HST := Aside0.mk (fun w => hs ▸ rstat_any (st.kd C.L) w)
  have hle0 := hP.le
  have hea := rexpr_len C hle0 ha
  have ha1 := hea.1
  have hka : a.2.kd C.L ≠ 0 := by rw [h26]; decide
  have hn2 := rnext_len C a.2
  have hec := (rexpr_len C (next_ok hka).2 hc).1
  have hw := rwant_len C 25 c.2
  have HA := Aside0.mk ha
  have HC := Aside0.mk hc
  have HKA := Aside0.mk hka
  have HKD2 := Aside0.mk (fun w h => h26 ▸ rkind_any C w pb a.2 h)
  clear ha hc hka hea h26
  clear hP
  generalize st.kd C.L = kd at HKD HST
  clear hs hk
  go_enter Try.func28, Try.ntmps28
  go_wp2_with fail
  (try clear r0 r1 r2 r3 rf)
  go_at_call 15; refine (HKD.out _ HR.out.par).mono ?_; rintro e w1 ⟨rfl, hb⟩; have hR := HR.out.below hb; clear hb; clear HR; have HR := Aside0.mk hR; clear hR; obtain ⟨r0, r1, r2, r3, rf⟩ := HR.out.box0
  go_wp2_with fail
  go_at_call 25; refine (HST.out _).mono ?_; rintro e w2 ⟨rfl, hw⟩; obtain rfl := hw.symm
  go_wp2_with fail
  have hbl := blk_lt HR.out.bx0
  have hbn := Nat.ne_of_lt hbl
  have hbm := Nat.ne_of_gt hbl
  clear HKD HST
  go_wp2_with fail
  have hR := HR.out.box w1.heap.size #[.int .u8 59, .int .u8 0, .int .i64 0, .slice none 0 0] 25 rfl; clear HR; have HR := Aside0.mk hR; clear hR
  (try clear r0 r1 r2 r3 rf)
  (try clear y0 y1 y2 y3 yf)
  go_at_call 41; refine (HR.out.expr0 (ih n (Nat.le_refl n)) 59 a HA.out).mono ?_; rintro e w3 ⟨v3, rfl, hR⟩; obtain ⟨A3, n3, c3, rfl⟩ := hR.sl; clear HR; have HR := Aside0.mk hR; clear hR; generalize hs3 : wsum (a.1) 0 = s3; have HS := Aside0.mk hs3; clear hs3; obtain ⟨y0, y1, y2, y3, yf⟩ := HR.out.box0; obtain ⟨r0, r1, r2, r3, rf⟩ := HR.out.box1
  go_wp2_with fail
  have hR := HR.out.st0 (.int .u8 59) (.int .u8 0) (.int .i64 s3) (.slice A3 n3 c3); clear HR; have HR := Aside0.mk hR; clear hR
  (try clear r0 r1 r2 r3 rf)
  (try clear y0 y1 y2 y3 yf)
  go_at_call 15; refine (HKD2.out _ HR.out.par).mono ?_; rintro e w4 ⟨rfl, hb⟩; have hR := HR.out.below hb; clear hb; clear HR; have HR := Aside0.mk hR; clear hR; obtain ⟨y0, y1, y2, y3, yf⟩ := HR.out.box0; obtain ⟨r0, r1, r2, r3, rf⟩ := HR.out.box1
  go_wp2_with fail
  (try clear r0 r1 r2 r3 rf)
  (try clear y0 y1 y2 y3 yf)
  go_at_call 29; refine (HR.out.take 59 _ HS.out (by (try simp only [List.length_append, List.length_nil, List.length_singleton, List.length_cons]); omega) HKA.out).mono ?_; rintro e w5 ⟨v5, rfl, hR⟩; obtain ⟨A5, n5, c5, rfl⟩ := hR.sl; clear HR; have HR := Aside0.mk hR; clear hR; generalize hs5 : wsum (a.1 ++ (nextL C.L a.2).1) 0 = s5; have HS := Aside0.mk hs5; clear hs5; obtain ⟨y0, y1, y2, y3, yf⟩ := HR.out.box0; obtain ⟨r0, r1, r2, r3, rf⟩ := HR.out.box1
  go_wp2_with fail
  have hR := HR.out.st0 (.int .u8 59) (.int .u8 0) (.int .i64 s5) (.slice A5 n5 c5); clear HR; have HR := Aside0.mk hR; clear hR
  (try clear r0 r1 r2 r3 rf)
  (try clear y0 y1 y2 y3 yf)
  go_at_call 41; refine (HR.out.expr (ih n (Nat.le_refl n)) 59 _ c HS.out (by (try simp only [List.length_append, List.length_nil, List.length_singleton, List.length_cons]); omega) HC.out).mono ?_; rintro e w6 ⟨v6, rfl, hR⟩; obtain ⟨A6, n6, c6, rfl⟩ := hR.sl; clear HR; have HR := Aside0.mk hR; clear hR; generalize hs6 : wsum (a.1 ++ (nextL C.L a.2).1 ++ c.1) 0 = s6; have HS := Aside0.mk hs6; clear hs6; obtain ⟨y0, y1, y2, y3, yf⟩ := HR.out.box0; obtain ⟨r0, r1, r2, r3, rf⟩ := HR.out.box1
  go_wp2_with fail
  have hR := HR.out.st0 (.int .u8 59) (.int .u8 0) (.int .i64 s6) (.slice A6 n6 c6); clear HR; have HR := Aside0.mk hR; clear hR
  (try clear r0 r1 r2 r3 rf)
  (try clear y0 y1 y2 y3 yf)
  go_at_call 40; refine (HR.out.want 59 _ 25 (by decide) HS.out (by (try simp only [List.length_append, List.length_nil, List.length_singleton, List.length_cons]); omega)).mono ?_; rintro e w7 ⟨v7, rfl, hR⟩; obtain ⟨A7, n7, c7, rfl⟩ := hR.sl; clear HR; have HR := Aside0.mk hR; clear hR; generalize hs7 : wsum (a.1 ++ (nextL C.L a.2).1 ++ c.1 ++ (wantL C.L 25 c.2).1) 0 = s7; have HS := Aside0.mk hs7; clear hs7; obtain ⟨y0, y1, y2, y3, yf⟩ := HR.out.box0; obtain ⟨r0, r1, r2, r3, rf⟩ := HR.out.box1
  go_wp2
  have hR := (HR.out).st1 (.int .u8 59) (.int .u8 0) (.int .i64 s7) (.slice A7 n7 c7)
  refine bodyPost_ret (results_cell_row rfl _ _ w.heap.size 25 _ (0, 0) _ rfl hR.bx1 Try.underlying25 rfl (by kernel_rfl)) rfl (hR.leafw (by (try simp only [List.length_append, List.length_nil, List.length_singleton, List.length_cons]); omega) 59 HS.out)
set_option maxHeartbeats 600000 in
set_option maxRecDepth 100000 in
theorem rstmt_do0 (C : RC) {n : Nat} (ih : ∀ k, k ≤ n → RAll C k) (w : World) (pb : Nat) (st : RSt) (hP : RPar C w pb st) (hs : stat (st.kd C.L) = 59) (a : List Tr × RSt) (ha : Ps.expr C.L C.orc n st = some a) (h26 : a.2.kd C.L ≠ 26) :
    Calls Try.prog 28 #[.pointer (some ⟨pb, 0, none⟩)] w (RLv C pb w (Ps.node 59 (a.1 ++ (wantL C.L 25 a.2).1)) ((wantL C.L 25 a.2).2)) := by
  have hk : st.kd C.L ≠ 0 := of_stat (by rw [hs]; decide)
  have h1 := rnext_len C st
  have hpw := hP.lt
  have HR := Aside0.mk ((RRun.start0 hP).box w.heap.size #[.int .u8 0, .int .u8 0, .int .i64 0, .slice none 0 0] 25 rfl)
  have hL := C.hL
  have HK := Aside0.mk hk
  have hle1 := (next_ok hk).2
  have HKD := Aside0.mk (fun w h => rkind_any C w pb st h)
  have HST := Aside0.mk (fun w => hs ▸ rstat_any (st.kd C.L) w)
  have hle0 := hP.le
  have ha1 := (rexpr_len C hle0 ha).1
  have hw := rwant_len C 25 a.2
  have HA := Aside0.mk ha
  have b26 := nb h26
  have HKD2 := Aside0.mk (fun w h => rkind_any C w pb a.2 h)
  generalize a.2.kd C.L = kd2 at HKD2 b26
  clear ha h26
  clear hP
  generalize st.kd C.L = kd at HKD HST
  clear hs hk
  go_enter Try.func28, Try.ntmps28
  go_wp2_with fail
  (try clear r0 r1 r2 r3 rf)
  go_at_call 15; refine (HKD.out _ HR.out.par).mono ?_; rintro e w1 ⟨rfl, hb⟩; have hR := HR.out.below hb; clear hb; clear HR; have HR := Aside0.mk hR; clear hR; obtain ⟨r0, r1, r2, r3, rf⟩ := HR.out.box0
  go_wp2_with fail
  go_at_call 25; refine (HST.out _).mono ?_; rintro e w2 ⟨rfl, hw⟩; obtain rfl := hw.symm
  go_wp2_with fail
  have hbl := blk_lt HR.out.bx0
  have hbn := Nat.ne_of_lt hbl
  have hbm := Nat.ne_of_gt hbl
  clear HKD HST
  go_wp2_with fail
  have hR := HR.out.box w1.heap.size #[.int .u8 59, .int .u8 0, .int .i64 0, .slice none 0 0] 25 rfl; clear HR; have HR := Aside0.mk hR; clear hR
  (try clear r0 r1 r2 r3 rf)
  (try clear y0 y1 y2 y3 yf)
  go_at_call 41; refine (HR.out.expr0 (ih n (Nat.le_refl n)) 59 a HA.out).mono ?_; rintro e w3 ⟨v3, rfl, hR⟩; obtain ⟨A3, n3, c3, rfl⟩ := hR.sl; clear HR; have HR := Aside0.mk hR; clear hR; generalize hs3 : wsum (a.1) 0 = s3; have HS := Aside0.mk hs3; clear hs3; obtain ⟨y0, y1, y2, y3, yf⟩ := HR.out.box0; obtain ⟨r0, r1, r2, r3, rf⟩ := HR.out.box1
  go_wp2_with fail
  have hR := HR.out.st0 (.int .u8 59) (.int .u8 0) (.int .i64 s3) (.slice A3 n3 c3); clear HR; have HR := Aside0.mk hR; clear hR
  (try clear r0 r1 r2 r3 rf)
  (try clear y0 y1 y2 y3 yf)
  go_at_call 15; refine (HKD2.out _ HR.out.par).mono ?_; rintro e w4 ⟨rfl, hb⟩; have hR := HR.out.below hb; clear hb; clear HR; have HR := Aside0.mk hR; clear hR; obtain ⟨y0, y1, y2, y3, yf⟩ := HR.out.box0; obtain ⟨r0, r1, r2, r3, rf⟩ := HR.out.box1
  go_wp2_with fail
  (try clear r0 r1 r2 r3 rf)
  (try clear y0 y1 y2 y3 yf)
  go_at_call 40; refine (HR.out.want 59 _ 25 (by decide) HS.out (by (try simp only [List.length_append, List.length_nil, List.length_singleton, List.length_cons]); omega)).mono ?_; rintro e w5 ⟨v5, rfl, hR⟩; obtain ⟨A5, n5, c5, rfl⟩ := hR.sl; clear HR; have HR := Aside0.mk hR; clear hR; generalize hs5 : wsum (a.1 ++ (wantL C.L 25 a.2).1) 0 = s5; have HS := Aside0.mk hs5; clear hs5; obtain ⟨y0, y1, y2, y3, yf⟩ := HR.out.box0; obtain ⟨r0, r1, r2, r3, rf⟩ := HR.out.box1
  go_wp2
  have hR := (HR.out).st1 (.int .u8 59) (.int .u8 0) (.int .i64 s5) (.slice A5 n5 c5)
  refine bodyPost_ret (results_cell_row rfl _ _ w.heap.size 25 _ (0, 0) _ rfl hR.bx1 Try.underlying25 rfl (by kernel_rfl)) rfl (hR.leafw (by (try simp only [List.length_append, List.length_nil, List.length_singleton, List.length_cons]); omega) 59 HS.out)
end Go.Proofs.Ytalnicdpcigocaa.PR
namespace Go.Proofs.Ytalnicdpcigocaa.PR
open Go.RowKit Ps PM PL PP GR Go.Proofs.YtalnicdpcigocaaW.PrintWords Go.Proofs.YtalnicdpcigocaaW.PrintLast Go.Proofs.YtalnicdpcigocaaW.PrintMore
set_option linter.unusedVariables false
set_option linter.unusedSimpArgs false
theorem rparams_len (C : RC) {n : Nat} {st : RSt} {p : Tr × RSt} (hle : st.at_ ≤ C.L.length) (h : Ps.params C.L n st = some p) : p.2.at_ ≤ C.L.length := (params_goes n st p hle h).2
theorem rblock_len (C : RC) {n : Nat} {st : RSt} {b : List Tr × RSt} (hle : st.at_ ≤ C.L.length) (hb : Ps.block C.L C.orc n st = some b) : b.1.length ≤ 100000 ∧ b.2.at_ ≤ C.L.length := by
  have h := ((mon n : Mon C.L C.orc n).block _ _ hle hb).1
  have := C.hL
  have h2 := h.2.2
  have h3 := h.2.1
  exact ⟨by omega, h3⟩
set_option maxHeartbeats 600000 in
set_option maxRecDepth 100000 in
theorem rstmt_fn (C : RC) {n : Nat} (ih : ∀ k, k ≤ n → RAll C k) (w : World) (pb : Nat) (st : RSt) (hP : RPar C w pb st) (hs : stat (st.kd C.L) = 54) (p : Tr × RSt) (c : List Tr × RSt) (hp : Ps.params C.L n ((wantL C.L 6 (nextL C.L st).2).2.to C.L) = some p) (hc : Ps.block C.L C.orc n p.2 = some c) :
    Calls Try.prog 28 #[.pointer (some ⟨pb, 0, none⟩)] w (RLv C pb w (Ps.node 54 ((nextL C.L st).1 ++ (wantL C.L 6 (nextL C.L st).2).1 ++ gapL C.L (wantL C.L 6 (nextL C.L st).2).2 ++ [p.1] ++ c.1)) (c.2)) := by
  have hk : st.kd C.L ≠ 0 := of_stat (by rw [hs]; decide)
  have h1 := rnext_len C st
  have hpw := hP.lt
  have HR := Aside0.mk ((RRun.start0 hP).box w.heap.size #[.int .u8 0, .int .u8 0, .int .i64 0, .slice none 0 0] 25 rfl)
  have hL := C.hL
  have HK := Aside0.mk hk
  have hle1 := (next_ok hk).2
  have HKD := Aside0.mk (fun w h => rkind_any C w pb st h)
  have HST := Aside0.mk (fun w => hs ▸ rstat_any (st.kd C.L) w)
  have hw1 := rwant_len C 6 (nextL C.L st).2
  have hle2 := (want_ok (L := C.L) (k := 6) (by decide) hle1).2
  have hle3 := nx_le C.L (wantL C.L 6 (nextL C.L st).2).2.at_ hle2
  have hgl := rgap_len C (wantL C.L 6 (nextL C.L st).2).2
  have hle4 := rparams_len C hle3 hp
  have hcl := (rblock_len C hle4 hc).1
  have HX := Aside0.mk hp
  have HC := Aside0.mk hc
  clear hp hc
  clear hP
  generalize st.kd C.L = kd at HKD HST
  clear hs hk
  go_enter Try.func28, Try.ntmps28
  go_wp2_with fail
  (try clear r0 r1 r2 r3 rf)
  go_at_call 15; refine (HKD.out _ HR.out.par).mono ?_; rintro e w1 ⟨rfl, hb⟩; have hR := HR.out.below hb; clear hb; clear HR; have HR := Aside0.mk hR; clear hR; obtain ⟨r0, r1, r2, r3, rf⟩ := HR.out.box0
  go_wp2_with fail
  go_at_call 25; refine (HST.out _).mono ?_; rintro e w2 ⟨rfl, hw⟩; obtain rfl := hw.symm
  go_wp2_with fail
  have hbl := blk_lt HR.out.bx0
  have hbn := Nat.ne_of_lt hbl
  have hbm := Nat.ne_of_gt hbl
  clear HKD HST
  go_wp2_with fail
  have hR := HR.out.box w1.heap.size #[.int .u8 54, .int .u8 0, .int .i64 0, .slice none 0 0] 25 rfl; clear HR; have HR := Aside0.mk hR; clear hR
  (try clear r0 r1 r2 r3 rf)
  (try clear y0 y1 y2 y3 yf)
  go_at_call 29; refine (HR.out.take0 54 HK.out).mono ?_; rintro e w3 ⟨v3, rfl, hR⟩; obtain ⟨A3, n3, c3, rfl⟩ := hR.sl; clear HR; have HR := Aside0.mk hR; clear hR; generalize hs3 : wsum ((nextL C.L st).1) 0 = s3; have HS := Aside0.mk hs3; clear hs3; obtain ⟨y0, y1, y2, y3, yf⟩ := HR.out.box0; obtain ⟨r0, r1, r2, r3, rf⟩ := HR.out.box1
  go_wp2_with fail
  have hR := HR.out.st0 (.int .u8 54) (.int .u8 0) (.int .i64 s3) (.slice A3 n3 c3); clear HR; have HR := Aside0.mk hR; clear hR
  (try clear r0 r1 r2 r3 rf)
  (try clear y0 y1 y2 y3 yf)
  go_at_call 40; refine (HR.out.want 54 _ 6 (by decide) HS.out (by (try simp only [List.length_append, List.length_nil, List.length_singleton, List.length_cons]); omega)).mono ?_; rintro e w4 ⟨v4, rfl, hR⟩; obtain ⟨A4, n4, c4, rfl⟩ := hR.sl; clear HR; have HR := Aside0.mk hR; clear hR; generalize hs4 : wsum ((nextL C.L st).1 ++ (wantL C.L 6 (nextL C.L st).2).1) 0 = s4; have HS := Aside0.mk hs4; clear hs4; obtain ⟨y0, y1, y2, y3, yf⟩ := HR.out.box0; obtain ⟨r0, r1, r2, r3, rf⟩ := HR.out.box1
  go_wp2_with fail
  have hR := HR.out.st0 (.int .u8 54) (.int .u8 0) (.int .i64 s4) (.slice A4 n4 c4); clear HR; have HR := Aside0.mk hR; clear hR
  (try clear r0 r1 r2 r3 rf)
  (try clear y0 y1 y2 y3 yf)
  go_at_call 17; refine (HR.out.gap 54 _ HS.out (by (try simp only [List.length_append, List.length_nil, List.length_singleton, List.length_cons]); omega)).mono ?_; rintro e w5 ⟨v5, rfl, hR⟩; obtain ⟨A5, n5, c5, rfl⟩ := hR.sl; clear HR; have HR := Aside0.mk hR; clear hR; generalize hs5 : wsum ((nextL C.L st).1 ++ (wantL C.L 6 (nextL C.L st).2).1 ++ gapL C.L (wantL C.L 6 (nextL C.L st).2).2) 0 = s5; have HS := Aside0.mk hs5; clear hs5; obtain ⟨y0, y1, y2, y3, yf⟩ := HR.out.box0; obtain ⟨r0, r1, r2, r3, rf⟩ := HR.out.box1
  go_wp2_with fail
  have hR := HR.out.st0 (.int .u8 54) (.int .u8 0) (.int .i64 s5) (.slice A5 n5 c5); clear HR; have HR := Aside0.mk hR; clear hR
  (try clear r0 r1 r2 r3 rf)
  (try clear y0 y1 y2 y3 yf)
  generalize ((((w5.setCell ⟨w1.heap.size, 0, none⟩ (.int .u8 54)).setCell ⟨w1.heap.size, 1, none⟩ (.int .u8 0)).setCell ⟨w1.heap.size, 2, none⟩ (.int .i64 s5)).setCell ⟨w1.heap.size, 3, none⟩ (.slice A5 n5 c5)) = w6 at *
  have hR := HR.out.below (Below.refl _ _).drew
  obtain ⟨y0, y1, y2, y3, yf⟩ := HR.out.box0; clear HR; have HR := Aside0.mk hR; clear hR
  go_region_with (first | (go_at_call 42; refine (rparams_any C _ pb ((wantL C.L 6 (nextL C.L st).2).2.to C.L) p HR.out.par HX.out).mono ?_; rintro e w7 ⟨cs7, rfl, hN, hP, hF⟩; obtain ⟨A7, n7, c7, rfl, _⟩ := hN.four; have HNb := Aside0.mk (HR.out.kid hN); have hR := HR.out.part hF hP; clear hN hP hF; clear HR; have HR := Aside0.mk hR; clear hR; clear y0 y1 y2 y3 yf; obtain ⟨y0, y1, y2, y3, yf⟩ := HR.out.box0; obtain ⟨r0, r1, r2, r3, rf⟩ := HR.out.box1) | (go_at_call 27; refine (HR.out.addN 54 _ p.1 _ HS.out HNb.out (by (try simp only [List.length_append, List.length_nil, List.length_singleton, List.length_cons]); omega)).mono ?_; clear HNb; rintro e w8 ⟨v8, rfl, hR⟩; obtain ⟨A8, n8, c8, rfl⟩ := hR.sl; clear HR; have HR := Aside0.mk hR; clear hR; generalize hs : wsum ((nextL C.L st).1 ++ (wantL C.L 6 (nextL C.L st).2).1 ++ gapL C.L (wantL C.L 6 (nextL C.L st).2).2 ++ [p.1]) 0 = s8; have HS := Aside0.mk hs; clear hs; clear y0 y1 y2 y3 yf; (try clear r0 r1 r2 r3 rf); obtain ⟨y0, y1, y2, y3, yf⟩ := HR.out.box0; obtain ⟨r0, r1, r2, r3, rf⟩ := HR.out.box1))
  all_goals
    go_wp2_with fail
    have hR := HR.out.st0 (.int .u8 54) (.int .u8 0) (.int .i64 s8) (.slice A8 n8 c8); clear HR; have HR := Aside0.mk hR; clear hR
    (try clear r0 r1 r2 r3 rf)
    (try clear y0 y1 y2 y3 yf)
    go_at_call 43; refine (HR.out.block (ih n (Nat.le_refl n)) 54 _ c HS.out (by (try simp only [List.length_append, List.length_nil, List.length_singleton, List.length_cons]); omega) HC.out).mono ?_; rintro e w9 ⟨v9, rfl, hR⟩; obtain ⟨A9, n9, c9, rfl⟩ := hR.sl; clear HR; have HR := Aside0.mk hR; clear hR; generalize hs9 : wsum ((nextL C.L st).1 ++ (wantL C.L 6 (nextL C.L st).2).1 ++ gapL C.L (wantL C.L 6 (nextL C.L st).2).2 ++ [p.1] ++ c.1) 0 = s9; have HS := Aside0.mk hs9; clear hs9; obtain ⟨y0, y1, y2, y3, yf⟩ := HR.out.box0; obtain ⟨r0, r1, r2, r3, rf⟩ := HR.out.box1
    go_wp2
    have hR := (HR.out).st1 (.int .u8 54) (.int .u8 0) (.int .i64 s9) (.slice A9 n9 c9)
    refine bodyPost_ret (results_cell_row rfl _ _ w.heap.size 25 _ (0, 0) _ rfl hR.bx1 Try.underlying25 rfl (by kernel_rfl)) rfl (hR.leafw (by (try simp only [List.length_append, List.length_nil, List.length_singleton, List.length_cons]); omega) 54 HS.out)
set_option maxHeartbeats 600000 in
set_option maxRecDepth 100000 in
theorem rstmt_if0 (C : RC) {n : Nat} (ih : ∀ k, k ≤ n → RAll C k) (w : World) (pb : Nat) (st : RSt) (hP : RPar C w pb st) (hs : stat (st.kd C.L) = 56) (b c : List Tr × RSt) (hb : Ps.expr C.L C.orc n (nextL C.L st).2 = some b) (hc : Ps.block C.L C.orc n b.2 = some c) (h13 : c.2.kd C.L ≠ 13) :
    Calls Try.prog 28 #[.pointer (some ⟨pb, 0, none⟩)] w (RLv C pb w (Ps.node 56 ((nextL C.L st).1 ++ b.1 ++ c.1)) (c.2)) := by
  have hk : st.kd C.L ≠ 0 := of_stat (by rw [hs]; decide)
  have h1 := rnext_len C st
  have hpw := hP.lt
  have HR := Aside0.mk ((RRun.start0 hP).box w.heap.size #[.int .u8 0, .int .u8 0, .int .i64 0, .slice none 0 0] 25 rfl)
  have hL := C.hL
  have HK := Aside0.mk hk
  have hle1 := (next_ok hk).2
  have HKD := Aside0.mk (fun w h => rkind_any C w pb st h)
  have HST := Aside0.mk (fun w => hs ▸ rstat_any (st.kd C.L) w)
  have heb := rexpr_len C hle1 hb
  have hebc := rblock_len C heb.2 hc
  have hb1 := heb.1
  have hc1 := hebc.1
  have hcle := hebc.2
  have HB := Aside0.mk hb
  have HC := Aside0.mk hc
  have c13 : (c.2.kd C.L != 13) = true := bne_iff_ne.mpr h13
  have HKD2 := Aside0.mk (fun w h => rkind_any C w pb c.2 h)
  generalize c.2.kd C.L = kd2 at HKD2 c13
  clear h13 hb hc heb hebc
  clear hP
  generalize st.kd C.L = kd at HKD HST
  clear hs hk
  go_enter Try.func28, Try.ntmps28
  go_wp2_with fail
  (try clear r0 r1 r2 r3 rf)
  go_at_call 15; refine (HKD.out _ HR.out.par).mono ?_; rintro e w1 ⟨rfl, hb⟩; have hR := HR.out.below hb; clear hb; clear HR; have HR := Aside0.mk hR; clear hR; obtain ⟨r0, r1, r2, r3, rf⟩ := HR.out.box0
  go_wp2_with fail
  go_at_call 25; refine (HST.out _).mono ?_; rintro e w2 ⟨rfl, hw⟩; obtain rfl := hw.symm
  go_wp2_with fail
  have hbl := blk_lt HR.out.bx0
  have hbn := Nat.ne_of_lt hbl
  have hbm := Nat.ne_of_gt hbl
  clear HKD HST
  go_wp2_with fail
  have hR := HR.out.box w1.heap.size #[.int .u8 56, .int .u8 0, .int .i64 0, .slice none 0 0] 25 rfl; clear HR; have HR := Aside0.mk hR; clear hR
  (try clear r0 r1 r2 r3 rf)
  (try clear y0 y1 y2 y3 yf)
  go_at_call 29; refine (HR.out.take0 56 HK.out).mono ?_; rintro e w3 ⟨v3, rfl, hR⟩; obtain ⟨A3, n3, c3, rfl⟩ := hR.sl; clear HR; have HR := Aside0.mk hR; clear hR; generalize hs3 : wsum ((nextL C.L st).1) 0 = s3; have HS := Aside0.mk hs3; clear hs3; obtain ⟨y0, y1, y2, y3, yf⟩ := HR.out.box0; obtain ⟨r0, r1, r2, r3, rf⟩ := HR.out.box1
  go_wp2_with fail
  have hR := HR.out.st0 (.int .u8 56) (.int .u8 0) (.int .i64 s3) (.slice A3 n3 c3); clear HR; have HR := Aside0.mk hR; clear hR
  (try clear r0 r1 r2 r3 rf)
  (try clear y0 y1 y2 y3 yf)
  go_at_call 41; refine (HR.out.expr (ih n (Nat.le_refl n)) 56 _ b HS.out (by (try simp only [List.length_append, List.length_nil, List.length_singleton, List.length_cons]); omega) HB.out).mono ?_; rintro e w4 ⟨v4, rfl, hR⟩; obtain ⟨A4, n4, c4, rfl⟩ := hR.sl; clear HR; have HR := Aside0.mk hR; clear hR; generalize hs4 : wsum ((nextL C.L st).1 ++ b.1) 0 = s4; have HS := Aside0.mk hs4; clear hs4; obtain ⟨y0, y1, y2, y3, yf⟩ := HR.out.box0; obtain ⟨r0, r1, r2, r3, rf⟩ := HR.out.box1
  go_wp2_with fail
  have hR := HR.out.st0 (.int .u8 56) (.int .u8 0) (.int .i64 s4) (.slice A4 n4 c4); clear HR; have HR := Aside0.mk hR; clear hR
  (try clear r0 r1 r2 r3 rf)
  (try clear y0 y1 y2 y3 yf)
  go_at_call 43; refine (HR.out.block (ih n (Nat.le_refl n)) 56 _ c HS.out (by (try simp only [List.length_append, List.length_nil, List.length_singleton, List.length_cons]); omega) HC.out).mono ?_; rintro e w5 ⟨v5, rfl, hR⟩; obtain ⟨A5, n5, c5, rfl⟩ := hR.sl; clear HR; have HR := Aside0.mk hR; clear hR; generalize hs5 : wsum ((nextL C.L st).1 ++ b.1 ++ c.1) 0 = s5; have HS := Aside0.mk hs5; clear hs5; obtain ⟨y0, y1, y2, y3, yf⟩ := HR.out.box0; obtain ⟨r0, r1, r2, r3, rf⟩ := HR.out.box1
  go_wp2_with fail
  have hR := HR.out.st0 (.int .u8 56) (.int .u8 0) (.int .i64 s5) (.slice A5 n5 c5); clear HR; have HR := Aside0.mk hR; clear hR
  (try clear r0 r1 r2 r3 rf)
  (try clear y0 y1 y2 y3 yf)
  go_at_call 15; refine (HKD2.out _ HR.out.par).mono ?_; rintro e w6 ⟨rfl, hb⟩; have hR := HR.out.below hb; clear hb; clear HR; have HR := Aside0.mk hR; clear hR; obtain ⟨y0, y1, y2, y3, yf⟩ := HR.out.box0; obtain ⟨r0, r1, r2, r3, rf⟩ := HR.out.box1
  go_wp2
  have hR := (HR.out).st1 (.int .u8 56) (.int .u8 0) (.int .i64 s5) (.slice A5 n5 c5)
  refine bodyPost_ret (results_cell_row rfl _ _ w.heap.size 25 _ (0, 0) _ rfl hR.bx1 Try.underlying25 rfl (by kernel_rfl)) rfl (hR.leafw (by (try simp only [List.length_append, List.length_nil, List.length_singleton, List.length_cons]); omega) 56 HS.out)
set_option maxHeartbeats 600000 in
set_option maxRecDepth 100000 in
theorem rstmt_if1 (C : RC) {n : Nat} (ih : ∀ k, k ≤ n → RAll C k) (w : World) (pb : Nat) (st : RSt) (hP : RPar C w pb st) (hs : stat (st.kd C.L) = 56) (b c : List Tr × RSt) (hb : Ps.expr C.L C.orc n (nextL C.L st).2 = some b) (hc : Ps.block C.L C.orc n b.2 = some c) (h13 : c.2.kd C.L = 13) (h12 : (nextL C.L c.2).2.kd C.L ≠ 12) (q : List Tr × RSt) (hq : Ps.block C.L C.orc n (nextL C.L c.2).2 = some q) :
    Calls Try.prog 28 #[.pointer (some ⟨pb, 0, none⟩)] w (RLv C pb w (Ps.node 56 ((nextL C.L st).1 ++ b.1 ++ c.1 ++ (nextL C.L c.2).1 ++ q.1)) (q.2)) := by
  have hk : st.kd C.L ≠ 0 := of_stat (by rw [hs]; decide)
  have h1 := rnext_len C st
  have hpw := hP.lt
  have HR := Aside0.mk ((RRun.start0 hP).box w.heap.size #[.int .u8 0, .int .u8 0, .int .i64 0, .slice none 0 0] 25 rfl)
  have hL := C.hL
  have HK := Aside0.mk hk
  have hle1 := (next_ok hk).2
  have HKD := Aside0.mk (fun w h => rkind_any C w pb st h)
  have HST := Aside0.mk (fun w => hs ▸ rstat_any (st.kd C.L) w)
  have heb := rexpr_len C hle1 hb
  have hebc := rblock_len C heb.2 hc
  have hb1 := heb.1
  have hc1 := hebc.1
  have hcle := hebc.2
  have HB := Aside0.mk hb
  have HC := Aside0.mk hc
  have hkc : c.2.kd C.L ≠ 0 := by rw [h13]; decide
  have HKC := Aside0.mk hkc
  have hn2 := rnext_len C c.2
  have hle2 := (next_ok hkc).2
  have HKD2 := Aside0.mk (fun w h => h13 ▸ rkind_any C w pb c.2 h)
  have hq1 := (rblock_len C hle2 hq).1
  have c12 : ((nextL C.L c.2).2.kd C.L != 12) = true := bne_iff_ne.mpr h12
  have HKD3 := Aside0.mk (fun w h => rkind_any C w pb (nextL C.L c.2).2 h)
  generalize (nextL C.L c.2).2.kd C.L = kd3 at HKD3 c12
  have HQ := Aside0.mk hq
  clear h13 h12 hb hc heb hebc hkc hq
  clear hP
  generalize st.kd C.L = kd at HKD HST
  clear hs hk
  go_enter Try.func28, Try.ntmps28
  go_wp2_with fail
  (try clear r0 r1 r2 r3 rf)
  go_at_call 15; refine (HKD.out _ HR.out.par).mono ?_; rintro e w1 ⟨rfl, hb⟩; have hR := HR.out.below hb; clear hb; clear HR; have HR := Aside0.mk hR; clear hR; obtain ⟨r0, r1, r2, r3, rf⟩ := HR.out.box0
  go_wp2_with fail
  go_at_call 25; refine (HST.out _).mono ?_; rintro e w2 ⟨rfl, hw⟩; obtain rfl := hw.symm
  go_wp2_with fail
  have hbl := blk_lt HR.out.bx0
  have hbn := Nat.ne_of_lt hbl
  have hbm := Nat.ne_of_gt hbl
  clear HKD HST
  go_wp2_with fail
  have hR := HR.out.box w1.heap.size #[.int .u8 56, .int .u8 0, .int .i64 0, .slice none 0 0] 25 rfl; clear HR; have HR := Aside0.mk hR; clear hR
  (try clear r0 r1 r2 r3 rf)
  (try clear y0 y1 y2 y3 yf)
  go_at_call 29; refine (HR.out.take0 56 HK.out).mono ?_; rintro e w3 ⟨v3, rfl, hR⟩; obtain ⟨A3, n3, c3, rfl⟩ := hR.sl; clear HR; have HR := Aside0.mk hR; clear hR; generalize hs3 : wsum ((nextL C.L st).1) 0 = s3; have HS := Aside0.mk hs3; clear hs3; obtain ⟨y0, y1, y2, y3, yf⟩ := HR.out.box0; obtain ⟨r0, r1, r2, r3, rf⟩ := HR.out.box1
  go_wp2_with fail
  have hR := HR.out.st0 (.int .u8 56) (.int .u8 0) (.int .i64 s3) (.slice A3 n3 c3); clear HR; have HR := Aside0.mk hR; clear hR
  (try clear r0 r1 r2 r3 rf)
  (try clear y0 y1 y2 y3 yf)
  go_at_call 41; refine (HR.out.expr (ih n (Nat.le_refl n)) 56 _ b HS.out (by (try simp only [List.length_append, List.length_nil, List.length_singleton, List.length_cons]); omega) HB.out).mono ?_; rintro e w4 ⟨v4, rfl, hR⟩; obtain ⟨A4, n4, c4, rfl⟩ := hR.sl; clear HR; have HR := Aside0.mk hR; clear hR; generalize hs4 : wsum ((nextL C.L st).1 ++ b.1) 0 = s4; have HS := Aside0.mk hs4; clear hs4; obtain ⟨y0, y1, y2, y3, yf⟩ := HR.out.box0; obtain ⟨r0, r1, r2, r3, rf⟩ := HR.out.box1
  go_wp2_with fail
  have hR := HR.out.st0 (.int .u8 56) (.int .u8 0) (.int .i64 s4) (.slice A4 n4 c4); clear HR; have HR := Aside0.mk hR; clear hR
  (try clear r0 r1 r2 r3 rf)
  (try clear y0 y1 y2 y3 yf)
  go_at_call 43; refine (HR.out.block (ih n (Nat.le_refl n)) 56 _ c HS.out (by (try simp only [List.length_append, List.length_nil, List.length_singleton, List.length_cons]); omega) HC.out).mono ?_; rintro e w5 ⟨v5, rfl, hR⟩; obtain ⟨A5, n5, c5, rfl⟩ := hR.sl; clear HR; have HR := Aside0.mk hR; clear hR; generalize hs5 : wsum ((nextL C.L st).1 ++ b.1 ++ c.1) 0 = s5; have HS := Aside0.mk hs5; clear hs5; obtain ⟨y0, y1, y2, y3, yf⟩ := HR.out.box0; obtain ⟨r0, r1, r2, r3, rf⟩ := HR.out.box1
  go_wp2_with fail
  have hR := HR.out.st0 (.int .u8 56) (.int .u8 0) (.int .i64 s5) (.slice A5 n5 c5); clear HR; have HR := Aside0.mk hR; clear hR
  (try clear r0 r1 r2 r3 rf)
  (try clear y0 y1 y2 y3 yf)
  go_at_call 15; refine (HKD2.out _ HR.out.par).mono ?_; rintro e w6 ⟨rfl, hb⟩; have hR := HR.out.below hb; clear hb; clear HR; have HR := Aside0.mk hR; clear hR; obtain ⟨y0, y1, y2, y3, yf⟩ := HR.out.box0; obtain ⟨r0, r1, r2, r3, rf⟩ := HR.out.box1
  go_wp2_with fail
  (try clear r0 r1 r2 r3 rf)
  (try clear y0 y1 y2 y3 yf)
  go_at_call 29; refine (HR.out.take 56 _ HS.out (by (try simp only [List.length_append, List.length_nil, List.length_singleton, List.length_cons]); omega) HKC.out).mono ?_; rintro e w7 ⟨v7, rfl, hR⟩; obtain ⟨A7, n7, c7, rfl⟩ := hR.sl; clear HR; have HR := Aside0.mk hR; clear hR; generalize hs7 : wsum ((nextL C.L st).1 ++ b.1 ++ c.1 ++ (nextL C.L c.2).1) 0 = s7; have HS := Aside0.mk hs7; clear hs7; obtain ⟨y0, y1, y2, y3, yf⟩ := HR.out.box0; obtain ⟨r0, r1, r2, r3, rf⟩ := HR.out.box1
  go_wp2_with fail
  have hR := HR.out.st0 (.int .u8 56) (.int .u8 0) (.int .i64 s7) (.slice A7 n7 c7); clear HR; have HR := Aside0.mk hR; clear hR
  (try clear r0 r1 r2 r3 rf)
  (try clear y0 y1 y2 y3 yf)
  go_at_call 15; refine (HKD3.out _ HR.out.par).mono ?_; rintro e w8 ⟨rfl, hb⟩; have hR := HR.out.below hb; clear hb; clear HR; have HR := Aside0.mk hR; clear hR; obtain ⟨y0, y1, y2, y3, yf⟩ := HR.out.box0; obtain ⟨r0, r1, r2, r3, rf⟩ := HR.out.box1
  go_wp2_with fail
  (try clear r0 r1 r2 r3 rf)
  (try clear y0 y1 y2 y3 yf)
  go_at_call 43; refine (HR.out.block (ih n (Nat.le_refl n)) 56 _ q HS.out (by (try simp only [List.length_append, List.length_nil, List.length_singleton, List.length_cons]); omega) HQ.out).mono ?_; rintro e w9 ⟨v9, rfl, hR⟩; obtain ⟨A9, n9, c9, rfl⟩ := hR.sl; clear HR; have HR := Aside0.mk hR; clear hR; generalize hs9 : wsum ((nextL C.L st).1 ++ b.1 ++ c.1 ++ (nextL C.L c.2).1 ++ q.1) 0 = s9; have HS := Aside0.mk hs9; clear hs9; obtain ⟨y0, y1, y2, y3, yf⟩ := HR.out.box0; obtain ⟨r0, r1, r2, r3, rf⟩ := HR.out.box1
  go_wp2
  have hR := (HR.out).st1 (.int .u8 56) (.int .u8 0) (.int .i64 s9) (.slice A9 n9 c9)
  refine bodyPost_ret (results_cell_row rfl _ _ w.heap.size 25 _ (0, 0) _ rfl hR.bx1 Try.underlying25 rfl (by kernel_rfl)) rfl (hR.leafw (by (try simp only [List.length_append, List.length_nil, List.length_singleton, List.length_cons]); omega) 56 HS.out)
set_option maxHeartbeats 600000 in
set_option maxRecDepth 100000 in
theorem rstmt_if2 (C : RC) {n : Nat} (ih : ∀ k, k ≤ n → RAll C k) (w : World) (pb : Nat) (st : RSt) (hP : RPar C w pb st) (hs : stat (st.kd C.L) = 56) (b c : List Tr × RSt) (hb : Ps.expr C.L C.orc n (nextL C.L st).2 = some b) (hc : Ps.block C.L C.orc n b.2 = some c) (h13 : c.2.kd C.L = 13) (h12 : (nextL C.L c.2).2.kd C.L = 12) (q : List Tr × RSt) (hq : putL C.L C.orc 59 (Ps.statement C.L C.orc n) (nextL C.L c.2).2 = some q) :
    Calls Try.prog 28 #[.pointer (some ⟨pb, 0, none⟩)] w (RLv C pb w (Ps.node 56 ((nextL C.L st).1 ++ b.1 ++ c.1 ++ (nextL C.L c.2).1 ++ q.1)) (q.2)) := by
  have hk : st.kd C.L ≠ 0 := of_stat (by rw [hs]; decide)
  have h1 := rnext_len C st
  have hpw := hP.lt
  have HR := Aside0.mk ((RRun.start0 hP).box w.heap.size #[.int .u8 0, .int .u8 0, .int .i64 0, .slice none 0 0] 25 rfl)
  have hL := C.hL
  have HK := Aside0.mk hk
  have hle1 := (next_ok hk).2
  have HKD := Aside0.mk (fun w h => rkind_any C w pb st h)
  have HST := Aside0.mk (fun w => hs ▸ rstat_any (st.kd C.L) w)
  have heb := rexpr_len C hle1 hb
  have hebc := rblock_len C heb.2 hc
  have hb1 := heb.1
  have hc1 := hebc.1
  have hcle := hebc.2
  have HB := Aside0.mk hb
  have HC := Aside0.mk hc
  have hkc : c.2.kd C.L ≠ 0 := by rw [h13]; decide
  have HKC := Aside0.mk hkc
  have hn2 := rnext_len C c.2
  have hle2 := (next_ok hkc).2
  have HKD2 := Aside0.mk (fun w h => h13 ▸ rkind_any C w pb c.2 h)
  have HKD3 := Aside0.mk (fun w h => h12 ▸ rkind_any C w pb (nextL C.L c.2).2 h)
  have hgl := rgap_len C (nextL C.L c.2).2
  have HNX : Aside0 (nx C.L ((nextL C.L c.2).2.to C.L).at_ = ((nextL C.L c.2).2.to C.L).at_) := ⟨nx_nx C.L _ hle2⟩
  have HSK : Aside0 (stat (((nextL C.L c.2).2.to C.L).kd C.L) ≠ 0) := ⟨by rw [to_kd hle2, h12]; decide⟩
  rw [putL_hit] at hq
  clear h13 h12 hb hc heb hebc hkc
  clear hP
  generalize st.kd C.L = kd at HKD HST
  clear hs hk
  cases hh : hit C.T C.L.length 59 (nx C.L (nextL C.L c.2).2.at_) with
  | some x =>
    obtain ⟨t, tc⟩ := x
    rw [hh] at hq
    obtain rfl := Option.some.inj hq
    have HH := Aside0.mk hh
    clear hq hh
    go_enter Try.func28, Try.ntmps28
    go_wp2_with fail
    (try clear r0 r1 r2 r3 rf)
    go_at_call 15; refine (HKD.out _ HR.out.par).mono ?_; rintro e w1 ⟨rfl, hb⟩; have hR := HR.out.below hb; clear hb; clear HR; have HR := Aside0.mk hR; clear hR; obtain ⟨r0, r1, r2, r3, rf⟩ := HR.out.box0
    go_wp2_with fail
    go_at_call 25; refine (HST.out _).mono ?_; rintro e w2 ⟨rfl, hw⟩; obtain rfl := hw.symm
    go_wp2_with fail
    have hbl := blk_lt HR.out.bx0
    have hbn := Nat.ne_of_lt hbl
    have hbm := Nat.ne_of_gt hbl
    clear HKD HST
    go_wp2_with fail
    have hR := HR.out.box w1.heap.size #[.int .u8 56, .int .u8 0, .int .i64 0, .slice none 0 0] 25 rfl; clear HR; have HR := Aside0.mk hR; clear hR
    (try clear r0 r1 r2 r3 rf)
    (try clear y0 y1 y2 y3 yf)
    go_at_call 29; refine (HR.out.take0 56 HK.out).mono ?_; rintro e w3 ⟨v3, rfl, hR⟩; obtain ⟨A3, n3, c3, rfl⟩ := hR.sl; clear HR; have HR := Aside0.mk hR; clear hR; generalize hs3 : wsum ((nextL C.L st).1) 0 = s3; have HS := Aside0.mk hs3; clear hs3; obtain ⟨y0, y1, y2, y3, yf⟩ := HR.out.box0; obtain ⟨r0, r1, r2, r3, rf⟩ := HR.out.box1
    go_wp2_with fail
    have hR := HR.out.st0 (.int .u8 56) (.int .u8 0) (.int .i64 s3) (.slice A3 n3 c3); clear HR; have HR := Aside0.mk hR; clear hR
    (try clear r0 r1 r2 r3 rf)
    (try clear y0 y1 y2 y3 yf)
    go_at_call 41; refine (HR.out.expr (ih n (Nat.le_refl n)) 56 _ b HS.out (by (try simp only [List.length_append, List.length_nil, List.length_singleton, List.length_cons]); omega) HB.out).mono ?_; rintro e w4 ⟨v4, rfl, hR⟩; obtain ⟨A4, n4, c4, rfl⟩ := hR.sl; clear HR; have HR := Aside0.mk hR; clear hR; generalize hs4 : wsum ((nextL C.L st).1 ++ b.1) 0 = s4; have HS := Aside0.mk hs4; clear hs4; obtain ⟨y0, y1, y2, y3, yf⟩ := HR.out.box0; obtain ⟨r0, r1, r2, r3, rf⟩ := HR.out.box1
    go_wp2_with fail
    have hR := HR.out.st0 (.int .u8 56) (.int .u8 0) (.int .i64 s4) (.slice A4 n4 c4); clear HR; have HR := Aside0.mk hR; clear hR
    (try clear r0 r1 r2 r3 rf)
    (try clear y0 y1 y2 y3 yf)
    go_at_call 43; refine (HR.out.block (ih n (Nat.le_refl n)) 56 _ c HS.out (by (try simp only [List.length_append, List.length_nil, List.length_singleton, List.length_cons]); omega) HC.out).mono ?_; rintro e w5 ⟨v5, rfl, hR⟩; obtain ⟨A5, n5, c5, rfl⟩ := hR.sl; clear HR; have HR := Aside0.mk hR; clear hR; generalize hs5 : wsum ((nextL C.L st).1 ++ b.1 ++ c.1) 0 = s5; have HS := Aside0.mk hs5; clear hs5; obtain ⟨y0, y1, y2, y3, yf⟩ := HR.out.box0; obtain ⟨r0, r1, r2, r3, rf⟩ := HR.out.box1
    go_wp2_with fail
    have hR := HR.out.st0 (.int .u8 56) (.int .u8 0) (.int .i64 s5) (.slice A5 n5 c5); clear HR; have HR := Aside0.mk hR; clear hR
    (try clear r0 r1 r2 r3 rf)
    (try clear y0 y1 y2 y3 yf)
    go_at_call 15; refine (HKD2.out _ HR.out.par).mono ?_; rintro e w6 ⟨rfl, hb⟩; have hR := HR.out.below hb; clear hb; clear HR; have HR := Aside0.mk hR; clear hR; obtain ⟨y0, y1, y2, y3, yf⟩ := HR.out.box0; obtain ⟨r0, r1, r2, r3, rf⟩ := HR.out.box1
    go_wp2_with fail
    (try clear r0 r1 r2 r3 rf)
    (try clear y0 y1 y2 y3 yf)
    go_at_call 29; refine (HR.out.take 56 _ HS.out (by (try simp only [List.length_append, List.length_nil, List.length_singleton, List.length_cons]); omega) HKC.out).mono ?_; rintro e w7 ⟨v7, rfl, hR⟩; obtain ⟨A7, n7, c7, rfl⟩ := hR.sl; clear HR; have HR := Aside0.mk hR; clear hR; generalize hs7 : wsum ((nextL C.L st).1 ++ b.1 ++ c.1 ++ (nextL C.L c.2).1) 0 = s7; have HS := Aside0.mk hs7; clear hs7; obtain ⟨y0, y1, y2, y3, yf⟩ := HR.out.box0; obtain ⟨r0, r1, r2, r3, rf⟩ := HR.out.box1
    go_wp2_with fail
    have hR := HR.out.st0 (.int .u8 56) (.int .u8 0) (.int .i64 s7) (.slice A7 n7 c7); clear HR; have HR := Aside0.mk hR; clear hR
    (try clear r0 r1 r2 r3 rf)
    (try clear y0 y1 y2 y3 yf)
    go_at_call 15; refine (HKD3.out _ HR.out.par).mono ?_; rintro e w8 ⟨rfl, hb⟩; have hR := HR.out.below hb; clear hb; clear HR; have HR := Aside0.mk hR; clear hR; obtain ⟨y0, y1, y2, y3, yf⟩ := HR.out.box0; obtain ⟨r0, r1, r2, r3, rf⟩ := HR.out.box1
    go_wp2_with fail
    (try clear r0 r1 r2 r3 rf)
    (try clear y0 y1 y2 y3 yf)
    go_at_call 17; refine (HR.out.gap 56 _ HS.out (by (try simp only [List.length_append, List.length_nil, List.length_singleton, List.length_cons]); omega)).mono ?_; rintro e w9 ⟨v9, rfl, hR⟩; obtain ⟨A9, n9, c9, rfl⟩ := hR.sl; clear HR; have HR := Aside0.mk hR; clear hR; generalize hs9 : wsum ((nextL C.L st).1 ++ b.1 ++ c.1 ++ (nextL C.L c.2).1 ++ gapL C.L (nextL C.L c.2).2) 0 = s9; have HS := Aside0.mk hs9; clear hs9; obtain ⟨y0, y1, y2, y3, yf⟩ := HR.out.box0; obtain ⟨r0, r1, r2, r3, rf⟩ := HR.out.box1
    go_wp2_with fail
    have hR := HR.out.st0 (.int .u8 56) (.int .u8 0) (.int .i64 s9) (.slice A9 n9 c9); clear HR; have HR := Aside0.mk hR; clear hR
    (try clear r0 r1 r2 r3 rf)
    (try clear y0 y1 y2 y3 yf)
    go_at_call 26
    refine (HR.out.tkYes 56 _ 59 HS.out (by (try simp only [List.length_append, List.length_nil, List.length_singleton, List.length_cons]); omega) HNX.out HH.out).mono ?_
    rintro e w10 ⟨v10, rfl, hR⟩
    obtain ⟨A10, n10, c10, rfl⟩ := hR.sl; clear HR; have HR := Aside0.mk hR; clear hR; generalize hs10 : wsum ((nextL C.L st).1 ++ b.1 ++ c.1 ++ (nextL C.L c.2).1 ++ gapL C.L (nextL C.L c.2).2 ++ [t]) 0 = s10; have HS := Aside0.mk hs10; clear hs10; obtain ⟨y0, y1, y2, y3, yf⟩ := HR.out.box0; obtain ⟨r0, r1, r2, r3, rf⟩ := HR.out.box1
    have hlt0 := blk_lt HR.out.bx0
    have hlt1 := blk_lt HR.out.bx1
    go_wp2
    have hR := (HR.out.st1 (.int .u8 56) (.int .u8 0) (.int .i64 s10) (.slice A10 n10 c10)).box w10.heap.size #[.int .u8 56, .int .u8 0, .int .i64 s10, .slice A10 n10 c10] 25 (by simp only [World.size_setCell])
    refine bodyPost_ret (results_cell_row rfl _ _ w.heap.size 25 _ (0, 0) _ rfl hR.bx2 Try.underlying25 rfl (by kernel_rfl)) rfl ((hR.leafw (by (try simp only [List.length_append, List.length_nil, List.length_singleton, List.length_cons]); omega) 56 HS.out).tree (by simp only [List.append_assoc]))
  | none =>
    rw [hh] at hq
    obtain ⟨p, hp, rfl⟩ := Option.map_eq_some_iff.mp hq
    have HH := Aside0.mk hh
    have HX := Aside0.mk hp
    clear hq hh hp
    go_enter Try.func28, Try.ntmps28
    go_wp2_with fail
    (try clear r0 r1 r2 r3 rf)
    go_at_call 15; refine (HKD.out _ HR.out.par).mono ?_; rintro e w1 ⟨rfl, hb⟩; have hR := HR.out.below hb; clear hb; clear HR; have HR := Aside0.mk hR; clear hR; obtain ⟨r0, r1, r2, r3, rf⟩ := HR.out.box0
    go_wp2_with fail
    go_at_call 25; refine (HST.out _).mono ?_; rintro e w2 ⟨rfl, hw⟩; obtain rfl := hw.symm
    go_wp2_with fail
    have hbl := blk_lt HR.out.bx0
    have hbn := Nat.ne_of_lt hbl
    have hbm := Nat.ne_of_gt hbl
    clear HKD HST
    go_wp2_with fail
    have hR := HR.out.box w1.heap.size #[.int .u8 56, .int .u8 0, .int .i64 0, .slice none 0 0] 25 rfl; clear HR; have HR := Aside0.mk hR; clear hR
    (try clear r0 r1 r2 r3 rf)
    (try clear y0 y1 y2 y3 yf)
    go_at_call 29; refine (HR.out.take0 56 HK.out).mono ?_; rintro e w3 ⟨v3, rfl, hR⟩; obtain ⟨A3, n3, c3, rfl⟩ := hR.sl; clear HR; have HR := Aside0.mk hR; clear hR; generalize hs3 : wsum ((nextL C.L st).1) 0 = s3; have HS := Aside0.mk hs3; clear hs3; obtain ⟨y0, y1, y2, y3, yf⟩ := HR.out.box0; obtain ⟨r0, r1, r2, r3, rf⟩ := HR.out.box1
    go_wp2_with fail
    have hR := HR.out.st0 (.int .u8 56) (.int .u8 0) (.int .i64 s3) (.slice A3 n3 c3); clear HR; have HR := Aside0.mk hR; clear hR
    (try clear r0 r1 r2 r3 rf)
    (try clear y0 y1 y2 y3 yf)
    go_at_call 41; refine (HR.out.expr (ih n (Nat.le_refl n)) 56 _ b HS.out (by (try simp only [List.length_append, List.length_nil, List.length_singleton, List.length_cons]); omega) HB.out).mono ?_; rintro e w4 ⟨v4, rfl, hR⟩; obtain ⟨A4, n4, c4, rfl⟩ := hR.sl; clear HR; have HR := Aside0.mk hR; clear hR; generalize hs4 : wsum ((nextL C.L st).1 ++ b.1) 0 = s4; have HS := Aside0.mk hs4; clear hs4; obtain ⟨y0, y1, y2, y3, yf⟩ := HR.out.box0; obtain ⟨r0, r1, r2, r3, rf⟩ := HR.out.box1
    go_wp2_with fail
    have hR := HR.out.st0 (.int .u8 56) (.int .u8 0) (.int .i64 s4) (.slice A4 n4 c4); clear HR; have HR := Aside0.mk hR; clear hR
    (try clear r0 r1 r2 r3 rf)
    (try clear y0 y1 y2 y3 yf)
    go_at_call 43; refine (HR.out.block (ih n (Nat.le_refl n)) 56 _ c HS.out (by (try simp only [List.length_append, List.length_nil, List.length_singleton, List.length_cons]); omega) HC.out).mono ?_; rintro e w5 ⟨v5, rfl, hR⟩; obtain ⟨A5, n5, c5, rfl⟩ := hR.sl; clear HR; have HR := Aside0.mk hR; clear hR; generalize hs5 : wsum ((nextL C.L st).1 ++ b.1 ++ c.1) 0 = s5; have HS := Aside0.mk hs5; clear hs5; obtain ⟨y0, y1, y2, y3, yf⟩ := HR.out.box0; obtain ⟨r0, r1, r2, r3, rf⟩ := HR.out.box1
    go_wp2_with fail
    have hR := HR.out.st0 (.int .u8 56) (.int .u8 0) (.int .i64 s5) (.slice A5 n5 c5); clear HR; have HR := Aside0.mk hR; clear hR
    (try clear r0 r1 r2 r3 rf)
    (try clear y0 y1 y2 y3 yf)
    go_at_call 15; refine (HKD2.out _ HR.out.par).mono ?_; rintro e w6 ⟨rfl, hb⟩; have hR := HR.out.below hb; clear hb; clear HR; have HR := Aside0.mk hR; clear hR; obtain ⟨y0, y1, y2, y3, yf⟩ := HR.out.box0; obtain ⟨r0, r1, r2, r3, rf⟩ := HR.out.box1
    go_wp2_with fail
    (try clear r0 r1 r2 r3 rf)
    (try clear y0 y1 y2 y3 yf)
    go_at_call 29; refine (HR.out.take 56 _ HS.out (by (try simp only [List.length_append, List.length_nil, List.length_singleton, List.length_cons]); omega) HKC.out).mono ?_; rintro e w7 ⟨v7, rfl, hR⟩; obtain ⟨A7, n7, c7, rfl⟩ := hR.sl; clear HR; have HR := Aside0.mk hR; clear hR; generalize hs7 : wsum ((nextL C.L st).1 ++ b.1 ++ c.1 ++ (nextL C.L c.2).1) 0 = s7; have HS := Aside0.mk hs7; clear hs7; obtain ⟨y0, y1, y2, y3, yf⟩ := HR.out.box0; obtain ⟨r0, r1, r2, r3, rf⟩ := HR.out.box1
    go_wp2_with fail
    have hR := HR.out.st0 (.int .u8 56) (.int .u8 0) (.int .i64 s7) (.slice A7 n7 c7); clear HR; have HR := Aside0.mk hR; clear hR
    (try clear r0 r1 r2 r3 rf)
    (try clear y0 y1 y2 y3 yf)
    go_at_call 15; refine (HKD3.out _ HR.out.par).mono ?_; rintro e w8 ⟨rfl, hb⟩; have hR := HR.out.below hb; clear hb; clear HR; have HR := Aside0.mk hR; clear hR; obtain ⟨y0, y1, y2, y3, yf⟩ := HR.out.box0; obtain ⟨r0, r1, r2, r3, rf⟩ := HR.out.box1
    go_wp2_with fail
    (try clear r0 r1 r2 r3 rf)
    (try clear y0 y1 y2 y3 yf)
    go_at_call 17; refine (HR.out.gap 56 _ HS.out (by (try simp only [List.length_append, List.length_nil, List.length_singleton, List.length_cons]); omega)).mono ?_; rintro e w9 ⟨v9, rfl, hR⟩; obtain ⟨A9, n9, c9, rfl⟩ := hR.sl; clear HR; have HR := Aside0.mk hR; clear hR; generalize hs9 : wsum ((nextL C.L st).1 ++ b.1 ++ c.1 ++ (nextL C.L c.2).1 ++ gapL C.L (nextL C.L c.2).2) 0 = s9; have HS := Aside0.mk hs9; clear hs9; obtain ⟨y0, y1, y2, y3, yf⟩ := HR.out.box0; obtain ⟨r0, r1, r2, r3, rf⟩ := HR.out.box1
    go_wp2_with fail
    have hR := HR.out.st0 (.int .u8 56) (.int .u8 0) (.int .i64 s9) (.slice A9 n9 c9); clear HR; have HR := Aside0.mk hR; clear hR
    (try clear r0 r1 r2 r3 rf)
    (try clear y0 y1 y2 y3 yf)
    go_at_call 26
    refine (HR.out.tkNo 56 _ 59 HS.out (by (try simp only [List.length_append, List.length_nil, List.length_singleton, List.length_cons]); omega) HNX.out HH.out).mono ?_
    rintro e w10 ⟨rfl, hR⟩; clear HR; have HR := Aside0.mk hR; clear hR; obtain ⟨y0, y1, y2, y3, yf⟩ := HR.out.box0; obtain ⟨r0, r1, r2, r3, rf⟩ := HR.out.box1
    go_wp2_with fail
    have hR := HR.out.box w10.heap.size #[.int .u8 56, .int .u8 0, .int .i64 s9, .slice A9 n9 c9] 25 rfl; clear HR; have HR := Aside0.mk hR; clear hR
    (try clear r0 r1 r2 r3 rf)
    (try clear y0 y1 y2 y3 yf)
    generalize (w10.alloc (.cells #[.int .u8 56, .int .u8 0, .int .i64 s9, .slice A9 n9 c9] 25)) = w11 at *
    have hR := HR.out.below (Below.refl _ _).drew
    obtain ⟨y0, y1, y2, y3, yf⟩ := HR.out.box1; clear HR; have HR := Aside0.mk hR; clear hR
    go_region_held3 (fun w' => w'.cell? ⟨w1.heap.size, 0, none⟩ = some (.int .u8 56) ∧ w'.cell? ⟨w1.heap.size, 1, none⟩ = some (.int .u8 0) ∧ w'.cell? ⟨w1.heap.size, 2, none⟩ = some (.int .i64 s9) ∧ w'.cell? ⟨w1.heap.size, 3, none⟩ = some (.slice A9 n9 c9)) (first | go_keep | exact ⟨y0, y1, y2, y3⟩) ((first | (go_at_call 28; refine ((ih n (Nat.le_refl n)).statement _ pb ((nextL C.L c.2).2.to C.L) p HR.out.par HSK.out HNX.out HX.out).mono ?_; rintro e w12 ⟨cs12, rfl, hN, hP, hF⟩; obtain ⟨A12, n12, c12, rfl, _⟩ := hN.four; have HNb := Aside0.mk (HR.out.kid hN); have hR := HR.out.part hF hP; clear hN hP hF; clear HR; have HR := Aside0.mk hR; clear hR; clear y0 y1 y2 y3 yf; obtain ⟨y0, y1, y2, y3, yf⟩ := HR.out.box1; obtain ⟨r0, r1, r2, r3, rf⟩ := HR.out.box2) | (go_at_call 27; refine (HR.out.addN 56 _ p.1 _ HS.out HNb.out (by (try simp only [List.length_append, List.length_nil, List.length_singleton, List.length_cons]); omega)).mono ?_; clear HNb; rintro e w13 ⟨v13, rfl, hR⟩; obtain ⟨A13, n13, c13, rfl⟩ := hR.sl; clear HR; have HR := Aside0.mk hR; clear hR; generalize hs : wsum ((nextL C.L st).1 ++ b.1 ++ c.1 ++ (nextL C.L c.2).1 ++ gapL C.L (nextL C.L c.2).2 ++ [p.1]) 0 = s13; have HS := Aside0.mk hs; clear hs; clear y0 y1 y2 y3 yf; (try clear r0 r1 r2 r3 rf); obtain ⟨y0, y1, y2, y3, yf⟩ := HR.out.box1; obtain ⟨r0, r1, r2, r3, rf⟩ := HR.out.box2)))
    go_wp2
    have hR := (HR.out).st2 (.int .u8 56) (.int .u8 0) (.int .i64 s13) (.slice A13 n13 c13)
    refine bodyPost_ret (results_cell_row rfl _ _ w.heap.size 25 _ (0, 0) _ rfl hR.bx2 Try.underlying25 rfl (by kernel_rfl)) rfl ((hR.leafw (by (try simp only [List.length_append, List.length_nil, List.length_singleton, List.length_cons]); omega) 56 HS.out).tree (by simp only [List.append_assoc]))
end Go.Proofs.Ytalnicdpcigocaa.PR
namespace Go.Proofs.Ytalnicdpcigocaa.PR
open Go.RowKit Ps PM PL PP GR Go.Proofs.YtalnicdpcigocaaW.PrintWords Go.Proofs.YtalnicdpcigocaaW.PrintLast Go.Proofs.YtalnicdpcigocaaW.PrintMore
set_option linter.unusedVariables false
set_option linter.unusedSimpArgs false
theorem RRun.tkYes0 {C : RC} {Z : Nat → Prop} {bs : List Bx} {pb : Nat} {w : World} {v : Value} {st : RSt} {w1 : World} {v1 : Value} (h : RRun C Z bs pb w v [] st w1 v1) (kind k : Int) (hnx : nx C.L st.at_ = st.at_) {t : Tr} {c : Nat} (hh : hit C.T C.L.length k st.at_ = some (t, c)) :
    Calls Try.prog 26 #[.pointer (some ⟨pb, 0, none⟩), .agg #[.int .u8 kind, .int .u8 0, .int .i64 0, v1], .int .u8 k] w1 fun e w' => ∃ v2, e = .returned (.tuple #[.agg #[.int .u8 kind, .int .u8 0, .int .i64 (wsum [t] 0), v2], .bool true]) ∧ RRun C Z bs pb w v [t] ⟨st.at_ + c, ()⟩ w' v2 :=
  (h.tkYes kind 0 k rfl (by simp) hnx hh).mono (fun e w' k => k)
theorem RRun.kid0 {C : RC} {bs : List Bx} {pb : Nat} {w : World} {t : Tr} {st : RSt} {w1 : World} {v1 : Value} (h : RRun C (fun _ => False) bs pb w (.slice none 0 0) [t] st w1 v1) :
    ∃ (g c n cc : Nat) (A : Option Addr), v1 = .slice (some ⟨g, 0, none⟩) 1 c ∧ w1.cell? ⟨g, 0, none⟩ = some (.int .u8 t.kind) ∧ w1.cell? ⟨g, 1, none⟩ = some (.int .u8 t.want) ∧ w1.cell? ⟨g, 2, none⟩ = some (.int .i64 t.width) ∧ w1.cell? ⟨g, 3, none⟩ = some (.slice A n cc) ∧
      Hold C bs w w1 t [.int .u8 t.kind, .int .u8 t.want, .int .i64 t.width, .slice A n cc] := by
  obtain ⟨xs, hown, hk⟩ := h.nd.row
  obtain ⟨g, cap, rfl, hg, hlt⟩ := hown.form (by simp)
  obtain ⟨cs, hN, hx⟩ := hk 0 t rfl
  obtain ⟨A, n, cc, rfl, _, _, _, _⟩ := hN.four
  refine ⟨g, cap, n, cc, A, rfl, ?_, ?_, ?_, ?_, hN.move (fun b hb _ => ⟨hb.1, rfl⟩)⟩
  · rw [hown.cellAt _ (by simp)]; exact hx 0 _ rfl
  · rw [hown.cellAt _ (by simp)]; exact hx 1 _ rfl
  · rw [hown.cellAt _ (by simp)]; exact hx 2 _ rfl
  · rw [hown.cellAt _ (by simp)]; exact hx 3 _ rfl
theorem Hold.st2 {C : RC} {bs : List Bx} {w w1 : World} {t : Tr} {cs : List Value} {y y' : Bx} {nb : Nat} {ds : Array Value} {T : TypeId} (h : Hold C (y :: y' :: (nb, ds, T) :: bs) w w1 t cs) (a b c d : Value) :
    Hold C (y :: y' :: (nb, #[a, b, c, d], T) :: bs) w ((((w1.setCell ⟨nb, 0, none⟩ a).setCell ⟨nb, 1, none⟩ b).setCell ⟨nb, 2, none⟩ c).setCell ⟨nb, 3, none⟩ d) t cs :=
  h.set ⟨_, List.mem_cons_of_mem _ (List.mem_cons_of_mem _ List.mem_cons_self), rfl⟩ (set4_fr (X := fun b => b = nb) (FrX.refl _ _) rfl _ _ _ _) rfl
theorem stat_59 {k : Int} (h0 : stat k ≠ 0) (h1 : stat k ≠ 53) (h2 : stat k ≠ 54) (h3 : stat k ≠ 56) (h4 : stat k ≠ 57) (h5 : stat k ≠ 58) (h6 : stat k ≠ 52) : stat k = 59 := by
  have hb := stat_do h0 h1 h2 h3 h4 h5 h6
  have e1 : k ≠ 10 := fun e => h1 (by rw [e]; rfl)
  have e2 : k ≠ 11 := fun e => h2 (by rw [e]; rfl)
  have e3 : k ≠ 12 := fun e => h3 (by rw [e]; rfl)
  have e4 : k ≠ 14 := fun e => h4 (by rw [e]; rfl)
  have e5 : k ≠ 15 := fun e => h5 (by rw [e]; rfl)
  have e6 : k ≠ 22 := fun e => h6 (by rw [e]; rfl)
  unfold stat
  rw [if_neg e1, if_neg e2, if_neg e3, if_neg e4, if_neg e5, if_neg e6, if_pos hb]
set_option maxHeartbeats 600000 in
set_option maxRecDepth 100000 in
theorem rstmt_block (C : RC) {n : Nat} (ih : ∀ k, k ≤ n → RAll C k) (w : World) (pb : Nat) (st : RSt) (x : Tr) (l : List Tr) (b2 : RSt) (hP : RPar C w pb st) (hnx : nx C.L st.at_ = st.at_) (hs : stat (st.kd C.L) = 52) (hb : Ps.block C.L C.orc n st = some (x :: l, b2)) :
    Calls Try.prog 28 #[.pointer (some ⟨pb, 0, none⟩)] w (RLv C pb w x b2) := by
  have hk : st.kd C.L ≠ 0 := of_stat (by rw [hs]; decide)
  have h22 := stat_block hs
  cases n with
  | zero => rw [Ps.block] at hb; cases hb
  | succ m =>
  rw [Ps.block, if_pos h22, putL_hit] at hb
  have hgap : gapL C.L st = [] := by unfold gapL; rw [hnx, Nat.sub_self]; rfl
  have hpw := hP.lt
  have HR := Aside0.mk ((RRun.start0 hP).box w.heap.size #[.int .u8 0, .int .u8 0, .int .i64 0, .slice none 0 0] 25 rfl)
  have HK := Aside0.mk hk
  have HNX := Aside0.mk hnx
  have HKD := Aside0.mk (fun w h => rkind_any C w pb st h)
  have HST := Aside0.mk (fun w => hs ▸ rstat_any (st.kd C.L) w)
  rw [hnx, hgap] at hb
  clear hP
  generalize st.kd C.L = kd at HKD HST
  clear hs hk h22 hnx hgap
  cases hh : hit C.T C.L.length 52 st.at_ with
  | some y =>
    obtain ⟨t, tc⟩ := y
    rw [hh] at hb
    have hb := Option.some.inj hb
    injection hb with hb1 hb2
    rw [List.nil_append] at hb1
    injection hb1 with hb1 hb3
    subst hb1 hb2
    have HH := Aside0.mk hh
    clear hh hb3
    go_enter Try.func28, Try.ntmps28
    go_wp2_with fail
    (try clear r0 r1 r2 r3 rf)
    go_at_call 15; refine (HKD.out _ HR.out.par).mono ?_; rintro e w1 ⟨rfl, hb⟩; have hR := HR.out.below hb; clear hb; clear HR; have HR := Aside0.mk hR; clear hR; obtain ⟨r0, r1, r2, r3, rf⟩ := HR.out.box0
    go_wp2_with fail
    go_at_call 25; refine (HST.out _).mono ?_; rintro e w2 ⟨rfl, hw⟩; obtain rfl := hw.symm
    go_wp2_with fail
    have hbl := blk_lt HR.out.bx0
    have hbn := Nat.ne_of_lt hbl
    have hbm := Nat.ne_of_gt hbl
    clear HKD HST
    go_wp2_with fail
    have hR := HR.out.box w1.heap.size #[.int .u8 52, .int .u8 0, .int .i64 0, .slice none 0 0] 25 rfl; clear HR; have HR := Aside0.mk hR; clear hR
    (try clear r0 r1 r2 r3 rf)
    (try clear y0 y1 y2 y3 yf)
    go_at_call 26
    refine (HR.out.tkYes0 0 52 HNX.out HH.out).mono ?_
    rintro e w3 ⟨v3, rfl, hR⟩
    obtain ⟨kg, kc, kn, kcc, kA, rfl, q0, q1, q2, q3, hH⟩ := hR.kid0
    have hf := (hR.fin (by simp) 0 rfl).1
    clear HR
    have HR := Aside0.mk hf
    have HH2 := Aside0.mk hH
    clear hR hH hf
    obtain ⟨r0, r1, r2, r3, rf⟩ := HR.out.box1
    have aq0 := alloc_cell q0
    have aq1 := alloc_cell q1
    have aq2 := alloc_cell q2
    have aq3 := alloc_cell q3
    have hlg := cell_lt q0
    have hlt1 := blk_lt HR.out.bx1
    generalize wsum [t] 0 = s1 at *
    generalize htk : t.kind = tk at *
    generalize htw : t.want = tw at *
    generalize htd : t.width = td at *
    clear htk htw htd
    go_wp2
    have hR := (HR.out.st1 (.int .u8 tk) (.int .u8 tw) (.int .i64 td) (.slice kA kn kcc)).box w3.heap.size #[.int .u8 0, .int .u8 0, .int .i64 s1, .slice (some ⟨kg, 0, none⟩) 1 kc] 25 (by simp only [World.size_setCell])
    have hH := (HH2.out.st1 (.int .u8 tk) (.int .u8 tw) (.int .i64 td) (.slice kA kn kcc)).box w3.heap.size #[.int .u8 0, .int .u8 0, .int .i64 s1, .slice (some ⟨kg, 0, none⟩) 1 kc] 25 (by simp only [World.size_setCell])
    refine bodyPost_ret (results_cell_row rfl _ _ w.heap.size 25 _ (0, 0) _ rfl hR.bx2 Try.underlying25 rfl (by kernel_rfl)) rfl (hH.ret hR)
  | none =>
    rw [hh] at hb
    obtain ⟨q, hq, hb⟩ := Option.map_eq_some_iff.mp hb
    injection hb with hb1 hb2
    rw [List.nil_append] at hb1
    injection hb1 with hb1 hb3
    subst hb1 hb2
    have HH := Aside0.mk hh
    have HX := Aside0.mk hq
    clear hh hb3 hq
    go_enter Try.func28, Try.ntmps28
    go_wp2_with fail
    (try clear r0 r1 r2 r3 rf)
    go_at_call 15; refine (HKD.out _ HR.out.par).mono ?_; rintro e w1 ⟨rfl, hb⟩; have hR := HR.out.below hb; clear hb; clear HR; have HR := Aside0.mk hR; clear hR; obtain ⟨r0, r1, r2, r3, rf⟩ := HR.out.box0
    go_wp2_with fail
    go_at_call 25; refine (HST.out _).mono ?_; rintro e w2 ⟨rfl, hw⟩; obtain rfl := hw.symm
    go_wp2_with fail
    have hbl := blk_lt HR.out.bx0
    have hbn := Nat.ne_of_lt hbl
    have hbm := Nat.ne_of_gt hbl
    clear HKD HST
    go_wp2_with fail
    have hR := HR.out.box w1.heap.size #[.int .u8 52, .int .u8 0, .int .i64 0, .slice none 0 0] 25 rfl; clear HR; have HR := Aside0.mk hR; clear hR
    (try clear r0 r1 r2 r3 rf)
    (try clear y0 y1 y2 y3 yf)
    go_at_call 26
    refine (HR.out.tkNo 0 0 52 rfl (by simp) HNX.out HH.out).mono ?_
    rintro e w3 ⟨rfl, hR⟩; clear HR; have HR := Aside0.mk hR; clear hR
    go_wp2_with fail
    have hR := HR.out.box w3.heap.size #[.int .u8 0, .int .u8 0, .int .i64 0, .slice none 0 0] 25 rfl; clear HR; have HR := Aside0.mk hR; clear hR
    (try clear r0 r1 r2 r3 rf)
    go_at_call 44
    refine ((ih m (Nat.le_succ m)).begun _ pb st q HR.out.par HK.out HX.out).mono ?_
    rintro e w4 ⟨cs4, rfl, hN, hP, hF⟩
    obtain ⟨A4, n4, c4, rfl, _⟩ := hN.four
    have HN := Aside0.mk (HR.out.kid hN)
    have HN0 := Aside0.mk hN
    have hR := HR.out.part hF hP
    clear hN hF hP; clear HR; have HR := Aside0.mk hR; clear hR; obtain ⟨r0, r1, r2, r3, rf⟩ := HR.out.box2
    have HH2 := Aside0.mk (hold_of HN.out)
    clear HN HN0
    go_wp2
    have hR := HR.out.st2 (.int .u8 q.1.kind) (.int .u8 q.1.want) (.int .i64 q.1.width) (.slice A4 n4 c4)
    have hH := HH2.out.st2 (.int .u8 q.1.kind) (.int .u8 q.1.want) (.int .i64 q.1.width) (.slice A4 n4 c4)
    refine bodyPost_ret (results_cell_row rfl _ _ w.heap.size 25 _ (0, 0) _ rfl hR.bx2 Try.underlying25 rfl (by kernel_rfl)) rfl (Hold.ret hH hR)
theorem rstatement_succ (C : RC) {n : Nat} (ih : ∀ k, k ≤ n → RAll C k) (w : World) (pb : Nat) (st : RSt) (r : Tr × RSt) (hP : RPar C w pb st) (h0 : stat (st.kd C.L) ≠ 0) (hnx : nx C.L st.at_ = st.at_) (hr : Ps.statement C.L C.orc (n + 1) st = some r) :
    Calls Try.prog 28 #[.pointer (some ⟨pb, 0, none⟩)] w (RLv C pb w r.1 r.2) := by
  rw [Ps.statement] at hr
  dsimp only at hr
  by_cases h53 : stat (st.kd C.L) = 53
  · rw [if_pos h53] at hr
    obtain ⟨d, hd, hr⟩ := Option.bind_eq_some_iff.mp hr
    obtain rfl := Option.some.inj hr
    exact rstmt_let C ih w pb st hP h53 d hd
  rw [if_neg h53] at hr
  by_cases h54 : stat (st.kd C.L) = 54
  · rw [if_pos h54] at hr
    obtain ⟨p, hp, hr⟩ := Option.bind_eq_some_iff.mp hr
    obtain ⟨c, hc, hr⟩ := Option.bind_eq_some_iff.mp hr
    obtain rfl := Option.some.inj hr
    exact rstmt_fn C ih w pb st hP h54 p c hp hc
  rw [if_neg h54] at hr
  by_cases h56 : stat (st.kd C.L) = 56
  · rw [if_pos h56] at hr
    obtain ⟨b, hb, hr⟩ := Option.bind_eq_some_iff.mp hr
    obtain ⟨c, hc, hr⟩ := Option.bind_eq_some_iff.mp hr
    by_cases h13 : c.2.kd C.L = 13
    · rw [if_pos h13] at hr
      by_cases h12 : (nextL C.L c.2).2.kd C.L = 12
      · rw [if_pos h12] at hr
        obtain ⟨q, hq, hr⟩ := Option.bind_eq_some_iff.mp hr
        obtain rfl := Option.some.inj hr
        exact rstmt_if2 C ih w pb st hP h56 b c hb hc h13 h12 q hq
      · rw [if_neg h12] at hr
        obtain ⟨q, hq, hr⟩ := Option.bind_eq_some_iff.mp hr
        obtain rfl := Option.some.inj hr
        exact rstmt_if1 C ih w pb st hP h56 b c hb hc h13 h12 q hq
    · rw [if_neg h13] at hr
      obtain rfl := Option.some.inj hr
      exact rstmt_if0 C ih w pb st hP h56 b c hb hc h13
  rw [if_neg h56] at hr
  by_cases h57 : stat (st.kd C.L) = 57
  · rw [if_pos h57] at hr
    obtain ⟨b, hb, hr⟩ := Option.bind_eq_some_iff.mp hr
    obtain ⟨c, hc, hr⟩ := Option.bind_eq_some_iff.mp hr
    obtain rfl := Option.some.inj hr
    exact rstmt_loop C ih w pb st hP h57 b c hb hc (rblock_len C (rexpr_len C (next_ok (of_stat h0)).2 hb).2 hc).1
  rw [if_neg h57] at hr
  by_cases h58 : stat (st.kd C.L) = 58
  · rw [if_pos h58] at hr
    cases hbe : begins ((nextL C.L st).2.kd C.L) with
    | true =>
      rw [if_pos hbe] at hr
      obtain ⟨b, hb, hr⟩ := Option.bind_eq_some_iff.mp hr
      obtain rfl := Option.some.inj hr
      exact rstmt_back1 C ih w pb st hP h58 b hbe hb
    | false =>
      rw [if_neg (by rw [hbe]; decide)] at hr
      obtain rfl := Option.some.inj hr
      exact rstmt_back0 C ih w pb st hP h58 hbe
  rw [if_neg h58] at hr
  by_cases h52 : stat (st.kd C.L) = 52
  · rw [if_pos h52] at hr
    obtain ⟨b, hb, hr⟩ := Option.bind_eq_some_iff.mp hr
    obtain ⟨b1, b2⟩ := b
    cases b1 with
    | nil => cases hr
    | cons x l =>
      obtain rfl := Option.some.inj hr
      exact rstmt_block C ih w pb st x l b2 hP hnx h52 hb
  rw [if_neg h52] at hr
  have h59 := stat_59 h0 h53 h54 h56 h57 h58 h52
  obtain ⟨a, ha, hr⟩ := Option.bind_eq_some_iff.mp hr
  by_cases h26 : a.2.kd C.L = 26
  · rw [if_pos h26] at hr
    obtain ⟨c, hc, hr⟩ := Option.bind_eq_some_iff.mp hr
    obtain rfl := Option.some.inj hr
    exact rstmt_do1 C ih w pb st hP h59 a c ha h26 hc
  · rw [if_neg h26] at hr
    obtain rfl := Option.some.inj hr
    exact rstmt_do0 C ih w pb st hP h59 a ha h26
theorem rall_zero (C : RC) : RAll C 0 where
  statement := fun w pb st r _ _ _ h => by rw [Ps.statement] at h; cases h
  begun := fun w pb st r _ _ h => by rw [Ps.begun] at h; cases h
  level := fun w pb st k r _ _ _ h => by rw [Ps.level] at h; cases h
  unary := fun w pb st r _ _ h => by rw [Ps.unary] at h; cases h
  args := fun w pb st r _ _ h => by rw [Ps.args] at h; cases h
  primary := fun w pb st r _ _ h => by rw [Ps.primary] at h; cases h
  inner := fun Z w pb kind wd kids v st r _ _ _ _ _ _ h => by rw [Ps.inner] at h; cases h
  block := fun Z w pb kind wd kids v st r _ _ _ _ _ h => by rw [Ps.block] at h; cases h
  expr := fun Z w pb kind wd kids v st r _ _ _ _ _ h => by rw [Ps.expr] at h; cases h
theorem rall_succ (C : RC) {n : Nat} (ih : ∀ k, k ≤ n → RAll C k) : RAll C (n + 1) where
  statement := fun w pb st r hP h0 hnx h => rstatement_succ C ih w pb st r hP h0 hnx h
  begun := fun w pb st r hP hk h => rbegun_succ C ih w pb st r hP hk h
  level := fun w pb st k r hk hP hkd h => rlevel_succ C ih w pb st k r hk hP hkd h
  unary := fun w pb st r hP hk h => runary_succ C ih w pb st r hP hk h
  args := fun w pb st r hP hk h => rargs_succ C ih w pb st r hP hk h
  primary := fun w pb st r hP hk h => rprimary_succ C (ih n (Nat.le_refl n)) w pb st r hP hk h
  inner := fun Z w pb kind wd kids v st r hwd hZ hD hP hl hk h => rinner_succ C ih Z w pb kind wd kids v st r hwd hZ hD hP hl hk h
  block := fun Z w pb kind wd kids v st r hwd hZ hD hP hl h => rblock_succ C ih Z w pb kind wd kids v st r hwd hZ hD hP hl h
  expr := fun Z w pb kind wd kids v st r hwd hZ hD hP hl h => rexpr_succ C (ih n (Nat.le_refl n)) Z w pb kind wd kids v st r hwd hZ hD hP hl h
theorem rall_ok (C : RC) : ∀ n k, k ≤ n → RAll C k
  | 0, k, hk => by
    obtain rfl : k = 0 := by omega
    exact rall_zero C
  | n + 1, k, hk => by
    rcases Nat.lt_or_ge k (n + 1) with h | h
    · exact rall_ok C n k (by omega)
    · obtain rfl : k = n + 1 := by omega
      exact rall_succ C (rall_ok C n)
end Go.Proofs.Ytalnicdpcigocaa.PR
namespace Go.Proofs.Ytalnicdpcigocaa.PR
open Go.RowKit Ps PM PL PP GR Go.Proofs.YtalnicdpcigocaaW.PrintWords Go.Proofs.YtalnicdpcigocaaW.PrintLast Go.Proofs.YtalnicdpcigocaaW.PrintMore
set_option linter.unusedVariables false
set_option linter.unusedSimpArgs false
/-- what By leaves where all is well -/
def ByPost (C : RC) (w : World) (t : Tr) (e : Ending) (w' : World) : Prop := ∃ (cs : List Value) (p : Int), e = .returned (.tuple #[.agg cs.toArray, .int .i64 p, .int .i64 0]) ∧ NodeC (fun b => C.S0 b ∨ w.heap.size ≤ b) w' t cs ∧ Below w.heap.size w w'
/-- may it be? -/
def okTok (t : Tok) : Bool := isTok t.kind && (decide (1 ≤ t.width) && decide (t.width ≤ 67108864))
set_option maxHeartbeats 1000000 in
set_option maxRecDepth 100000 in
theorem rby_full (w : World) (A AT : Option Addr) (n c nT cT : Nat) (hn : 16384 < n) :
    Calls Try.prog 9 #[.slice A n c, .slice AT nT cT] w fun e w' => e = .returned (.tuple #[.agg #[.int .u8 0, .int .u8 0, .int .i64 0, .slice none 0 0], .int .i64 0, .int .i64 4]) ∧ Below w.heap.size w w' := by
  have d1 : decide ((16384 : Int) < (n : Int)) = true := by simp; omega
  clear hn
  go_enter Try.func9, Try.ntmps9
  go_wp2
  refine bodyPost_ret (results_ctt rfl _ _ w.heap.size 25 _ (0, 0) _ rfl (heap_at rfl) Try.underlying25 rfl (by kernel_rfl)) rfl ⟨rfl, PL.below_alloc _ _⟩
set_option maxHeartbeats 1000000 in
set_option maxRecDepth 100000 in
theorem rby_bad (w : World) (A AT : Option Addr) (c nT cT : Nat) (L : List Tok) (hT : Toks w A L) (hc : L.length ≤ c) (hL : L.length ≤ 16384) (hb : L.all okTok = false) :
    Calls Try.prog 9 #[.slice A L.length c, .slice AT nT cT] w fun e w' => e = .returned (.tuple #[.agg #[.int .u8 0, .int .u8 0, .int .i64 0, .slice none 0 0], .int .i64 0, .int .i64 120]) ∧ Below w.heap.size w w' := by
  have d1 : decide ((16384 : Int) < (L.length : Int)) = false := by simp; omega
  have HT := Aside0.mk (hT.move (w' := w.alloc (.cells #[.int .u8 0, .int .u8 0, .int .i64 0, .slice none 0 0] 25)) (fun ad _ hlt => heap_alloc_old _ _ hlt))
  have HZ := Aside0.mk (heap_at (w := w) (cs := #[.int .u8 0, .int .u8 0, .int .i64 0, .slice none 0 0]) (t := 25) rfl)
  have HBW := Aside0.mk (PL.below_alloc w (.cells #[.int .u8 0, .int .u8 0, .int .i64 0, .slice none 0 0] 25))
  have HB := Aside0.mk hb
  have HLL := Aside0.mk hL
  have HC := Aside0.mk hc
  clear hT hb hc
  go_enter Try.func9, Try.ntmps9
  go_upto_region 1 with fail
  generalize (w.alloc (.cells #[.int .u8 0, .int .u8 0, .int .i64 0, .slice none 0 0] 25)) = w0 at *
  obtain ⟨r0, r1, r2, r3, rf⟩ := four_cells HZ.out
  go_wp2
  go_loopw [7] (fun v7 wr => ∃ i : Nat, i ≤ L.length ∧ v7 = .int .i64 (i : Int) ∧ Aside0 (wr = w0) ∧ Aside0 (∀ j, j < i → okTok (L.getD j default) = true)) (fun v7 _ => L.length - (intOf v7).toNat)
  case atStart => exact ⟨0, Nat.zero_le _, rfl, ⟨rfl⟩, ⟨fun j hj => by omega⟩⟩
  case round =>
    obtain ⟨i, h2, rfl, HW, HOK⟩ := hrel
    obtain rfl := HW.out
    have hi0 : (0 : Int) ≤ (i : Int) := by omega
    have hl6 := HLL.out
    by_cases hlt : i < L.length
    · have d2 : decide ((i : Int) < (L.length : Int)) = true := by simp; omega
      have hi1 : (i : Int) < (L.length : Int) := by omega
      have htn : (i : Int).toNat = i := by omega
      obtain ⟨ad, e, hc1, hc2, hc3, hk0, hk1⟩ := HT.out.at_ i hlt
      cases e
      generalize htk : L.getD i default = tk at *
      have HTK := Aside0.mk htk
      have HTOK := Aside0.mk (fun w => rtoken_any tk.kind w)
      have hokd : okTok tk = (isTok tk.kind && (decide (1 ≤ tk.width) && decide (tk.width ≤ 67108864))) := rfl
      clear hc3 hk0 hk1 htk
      by_cases g1 : isTok tk.kind = true
      · rw [g1] at HTOK hokd
        by_cases g2 : tk.width < 1
        · have d3 : decide (tk.width < 1) = true := by simpa using g2
          have HBAD : Aside0 (okTok tk = false) := ⟨by rw [hokd]; have : decide (1 ≤ tk.width) = false := by simp; omega
                                                       rw [this]; rfl⟩
          clear hokd g1 g2
          generalize tk.kind = kd at *
          go_wp2_with (first | (go_at_call 14; refine (HTOK.out _).mono ?_; rintro e w1 ⟨rfl, hw⟩; obtain rfl := hw.symm))
          refine bodyPost_ret (results_ctt rfl _ _ w.heap.size 25 _ (0, 0) _ rfl (set4_block HZ.out _ _ _ _) Try.underlying25 rfl (by kernel_rfl)) rfl ⟨rfl, ?_⟩
          exact FrX.to_below ((FrX.below HBW.out).trans (set4_fr (X := fun b => b = w.heap.size) (FrX.refl _ _) rfl _ _ _ _) (fun _ h => h) (fun b hb e => by omega)) (fun b (e : b = w.heap.size) => Nat.le_of_eq e.symm)
        · have d3 : decide (tk.width < 1) = false := by simpa using g2
          by_cases g3 : tk.width ≤ 67108864
          · have d4 : decide ((67108864 : Int) < tk.width) = false := by simp; omega
            have HGOOD : Aside0 (okTok tk = true) := ⟨by rw [hokd]; have : decide (1 ≤ tk.width) = true := by simp; omega
                                                         have h4 : decide (tk.width ≤ 67108864) = true := by simpa using g3
                                                         rw [this, h4]; rfl⟩
            clear hokd g1 g2 g3
            generalize tk.kind = kd at *
            go_wp2_with (first | (go_at_call 14; refine (HTOK.out _).mono ?_; rintro e w1 ⟨rfl, hw⟩; obtain rfl := hw.symm))
            go_roundw
            case rel =>
              refine ⟨i + 1, by omega, by go_num, ⟨by first | rfl | trivial⟩, ⟨fun j hj => ?_⟩⟩
              rcases Nat.lt_or_ge j i with h | h
              · exact HOK.out j h
              · obtain rfl : j = i := by omega
                rw [HTK.out]; exact HGOOD.out
            case measure => simp [intOf]; omega
          · have d4 : decide ((67108864 : Int) < tk.width) = true := by simp; omega
            have HBAD : Aside0 (okTok tk = false) := ⟨by rw [hokd]; have : decide (tk.width ≤ 67108864) = false := by simp; omega
                                                         rw [this]; simp⟩
            clear hokd g1 g2 g3
            generalize tk.kind = kd at *
            go_wp2_with (first | (go_at_call 14; refine (HTOK.out _).mono ?_; rintro e w1 ⟨rfl, hw⟩; obtain rfl := hw.symm))
            refine bodyPost_ret (results_ctt rfl _ _ w.heap.size 25 _ (0, 0) _ rfl (set4_block HZ.out _ _ _ _) Try.underlying25 rfl (by kernel_rfl)) rfl ⟨rfl, ?_⟩
            exact FrX.to_below ((FrX.below HBW.out).trans (set4_fr (X := fun b => b = w.heap.size) (FrX.refl _ _) rfl _ _ _ _) (fun _ h => h) (fun b hb e => by omega)) (fun b (e : b = w.heap.size) => Nat.le_of_eq e.symm)
      · have g1' : isTok tk.kind = false := by simpa using g1
        rw [g1'] at HTOK hokd
        have HBAD : Aside0 (okTok tk = false) := ⟨hokd⟩
        clear hokd g1 g1'
        generalize tk.kind = kd at *
        go_wp2_with (first | (go_at_call 14; refine (HTOK.out _).mono ?_; rintro e w1 ⟨rfl, hw⟩; obtain rfl := hw.symm))
        refine bodyPost_ret (results_ctt rfl _ _ w.heap.size 25 _ (0, 0) _ rfl (set4_block HZ.out _ _ _ _) Try.underlying25 rfl (by kernel_rfl)) rfl ⟨rfl, ?_⟩
        exact FrX.to_below ((FrX.below HBW.out).trans (set4_fr (X := fun b => b = w.heap.size) (FrX.refl _ _) rfl _ _ _ _) (fun _ h => h) (fun b hb e => by omega)) (fun b (e : b = w.heap.size) => Nat.le_of_eq e.symm)
    · have d2 : decide ((i : Int) < (L.length : Int)) = false := by simp; omega
      obtain rfl : i = L.length := by omega
      exfalso
      have hall : L.all okTok = true := by
        rw [List.all_eq_true]
        intro x hx
        obtain ⟨j, hj, rfl⟩ := List.getElem_of_mem hx
        have := HOK.out j hj
        rwa [List.getD_eq_getElem?_getD, List.getElem?_eq_getElem hj] at this
      rw [hall] at HB
      cases HB.out
set_option maxHeartbeats 1000000 in
set_option maxRecDepth 100000 in
theorem rby_good (C : RC) {n : Nat} (w : World) (r : Tr × RSt) (hlo : C.lo ≤ w.heap.size) (hI : C.I w) (hb : C.L.all okTok = true) (hr : Ps.file C.L C.orc n () = some r) :
    Calls Try.prog 9 #[.slice C.A C.L.length C.c, .slice C.AT C.T.length C.cT] w (ByPost C w r.1) := by
  have hT := C.toks w hI
  have hL := C.hL
  have hc := C.hc
  have HR0 := Aside0.mk hr
  have HI := Aside0.mk (C.keep w (w.alloc (.cells #[.int .u8 0, .int .u8 0, .int .i64 0, .slice none 0 0] 25)) hI (fun b hb => heap_alloc_old _ _ (by omega)))
  have HLO := Aside0.mk hlo
  have d1 : decide ((16384 : Int) < (C.L.length : Int)) = false := by simp; omega
  clear hI hr
  have HT := Aside0.mk (hT.move (w' := w.alloc (.cells #[.int .u8 0, .int .u8 0, .int .i64 0, .slice none 0 0] 25)) (fun ad _ hlt => heap_alloc_old _ _ hlt))
  have HZ := Aside0.mk (heap_at (w := w) (cs := #[.int .u8 0, .int .u8 0, .int .i64 0, .slice none 0 0]) (t := 25) rfl)
  have HBW := Aside0.mk (PL.below_alloc w (.cells #[.int .u8 0, .int .u8 0, .int .i64 0, .slice none 0 0] 25))
  have HB := Aside0.mk hb
  have HLL := Aside0.mk hL
  have HC := Aside0.mk hc
  clear hT hb hc
  generalize hA : C.A = A at *
  have HA := Aside0.mk hA
  clear hA
  go_enter Try.func9, Try.ntmps9
  go_upto_region 1 with fail
  generalize (w.alloc (.cells #[.int .u8 0, .int .u8 0, .int .i64 0, .slice none 0 0] 25)) = w0 at *
  obtain ⟨r0, r1, r2, r3, rf⟩ := four_cells HZ.out
  go_wp2
  go_loopw [7] (fun v7 wr => ∃ i : Nat, i ≤ C.L.length ∧ v7 = .int .i64 (i : Int) ∧ Aside0 (wr = w0) ∧ Aside0 (∀ j, j < i → okTok (C.L.getD j default) = true)) (fun v7 _ => C.L.length - (intOf v7).toNat)
  case atStart => exact ⟨0, Nat.zero_le _, rfl, ⟨rfl⟩, ⟨fun j hj => by omega⟩⟩
  case round =>
    obtain ⟨i, h2, rfl, HW, HOK⟩ := hrel
    obtain rfl := HW.out
    have hi0 : (0 : Int) ≤ (i : Int) := by omega
    have hl6 := HLL.out
    by_cases hlt : i < C.L.length
    · have d2 : decide ((i : Int) < (C.L.length : Int)) = true := by simp; omega
      have hi1 : (i : Int) < (C.L.length : Int) := by omega
      have htn : (i : Int).toNat = i := by omega
      obtain ⟨ad, e, hc1, hc2, hc3, hk0, hk1⟩ := HT.out.at_ i hlt
      cases e
      generalize htk : C.L.getD i default = tk at *
      have HTK := Aside0.mk htk
      have HTOK := Aside0.mk (fun w => rtoken_any tk.kind w)
      have hokd : okTok tk = (isTok tk.kind && (decide (1 ≤ tk.width) && decide (tk.width ≤ 67108864))) := rfl
      clear hc3 hk0 hk1 htk
      by_cases g1 : isTok tk.kind = true
      · rw [g1] at HTOK hokd
        by_cases g2 : tk.width < 1
        · have d3 : decide (tk.width < 1) = true := by simpa using g2
          have HBAD : Aside0 (okTok tk = false) := ⟨by rw [hokd]; have : decide (1 ≤ tk.width) = false := by simp; omega
                                                       rw [this]; rfl⟩
          clear hokd g1 g2
          generalize tk.kind = kd at *
          exfalso
          have := List.all_eq_true.1 HB.out tk (by rw [← HTK.out, List.getD_eq_getElem?_getD, List.getElem?_eq_getElem hlt]; exact List.getElem_mem hlt)
          rw [HBAD.out] at this
          cases this
        · have d3 : decide (tk.width < 1) = false := by simpa using g2
          by_cases g3 : tk.width ≤ 67108864
          · have d4 : decide ((67108864 : Int) < tk.width) = false := by simp; omega
            have HGOOD : Aside0 (okTok tk = true) := ⟨by rw [hokd]; have : decide (1 ≤ tk.width) = true := by simp; omega
                                                         have h4 : decide (tk.width ≤ 67108864) = true := by simpa using g3
                                                         rw [this, h4]; rfl⟩
            clear hokd g1 g2 g3
            generalize tk.kind = kd at *
            go_wp2_with (first | (go_at_call 14; refine (HTOK.out _).mono ?_; rintro e w1 ⟨rfl, hw⟩; obtain rfl := hw.symm))
            go_roundw
            case rel =>
              refine ⟨i + 1, by omega, by go_num, ⟨by first | rfl | trivial⟩, ⟨fun j hj => ?_⟩⟩
              rcases Nat.lt_or_ge j i with h | h
              · exact HOK.out j h
              · obtain rfl : j = i := by omega
                rw [HTK.out]; exact HGOOD.out
            case measure => simp [intOf]; omega
          · have d4 : decide ((67108864 : Int) < tk.width) = true := by simp; omega
            have HBAD : Aside0 (okTok tk = false) := ⟨by rw [hokd]; have : decide (tk.width ≤ 67108864) = false := by simp; omega
                                                         rw [this]; simp⟩
            clear hokd g1 g2 g3
            generalize tk.kind = kd at *
            exfalso
            have := List.all_eq_true.1 HB.out tk (by rw [← HTK.out, List.getD_eq_getElem?_getD, List.getElem?_eq_getElem hlt]; exact List.getElem_mem hlt)
            rw [HBAD.out] at this
            cases this
      · have g1' : isTok tk.kind = false := by simpa using g1
        rw [g1'] at HTOK hokd
        have HBAD : Aside0 (okTok tk = false) := ⟨hokd⟩
        clear hokd g1 g1'
        generalize tk.kind = kd at *
        exfalso
        have := List.all_eq_true.1 HB.out tk (by rw [← HTK.out, List.getD_eq_getElem?_getD, List.getElem?_eq_getElem hlt]; exact List.getElem_mem hlt)
        rw [HBAD.out] at this
        cases this
    · have d2 : decide ((i : Int) < (C.L.length : Int)) = false := by simp; omega
      obtain rfl : i = C.L.length := by omega
      clear HOK HB HW
      generalize hwb : wr = wb at *
      clear hwb
      obtain ⟨R, hlp, hr⟩ := Option.map_eq_some_iff.mp HR0.out
      subst hr
      have hrb := blk_lt HZ.out
      have hwz := HBW.out.size
      have hlo := HLO.out
      have hbP := PL.below_alloc wb (.cells #[.slice A C.L.length C.c, .int .i64 0, .slice C.AT C.T.length C.cT, .int .i64 0, .int .i64 0] 50)
      have hP : RPar C (wb.alloc (.cells #[.slice A C.L.length C.c, .int .i64 0, .slice C.AT C.T.length C.cT, .int .i64 0, .int .i64 0] 50)) wb.heap.size ⟨0, ()⟩ := ⟨⟨0, 0, by rw [HA.out]; exact heap_at rfl⟩, by omega, C.keep _ _ HI.out (fun b hb => heap_alloc_old _ _ (by omega)), Nat.zero_le _⟩
      have hR := (RRun.start0 hP).box (wb.heap.size + 1) #[.int .u8 51, .int .u8 0, .int .i64 0, .slice none 0 0] 25 (by simp only [World.size_alloc])
      have HZ1 : Aside0 ((wb.alloc (.cells #[.slice A C.L.length C.c, .int .i64 0, .slice C.AT C.T.length C.cT, .int .i64 0, .int .i64 0] 50)).heap[w.heap.size]? = some (.cells #[.int .u8 0, .int .u8 0, .int .i64 0, .slice none 0 0] 25 (0, 0))) := ⟨(heap_alloc_old _ _ hrb).trans HZ.out⟩
      have hbp : (wb.alloc (.cells #[.slice A C.L.length C.c, .int .i64 0, .slice C.AT C.T.length C.cT, .int .i64 0, .int .i64 0] 50)).heap.size = wb.heap.size + 1 := World.size_alloc _ _
      go_wp2_with fail
      have HBP := Aside0.mk hbP
      generalize wb.alloc (.cells #[.slice A C.L.length C.c, .int .i64 0, .slice C.AT C.T.length C.cT, .int .i64 0, .int .i64 0] 50) = wp at *
      have HR := Aside0.mk hR
      have HLP := Aside0.mk hlp
      clear hR hlp hP hbP
      go_loopg [] n (fun kq wx => ∃ (acc : List Tr) (stc : RSt) (v' : Value) (s' : Int), Aside0 (RRun C (fun _ => False) [(wb.heap.size + 1, #[.int .u8 51, .int .u8 0, .int .i64 s', v'], 25)] wb.heap.size wp (.slice none 0 0) acc stc wx v') ∧ Aside0 (wsum acc 0 = s') ∧ Aside0 (Ps.fileLoop C.L C.orc kq acc stc = some R) ∧ Aside0 (kq ≤ n) ∧ Aside0 (acc.length + 2 * (C.L.length - stc.at_) ≤ 100000))
      case atStart => exact ⟨[], _, _, _, HR, ⟨rfl⟩, HLP, ⟨Nat.le_refl _⟩, ⟨by simp only [List.length_nil]; omega⟩⟩
      case round =>
        clear HR HLP r0 r1 r2 r3 rf
        obtain ⟨acc, stc, v', s', HR, HS, HA2, HKn, HBc⟩ := hrel
        obtain ⟨Aq, nq, cq, rfl⟩ := HR.out.sl
        have hA := HA2.out
        cases gk with
        | zero => rw [Ps.fileLoop] at hA; cases hA
        | succ k1 =>
          rw [Ps.fileLoop] at hA
          have HKD := Aside0.mk (fun w h => rkind_any C w wb.heap.size stc h)
          have hal := HBc.out
          have hgl := rgap_len C stc
          by_cases h0 : stc.kd C.L = 0
          · rw [if_neg (fun h => h h0)] at hA
            obtain rfl := Option.some.inj hA
            rw [h0] at HKD
            clear hA h0 HA2
            go_wp2_with fail
            (try clear y0 y1 y2 y3 yf)
            go_at_call 15; refine (HKD.out _ HR.out.par).mono ?_; rintro e w21 ⟨rfl, hb⟩; have hR := HR.out.below hb; clear hb; clear HR; have HR := Aside0.mk hR; clear hR; obtain ⟨y0, y1, y2, y3, yf⟩ := HR.out.box0
            go_wp2_with fail
            (try clear y0 y1 y2 y3 yf)
            go_at_call 17; refine (HR.out.gap 51 _ HS.out (by (try simp only [List.length_append, List.length_nil, List.length_singleton, List.length_cons]); omega)).mono ?_; rintro e w22 ⟨v22, rfl, hR⟩; obtain ⟨A22, n22, c22, rfl⟩ := hR.sl; clear HR; have HR := Aside0.mk hR; clear hR; generalize hs22 : wsum (acc ++ gapL C.L stc) 0 = s22; have HS := Aside0.mk hs22; clear hs22; obtain ⟨y0, y1, y2, y3, yf⟩ := HR.out.box0
            go_wp2
            have hR := HR.out.st0 (.int .u8 51) (.int .u8 0) (.int .i64 s22) (.slice A22 n22 c22); clear HR; have HR := Aside0.mk hR; clear hR
            (try clear y0 y1 y2 y3 yf)
            generalize ((((w22.setCell ⟨wb.heap.size + 1, 0, none⟩ (.int .u8 51)).setCell ⟨wb.heap.size + 1, 1, none⟩ (.int .u8 0)).setCell ⟨wb.heap.size + 1, 2, none⟩ (.int .i64 s22)).setCell ⟨wb.heap.size + 1, 3, none⟩ (.slice A22 n22 c22)) = w30 at *
            have HB2 := Aside0.mk ((HR.out.fr.block w.heap.size (by omega) (fun e => by rcases e with e | e; omega; cases e)).trans HZ1.out)
            obtain ⟨r0, r1, r2, r3, rf⟩ := four_cells HB2.out
            obtain ⟨y0, y1, y2, y3, yf⟩ := HR.out.box0
            obtain ⟨a9, p9, hp0, hp1, hp2, hp3, hp4, hpf⟩ := HR.out.par.cells5
            have hE := Aside0.mk (HR.out.endx (by (try simp only [List.length_append, List.length_nil, List.length_singleton, List.length_cons]); omega) 51 HS.out)
            have hln : w.heap.size ≠ wb.heap.size := by omega
            have hlm : wb.heap.size ≠ w.heap.size := by omega
            have hln1 : w.heap.size ≠ wb.heap.size + 1 := by omega
            have hlm1 : wb.heap.size + 1 ≠ w.heap.size := by omega
            go_region_held3 (fun w' => w'.cell? ⟨wb.heap.size + 1, 0, none⟩ = some (.int .u8 51) ∧ w'.cell? ⟨wb.heap.size + 1, 1, none⟩ = some (.int .u8 0) ∧ w'.cell? ⟨wb.heap.size + 1, 2, none⟩ = some (.int .i64 s22) ∧ w'.cell? ⟨wb.heap.size + 1, 3, none⟩ = some (.slice A22 n22 c22) ∧ w'.cell? ⟨wb.heap.size, 4, none⟩ = some (.int .i64 p9)) (first | go_keep | exact ⟨y0, y1, y2, y3, hp4⟩) ((first | (fail)))
            go_wp2
            refine bodyPost_ret (results_ctt rfl _ _ w.heap.size 25 _ (0, 0) _ rfl (set4_block (w := w30.drew) HB2.out _ _ _ _) Try.underlying25 rfl (by kernel_rfl)) rfl ?_
            have hS4 : FrX (fun b => b = w.heap.size) w30 ((((w30.drew.setCell ⟨w.heap.size, 0, none⟩ (.int .u8 51)).setCell ⟨w.heap.size, 1, none⟩ (.int .u8 0)).setCell ⟨w.heap.size, 2, none⟩ (.int .i64 s22)).setCell ⟨w.heap.size, 3, none⟩ (.slice A22 n22 c22)) := set4_fr (X := fun b => b = w.heap.size) (FrX.refl _ _).drew rfl _ _ _ _
            refine ⟨[(.int .u8 51), (.int .u8 0), (.int .i64 s22), (.slice A22 n22 c22)], p9, rfl, hE.out.1.move (fun b hb hlt => ⟨hb.imp id (fun h => by omega), hS4.block b hlt (fun e => ?_)⟩), ?_⟩
            · rcases hb with hb | hb
              · have := C.hS b hb; omega
              · omega
            · have f1 : FrX (fun b => w.heap.size ≤ b) w wb := FrX.below HBW.out
              have f2 := f1.trans (FrX.below (X := fun _ => False) HBP.out) (fun _ h => h) (fun _ _ h => h.elim)
              have f3 := f2.trans hE.out.2 (fun _ h => h) (fun b hb e => by omega)
              have f4 := f3.trans hS4 (fun _ h => h) (fun b hb e => by omega)
              exact f4.to_below (fun b h => h)
          · rw [if_pos h0] at hA
            obtain ⟨q, hx, hA⟩ := Option.bind_eq_some_iff.mp hA
            have b0 := nb h0
            have c0 : (stc.kd C.L != 0) = true := bne_iff_ne.mpr h0
            have hig := (mon k1 : Mon C.L C.orc k1).inner _ _ HR.out.par.le h0 hx
            have HA3 := Aside0.mk hA
            have HX := Aside0.mk hx
            have HK0 := Aside0.mk h0
            have hlb : q.1.length ≤ 40000 ∧ (acc ++ q.1).length + 2 * (C.L.length - q.2.at_) ≤ 100000 := by
              have a1 := hig.2.2.2
              have a2 := hig.2.2.1
              have a3 := hig.1
              have a4 := HR.out.par.le
              rw [List.length_append]
              omega
            have HLB := Aside0.mk hlb.2
            generalize stc.kd C.L = kd at HKD b0 c0
            clear hA hx h0 hig HA2 hlb
            go_wp2_with fail
            (try clear y0 y1 y2 y3 yf)
            go_at_call 15; refine (HKD.out _ HR.out.par).mono ?_; rintro e w61 ⟨rfl, hb⟩; have hR := HR.out.below hb; clear hb; clear HR; have HR := Aside0.mk hR; clear hR; obtain ⟨y0, y1, y2, y3, yf⟩ := HR.out.box0
            go_wp2_with fail
            (try clear y0 y1 y2 y3 yf)
            go_at_call 16; refine (HR.out.inner (rall_ok C k1 k1 (Nat.le_refl k1)) 51 _ q HS.out (by (try simp only [List.length_append, List.length_nil, List.length_singleton, List.length_cons]); omega) HK0.out HX.out).mono ?_; rintro e w62 ⟨v62, rfl, hR⟩; obtain ⟨A62, n62, c62, rfl⟩ := hR.sl; clear HR; have HR := Aside0.mk hR; clear hR; generalize hs62 : wsum (acc ++ q.1) 0 = s62; have HS := Aside0.mk hs62; clear hs62; obtain ⟨y0, y1, y2, y3, yf⟩ := HR.out.box0
            go_wp2_with fail
            have hR := HR.out.st0 (.int .u8 51) (.int .u8 0) (.int .i64 s62) (.slice A62 n62 c62); clear HR; have HR := Aside0.mk hR; clear hR
            go_roundg k1
            case measure => omega
            case rel => exact ⟨_, _, _, _, HR, HS, HA3, ⟨by have := HKn.out; omega⟩, HLB⟩
end Go.Proofs.Ytalnicdpcigocaa.PR
namespace Go.Proofs.Ytalnicdpcigocaa.PQ
open Go.RowKit Ps PM PL PP GR Go.Proofs.YtalnicdpcigocaaW.PrintWords Go.Proofs.YtalnicdpcigocaaW.PrintLast Go.Proofs.YtalnicdpcigocaaW.PrintMore
set_option linter.unusedVariables false
set_option linter.unusedSimpArgs false
/-- nobody is asked -/
def nobody : Unit → Int → Nat → Option (Tr × Int) × Unit := fun _ _ _ => (none, ())
def noTree : Tr := .mk 0 0 0 []
/-- the error -/
def byE (L : List Tok) : Int := if 16384 < L.length then 4 else if L.all PP.okTok then 0 else 120
/-- the tree -/
def byT (L : List Tok) : Tr := if byE L = 0 then ((Ps.file L nobody (13 * L.length + 12) ()).map (fun r => r.1)).getD noTree else noTree
theorem byT_no {L : List Tok} (h : byE L ≠ 0) : byT L = noTree := by unfold byT; rw [if_neg h]
def Made (w : World) (L : List Tok) (e : Ending) (w' : World) : Prop := ∃ cs : List Value, e = .returned (.tuple #[.agg cs.toArray, .int .i64 (byE L)]) ∧ NodeC (fun b => w.heap.size ≤ b) w' (byT L) cs ∧ Below w.heap.size w w'
theorem noC (S : Nat → Prop) (w : World) : NodeC S w noTree [.int .u8 0, .int .u8 0, .int .i64 0, .slice none 0 0] := leafC _ _ _ _ _
set_option maxHeartbeats 1000000 in
set_option maxRecDepth 100000 in
theorem by1_any (x y : Value) (w : World) : Calls Try.prog 11 #[x, y] w fun e w' => e = .returned (.tuple #[.agg #[.int .u8 0, .int .u8 0, .int .i64 0, .slice none 0 0], .int .i64 0, .bool false]) ∧ Below w.heap.size w w' := by
  go_enter Try.func11, Try.ntmps11
  go_wp2
  refine bodyPost_ret (results_ctt rfl _ _ w.heap.size 25 _ (0, 0) _ rfl (heap_at rfl) Try.underlying25 rfl (by kernel_rfl)) rfl ⟨rfl, PL.below_alloc _ _⟩
theorem toks_keep {L : List Tok} {A : Option Addr} {lo : Nat} {w w' : World} (h : Toks w A L) (hA : L = [] ∨ ∀ ad, A = some ad → ad.block < lo) (hk : ∀ b, b < lo → w'.heap[b]? = w.heap[b]?) : Toks w' A L := by
  rcases hA with rfl | hA
  · intro i t ht
    simp at ht
  · exact h.move (fun ad e _ => hk _ (hA ad e))
theorem toks_lt {L : List Tok} {A : Option Addr} {w : World} (h : Toks w A L) : L = [] ∨ ∀ ad, A = some ad → ad.block < w.heap.size := by
  cases L with
  | nil => exact Or.inl rfl
  | cons t l =>
    obtain ⟨ad, e, h1, _⟩ := h 0 t rfl
    have hblk : (ad.add (0 * 3)).block = ad.block := by unfold Addr.add; split <;> rfl
    refine Or.inr (fun ad' e' => ?_)
    rw [e] at e'
    injection e' with e'
    subst e'
    exact hblk ▸ cell_lt h1
/-- the program's parser, asking nobody -/
def ctxN (L : List Tok) (A : Option Addr) (c lo : Nat) (hc : L.length ≤ c) (hL : L.length ≤ 16384) (hA : L = [] ∨ ∀ ad, A = some ad → ad.block < lo) : Ctx Unit where
  L := L
  orc := nobody
  A := A
  c := c
  f := 11
  caps := #[]
  O := fun _ => False
  S0 := fun _ => False
  lo := lo
  I := fun _ w => Toks w A L
  hc := hc
  hL := hL
  hO := fun _ h => h.elim
  hS := fun _ h => h.elim
  toks := fun _ _ h => h
  keep := fun _ w w' h hk => toks_keep h hA hk
  ask := fun s w k i hk hi hlo hI => by
    rw [show (#[.int .u8 (k : Int), .int .i64 (i : Int)] ++ #[] : Array Value) = #[.int .u8 (k : Int), .int .i64 (i : Int)] by simp]
    refine (by1_any _ _ w).mono (fun e w' q => ?_)
    obtain ⟨rfl, hb⟩ := q
    exact ⟨0, 0, 0, none, 0, 0, 0, false, rfl, FrX.below hb, hI.move (fun ad _ h => hb.block _ h), rfl⟩
theorem pby_made (w : World) (A : Option Addr) (c : Nat) (L : List Tok) (hT : Toks w A L) (hc : L.length ≤ c) (hA : L = [] ∨ ∀ ad, A = some ad → ad.block < w.heap.size) :
    Calls Try.prog 8 #[.slice A L.length c, .nilFunc] w (Made w L) := by
  by_cases h1 : 16384 < L.length
  · have hE : byE L = 4 := by unfold byE; rw [if_pos h1]
    refine (pby_full w A .nilFunc L.length c h1).mono (fun e w' q => ?_)
    obtain ⟨rfl, hb⟩ := q
    refine ⟨_, by rw [hE], ?_, hb⟩
    rw [byT_no (by rw [hE]; decide)]
    exact noC _ _
  · have hL : L.length ≤ 16384 := by omega
    cases h2 : L.all PP.okTok with
    | false =>
      have hE : byE L = 120 := by unfold byE; rw [if_neg h1, h2]; rfl
      refine (pby_bad w A .nilFunc c L hT hc hL h2).mono (fun e w' q => ?_)
      obtain ⟨rfl, hb⟩ := q
      refine ⟨_, by rw [hE], ?_, hb⟩
      rw [byT_no (by rw [hE]; decide)]
      exact noC _ _
    | true =>
      have hE : byE L = 0 := by unfold byE; rw [if_neg h1, h2]; rfl
      obtain ⟨r, hr⟩ := file_ok (L := L) (orc := nobody) (13 * L.length + 12) () (Nat.le_refl _)
      have hTr : byT L = r.1 := by unfold byT; rw [if_pos hE, hr]; rfl
      refine (pby_nil (ctxN L A c w.heap.size hc hL hA) (fun _ _ => rfl) () w r rfl rfl (Nat.le_refl _) hT h2 hr).mono (fun e w' q => ?_)
      obtain ⟨cs, rfl, hN, hF, _⟩ := q
      refine ⟨cs, by rw [hE], ?_, hF.to_below (fun b h => h.elim)⟩
      rw [hTr]
      exact hN.move (fun b hb _ => ⟨hb.elim (fun h => h.elim) id, rfl⟩)
/-- the reference's, with no answers -/
def rcN (L : List Tok) (A : Option Addr) (c lo : Nat) (hc : L.length ≤ c) (hL : L.length ≤ 16384) (hA : L = [] ∨ ∀ ad, A = some ad → ad.block < lo) : PR.RC where
  L := L
  A := A
  c := c
  T := []
  AT := none
  cT := 0
  lo := lo
  S0 := fun _ => False
  I := fun w => Toks w A L
  hc := hc
  hL := hL
  hcT := Nat.le_refl _
  hT := by simp
  hS := fun _ h => h.elim
  toks := fun _ h => h
  ans := fun _ _ i x h => by simp at h
  keep := fun w w' h hk => toks_keep h hA hk
def MadeR (w : World) (L : List Tok) (e : Ending) (w' : World) : Prop := ∃ (cs : List Value) (p : Int), e = .returned (.tuple #[.agg cs.toArray, .int .i64 p, .int .i64 (byE L)]) ∧ NodeC (fun b => w.heap.size ≤ b) w' (byT L) cs ∧ Below w.heap.size w w'
theorem rby_made (w : World) (A : Option Addr) (c : Nat) (L : List Tok) (hT : Toks w A L) (hc : L.length ≤ c) (hA : L = [] ∨ ∀ ad, A = some ad → ad.block < w.heap.size) :
    Calls Try.prog 9 #[.slice A L.length c, .slice none 0 0] w (MadeR w L) := by
  by_cases h1 : 16384 < L.length
  · have hE : byE L = 4 := by unfold byE; rw [if_pos h1]
    refine (PR.rby_full w A none L.length c 0 0 h1).mono (fun e w' q => ?_)
    obtain ⟨rfl, hb⟩ := q
    refine ⟨_, _, by rw [hE], ?_, hb⟩
    rw [byT_no (by rw [hE]; decide)]
    exact noC _ _
  · have hL : L.length ≤ 16384 := by omega
    cases h2 : L.all PP.okTok with
    | false =>
      have hE : byE L = 120 := by unfold byE; rw [if_neg h1, h2]; rfl
      refine (PR.rby_bad w A none c 0 0 L hT hc hL h2).mono (fun e w' q => ?_)
      obtain ⟨rfl, hb⟩ := q
      refine ⟨_, _, by rw [hE], ?_, hb⟩
      rw [byT_no (by rw [hE]; decide)]
      exact noC _ _
    | true =>
      have hE : byE L = 0 := by unfold byE; rw [if_neg h1, h2]; rfl
      obtain ⟨r, hr⟩ := file_ok (L := L) (orc := nobody) (13 * L.length + 12) () (Nat.le_refl _)
      have hTr : byT L = r.1 := by unfold byT; rw [if_pos hE, hr]; rfl
      refine (PR.rby_good (rcN L A c w.heap.size hc hL hA) w r (Nat.le_refl _) hT h2 hr).mono (fun e w' q => ?_)
      obtain ⟨cs, p, rfl, hN, hB⟩ := q
      refine ⟨cs, p, by rw [hE], ?_, hB⟩
      rw [hTr]
      exact hN.move (fun b hb _ => ⟨hb.elim (fun h => h.elim) id, rfl⟩)
set_option maxHeartbeats 1000000 in
set_option maxRecDepth 100000 in
theorem pfile_made (w : World) (A : Option Addr) (c : Nat) (L : List Tok) (hT : Toks w A L) (hc : L.length ≤ c) (hA : L = [] ∨ ∀ ad, A = some ad → ad.block < w.heap.size) :
    Calls Try.prog 4 #[.slice A L.length c] w (Made w L) := by
  have HZ := Aside0.mk (heap_at (w := w) (cs := #[.int .u8 0, .int .u8 0, .int .i64 0, .slice none 0 0]) (t := 25) rfl)
  have hbw := PL.below_alloc w (.cells #[.int .u8 0, .int .u8 0, .int .i64 0, .slice none 0 0] 25)
  have hsz : (w.alloc (.cells #[.int .u8 0, .int .u8 0, .int .i64 0, .slice none 0 0] 25)).heap.size = w.heap.size + 1 := World.size_alloc _ _
  have HBY := Aside0.mk (pby_made (w.alloc (.cells #[.int .u8 0, .int .u8 0, .int .i64 0, .slice none 0 0] 25)) A c L (hT.move (fun ad _ h => hbw.block _ h)) hc (hA.imp id (fun h ad e => by have := h ad e; omega)))
  have HBW := Aside0.mk hbw
  clear hT hA hbw
  go_enter Try.func4, Try.ntmps4
  go_upto_region 1 with fail
  generalize (w.alloc (.cells #[.int .u8 0, .int .u8 0, .int .i64 0, .slice none 0 0] 25)) = w0 at *
  go_wp2_with fail
  go_at_call 8
  refine HBY.out.mono ?_
  rintro e w1 ⟨cs, rfl, hN, hB⟩
  obtain ⟨A1, n1, c1, rfl, _⟩ := hN.four
  have hz1 := (hB.block w.heap.size (by omega)).trans HZ.out
  obtain ⟨r0, r1, r2, r3, rf⟩ := four_cells hz1
  have HZ1 := Aside0.mk hz1
  have HN := Aside0.mk hN
  have HB := Aside0.mk hB
  clear hN hB hz1
  generalize hE : byE L = er at *
  have HE := Aside0.mk hE
  clear hE
  generalize hT : byT L = T at *
  have HT := Aside0.mk hT
  clear hT
  generalize htk : T.kind = tk at *
  generalize htw : T.want = tw at *
  generalize htd : T.width = td at *
  clear htk htw htd
  go_wp2
  have hS4 : FrX (fun b => b = w.heap.size) w1 ((((w1.setCell ⟨w.heap.size, 0, none⟩ (.int .u8 tk)).setCell ⟨w.heap.size, 1, none⟩ (.int .u8 tw)).setCell ⟨w.heap.size, 2, none⟩ (.int .i64 td)).setCell ⟨w.heap.size, 3, none⟩ (.slice A1 n1 c1)) := set4_fr (X := fun b => b = w.heap.size) (FrX.refl _ _) rfl _ _ _ _
  refine bodyPost_ret (results_ct rfl _ _ w.heap.size 25 _ (0, 0) _ rfl (set4_block HZ1.out _ _ _ _) Try.underlying25 rfl (by kernel_rfl)) rfl ?_
  refine ⟨[.int .u8 tk, .int .u8 tw, .int .i64 td, .slice A1 n1 c1], by rw [HE.out]; rfl, ?_, ?_⟩
  · rw [HT.out]
    exact HN.out.move (fun b hb hlt => ⟨by omega, hS4.block b hlt (by omega)⟩)
  · have f1 : FrX (fun b => w.heap.size ≤ b) w w0 := FrX.below HBW.out
    have f2 := f1.trans (FrX.below (X := fun _ => False) HB.out) (fun _ h => h) (fun _ _ h => h.elim)
    exact (f2.trans hS4 (fun _ h => h) (fun b hb e => by omega)).to_below (fun b h => h)
set_option maxHeartbeats 1000000 in
set_option maxRecDepth 100000 in
theorem rfile_made (w : World) (A : Option Addr) (c : Nat) (L : List Tok) (hT : Toks w A L) (hc : L.length ≤ c) (hA : L = [] ∨ ∀ ad, A = some ad → ad.block < w.heap.size) :
    Calls Try.prog 5 #[.slice A L.length c] w (Made w L) := by
  have HZ := Aside0.mk (heap_at (w := w) (cs := #[.int .u8 0, .int .u8 0, .int .i64 0, .slice none 0 0]) (t := 25) rfl)
  have hbw := PL.below_alloc w (.cells #[.int .u8 0, .int .u8 0, .int .i64 0, .slice none 0 0] 25)
  have hsz : (w.alloc (.cells #[.int .u8 0, .int .u8 0, .int .i64 0, .slice none 0 0] 25)).heap.size = w.heap.size + 1 := World.size_alloc _ _
  have HBY := Aside0.mk (rby_made (w.alloc (.cells #[.int .u8 0, .int .u8 0, .int .i64 0, .slice none 0 0] 25)) A c L (hT.move (fun ad _ h => hbw.block _ h)) hc (hA.imp id (fun h ad e => by have := h ad e; omega)))
  have HBW := Aside0.mk hbw
  clear hT hA hbw
  go_enter Try.func5, Try.ntmps5
  go_upto_region 1 with fail
  generalize (w.alloc (.cells #[.int .u8 0, .int .u8 0, .int .i64 0, .slice none 0 0] 25)) = w0 at *
  go_wp2_with fail
  go_at_call 9
  refine HBY.out.mono ?_
  rintro e w1 ⟨cs, p, rfl, hN, hB⟩
  obtain ⟨A1, n1, c1, rfl, _⟩ := hN.four
  have hz1 := (hB.block w.heap.size (by omega)).trans HZ.out
  obtain ⟨r0, r1, r2, r3, rf⟩ := four_cells hz1
  have hlt1 := blk_lt hz1
  have HZ1 := Aside0.mk hz1
  have HN := Aside0.mk hN
  have HB := Aside0.mk hB
  clear hN hB hz1
  generalize hE : byE L = er at *
  have HE := Aside0.mk hE
  clear hE
  generalize hT : byT L = T at *
  have HT := Aside0.mk hT
  clear hT
  generalize htk : T.kind = tk at *
  generalize htw : T.want = tw at *
  generalize htd : T.width = td at *
  clear htk htw htd
  go_wp2
  have hs4 := set4_block HZ1.out (.int .u8 tk) (.int .u8 tw) (.int .i64 td) (.slice A1 n1 c1)
  have hS4 : FrX (fun b => b = w.heap.size) w1 ((((w1.setCell ⟨w.heap.size, 0, none⟩ (.int .u8 tk)).setCell ⟨w.heap.size, 1, none⟩ (.int .u8 tw)).setCell ⟨w.heap.size, 2, none⟩ (.int .i64 td)).setCell ⟨w.heap.size, 3, none⟩ (.slice A1 n1 c1)) := set4_fr (X := fun b => b = w.heap.size) (FrX.refl _ _) rfl _ _ _ _
  generalize ((((w1.setCell ⟨w.heap.size, 0, none⟩ (.int .u8 tk)).setCell ⟨w.heap.size, 1, none⟩ (.int .u8 tw)).setCell ⟨w.heap.size, 2, none⟩ (.int .i64 td)).setCell ⟨w.heap.size, 3, none⟩ (.slice A1 n1 c1)) = w2 at *
  have hsz2 := hS4.size
  refine bodyPost_ret (results_ct rfl _ _ w.heap.size 25 _ (0, 0) _ rfl ((heap_alloc_old _ _ (by omega)).trans hs4) Try.underlying25 rfl (by kernel_rfl)) rfl ?_
  refine ⟨[.int .u8 tk, .int .u8 tw, .int .i64 td, .slice A1 n1 c1], by rw [HE.out]; rfl, ?_, ?_⟩
  · rw [HT.out]
    exact HN.out.move (fun b hb hlt => ⟨by omega, (heap_alloc_old _ _ (by omega)).trans (hS4.block b hlt (by omega))⟩)
  · have f1 : FrX (fun b => w.heap.size ≤ b) w w0 := FrX.below HBW.out
    have f2 := f1.trans (FrX.below (X := fun _ => False) HB.out) (fun _ h => h) (fun _ _ h => h.elim)
    exact ((f2.trans hS4 (fun _ h => h) (fun b hb e => by omega)).alloc _).to_below (fun b h => h)
end Go.Proofs.Ytalnicdpcigocaa.PQ
namespace Go.Proofs.Ytalnicdpcigocaa.PQ
open Go.RowKit Ps PM PL PP GR Go.Proofs.YtalnicdpcigocaaW.PrintWords Go.Proofs.YtalnicdpcigocaaW.PrintLast Go.Proofs.YtalnicdpcigocaaW.PrintMore Go.Proofs.Ytalnicdpcigocaa.PParseTrees
set_option linter.unusedVariables false
set_option linter.unusedSimpArgs false
mutual
def toS : Tr → S25
  | .mk k wt wd kids => ⟨k, wt, wd, toSL kids⟩
def toSL : List Tr → List S25
  | [] => []
  | t :: l => toS t :: toSL l
end
theorem toSL_len (l : List Tr) : (toSL l).length = l.length := by
  induction l with
  | nil => rfl
  | cons x l ih => show (toS x :: toSL l).length = _; rw [List.length_cons, List.length_cons, ih]
mutual
theorem node_K {S : Nat → Prop} {w : World} : ∀ (t : Tr) (cs : List Value), NodeC S w t cs → k25.K w (toS t) cs
  | .mk k wt wd kids, cs, h => by
    unfold NodeC at h
    obtain ⟨A, n, c, rfl, hn, hnc, hn12, hr⟩ := h
    have hl : (toSL kids).length = n := (toSL_len kids).trans hn
    have := k25_mk w ⟨k, wt, wd, toSL kids⟩ (A3 := A) (c3 := c) (by show (toSL kids).length ≤ c; omega) (by
      show ReadsRow _ _ _ _ (toSL kids).length (toSL kids)
      refine ⟨rfl, by rw [hl]; omega, fun hpos => ?_⟩
      have hrr := row_C kids 0 A hr
      cases kids with
      | nil => exact absurd hpos (by show ¬ 0 < 0; omega)
      | cons x l =>
        obtain ⟨b, off, c0, hA, _⟩ := hrr 0 (toS x) rfl
        refine ⟨⟨b, off, none⟩, hA, fun j p hp => ?_⟩
        obtain ⟨b', off', c1, hA', h1, h2, h3⟩ := hrr j p hp
        rw [hA] at hA'
        injection hA' with hA'
        injection hA' with e1 e2
        subst e1 e2
        refine ⟨c1, h1, h2, fun q u hu => ?_⟩
        have hadd : (⟨b, off, none⟩ : Addr).add (j * 4 + q) = ⟨b, off + (j * 4 + q), none⟩ := by unfold Addr.add; split <;> simp_all
        show w.cell? ((⟨b, off, none⟩ : Addr).add (j * 4 + q)) = some u
        rw [hadd, show off + (j * 4 + q) = off + (0 + j) * 4 + q by omega]
        exact h3 q u hu)
    rw [show (⟨k, wt, wd, toSL kids⟩ : S25).f3.length = n from hl] at this
    exact this
theorem row_C {S : Nat → Prop} {w : World} : ∀ (l : List Tr) (i : Nat) (A : Option Addr), RowC S w A i l → ∀ (j : Nat) (p : S25), (toSL l)[j]? = some p → ∃ (b off : Nat) (c : List Value), A = some ⟨b, off, none⟩ ∧ c.length = 4 ∧ k25.K w p c ∧ ∀ q u, c[q]? = some u → w.cell? ⟨b, off + (i + j) * 4 + q, none⟩ = some u
  | [], _, _, _, j, p, hp => by simp [toSL] at hp
  | t :: l, i, A, h, 0, p, hp => by
    unfold RowC at h
    obtain ⟨⟨b, off, cs, hA, hS, hN, hc⟩, _⟩ := h
    have hp : toS t = p := by simpa [toSL] using hp
    subst hp
    exact ⟨b, off, cs, hA, hN.len, node_K t cs hN, hc⟩
  | t :: l, i, A, h, j + 1, p, hp => by
    unfold RowC at h
    obtain ⟨b, off, c, hA, h1, h2, h3⟩ := row_C l (i + 1) A h.2 j p (by simpa [toSL] using hp)
    refine ⟨b, off, c, hA, h1, h2, fun q u hu => ?_⟩
    rw [show i + (j + 1) = i + 1 + j by omega]
    exact h3 q u hu
end
theorem node_C {S : Nat → Prop} {w : World} {t : Tr} {cs : List Value} (h : NodeC S w t cs) : ∃ (A : Option Addr) (c : Nat), cs = [.int .u8 (toS t).f0, .int .u8 (toS t).f1, .int .i64 (toS t).f2, .slice A (toS t).f3.length c] ∧ (toS t).f3.length ≤ c ∧ k25.C w A (toS t).f3.length (toS t).f3 := k25_open (node_K t cs h)
abbrev sf := @glossatorref15_Same.f
abbrev sl := @glossatorref15_Same.l0
theorem sf_up {a0 a1 a2 : Int} {l : List S25} {b0 b1 b2 : Int} {m : List S25} {k k' : Nat} (hk : k ≤ k') {r : Bool} (h : glossatorref15_Same.f k a0 a1 a2 l b0 b1 b2 m = some r) : glossatorref15_Same.f k' a0 a1 a2 l b0 b1 b2 m = some r := by
  induction hk with
  | refl => exact h
  | step _ ih => exact (glossatorref15_Same.mono_l _).1 _ _ _ _ _ _ _ _ _ ih
theorem sl_up {i a0 a1 a2 : Int} {l : List S25} {b0 b1 b2 : Int} {m : List S25} {k k' : Nat} (hk : k ≤ k') {r : Bool} (h : glossatorref15_Same.l0 k i a0 a1 a2 l b0 b1 b2 m = some r) : glossatorref15_Same.l0 k' i a0 a1 a2 l b0 b1 b2 m = some r := by
  induction hk with
  | refl => exact h
  | step _ ih => exact (glossatorref15_Same.mono_l _).2.2 _ _ _ _ _ _ _ _ _ _ ih
theorem rd_at (xs : List S25) (i : Nat) (x : S25) (h : xs[i]? = some x) : rd_T25 xs (i : Int) = x := by
  unfold rd_T25
  rw [show (i : Int).toNat = i by omega, List.getD_eq_getElem?_getD, h]
  rfl
mutual
theorem same_node {S : Nat → Prop} {w : World} : ∀ (t : Tr) (cs : List Value), NodeC S w t cs → ∃ k, glossatorref15_Same.f k (toS t).f0 (toS t).f1 (toS t).f2 (toS t).f3 (toS t).f0 (toS t).f1 (toS t).f2 (toS t).f3 = some true
  | .mk k wt wd kids, cs, h => by
    unfold NodeC at h
    obtain ⟨A, n, c, rfl, hn, hnc, hn12, hr⟩ := h
    obtain ⟨q, hq⟩ := same_row kids 0 A hr (toSL kids) k wt wd k wt wd rfl (by rw [toSL_len]; omega) (by rw [toSL_len]; omega)
    refine ⟨q + 2, ?_⟩
    show glossatorref15_Same.f (q + 2) k wt wd (toSL kids) k wt wd (toSL kids) = some true
    rw [glossatorref15_Same.f, if_pos rfl, if_pos rfl, if_pos rfl, glossatorref15_Same.j0]
    have : (((toSL kids).length : Int) != ((toSL kids).length : Int)) = false := by simp
    rw [this, if_neg (by decide)]
    exact hq
theorem same_row {S : Nat → Prop} {w : World} : ∀ (l : List Tr) (i : Nat) (A : Option Addr), RowC S w A i l → ∀ (xs : List S25) (a0 a1 a2 b0 b1 b2 : Int), xs.drop i = toSL l → i + l.length = xs.length → xs.length ≤ 1000000000000 → ∃ k, glossatorref15_Same.l0 k (i : Int) a0 a1 a2 xs b0 b1 b2 xs = some true
  | [], i, A, h, xs, a0, a1, a2, b0, b1, b2, hd, hl, h12 => by
    refine ⟨1, ?_⟩
    rw [glossatorref15_Same.l0, if_neg (by simp only [List.length_nil] at hl; omega)]
  | t :: l, i, A, h, xs, a0, a1, a2, b0, b1, b2, hd, hl, h12 => by
    unfold RowC at h
    obtain ⟨⟨b, off, cs, hA, hS, hN, hc⟩, hrest⟩ := h
    obtain ⟨k1, h1⟩ := same_node t cs hN
    simp only [List.length_cons] at hl
    have hx : xs[i]? = some (toS t) := by
      have := congrArg (fun l => l[0]?) hd
      simpa [toSL, List.getElem?_drop] using this
    have hd1 : xs.drop (i + 1) = toSL l := by
      have := congrArg List.tail hd
      simpa [toSL, List.tail_drop] using this
    obtain ⟨k2, h2⟩ := same_row l (i + 1) A hrest xs a0 a1 a2 b0 b1 b2 hd1 (by omega) h12
    refine ⟨max k1 k2 + 1, ?_⟩
    rw [glossatorref15_Same.l0, if_pos (by omega), if_pos (by omega), if_pos (by omega), rd_at xs i _ hx, sf_up (Nat.le_max_left k1 k2) h1]
    rw [Option.bind_some, if_pos rfl, show wrap64 ((i : Int) + 1) = ((i + 1 : Nat) : Int) by unfold wrap64; omega]
    exact sl_up (Nat.le_max_right k1 k2) h2
end
/-- Same of two places where one tree lies -/
theorem same_tree {S S' : Nat → Prop} {w : World} {t : Tr} {cs ds : List Value} (h : NodeC S w t cs) (h' : NodeC S' w t ds) :
    Calls Try.prog 6 #[.agg cs.toArray, .agg ds.toArray] w fun e w' => e = .returned (.bool true) ∧ Below w.heap.size w w' := by
  obtain ⟨A, c, rfl, hc, hr⟩ := node_C h
  obtain ⟨A', c', rfl, hc', hr'⟩ := node_C h'
  obtain ⟨k, hk⟩ := same_node t _ h
  exact glossatorref15_Same.calls k _ _ _ A c _ _ _ _ A' c' _ true w hr hc hr' hc' hk
/-- a token of the printed kind -/
def tokOf (x : S38) : Tok := ⟨x.f0, x.f1, x.f2⟩
theorem toks_of {w : World} {A : Option Addr} {l : List S38} (h : Kd.C k38 w A l.length l) (hw : ∀ x ∈ l, 0 ≤ x.f0 ∧ x.f0 < 256) : Toks w A (l.map tokOf) := by
  intro i t ht
  rw [List.getElem?_map] at ht
  obtain ⟨x, hx, rfl⟩ := Option.map_eq_some_iff.1 ht
  have hi : i < l.length := by
    rcases Nat.lt_or_ge i l.length with h | h
    · exact h
    · rw [List.getElem?_eq_none h] at hx; cases hx
  obtain ⟨ad, e, h1, h2, h3⟩ := at_T38 h (i : Int) (by omega) (by omega)
  have hrd : rd_T38 l (i : Int) = x := by
    unfold rd_T38
    rw [show (i : Int).toNat = i by omega, List.getD_eq_getElem?_getD, hx]; rfl
  rw [hrd, show (i : Int).toNat = i by omega] at h1 h2 h3
  exact ⟨ad, e, h1, h2, h3, hw x (List.mem_of_getElem? hx)⟩
theorem same12_row (l : List S38) (hl : l.length ≤ 1000000000000000000) : ∀ (d i : Nat), i + d = l.length → glossatorref12_Same.l0 (d + 1) l l (i : Int) = some true
  | 0, i, h => by rw [glossatorref12_Same.l0, if_neg (by omega)]
  | d + 1, i, h => by
    rw [glossatorref12_Same.l0, if_pos (by omega), if_pos (by omega), if_pos (by omega)]
    have : ∀ x : S38, (!(x.f0 == x.f0) || (!(x.f1 == x.f1) || !(x.f2 == x.f2))) = false := fun x => by simp
    rw [if_neg (by rw [this]; decide), show wrap64 ((i : Int) + 1) = ((i + 1 : Nat) : Int) by unfold wrap64; omega]
    exact same12_row l hl d (i + 1) (by omega)
theorem same_toks {w : World} {A A' : Option Addr} {c c' : Nat} {l : List S38} (h : Kd.C k38 w A l.length l) (hc : l.length ≤ c) (h' : Kd.C k38 w A' l.length l) (hc' : l.length ≤ c') (hl : l.length ≤ 1000000000000000000) :
    Calls Try.prog 7 #[.slice A l.length c, .slice A' l.length c'] w fun e w' => e = .returned (.bool true) ∧ Below w.heap.size w w' :=
  (glossatorref12_Same.calls (l.length + 1) A c l A' c' l true w h hc h' hc' (by unfold glossatorref12_Same.f; rw [if_pos rfl]; exact same12_row l hl l.length 0 (by omega))).mono (fun e w' k => ⟨k.1, k.2.below⟩)
end Go.Proofs.Ytalnicdpcigocaa.PQ
namespace Go.Proofs.Ytalnicdpcigocaa.PQ
open Go.RowKit Ps PM PL PP GR Go.Proofs.YtalnicdpcigocaaW.PrintWords Go.Proofs.YtalnicdpcigocaaW.PrintLast Go.Proofs.YtalnicdpcigocaaW.PrintMore Go.Proofs.Ytalnicdpcigocaa.PParseTrees
set_option linter.unusedVariables false
set_option linter.unusedSimpArgs false
set_option maxHeartbeats 1000000 in
set_option maxRecDepth 100000 in
theorem trees_any (w : World) (A : Option Addr) (c : Nat) (l : List S38) (hr : Kd.C k38 w A l.length l) (hc : l.length ≤ c) (hw : ∀ x ∈ l, 0 ≤ x.f0 ∧ x.f0 < 256) (hy : l.length * 24 ≤ 140737488351232) :
    Calls Try.prog 3 #[.slice A l.length c] w fun e w' => e = .returned (.bool true) ∧ Below w.heap.size w w' := by
  have hT := toks_of hr hw
  have hLl : (l.map tokOf).length = l.length := List.length_map ..
  have HR := Aside0.mk hr
  have HT := Aside0.mk hT
  have HLT := Aside0.mk (toks_lt hT)
  have HC := Aside0.mk hc
  have HW := Aside0.mk hw
  have HLL := Aside0.mk hLl
  clear hT hr hLl hc hw
  by_cases h1 : 3000 < l.length ∧ l.length ≤ 16384
  · have d1 : decide ((3000 : Int) < (l.length : Int)) = true := by simp; omega
    have d2 : decide ((l.length : Int) ≤ 16384) = true := by simp; omega
    clear h1
    go_enter Try.func3, Try.ntmps3
    go_wp2
    go_ret
    exact ⟨rfl, Below.refl _ _⟩
  · have hmain : ∀ d : Bool, decide ((3000 : Int) < (l.length : Int)) = d → (d = true → decide ((l.length : Int) ≤ 16384) = false) → Calls Try.prog 3 #[.slice A l.length c] w fun e w' => e = .returned (.bool true) ∧ Below w.heap.size w w' := by
      intro d d1 d2
      have hlit := World.ownsRow_lit (base := w.heap.size) (e := 38) (size := 3) w #[] 0 (Nat.le_refl _) (by simp [maxLen]) (by simp)
      have HLIT : Aside0 (Kd.R k38 38 (w.alloc (.cells #[] 38)) w.heap.size (fun _ => True) (.slice (some ⟨w.heap.size, 0, none⟩) 0 0) []) := ⟨⟨fun _ _ => trivial, [], hlit, Reps.none _ _⟩⟩
      have HR1 := Aside0.mk (Kd.C_below HR.out (PL.below_alloc w (.cells #[] 38)))
      have hb0 := PL.below_alloc w (.cells #[] 38)
      clear hlit h1
      have hd2 : d = true → decide ((l.length : Int) ≤ 16384) = false := d2
      clear d2
      cases d with
      | false =>
        clear hd2
        go_enter Try.func3, Try.ntmps3
        go_wp2_with ((with_reducible refine gate_builtin (b := .append) (xs := #[.tmp 16, .tmp 17]) rfl ?_); at_builtin; refine Kd.R_append_rows k38 (Rr := k38.K (w.alloc (.cells #[] 38))) (w0 := w) w.heap.size rfl (.tmp 16) (.tmp 17) 22 38 (.agg #[.int .u8 0, .int .i64 0, .int .i64 0]) 24 rfl Try.underlying22 (by kernel_rfl) rfl (by decide) (by omega) (.slice (some ⟨w.heap.size, 0, none⟩) 0 0) [] l A l.length c (fun _ => True) (fun _ => False) rfl rfl HLIT.out HR1.out ?aK (fun _ h => h.elim) (fun _ _ => trivial) hb0 ?aS ?aL ?_)
        case aK =>
          intro x cs h
          obtain rfl := k38_open h
          exact k38_mkM _ _ _ _
        case aS => rw [World.size_alloc]; omega
        case aL => simp; omega
        intro v1 w1 hRw hb1 hgr hat
        (try rw [List.nil_append] at hRw)
        obtain ⟨A1, c1, rfl, hc1, hC1⟩ := Kd.R_reads hRw
        have HRA := Aside0.mk (Kd.C_below HR.out hb1)
        have HRB := Aside0.mk hC1
        have HTA := Aside0.mk (toks_of (Kd.C_below HR.out hb1) HW.out)
        have HTB := Aside0.mk (toks_of hC1 HW.out)
        have HC1 := Aside0.mk hc1
        have HB1 := Aside0.mk hb1
        have HPF : Aside0 (Calls Try.prog 4 #[.slice A1 l.length c1] w1 (Made w1 (l.map tokOf))) := ⟨by
          have := pfile_made w1 A1 c1 (l.map tokOf) HTB.out (by rw [HLL.out]; exact HC1.out) (toks_lt HTB.out)
          rwa [HLL.out] at this⟩
        clear hRw hb1 hgr hat hC1 hc1 HLIT HR1 hb0
        go_wp2_with fail
        go_at_call 4
        refine HPF.out.mono ?_
        rintro e w2 ⟨cs2, rfl, hN2, hB2⟩
        obtain ⟨An, nn, cn, rfl, _⟩ := hN2.four
        have HN2 := Aside0.mk hN2
        have HB2 := Aside0.mk (HB1.out.trans (hB2.mono HB1.out.size))
        have HRA2 := Aside0.mk (Kd.C_below HRA.out hB2)
        have HRB2 := Aside0.mk (Kd.C_below HRB.out hB2)
        have HTA2 := Aside0.mk (HTA.out.move (fun ad _ h => hB2.block _ h))
        clear hN2 hB2 HPF
        generalize hE : byE (l.map tokOf) = er at *
        generalize hTT : byT (l.map tokOf) = T at *
        have HE := Aside0.mk hE
        have HTT := Aside0.mk hTT
        clear hE hTT
        generalize htk : T.kind = tk at *
        generalize htw : T.want = tw at *
        generalize htd : T.width = td at *
        have HTK := Aside0.mk htk
        have HTW := Aside0.mk htw
        have HTD := Aside0.mk htd
        clear htk htw htd
        go_wp2_with fail
        have hnb : (w2.alloc (.cells #[.int .u8 tk, .int .u8 tw, .int .i64 td, .slice An nn cn] 25)).heap[w2.heap.size]? = some (.cells #[.int .u8 tk, .int .u8 tw, .int .i64 td, .slice An nn cn] 25 (0, 0)) := heap_at rfl
        have hbn := PL.below_alloc w2 (.cells #[.int .u8 tk, .int .u8 tw, .int .i64 td, .slice An nn cn] 25)
        have HN3 := Aside0.mk (HN2.out.move (S' := fun _ => True) (fun b hb hlt => ⟨trivial, hbn.block b hlt⟩))
        have HB3 := Aside0.mk (HB2.out.trans (hbn.mono HB2.out.size))
        have HRA3 := Aside0.mk (Kd.C_below HRA2.out hbn)
        have HRB3 := Aside0.mk (Kd.C_below HRB2.out hbn)
        have HTA3 := Aside0.mk (HTA2.out.move (fun ad _ h => hbn.block _ h))
        have HNB := Aside0.mk hnb
        clear hnb hbn HN2 HB2 HRA2 HRB2 HTA2
        generalize w2.alloc (.cells #[.int .u8 tk, .int .u8 tw, .int .i64 td, .slice An nn cn] 25) = w3 at *
        generalize w2.heap.size = nb at *
        have HPR : Aside0 (Calls Try.prog 5 #[.slice A l.length c] w3 (Made w3 (l.map tokOf))) := ⟨by
          have := rfile_made w3 A c (l.map tokOf) HTA3.out (by rw [HLL.out]; exact HC.out) (toks_lt HTA3.out)
          rwa [HLL.out] at this⟩
        go_at_call 5
        refine HPR.out.mono ?_
        rintro e w4 ⟨cs4, rfl, hN4, hB4⟩
        obtain ⟨Am, nm, cm, rfl, _⟩ := hN4.four
        rw [HE.out]
        rw [HTT.out] at hN4 ⊢
        rw [HTK.out, HTW.out, HTD.out] at hN4 ⊢
        have hlt3 := blk_lt HNB.out
        have HN4a := Aside0.mk (HN3.out.move (S' := fun _ => True) (fun b hb hlt => ⟨trivial, hB4.block b hlt⟩))
        have HN4b := Aside0.mk hN4
        have HB4 := Aside0.mk (HB3.out.trans (hB4.mono HB3.out.size))
        have HRA4 := Aside0.mk (Kd.C_below HRA3.out hB4)
        have HRB4 := Aside0.mk (Kd.C_below HRB3.out hB4)
        have HNB4 := Aside0.mk ((hB4.block nb hlt3).trans HNB.out)
        clear hN4 hB4 HN3 HB3 HRA3 HRB3 HTA3 HNB HPR
        obtain ⟨n0, n1, n2, n3, nf⟩ := four_cells HNB4.out
        have hlt4 := blk_lt HNB4.out
        go_wp2_with fail
        have hbm := PL.below_alloc w4 (.cells #[.int .u8 tk, .int .u8 tw, .int .i64 td, .slice Am nm cm] 25)
        have HS15 := Aside0.mk (same_tree (HN4a.out.move (S' := fun _ => True) (fun b hb hlt => ⟨trivial, hbm.block b hlt⟩)) (HN4b.out.move (S' := fun _ => True) (fun b hb hlt => ⟨trivial, hbm.block b hlt⟩)))
        have HB5 := Aside0.mk (HB4.out.trans (hbm.mono HB4.out.size))
        have HRA5 := Aside0.mk (Kd.C_below HRA4.out hbm)
        have HRB5 := Aside0.mk (Kd.C_below HRB4.out hbm)
        clear hbm HN4a HN4b HB4 HRA4 HRB4
        generalize w4.alloc (.cells #[.int .u8 tk, .int .u8 tw, .int .i64 td, .slice Am nm cm] 25) = w5 at *
        go_at_call 6
        refine HS15.out.mono ?_
        rintro e w6 ⟨rfl, hb6⟩
        have HS12 := Aside0.mk (same_toks (Kd.C_below HRB5.out hb6) HC1.out (Kd.C_below HRA5.out hb6) HC.out (by omega))
        have HB6 := Aside0.mk (HB5.out.trans (hb6.mono HB5.out.size))
        clear hb6 HS15 HB5 HRA5 HRB5
        go_wp2_with fail
        go_at_call 7
        refine HS12.out.mono ?_
        rintro e w7 ⟨rfl, hb7⟩
        have HB7 := Aside0.mk (HB6.out.trans (hb7.mono HB6.out.size))
        clear hb7
        go_wp2
        go_ret
        exact ⟨rfl, HB7.out⟩
      | true =>
        have d2 := hd2 rfl
        clear hd2
        go_enter Try.func3, Try.ntmps3
        go_wp2_with ((with_reducible refine gate_builtin (b := .append) (xs := #[.tmp 16, .tmp 17]) rfl ?_); at_builtin; refine Kd.R_append_rows k38 (Rr := k38.K (w.alloc (.cells #[] 38))) (w0 := w) w.heap.size rfl (.tmp 16) (.tmp 17) 22 38 (.agg #[.int .u8 0, .int .i64 0, .int .i64 0]) 24 rfl Try.underlying22 (by kernel_rfl) rfl (by decide) (by omega) (.slice (some ⟨w.heap.size, 0, none⟩) 0 0) [] l A l.length c (fun _ => True) (fun _ => False) rfl rfl HLIT.out HR1.out ?aK (fun _ h => h.elim) (fun _ _ => trivial) hb0 ?aS ?aL ?_)
        case aK =>
          intro x cs h
          obtain rfl := k38_open h
          exact k38_mkM _ _ _ _
        case aS => rw [World.size_alloc]; omega
        case aL => simp; omega
        intro v1 w1 hRw hb1 hgr hat
        (try rw [List.nil_append] at hRw)
        obtain ⟨A1, c1, rfl, hc1, hC1⟩ := Kd.R_reads hRw
        have HRA := Aside0.mk (Kd.C_below HR.out hb1)
        have HRB := Aside0.mk hC1
        have HTA := Aside0.mk (toks_of (Kd.C_below HR.out hb1) HW.out)
        have HTB := Aside0.mk (toks_of hC1 HW.out)
        have HC1 := Aside0.mk hc1
        have HB1 := Aside0.mk hb1
        have HPF : Aside0 (Calls Try.prog 4 #[.slice A1 l.length c1] w1 (Made w1 (l.map tokOf))) := ⟨by
          have := pfile_made w1 A1 c1 (l.map tokOf) HTB.out (by rw [HLL.out]; exact HC1.out) (toks_lt HTB.out)
          rwa [HLL.out] at this⟩
        clear hRw hb1 hgr hat hC1 hc1 HLIT HR1 hb0
        go_wp2_with fail
        go_at_call 4
        refine HPF.out.mono ?_
        rintro e w2 ⟨cs2, rfl, hN2, hB2⟩
        obtain ⟨An, nn, cn, rfl, _⟩ := hN2.four
        have HN2 := Aside0.mk hN2
        have HB2 := Aside0.mk (HB1.out.trans (hB2.mono HB1.out.size))
        have HRA2 := Aside0.mk (Kd.C_below HRA.out hB2)
        have HRB2 := Aside0.mk (Kd.C_below HRB.out hB2)
        have HTA2 := Aside0.mk (HTA.out.move (fun ad _ h => hB2.block _ h))
        clear hN2 hB2 HPF
        generalize hE : byE (l.map tokOf) = er at *
        generalize hTT : byT (l.map tokOf) = T at *
        have HE := Aside0.mk hE
        have HTT := Aside0.mk hTT
        clear hE hTT
        generalize htk : T.kind = tk at *
        generalize htw : T.want = tw at *
        generalize htd : T.width = td at *
        have HTK := Aside0.mk htk
        have HTW := Aside0.mk htw
        have HTD := Aside0.mk htd
        clear htk htw htd
        go_wp2_with fail
        have hnb : (w2.alloc (.cells #[.int .u8 tk, .int .u8 tw, .int .i64 td, .slice An nn cn] 25)).heap[w2.heap.size]? = some (.cells #[.int .u8 tk, .int .u8 tw, .int .i64 td, .slice An nn cn] 25 (0, 0)) := heap_at rfl
        have hbn := PL.below_alloc w2 (.cells #[.int .u8 tk, .int .u8 tw, .int .i64 td, .slice An nn cn] 25)
        have HN3 := Aside0.mk (HN2.out.move (S' := fun _ => True) (fun b hb hlt => ⟨trivial, hbn.block b hlt⟩))
        have HB3 := Aside0.mk (HB2.out.trans (hbn.mono HB2.out.size))
        have HRA3 := Aside0.mk (Kd.C_below HRA2.out hbn)
        have HRB3 := Aside0.mk (Kd.C_below HRB2.out hbn)
        have HTA3 := Aside0.mk (HTA2.out.move (fun ad _ h => hbn.block _ h))
        have HNB := Aside0.mk hnb
        clear hnb hbn HN2 HB2 HRA2 HRB2 HTA2
        generalize w2.alloc (.cells #[.int .u8 tk, .int .u8 tw, .int .i64 td, .slice An nn cn] 25) = w3 at *
        generalize w2.heap.size = nb at *
        have HPR : Aside0 (Calls Try.prog 5 #[.slice A l.length c] w3 (Made w3 (l.map tokOf))) := ⟨by
          have := rfile_made w3 A c (l.map tokOf) HTA3.out (by rw [HLL.out]; exact HC.out) (toks_lt HTA3.out)
          rwa [HLL.out] at this⟩
        go_at_call 5
        refine HPR.out.mono ?_
        rintro e w4 ⟨cs4, rfl, hN4, hB4⟩
        obtain ⟨Am, nm, cm, rfl, _⟩ := hN4.four
        rw [HE.out]
        rw [HTT.out] at hN4 ⊢
        rw [HTK.out, HTW.out, HTD.out] at hN4 ⊢
        have hlt3 := blk_lt HNB.out
        have HN4a := Aside0.mk (HN3.out.move (S' := fun _ => True) (fun b hb hlt => ⟨trivial, hB4.block b hlt⟩))
        have HN4b := Aside0.mk hN4
        have HB4 := Aside0.mk (HB3.out.trans (hB4.mono HB3.out.size))
        have HRA4 := Aside0.mk (Kd.C_below HRA3.out hB4)
        have HRB4 := Aside0.mk (Kd.C_below HRB3.out hB4)
        have HNB4 := Aside0.mk ((hB4.block nb hlt3).trans HNB.out)
        clear hN4 hB4 HN3 HB3 HRA3 HRB3 HTA3 HNB HPR
        obtain ⟨n0, n1, n2, n3, nf⟩ := four_cells HNB4.out
        have hlt4 := blk_lt HNB4.out
        go_wp2_with fail
        have hbm := PL.below_alloc w4 (.cells #[.int .u8 tk, .int .u8 tw, .int .i64 td, .slice Am nm cm] 25)
        have HS15 := Aside0.mk (same_tree (HN4a.out.move (S' := fun _ => True) (fun b hb hlt => ⟨trivial, hbm.block b hlt⟩)) (HN4b.out.move (S' := fun _ => True) (fun b hb hlt => ⟨trivial, hbm.block b hlt⟩)))
        have HB5 := Aside0.mk (HB4.out.trans (hbm.mono HB4.out.size))
        have HRA5 := Aside0.mk (Kd.C_below HRA4.out hbm)
        have HRB5 := Aside0.mk (Kd.C_below HRB4.out hbm)
        clear hbm HN4a HN4b HB4 HRA4 HRB4
        generalize w4.alloc (.cells #[.int .u8 tk, .int .u8 tw, .int .i64 td, .slice Am nm cm] 25) = w5 at *
        go_at_call 6
        refine HS15.out.mono ?_
        rintro e w6 ⟨rfl, hb6⟩
        have HS12 := Aside0.mk (same_toks (Kd.C_below HRB5.out hb6) HC1.out (Kd.C_below HRA5.out hb6) HC.out (by omega))
        have HB6 := Aside0.mk (HB5.out.trans (hb6.mono HB5.out.size))
        clear hb6 HS15 HB5 HRA5 HRB5
        go_wp2_with fail
        go_at_call 7
        refine HS12.out.mono ?_
        rintro e w7 ⟨rfl, hb7⟩
        have HB7 := Aside0.mk (HB6.out.trans (hb7.mono HB6.out.size))
        clear hb7
        go_wp2
        go_ret
        exact ⟨rfl, HB7.out⟩
    refine hmain _ rfl (fun h => ?_)
    simp at h ⊢
    omega
end Go.Proofs.Ytalnicdpcigocaa.PQ
