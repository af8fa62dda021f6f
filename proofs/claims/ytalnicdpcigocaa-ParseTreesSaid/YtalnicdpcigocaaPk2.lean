/- Part 2 of the texts of this proof, in build order. -/
import Derived.Test.YtalnicdpcigocaaPk1
import Derived.BigQuiet
import Derived.Deep.QuietTactic
import Derived.Maps.Own
import Derived.StillTailTactics
import Derived.OneCell
import Derived.Deep.RegionHeld3
namespace Go.Proofs.Ytalnicdpcigocaa.PP
open Go.RowKit Ps PM PL GR Go.Proofs.YtalnicdpcigocaaW.PrintWords Go.Proofs.YtalnicdpcigocaaW.PrintLast Go.Proofs.YtalnicdpcigocaaW.PrintMore
set_option linter.unusedVariables false
set_option linter.unusedSimpArgs false
section
variable {σ : Type}
set_option maxHeartbeats 4000000 in
set_option maxRecDepth 100000 in
theorem begun_do (C : Ctx σ) {m : Nat} (ih : ∀ k, k ≤ m → AllOK C k) (S : Nat → Prop) (lo : Nat) (w : World) (mb : Nat) (kind : Int) (pb : Nat) (v : Value) (st : St σ) (hM : MkAt C S lo w mb kind [] pb v) (hP : ParAt C w pb st) (hk : st.kd C.L ≠ 0)
    (R : List Tr × St σ) (hr : Ps.bodyLoop C.L C.orc m (nextL C.L st).1 (nextL C.L st).2 = some R) :
    Calls Try.prog 57 #[.pointer (some ⟨mb, 0, none⟩)] w fun e w' => e = .returned (.tuple #[]) ∧ MkPost C S lo mb kind pb w v (R.1 ++ (wantL C.L 23 R.2).1) (wantL C.L 23 R.2).2 w' := by
  have HR := Aside0.mk (Run.start hM hP)
  have hle := hP.le
  have hL := C.hL
  have h1 := next_len' C st
  have hng := next_goes hk
  have hnl := next_len (L := C.L) st
  have HBL : Aside0 ((nextL C.L st).1.length + 2 * (C.L.length - (nextL C.L st).2.at_) ≤ 100000) := ⟨by have := hng.2.2.1; omega⟩
  have HLP := Aside0.mk hr
  have HK := Aside0.mk hk
  clear hM hP hr hk hng hnl
  go_enter Try.func57, Try.ntmps57
  go_wp2_with (first | (go_at_call 50; refine (take_any C S lo _ mb kind _ pb _ _ HR.out.mka HR.out.par (by (try simp only [List.length_append, List.length_nil]); omega) HK.out).mono ?_; rintro e w1 ⟨rfl, hp⟩; obtain ⟨v1, hR⟩ := HR.out.step hp; (try rw [List.nil_append] at hR); clear HR; have HR := Aside0.mk hR; clear hR hp; (try clear hm4); have hm4 := HR.out.m4))
  go_loopg [] m (fun kq wr => ∃ (acc : List Tr) (stc : St σ) (v' : Value), Aside0 (Run C S lo mb kind pb w v acc stc wr v') ∧ Aside0 (Ps.bodyLoop C.L C.orc kq acc stc = some R) ∧ Aside0 (kq ≤ m) ∧ Aside0 (acc.length + 2 * (C.L.length - stc.at_) ≤ 100000))
  case atStart => exact ⟨_, _, _, HR, HLP, ⟨Nat.le_refl _⟩, HBL⟩
  case round =>
    clear HR HLP HBL HK
    obtain ⟨acc, stc, v', HR, HA, HKn, HBc⟩ := hrel
    have hA := HA.out
    have hm4 := HR.out.m4
    cases gk with
    | zero => rw [Ps.bodyLoop] at hA; cases hA
    | succ k1 =>
      rw [Ps.bodyLoop] at hA
      have hal := HBc.out
      have HKD := Aside0.mk (fun w h => kind_any C w pb stc h)
      by_cases h23 : stc.kd C.L = 23
      · rw [if_neg (fun h => h.1 h23)] at hA
        obtain rfl := Option.some.inj hA
        rw [h23] at HKD
        clear hA h23 HA
        go_wp2_with (first | (go_at_call 21; refine (HKD.out _ HR.out.par).mono ?_; rintro e w4 ⟨rfl, hb⟩; have hR := HR.out.below hb; clear HR; have HR := Aside0.mk hR; clear hR hb; (try clear hm4); have hm4 := HR.out.m4) | (go_at_call 58; refine (want_any C S lo _ mb kind _ pb _ _ _ (by decide) HR.out.mka HR.out.par (by (try simp only [List.length_append, List.length_nil]); omega)).mono ?_; rintro e w2 ⟨rfl, hp⟩; obtain ⟨v2, hR⟩ := HR.out.step hp; (try rw [List.nil_append] at hR); clear HR; have HR := Aside0.mk hR; clear hR hp; (try clear hm4); have hm4 := HR.out.m4))
        refine bodyPost_end (v := .tuple #[]) (by first | rfl | simp [results, Try.results57, go_sem]) rfl ⟨rfl, HR.out.post⟩
      · have b23 := nb h23
        have c23 : (stc.kd C.L != 23) = true := bne_iff_ne.mpr h23
        by_cases h0 : stc.kd C.L = 0
        · rw [if_neg (fun h => h.2 h0)] at hA
          obtain rfl := Option.some.inj hA
          rw [h0] at HKD
          clear hA h23 h0 HA b23 c23
          go_wp2_with (first | (go_at_call 21; refine (HKD.out _ HR.out.par).mono ?_; rintro e w4 ⟨rfl, hb⟩; have hR := HR.out.below hb; clear HR; have HR := Aside0.mk hR; clear hR hb; (try clear hm4); have hm4 := HR.out.m4) | (go_at_call 58; refine (want_any C S lo _ mb kind _ pb _ _ _ (by decide) HR.out.mka HR.out.par (by (try simp only [List.length_append, List.length_nil]); omega)).mono ?_; rintro e w2 ⟨rfl, hp⟩; obtain ⟨v2, hR⟩ := HR.out.step hp; (try rw [List.nil_append] at hR); clear HR; have HR := Aside0.mk hR; clear hR hp; (try clear hm4); have hm4 := HR.out.m4))
          refine bodyPost_end (v := .tuple #[]) (by first | rfl | simp [results, Try.results57, go_sem]) rfl ⟨rfl, HR.out.post⟩
        · rw [if_pos ⟨h23, h0⟩] at hA
          obtain ⟨q, hx, hA⟩ := Option.bind_eq_some_iff.mp hA
          have b0 := nb h0
          have c0 : (stc.kd C.L != 0) = true := bne_iff_ne.mpr h0
          have hig := (mon k1 : Mon C.L C.orc k1).inner _ _ HR.out.par.le h0 hx
          have HA2 := Aside0.mk hA
          have HX := Aside0.mk hx
          have HK0 := Aside0.mk h0
          have hlb : q.1.length ≤ 40000 ∧ (acc ++ q.1).length + 2 * (C.L.length - q.2.at_) ≤ 100000 := by
            have a1 := hig.2.2.2
            have a2 := hig.2.2.1
            have a3 := hig.1
            have a4 := HR.out.par.le
            rw [List.length_append]
            omega
          have HLB := Aside0.mk hlb.2
          generalize stc.kd C.L = kd at HKD b0 b23 c0 c23
          clear hA hx h23 h0 hig HA hlb
          go_wp2_with (first | (go_at_call 21; refine (HKD.out _ HR.out.par).mono ?_; rintro e w4 ⟨rfl, hb⟩; have hR := HR.out.below hb; clear HR; have HR := Aside0.mk hR; clear hR hb; (try clear hm4); have hm4 := HR.out.m4) | (go_at_call 22; refine ((ih k1 (by have := HKn.out; omega)).inner S lo _ mb kind _ pb _ _ q HR.out.mka HR.out.par (by (try simp only [List.length_append, List.length_nil]); omega) HK0.out HX.out).mono ?_; rintro e w8 ⟨rfl, hp⟩; obtain ⟨v8, hR⟩ := HR.out.step hp; (try rw [List.nil_append] at hR); clear HR; have HR := Aside0.mk hR; clear hR hp; (try clear hm4); have hm4 := HR.out.m4))
          go_roundg k1
          case measure => omega
          case rel => exact ⟨_, _, _, HR, HA2, ⟨by have := HKn.out; omega⟩, HLB⟩
theorem begun_len (C : Ctx σ) {m : Nat} {st : St σ} {q : List Tr × St σ} (hle : st.at_ ≤ C.L.length) (hk : st.kd C.L ≠ 0) (hq : Ps.bodyLoop C.L C.orc m (nextL C.L st).1 (nextL C.L st).2 = some q) : (q.1 ++ (wantL C.L 23 q.2).1).length ≤ 1000000 := by
  have h := (mon m : Mon C.L C.orc m).bodyLoop _ _ _ (next_ok hk).2 hq
  have h1 := h.2.2
  have h2 := h.2.1
  have h3 := next_len' C st
  have h4 := want_len' C 23 q.2
  have h5 := C.hL
  rw [List.length_append]
  omega
theorem make_begun (C : Ctx σ) {n : Nat} (ih : ∀ k, k ≤ n → AllOK C k) (w : World) (pb : Nat) (st : St σ) (q : List Tr × St σ) (hP : ParAt C w pb st) (hk : st.kd C.L ≠ 0) (hq : Ps.bodyLoop C.L C.orc n (nextL C.L st).1 (nextL C.L st).2 = some q) :
    Calls Try.prog 19 #[.pointer (some ⟨pb, 0, none⟩), .int .u8 52, .func (.func 57) #[] #[]] w (fun e w' => LvPost C C.S0 pb w (node 52 (q.1 ++ (wantL C.L 23 q.2).1)) (wantL C.L 23 q.2).2 e w') := by
  refine make_any C C.S0 w pb st _ 52 _ _ _ _ (begun_len C hP.le hk hq) (fun _ _ => rfl) hP (s0_ok C hP (Nat.le_refl _)) (fun _ h => h) (fun w1 mb lo hb1 hm hP1 hM => ?_)
  rw [args1]
  exact begun_do C ih C.S0 lo w1 mb 52 pb _ st hM hP1 hk q hq
set_option maxHeartbeats 4000000 in
set_option maxRecDepth 100000 in
theorem begun_part (C : Ctx σ) {n : Nat} (ih : ∀ k, k ≤ n → AllOK C k) (w : World) (mb bx pb : Nat) (st : St σ) (q : List Tr × St σ) (hP : ParAt C w pb st) (hk : st.kd C.L ≠ 0) (hq : Ps.bodyLoop C.L C.orc n (nextL C.L st).1 (nextL C.L st).2 = some q)
    (hbx : w.cell? ⟨bx, 0, none⟩ = some (.pointer (some ⟨mb, 0, none⟩))) (hm4 : w.cell? ⟨mb, 4, none⟩ = some (.pointer (some ⟨pb, 0, none⟩))) :
    Calls Try.prog 56 #[.pointer (some ⟨bx, 0, none⟩)] w fun e w' => LvPost C C.S0 pb w (node 52 (q.1 ++ (wantL C.L 23 q.2).1)) (wantL C.L 23 q.2).2 e w' := by
  have HP := Aside0.mk hP
  have HMK := Aside0.mk (fun w hP => make_begun C ih w pb st q hP hk hq)
  have abx := alloc_cell hbx
  have am4 := alloc_cell hm4
  generalize node 52 (q.1 ++ (wantL C.L 23 q.2).1) = T at *
  have hz1 : (w.alloc zeroNode).heap[w.heap.size]? = some zeroNode := heap_at rfl
  have hs1 : (w.alloc zeroNode).heap.size = w.heap.size + 1 := World.size_alloc _ _
  have HZ1 := Aside0.mk hz1
  clear hP hq hz1
  go_enter Try.func56, Try.ntmps56
  go_wp2_with (first | (go_at_call 19; refine (HMK.out _ (HP.out.below (PL.below_alloc _ _))).mono ?_; rintro e w2 ⟨cs, rfl, hN, hP2, hF2⟩; obtain ⟨A, nn, cc, rfl, _⟩ := hN.four; have hz2 := keep_block HZ1.out (Nat.le_trans HP.out.lo (Nat.le_of_lt HP.out.lt)) (by have := HP.out.lt; omega) hF2; obtain ⟨y0, y1, y2, y3, yf⟩ := four_cells hz2; have HN := Aside0.mk hN; have HP2 := Aside0.mk hP2; have HF2 := Aside0.mk hF2; have HZ2 := Aside0.mk hz2; clear hN hP2 hF2 hz2))
  refine bodyPost_ret (results_cell_row rfl _ _ w.heap.size 25 _ (0, 0) _ rfl (set4_block HZ2.out _ _ _ _) Try.underlying25 rfl (by kernel_rfl)) rfl (LvPost.ret HP.out (PL.below_alloc _ _) (Nat.le_refl _) (by rw [World.size_alloc]; omega) HN.out HP2.out HF2.out)
end
end Go.Proofs.Ytalnicdpcigocaa.PP
namespace Go.Proofs.Ytalnicdpcigocaa.PP
open Go.RowKit Ps PM PL GR Go.Proofs.YtalnicdpcigocaaW.PrintWords Go.Proofs.YtalnicdpcigocaaW.PrintLast Go.Proofs.YtalnicdpcigocaaW.PrintMore
set_option linter.unusedVariables false
set_option linter.unusedSimpArgs false
section
variable {σ : Type}
theorem begun_hp (C : Ctx σ) {n : Nat} (ih : ∀ k, k ≤ n → AllOK C k) {S : Nat → Prop} {lo mb : Nat} {kind : Int} {pb : Nat} {w : World} {v : Value} {kids : List Tr} {st : St σ} {w1 w2 : World} (h : Run C S lo mb kind pb w v kids st w v) (h1 : Run C S lo mb kind pb w v kids st w1 v) (hwl : w.heap.size < w1.heap.size)
    (hbx : w1.cell? ⟨w.heap.size, 0, none⟩ = some (.pointer (some ⟨mb, 0, none⟩))) (hk : st.kd C.L ≠ 0) {s' : σ} {r' : Tr × St σ} (hF : FrX (XM C pb mb v) w1 w2) (hm : w2.cell? ⟨mb, 4, none⟩ = some (.pointer (some ⟨pb, 0, none⟩))) (hP : ParAt C w2 pb ⟨nx C.L st.at_, s'⟩)
    (hq : Ps.begun C.L C.orc n ⟨nx C.L st.at_, s'⟩ = some r') :
    Calls Try.prog 56 (#[] ++ #[.pointer (some ⟨w.heap.size, 0, none⟩)]) w2 (fun e w' => LvPost C C.S0 pb w2 r'.1 r'.2 e w') := by
  cases n with
  | zero => rw [Ps.begun] at hq; cases hq
  | succ m =>
    rw [Ps.begun] at hq
    obtain ⟨q, hq', rfl⟩ := Option.map_eq_some_iff.mp hq
    rw [show (#[] ++ #[.pointer (some ⟨w.heap.size, 0, none⟩)] : Array Value) = #[.pointer (some ⟨w.heap.size, 0, none⟩)] by simp]
    exact begun_part C (fun k hk => ih k (by omega)) w2 mb w.heap.size pb _ q hP (by rw [kd_same (st := st) h.par.le rfl]; exact hk) hq' (box_kept h hwl hbx hF) hm
set_option maxHeartbeats 4000000 in
set_option maxRecDepth 100000 in
theorem block_succ (C : Ctx σ) (hcf0 : Enters C.f) {n : Nat} (ih : ∀ k, k ≤ n → AllOK C k) (S : Nat → Prop) (lo : Nat) (w : World) (mb : Nat) (kind : Int) (kids : List Tr) (pb : Nat) (v : Value) (st : St σ) (r : List Tr × St σ) (hM : MkAt C S lo w mb kind kids pb v) (hP : ParAt C w pb st) (hlen : kids.length ≤ 200000)
    (hr : Ps.block C.L C.orc (n + 1) st = some r) :
    Calls Try.prog 47 #[.pointer (some ⟨mb, 0, none⟩)] w fun e w' => e = .returned (.tuple #[]) ∧ MkPost C S lo mb kind pb w v (kids ++ r.1) r.2 w' := by
  rw [Ps.block] at hr
  have hmf : ∀ (fn : Fn) (first cap : Array Value) (w : World), (Instr.makeFunc fn first cap).run Try.prog w = .ok (.func fn first cap) w := fun _ _ _ _ => rfl
  have HR := Aside0.mk (Run.start hM hP)
  have hm4 := HR.out.m4
  have am4 := alloc_cell hm4
  have HKD := Aside0.mk (fun w h => kind_any C w pb st h)
  have HR0 := Aside0.mk (HR.out.below (PL.below_alloc w (.cells #[.pointer (some ⟨mb, 0, none⟩)] 55)))
  have hle := hP.le
  clear hM hP
  by_cases hb : st.kd C.L = 22
  · rw [if_pos hb] at hr
    have hk0 : st.kd C.L ≠ 0 := by rw [hb]; decide
    rw [hb] at HKD
    have HRR := Aside0.mk hr
    clear hr hb
    go_enter Try.func47, Try.ntmps47
    go_wp2_with (first | (go_at_call 21; refine (HKD.out _ HR0.out.par).mono ?_; rintro e w1 ⟨rfl, hb1⟩; have HR1 := Aside0.mk (HR0.out.below hb1); have hbx1 := ((World.cell?_of_block (w := w.alloc (.cells #[.pointer (some ⟨mb, 0, none⟩)] 55)) (a := ⟨w.heap.size, 0, none⟩) (hb1.block w.heap.size (by rw [World.size_alloc]; omega))).trans (show _ = some (Value.pointer (some ⟨mb, 0, none⟩)) by rw [blk_cell (heap_at rfl)]; rfl)); have hwl : w.heap.size < w1.heap.size := (by have := hb1.size; rw [World.size_alloc] at this; omega); clear hb1) | (go_at_call 34; refine (put_any C hcf0 S lo _ mb kind kids pb v st 52 (by decide) 56 #[] #[.pointer (some ⟨w.heap.size, 0, none⟩)] (fun _ _ => rfl) _ r HRR.out HR1.out.mka HR1.out.par (by omega) (fun w2 s' r' hF hm2 hP2 hq => begun_hp C ih HR.out HR1.out hwl hbx1 hk0 hF hm2 hP2 hq)).mono ?_; rintro e w2 ⟨rfl, hp2⟩; obtain ⟨v2, hR2⟩ := HR1.out.step hp2))
    refine bodyPost_end (v := .tuple #[]) (by first | rfl | simp [results, Try.results47, go_sem]) rfl ⟨rfl, hR2.post⟩
  · rw [if_neg hb] at hr
    obtain rfl := Option.some.inj hr
    have b22 := nb hb
    have c22 : (st.kd C.L != 22) = true := bne_iff_ne.mpr hb
    generalize st.kd C.L = kd at HKD b22 c22
    clear hr hb
    go_enter Try.func47, Try.ntmps47
    go_wp2_with (first | (go_at_call 21; refine (HKD.out _ HR0.out.par).mono ?_; rintro e w1 ⟨rfl, hb1⟩; have HR1 := Aside0.mk (HR0.out.below hb1); have hbx1 := ((World.cell?_of_block (w := w.alloc (.cells #[.pointer (some ⟨mb, 0, none⟩)] 55)) (a := ⟨w.heap.size, 0, none⟩) (hb1.block w.heap.size (by rw [World.size_alloc]; omega))).trans (show _ = some (Value.pointer (some ⟨mb, 0, none⟩)) by rw [blk_cell (heap_at rfl)]; rfl)); have hwl : w.heap.size < w1.heap.size := (by have := hb1.size; rw [World.size_alloc] at this; omega); clear hb1) | (go_at_call 55; refine (missing_any C S lo _ mb kind kids pb _ st 52 HR1.out.mka HR1.out.par (by omega)).mono ?_; rintro e w2 ⟨rfl, hp2⟩; obtain ⟨v2, hR2⟩ := HR1.out.step hp2))
    refine bodyPost_ret (results_none rfl _ _ _) rfl ⟨rfl, hR2.post⟩
end
end Go.Proofs.Ytalnicdpcigocaa.PP
namespace Go.Proofs.Ytalnicdpcigocaa.PP
open Go.RowKit Ps PM PL GR Go.Proofs.YtalnicdpcigocaaW.PrintWords Go.Proofs.YtalnicdpcigocaaW.PrintLast Go.Proofs.YtalnicdpcigocaaW.PrintMore
set_option linter.unusedVariables false
set_option linter.unusedSimpArgs false
section
variable {σ : Type}
set_option maxHeartbeats 4000000 in
set_option maxRecDepth 100000 in
theorem wrong_do (C : Ctx σ) {m : Nat} (S : Nat → Prop) (lo : Nat) (w : World) (mb bp : Nat) (kind : Int) (pb : Nat) (v : Value) (st : St σ) (hM : MkAt C S lo w mb kind [] pb v) (hP : ParAt C w pb st) (hk : st.kd C.L ≠ 0)
    (hbx0 : w.cell? ⟨bp, 0, none⟩ = some (.pointer (some ⟨pb, 0, none⟩))) (hbn : ¬ XM C pb mb v bp) (R : List Tr × St σ) (hr : Ps.wrongLoop C.L m [] st = some R) :
    Calls Try.prog 49 #[.pointer (some ⟨mb, 0, none⟩), .pointer (some ⟨bp, 0, none⟩)] w fun e w' => e = .returned (.tuple #[]) ∧ MkPost C S lo mb kind pb w v R.1 R.2 w' := by
  have HR := Aside0.mk (Run.start hM hP)
  have hL := C.hL
  have HBX := Aside0.mk hbx0
  have hbl : bp < w.heap.size := cell_lt hbx0
  have HLP := Aside0.mk hr
  have HK := Aside0.mk hk
  clear hM hP hr hk hbx0
  go_enter Try.func49, Try.ntmps49
  go_wp2
  go_loopg [] m (fun kq wr => ∃ (acc : List Tr) (stc : St σ) (v' : Value), Aside0 (Run C S lo mb kind pb w v acc stc wr v') ∧ Aside0 (Ps.wrongLoop C.L kq acc stc = some R) ∧ Aside0 (stc.kd C.L ≠ 0) ∧ Aside0 (acc.length + 2 * (C.L.length - stc.at_) ≤ 100000))
  case atStart => exact ⟨_, _, _, HR, HLP, HK, ⟨by simp only [List.length_nil]; omega⟩⟩
  case round =>
    clear HR HLP HK
    obtain ⟨acc, stc, v', HR, HA, HK, HBc⟩ := hrel
    have hA := HA.out
    have hbx := (World.cell?_of_block (a := ⟨bp, 0, none⟩) (HR.out.fr.block bp hbl hbn)).trans HBX.out
    cases gk with
    | zero => rw [Ps.wrongLoop] at hA; cases hA
    | succ k1 =>
      rw [Ps.wrongLoop] at hA
      have hal := HBc.out
      have HKD1 := Aside0.mk (fun w h => kind_any C w pb stc h)
      have HKD2 := Aside0.mk (fun w h => kind_any C w pb (nextL C.L stc).2 h)
      have hng := next_goes HK.out
      have hnl := next_len (L := C.L) stc
      have h1 := next_len' C stc
      have HST := Aside0.mk (fun w => stat_any ((nextL C.L stc).2.kd C.L) w)
      have HLB : Aside0 ((acc ++ (nextL C.L stc).1).length + 2 * (C.L.length - (nextL C.L stc).2.at_) ≤ 100000) := ⟨by
        have a1 := hng.2.2.1
        rw [List.length_append]
        omega⟩
      clear hng hnl HA
      by_cases h1a : stc.kd C.L = 23
      · rw [if_pos (Or.inl h1a)] at hA
        obtain rfl := Option.some.inj hA
        rw [h1a] at HKD1
        clear hA h1a
        go_wp2_with (first | (go_at_call 21; first | (refine (HKD2.out _ HR.out.par).mono ?_; rintro e w4 ⟨rfl, hb⟩; have hR := HR.out.below hb; clear HR; have HR := Aside0.mk hR; clear hR hb; (try clear hm4); have hm4 := HR.out.m4; (try clear hbx); have hbx := (World.cell?_of_block (a := ⟨bp, 0, none⟩) (HR.out.fr.block bp hbl hbn)).trans HBX.out) | (refine (HKD1.out _ HR.out.par).mono ?_; rintro e w5 ⟨rfl, hb⟩; have hR := HR.out.below hb; clear HR; have HR := Aside0.mk hR; clear hR hb; (try clear hm4); have hm4 := HR.out.m4; (try clear hbx); have hbx := (World.cell?_of_block (a := ⟨bp, 0, none⟩) (HR.out.fr.block bp hbl hbn)).trans HBX.out)) | (go_at_call 50; refine (take_any C S lo _ mb kind _ pb _ _ HR.out.mka HR.out.par (by (try simp only [List.length_append, List.length_nil]); omega) HK.out).mono ?_; rintro e w1 ⟨rfl, hp⟩; obtain ⟨v1, hR⟩ := HR.out.step hp; (try rw [List.nil_append] at hR); clear HR; have HR := Aside0.mk hR; clear hR hp; (try clear hm4); have hm4 := HR.out.m4; (try clear hbx); have hbx := (World.cell?_of_block (a := ⟨bp, 0, none⟩) (HR.out.fr.block bp hbl hbn)).trans HBX.out) | (go_at_call 33; refine (HST.out _).mono ?_; rintro e w9 ⟨rfl, rfl⟩))
        refine bodyPost_ret (results_none rfl _ _ _) rfl ⟨rfl, HR.out.post⟩
      · have x1 := nb h1a
        by_cases h2a : stc.kd C.L = 25
        · rw [if_pos (Or.inr (Or.inl h2a))] at hA
          obtain rfl := Option.some.inj hA
          rw [h2a] at HKD1
          clear hA h1a h2a x1
          go_wp2_with (first | (go_at_call 21; first | (refine (HKD2.out _ HR.out.par).mono ?_; rintro e w4 ⟨rfl, hb⟩; have hR := HR.out.below hb; clear HR; have HR := Aside0.mk hR; clear hR hb; (try clear hm4); have hm4 := HR.out.m4; (try clear hbx); have hbx := (World.cell?_of_block (a := ⟨bp, 0, none⟩) (HR.out.fr.block bp hbl hbn)).trans HBX.out) | (refine (HKD1.out _ HR.out.par).mono ?_; rintro e w5 ⟨rfl, hb⟩; have hR := HR.out.below hb; clear HR; have HR := Aside0.mk hR; clear hR hb; (try clear hm4); have hm4 := HR.out.m4; (try clear hbx); have hbx := (World.cell?_of_block (a := ⟨bp, 0, none⟩) (HR.out.fr.block bp hbl hbn)).trans HBX.out)) | (go_at_call 50; refine (take_any C S lo _ mb kind _ pb _ _ HR.out.mka HR.out.par (by (try simp only [List.length_append, List.length_nil]); omega) HK.out).mono ?_; rintro e w1 ⟨rfl, hp⟩; obtain ⟨v1, hR⟩ := HR.out.step hp; (try rw [List.nil_append] at hR); clear HR; have HR := Aside0.mk hR; clear hR hp; (try clear hm4); have hm4 := HR.out.m4; (try clear hbx); have hbx := (World.cell?_of_block (a := ⟨bp, 0, none⟩) (HR.out.fr.block bp hbl hbn)).trans HBX.out) | (go_at_call 33; refine (HST.out _).mono ?_; rintro e w9 ⟨rfl, rfl⟩))
          refine bodyPost_ret (results_none rfl _ _ _) rfl ⟨rfl, HR.out.post⟩
        · have x2 := nb h2a
          generalize hk1 : stc.kd C.L = kd1 at HKD1 x1 x2 h1a h2a hA
          by_cases h3a : (nextL C.L stc).2.kd C.L = 0
          · rw [if_pos (Or.inr (Or.inr (Or.inl h3a)))] at hA
            obtain rfl := Option.some.inj hA
            rw [h3a] at HKD2
            clear hA h1a h2a h3a hk1
            go_wp2_with (first | (go_at_call 21; first | (refine (HKD2.out _ HR.out.par).mono ?_; rintro e w4 ⟨rfl, hb⟩; have hR := HR.out.below hb; clear HR; have HR := Aside0.mk hR; clear hR hb; (try clear hm4); have hm4 := HR.out.m4; (try clear hbx); have hbx := (World.cell?_of_block (a := ⟨bp, 0, none⟩) (HR.out.fr.block bp hbl hbn)).trans HBX.out) | (refine (HKD1.out _ HR.out.par).mono ?_; rintro e w5 ⟨rfl, hb⟩; have hR := HR.out.below hb; clear HR; have HR := Aside0.mk hR; clear hR hb; (try clear hm4); have hm4 := HR.out.m4; (try clear hbx); have hbx := (World.cell?_of_block (a := ⟨bp, 0, none⟩) (HR.out.fr.block bp hbl hbn)).trans HBX.out)) | (go_at_call 50; refine (take_any C S lo _ mb kind _ pb _ _ HR.out.mka HR.out.par (by (try simp only [List.length_append, List.length_nil]); omega) HK.out).mono ?_; rintro e w1 ⟨rfl, hp⟩; obtain ⟨v1, hR⟩ := HR.out.step hp; (try rw [List.nil_append] at hR); clear HR; have HR := Aside0.mk hR; clear hR hp; (try clear hm4); have hm4 := HR.out.m4; (try clear hbx); have hbx := (World.cell?_of_block (a := ⟨bp, 0, none⟩) (HR.out.fr.block bp hbl hbn)).trans HBX.out) | (go_at_call 33; refine (HST.out _).mono ?_; rintro e w9 ⟨rfl, rfl⟩))
            refine bodyPost_ret (results_none rfl _ _ _) rfl ⟨rfl, HR.out.post⟩
          · have x3 := nb h3a
            by_cases h4a : (nextL C.L stc).2.kd C.L = 23
            · rw [if_pos (Or.inr (Or.inr (Or.inr (Or.inl h4a))))] at hA
              obtain rfl := Option.some.inj hA
              rw [h4a] at HKD2
              clear hA h1a h2a h3a h4a hk1 x3
              go_wp2_with (first | (go_at_call 21; first | (refine (HKD2.out _ HR.out.par).mono ?_; rintro e w4 ⟨rfl, hb⟩; have hR := HR.out.below hb; clear HR; have HR := Aside0.mk hR; clear hR hb; (try clear hm4); have hm4 := HR.out.m4; (try clear hbx); have hbx := (World.cell?_of_block (a := ⟨bp, 0, none⟩) (HR.out.fr.block bp hbl hbn)).trans HBX.out) | (refine (HKD1.out _ HR.out.par).mono ?_; rintro e w5 ⟨rfl, hb⟩; have hR := HR.out.below hb; clear HR; have HR := Aside0.mk hR; clear hR hb; (try clear hm4); have hm4 := HR.out.m4; (try clear hbx); have hbx := (World.cell?_of_block (a := ⟨bp, 0, none⟩) (HR.out.fr.block bp hbl hbn)).trans HBX.out)) | (go_at_call 50; refine (take_any C S lo _ mb kind _ pb _ _ HR.out.mka HR.out.par (by (try simp only [List.length_append, List.length_nil]); omega) HK.out).mono ?_; rintro e w1 ⟨rfl, hp⟩; obtain ⟨v1, hR⟩ := HR.out.step hp; (try rw [List.nil_append] at hR); clear HR; have HR := Aside0.mk hR; clear hR hp; (try clear hm4); have hm4 := HR.out.m4; (try clear hbx); have hbx := (World.cell?_of_block (a := ⟨bp, 0, none⟩) (HR.out.fr.block bp hbl hbn)).trans HBX.out) | (go_at_call 33; refine (HST.out _).mono ?_; rintro e w9 ⟨rfl, rfl⟩))
              refine bodyPost_ret (results_none rfl _ _ _) rfl ⟨rfl, HR.out.post⟩
            · have x4 := nb h4a
              have HK2 := Aside0.mk h3a
              by_cases h5a : stat ((nextL C.L stc).2.kd C.L) ≠ 0
              · rw [if_pos (Or.inr (Or.inr (Or.inr (Or.inr h5a))))] at hA
                obtain rfl := Option.some.inj hA
                have x5 : (stat ((nextL C.L stc).2.kd C.L) != 0) = true := bne_iff_ne.mpr h5a
                generalize (nextL C.L stc).2.kd C.L = kd2 at HKD2 x3 x4 x5 HST
                generalize stat kd2 = sk at HST x5
                clear hA h1a h2a h3a h4a h5a hk1 HK2
                go_wp2_with (first | (go_at_call 21; first | (refine (HKD2.out _ HR.out.par).mono ?_; rintro e w4 ⟨rfl, hb⟩; have hR := HR.out.below hb; clear HR; have HR := Aside0.mk hR; clear hR hb; (try clear hm4); have hm4 := HR.out.m4; (try clear hbx); have hbx := (World.cell?_of_block (a := ⟨bp, 0, none⟩) (HR.out.fr.block bp hbl hbn)).trans HBX.out) | (refine (HKD1.out _ HR.out.par).mono ?_; rintro e w5 ⟨rfl, hb⟩; have hR := HR.out.below hb; clear HR; have HR := Aside0.mk hR; clear hR hb; (try clear hm4); have hm4 := HR.out.m4; (try clear hbx); have hbx := (World.cell?_of_block (a := ⟨bp, 0, none⟩) (HR.out.fr.block bp hbl hbn)).trans HBX.out)) | (go_at_call 50; refine (take_any C S lo _ mb kind _ pb _ _ HR.out.mka HR.out.par (by (try simp only [List.length_append, List.length_nil]); omega) HK.out).mono ?_; rintro e w1 ⟨rfl, hp⟩; obtain ⟨v1, hR⟩ := HR.out.step hp; (try rw [List.nil_append] at hR); clear HR; have HR := Aside0.mk hR; clear hR hp; (try clear hm4); have hm4 := HR.out.m4; (try clear hbx); have hbx := (World.cell?_of_block (a := ⟨bp, 0, none⟩) (HR.out.fr.block bp hbl hbn)).trans HBX.out) | (go_at_call 33; refine (HST.out _).mono ?_; rintro e w9 ⟨rfl, rfl⟩))
                refine bodyPost_ret (results_none rfl _ _ _) rfl ⟨rfl, HR.out.post⟩
              · have h5b : stat ((nextL C.L stc).2.kd C.L) = 0 := Classical.not_not.mp h5a
                rw [if_neg (fun h => by rcases h with h | h | h | h | h <;> contradiction)] at hA
                rw [h5b] at HST
                have HA2 := Aside0.mk hA
                generalize hk2 : (nextL C.L stc).2.kd C.L = kd2 at HKD2 x3 x4 HST
                clear hA h1a h2a h3a h4a h5a h5b hk1 hk2
                go_wp2_with (first | (go_at_call 21; first | (refine (HKD2.out _ HR.out.par).mono ?_; rintro e w4 ⟨rfl, hb⟩; have hR := HR.out.below hb; clear HR; have HR := Aside0.mk hR; clear hR hb; (try clear hm4); have hm4 := HR.out.m4; (try clear hbx); have hbx := (World.cell?_of_block (a := ⟨bp, 0, none⟩) (HR.out.fr.block bp hbl hbn)).trans HBX.out) | (refine (HKD1.out _ HR.out.par).mono ?_; rintro e w5 ⟨rfl, hb⟩; have hR := HR.out.below hb; clear HR; have HR := Aside0.mk hR; clear hR hb; (try clear hm4); have hm4 := HR.out.m4; (try clear hbx); have hbx := (World.cell?_of_block (a := ⟨bp, 0, none⟩) (HR.out.fr.block bp hbl hbn)).trans HBX.out)) | (go_at_call 50; refine (take_any C S lo _ mb kind _ pb _ _ HR.out.mka HR.out.par (by (try simp only [List.length_append, List.length_nil]); omega) HK.out).mono ?_; rintro e w1 ⟨rfl, hp⟩; obtain ⟨v1, hR⟩ := HR.out.step hp; (try rw [List.nil_append] at hR); clear HR; have HR := Aside0.mk hR; clear hR hp; (try clear hm4); have hm4 := HR.out.m4; (try clear hbx); have hbx := (World.cell?_of_block (a := ⟨bp, 0, none⟩) (HR.out.fr.block bp hbl hbn)).trans HBX.out) | (go_at_call 33; refine (HST.out _).mono ?_; rintro e w9 ⟨rfl, rfl⟩))
                go_roundg k1
                case measure => omega
                case rel => exact ⟨_, _, _, HR, HA2, HK2, HLB⟩
end
end Go.Proofs.Ytalnicdpcigocaa.PP
namespace Go.Proofs.Ytalnicdpcigocaa.PP
open Go.RowKit Ps PM PL GR Go.Proofs.YtalnicdpcigocaaW.PrintWords Go.Proofs.YtalnicdpcigocaaW.PrintLast Go.Proofs.YtalnicdpcigocaaW.PrintMore
set_option linter.unusedVariables false
set_option linter.unusedSimpArgs false
section
variable {σ : Type}
theorem args2 (x y : Value) : ((#[] : Array Value).push x ++ #[y] : Array Value) = #[x, y] := by simp
theorem make_wrong (C : Ctx σ) {m : Nat} (w : World) (bp pb : Nat) (st : St σ) (R : List Tr × St σ) (hP : ParAt C w pb st) (hk : st.kd C.L ≠ 0) (hbx : w.cell? ⟨bp, 0, none⟩ = some (.pointer (some ⟨pb, 0, none⟩))) (hlo : C.lo ≤ bp) (hne : bp ≠ pb) (hr : Ps.wrongLoop C.L m [] st = some R) :
    Calls Try.prog 19 #[.pointer (some ⟨pb, 0, none⟩), .int .u8 68, .func (.func 49) #[] #[.pointer (some ⟨bp, 0, none⟩)]] w (fun e w' => LvPost C C.S0 pb w (node 68 R.1) R.2 e w') := by
  have hbl := cell_lt hbx
  refine make_any C C.S0 w pb st _ 68 _ _ _ _ (by have h := (wrong_goes (L := C.L) m [] st R hk hr).2; have h1 := h.2.2; have h2 := h.2.1; have h3 := C.hL; simp only [List.length_nil] at h1; omega) (fun _ _ => rfl) hP (s0_ok C hP (Nat.le_refl _)) (fun _ h => h) (fun w1 mb lo hb1 hm hP1 hM => ?_)
  rw [args2]
  refine wrong_do C C.S0 lo w1 mb bp 68 pb _ st hM hP1 hk ((World.cell?_of_block (hb1.block bp hbl)).trans hbx) ?_ R hr
  rintro (e | e | e | e)
  · exact hne e
  · have : bp < w.heap.size := hbl
    omega
  · cases e
  · have := C.hO _ e; omega
set_option maxHeartbeats 4000000 in
set_option maxRecDepth 100000 in
theorem wrong_any (C : Ctx σ) {m : Nat} (w : World) (pb : Nat) (st : St σ) (R : List Tr × St σ) (hP : ParAt C w pb st) (hk : st.kd C.L ≠ 0) (hr : Ps.wrongLoop C.L m [] st = some R) :
    Calls Try.prog 37 #[.pointer (some ⟨pb, 0, none⟩)] w fun e w' => LvPost C C.S0 pb w (node 68 R.1) R.2 e w' := by
  have hmf : ∀ (fn : Fn) (first cap : Array Value) (w : World), (Instr.makeFunc fn first cap).run Try.prog w = .ok (.func fn first cap) w := fun _ _ _ _ => rfl
  have HP := Aside0.mk hP
  have hlt := hP.lt
  have hplo := hP.lo
  generalize hsz : w.heap.size = z at *
  have HMK := Aside0.mk (fun w hP hbx => make_wrong C w z pb st R hP hk hbx (by omega) (by omega) hr)
  generalize node 68 R.1 = T at *
  subst hsz
  have hs1 : (w.alloc (.cells #[.pointer (some ⟨pb, 0, none⟩)] 41)).heap.size = w.heap.size + 1 := World.size_alloc _ _
  have hbx2 : ((w.alloc (.cells #[.pointer (some ⟨pb, 0, none⟩)] 41)).alloc zeroNode).cell? ⟨w.heap.size, 0, none⟩ = some (.pointer (some ⟨pb, 0, none⟩)) := alloc_cell (by rw [blk_cell (heap_at rfl)]; rfl) _
  have HZ1 : Aside0 (((w.alloc (.cells #[.pointer (some ⟨pb, 0, none⟩)] 41)).alloc zeroNode).heap[w.heap.size + 1]? = some zeroNode) := ⟨heap_at hs1.symm⟩
  have HB0 : Aside0 (Below w.heap.size w ((w.alloc (.cells #[.pointer (some ⟨pb, 0, none⟩)] 41)).alloc zeroNode)) := ⟨(PL.below_alloc _ _).alloc (by rw [hs1]; omega) _⟩
  have hs2 : ((w.alloc (.cells #[.pointer (some ⟨pb, 0, none⟩)] 41)).alloc zeroNode).heap.size = w.heap.size + 1 + 1 := by rw [World.size_alloc, hs1]
  clear hP hr hk hplo
  go_enter Try.func37, Try.ntmps37
  go_wp2_with (first | (go_at_call 19; refine (HMK.out _ (HP.out.below HB0.out) hbx2).mono ?_; rintro e w2 ⟨cs, rfl, hN, hP2, hF2⟩; obtain ⟨A, nn, cc, rfl, _⟩ := hN.four; have hz2 := keep_block HZ1.out (Nat.le_trans HP.out.lo (Nat.le_of_lt (Nat.lt_succ_of_lt HP.out.lt))) (by have := HP.out.lt; omega) hF2; obtain ⟨y0, y1, y2, y3, yf⟩ := four_cells hz2; have HN := Aside0.mk hN; have HP2 := Aside0.mk hP2; have HF2 := Aside0.mk hF2; have HZ2 := Aside0.mk hz2; clear hN hP2 hF2 hz2))
  refine bodyPost_ret (results_cell_row rfl _ _ (w.heap.size + 1) 25 _ (0, 0) _ rfl (set4_block HZ2.out _ _ _ _) Try.underlying25 rfl (by kernel_rfl)) rfl (LvPost.ret HP.out HB0.out (by omega) (by rw [hs2]; omega) HN.out HP2.out HF2.out)
set_option maxHeartbeats 4000000 in
set_option maxRecDepth 100000 in
theorem inner_succ (C : Ctx σ) (hcf0 : Enters C.f) {n : Nat} (ih : AllOK C n) (S : Nat → Prop) (lo : Nat) (w : World) (mb : Nat) (kind : Int) (kids : List Tr) (pb : Nat) (v : Value) (st : St σ) (r : List Tr × St σ) (hM : MkAt C S lo w mb kind kids pb v) (hP : ParAt C w pb st) (hlen : kids.length ≤ 200000) (hk : st.kd C.L ≠ 0)
    (hr : Ps.inner C.L C.orc (n + 1) st = some r) :
    Calls Try.prog 22 #[.pointer (some ⟨mb, 0, none⟩)] w fun e w' => e = .returned (.tuple #[]) ∧ MkPost C S lo mb kind pb w v (kids ++ r.1) r.2 w' := by
  rw [Ps.inner] at hr
  have hmf : ∀ (fn : Fn) (first cap : Array Value) (w : World), (Instr.makeFunc fn first cap).run Try.prog w = .ok (.func fn first cap) w := fun _ _ _ _ => rfl
  have HR := Aside0.mk (Run.start hM hP)
  have hm4 := HR.out.m4
  have HKD := Aside0.mk (fun w h => kind_any C w pb st h)
  have HST := Aside0.mk (fun w => stat_any (st.kd C.L) w)
  have hle := hP.le
  have hgl := gap_len C.L st C.hL
  clear hM hP
  by_cases hs : stat (st.kd C.L) ≠ 0
  · rw [if_pos hs] at hr
    have c0 : (stat (st.kd C.L) != 0) = true := bne_iff_ne.mpr hs
    have HRR := Aside0.mk hr
    have HPT : Aside0 (∀ (w1 : World) (s' : σ) (r' : Tr × St σ), ParAt C w1 pb ⟨nx C.L st.at_, s'⟩ → Ps.statement C.L C.orc n ⟨nx C.L st.at_, s'⟩ = some r' → Calls Try.prog 35 (#[.pointer (some ⟨pb, 0, none⟩)] ++ #[]) w1 (fun e w' => LvPost C C.S0 pb w1 r'.1 r'.2 e w')) := ⟨fun w1 s' r' hP1 hq => by
      rw [show (#[.pointer (some ⟨pb, 0, none⟩)] ++ #[] : Array Value) = #[.pointer (some ⟨pb, 0, none⟩)] by simp]
      exact ih.statement w1 pb _ r' hP1 (by rw [kd_same (st := st) hle rfl]; exact hs) (nx_nx C.L st.at_ hle) hq⟩
    generalize stat (st.kd C.L) = sk at HST c0
    clear hr hs
    go_enter Try.func22, Try.ntmps22
    go_wp2_with (first | (go_at_call 21; refine (HKD.out _ HR.out.par).mono ?_; rintro e w4 ⟨rfl, hb⟩; have hR := HR.out.below hb; clear HR; have HR := Aside0.mk hR; clear hR hb; (try clear hm4); have hm4 := HR.out.m4) | (go_at_call 33; refine (HST.out _).mono ?_; rintro e w9 ⟨rfl, rfl⟩) | (go_at_call 34; refine (put_any C hcf0 S lo _ mb kind kids pb v st 59 (by decide) 35 #[.pointer (some ⟨pb, 0, none⟩)] #[] (fun _ _ => rfl) _ r HRR.out HR.out.mka HR.out.par (by omega) (fun w2 s' r' hF hm2 hP2 hq => HPT.out w2 s' r' hP2 hq)).mono ?_; rintro e w2 ⟨rfl, hp2⟩; obtain ⟨v2, hR2⟩ := HR.out.step hp2))
    refine bodyPost_end (v := .tuple #[]) (by first | rfl | simp [results, Try.results22, go_sem]) rfl ⟨rfl, hR2.post⟩
  · rw [if_neg hs] at hr
    have hs0 : stat (st.kd C.L) = 0 := Classical.not_not.mp hs
    obtain ⟨R, hw, rfl⟩ := Option.map_eq_some_iff.mp hr
    rw [hs0] at HST
    have HW := Aside0.mk (fun w h => wrong_any C w pb (st.to C.L) R h (by rw [to_kd hle]; exact hk) hw)
    generalize node 68 R.1 = T at *
    clear hr hs hs0 hw
    go_enter Try.func22, Try.ntmps22
    go_wp2_with (first | (go_at_call 21; refine (HKD.out _ HR.out.par).mono ?_; rintro e w4 ⟨rfl, hb⟩; have hR := HR.out.below hb; clear HR; have HR := Aside0.mk hR; clear hR hb; (try clear hm4); have hm4 := HR.out.m4) | (go_at_call 33; refine (HST.out _).mono ?_; rintro e w9 ⟨rfl, rfl⟩) | (go_at_call 23; refine (gap_any C S lo _ mb kind _ pb _ _ HR.out.mka HR.out.par (by (try simp only [List.length_append, List.length_nil]); omega)).mono ?_; rintro e w3 ⟨rfl, hp⟩; obtain ⟨v3, hR⟩ := HR.out.step hp; (try rw [List.nil_append] at hR); clear HR; have HR := Aside0.mk hR; clear hR hp; (try clear hm4); have hm4 := HR.out.m4) | (go_at_call 37; refine (HW.out _ HR.out.par).mono ?_; rintro e w6 ⟨cs, rfl, hN, hP6, hF6⟩; have HN := Aside0.mk (HR.out.node hN); have hR := HR.out.part hF6 hP6; clear HR; have HR := Aside0.mk hR; clear hR hN hP6 hF6) | (go_at_call 36; refine (add_any C S lo _ mb kind _ pb _ R.2 T _ HR.out.mka HR.out.par HN.out (by (try simp only [List.length_append, List.length_nil]); omega)).mono ?_; rintro e w7 ⟨rfl, hp⟩; obtain ⟨v7, hR7⟩ := HR.out.step hp))
    refine bodyPost_end (v := .tuple #[]) (by first | rfl | simp [results, Try.results22, go_sem]) rfl ⟨rfl, by simpa only [List.append_assoc] using hR7.post⟩
end
end Go.Proofs.Ytalnicdpcigocaa.PP
namespace Go.Proofs.Ytalnicdpcigocaa.PP
open Go.RowKit Ps PM PL GR Go.Proofs.YtalnicdpcigocaaW.PrintWords Go.Proofs.YtalnicdpcigocaaW.PrintLast Go.Proofs.YtalnicdpcigocaaW.PrintMore
set_option linter.unusedVariables false
set_option linter.unusedSimpArgs false
section
variable {σ : Type}
theorem params_node (C : Ctx σ) {n : Nat} {st : St σ} {p : Tr × St σ} (hle : st.at_ ≤ C.L.length) (h : Ps.params C.L n st = some p) : ∃ l, p.1 = node 55 l ∧ l.length ≤ 200000 := by
  unfold Ps.params at h
  have hL := C.hL
  have h1 := want_len' C 20 st
  have hw := want_ok (L := C.L) (k := 20) (by decide) hle
  by_cases h6 : (wantL C.L 20 st).2.kd C.L = 6
  · rw [if_pos h6] at h
    obtain ⟨R, hR, rfl⟩ := Option.map_eq_some_iff.mp h
    have hk : (wantL C.L 20 st).2.kd C.L ≠ 0 := by rw [h6]; decide
    have hg := names_goes (L := C.L) n _ _ R (next_ok hk).2 hR
    have h2 := next_len' C (wantL C.L 20 st).2
    have h3 := want_len' C 21 R.2
    have h4 := hg.2.2
    have h5 := hg.2.1
    refine ⟨_, rfl, ?_⟩
    rw [List.length_append] at h4 ⊢
    omega
  · rw [if_neg h6] at h
    obtain rfl := Option.some.inj h
    have h3 := want_len' C 21 (wantL C.L 20 st).2
    refine ⟨_, rfl, ?_⟩
    rw [List.length_append]
    omega
theorem make_params (C : Ctx σ) {n : Nat} (w : World) (pb : Nat) (st : St σ) (p : Tr × St σ) (hP : ParAt C w pb st) (h : Ps.params C.L n st = some p) :
    Calls Try.prog 19 #[.pointer (some ⟨pb, 0, none⟩), .int .u8 55, .func (.func 68) #[] #[]] w (fun e w' => LvPost C C.S0 pb w p.1 p.2 e w') := by
  obtain ⟨l, hl, hlen⟩ := params_node C hP.le h
  obtain ⟨p1, p2⟩ := p
  obtain rfl : p1 = node 55 l := hl
  refine make_any C C.S0 w pb st _ 55 _ _ _ _ (by omega) (fun _ _ => rfl) hP (s0_ok C hP (Nat.le_refl _)) (fun _ h => h) (fun w1 mb lo hb1 hm hP1 hM => ?_)
  rw [args1]
  exact params_do C C.S0 lo w1 mb 55 pb _ st l p2 hM hP1 h
set_option maxHeartbeats 4000000 in
set_option maxRecDepth 100000 in
theorem fn_do (C : Ctx σ) (hcf0 : Enters C.f) {n : Nat} (ih : AllOK C n) (S : Nat → Prop) (lo : Nat) (w : World) (mb : Nat) (kind : Int) (pb : Nat) (v : Value) (st : St σ) (hM : MkAt C S lo w mb kind [] pb v) (hP : ParAt C w pb st) (hk : st.kd C.L ≠ 0) (p : Tr × St σ) (hp0 : Ps.params C.L n ((wantL C.L 6 (nextL C.L st).2).2.to C.L) = some p) (c : List Tr × St σ) (hc : Ps.block C.L C.orc n p.2 = some c) :
    Calls Try.prog 60 #[.pointer (some ⟨mb, 0, none⟩)] w fun e w' => e = .returned (.tuple #[]) ∧ MkPost C S lo mb kind pb w v ((nextL C.L st).1 ++ (wantL C.L 6 (nextL C.L st).2).1 ++ gapL C.L (wantL C.L 6 (nextL C.L st).2).2 ++ [p.1] ++ c.1) (c.2) w' := by
  have HR := Aside0.mk (Run.start hM hP)
  have hle := hP.le
  clear hM hP
  have h1 := next_len' C st
  have h2 := want_len' C 6 (nextL C.L st).2
  have h3 := gap_len C.L (wantL C.L 6 (nextL C.L st).2).2 C.hL
  have HMK := Aside0.mk (fun w h => make_params C w pb ((wantL C.L 6 (nextL C.L st).2).2.to C.L) p h hp0)
  have HC := Aside0.mk hc
  have HK := Aside0.mk hk
  have hone : ([p.1] : List Tr).length = 1 := rfl
  clear hk hp0 hc
  go_enter Try.func60, Try.ntmps60
  go_wp2_with (first | (go_at_call 50; refine (take_any C S lo _ mb kind _ pb _ _ HR.out.mka HR.out.par (by (try simp only [List.length_append, List.length_nil]); omega) HK.out).mono ?_; rintro e w1 ⟨rfl, hp⟩; obtain ⟨v1, hR⟩ := HR.out.step hp; (try rw [List.nil_append] at hR); clear HR; have HR := Aside0.mk hR; clear hR hp; (try clear hm4); have hm4 := HR.out.m4) | (go_at_call 58; refine (want_any C S lo _ mb kind _ pb _ _ _ (by decide) HR.out.mka HR.out.par (by (try simp only [List.length_append, List.length_nil]); omega)).mono ?_; rintro e w2 ⟨rfl, hp⟩; obtain ⟨v2, hR⟩ := HR.out.step hp; (try rw [List.nil_append] at hR); clear HR; have HR := Aside0.mk hR; clear hR hp; (try clear hm4); have hm4 := HR.out.m4) | (go_at_call 23; refine (gap_any C S lo _ mb kind _ pb _ _ HR.out.mka HR.out.par (by (try simp only [List.length_append, List.length_nil]); omega)).mono ?_; rintro e w3 ⟨rfl, hp⟩; obtain ⟨v3, hR⟩ := HR.out.step hp; (try rw [List.nil_append] at hR); clear HR; have HR := Aside0.mk hR; clear hR hp; (try clear hm4); have hm4 := HR.out.m4) | (go_at_call 19; refine (HMK.out _ HR.out.par).mono ?_; rintro e w6 ⟨cs, rfl, hN, hP6, hF6⟩; have HN := Aside0.mk (HR.out.node hN); have hR := HR.out.part hF6 hP6; clear HR; have HR := Aside0.mk hR; clear hR hN hP6 hF6) | (go_at_call 36; refine (add_any C S lo _ mb kind _ pb _ p.2 p.1 _ HR.out.mka HR.out.par HN.out (by (try simp only [List.length_append, List.length_nil]); omega)).mono ?_; rintro e w7 ⟨rfl, hp⟩; obtain ⟨v7, hR⟩ := HR.out.step hp; (try rw [List.nil_append] at hR); clear HR; have HR := Aside0.mk hR; clear hR hp; (try clear hm4); have hm4 := HR.out.m4) | (go_at_call 47; refine (ih.block S lo _ mb kind _ pb _ _ c HR.out.mka HR.out.par (by (try simp only [List.length_append, List.length_nil]); omega) HC.out).mono ?_; rintro e w7 ⟨rfl, hp⟩; obtain ⟨v7, hR⟩ := HR.out.step hp; (try rw [List.nil_append] at hR); clear HR; have HR := Aside0.mk hR; clear hR hp; (try clear hm4); have hm4 := HR.out.m4))
  refine bodyPost_end (v := .tuple #[]) (by first | rfl | simp [results, Try.results60, go_sem]) rfl ⟨rfl, by simpa only [List.append_assoc] using HR.out.post⟩
set_option maxHeartbeats 4000000 in
set_option maxRecDepth 100000 in
theorem branch_no (C : Ctx σ) (hcf0 : Enters C.f) {n : Nat} (ih : AllOK C n) (S : Nat → Prop) (lo : Nat) (w : World) (mb : Nat) (kind : Int) (pb : Nat) (v : Value) (st : St σ) (hM : MkAt C S lo w mb kind [] pb v) (hP : ParAt C w pb st) (hk : st.kd C.L ≠ 0) (b : List Tr × St σ) (hb : Ps.expr C.L C.orc n (nextL C.L st).2 = some b) (c : List Tr × St σ) (hc : Ps.block C.L C.orc n b.2 = some c) (h13 : c.2.kd C.L ≠ 13) :
    Calls Try.prog 61 #[.pointer (some ⟨mb, 0, none⟩)] w fun e w' => e = .returned (.tuple #[]) ∧ MkPost C S lo mb kind pb w v ((nextL C.L st).1 ++ b.1 ++ c.1) (c.2) w' := by
  have HR := Aside0.mk (Run.start hM hP)
  have hle := hP.le
  clear hM hP
  have h1 := next_len' C st
  have h2 := expr_len' C (next_ok hk).2 hb
  have h3 := ((mon n : Mon C.L C.orc n).block _ _ h2.2 hc).1
  have hL := C.hL
  have h4 : c.1.length ≤ 40000 := by have a1 := h3.2.2; have a2 := h3.2.1; omega
  have HX := Aside0.mk hb
  have HC := Aside0.mk hc
  have HK := Aside0.mk hk
  have HKD := Aside0.mk (fun w h => kind_any C w pb c.2 h)
  have b13 := nb h13
  have c13 : (c.2.kd C.L != 13) = true := bne_iff_ne.mpr h13
  generalize c.2.kd C.L = kd at HKD b13 c13
  clear hk hb hc h13 h3
  go_enter Try.func61, Try.ntmps61
  go_wp2_with (first | (go_at_call 50; refine (take_any C S lo _ mb kind _ pb _ _ HR.out.mka HR.out.par (by (try simp only [List.length_append, List.length_nil]); omega) HK.out).mono ?_; rintro e w1 ⟨rfl, hp⟩; obtain ⟨v1, hR⟩ := HR.out.step hp; (try rw [List.nil_append] at hR); clear HR; have HR := Aside0.mk hR; clear hR hp; (try clear hm4); have hm4 := HR.out.m4) | (go_at_call 67; refine (ih.expr S lo _ mb kind _ pb _ _ b HR.out.mka HR.out.par (by (try simp only [List.length_append, List.length_nil]); omega) HX.out).mono ?_; rintro e w6 ⟨rfl, hp⟩; obtain ⟨v6, hR⟩ := HR.out.step hp; (try rw [List.nil_append] at hR); clear HR; have HR := Aside0.mk hR; clear hR hp; (try clear hm4); have hm4 := HR.out.m4) | (go_at_call 47; refine (ih.block S lo _ mb kind _ pb _ _ c HR.out.mka HR.out.par (by (try simp only [List.length_append, List.length_nil]); omega) HC.out).mono ?_; rintro e w7 ⟨rfl, hp⟩; obtain ⟨v7, hR⟩ := HR.out.step hp; (try rw [List.nil_append] at hR); clear HR; have HR := Aside0.mk hR; clear hR hp; (try clear hm4); have hm4 := HR.out.m4) | (go_at_call 21; refine (HKD.out _ HR.out.par).mono ?_; rintro e w4 ⟨rfl, hb⟩; have hR := HR.out.below hb; clear HR; have HR := Aside0.mk hR; clear hR hb; (try clear hm4); have hm4 := HR.out.m4))
  refine bodyPost_ret (results_none rfl _ _ _) rfl ⟨rfl, HR.out.post⟩
set_option maxHeartbeats 4000000 in
set_option maxRecDepth 100000 in
theorem branch_block (C : Ctx σ) (hcf0 : Enters C.f) {n : Nat} (ih : AllOK C n) (S : Nat → Prop) (lo : Nat) (w : World) (mb : Nat) (kind : Int) (pb : Nat) (v : Value) (st : St σ) (hM : MkAt C S lo w mb kind [] pb v) (hP : ParAt C w pb st) (hk : st.kd C.L ≠ 0) (b : List Tr × St σ) (hb : Ps.expr C.L C.orc n (nextL C.L st).2 = some b) (c : List Tr × St σ) (hc : Ps.block C.L C.orc n b.2 = some c) (h13 : c.2.kd C.L = 13) (h12 : (nextL C.L c.2).2.kd C.L ≠ 12) (q : List Tr × St σ) (hq : Ps.block C.L C.orc n (nextL C.L c.2).2 = some q) :
    Calls Try.prog 61 #[.pointer (some ⟨mb, 0, none⟩)] w fun e w' => e = .returned (.tuple #[]) ∧ MkPost C S lo mb kind pb w v ((nextL C.L st).1 ++ b.1 ++ c.1 ++ (nextL C.L c.2).1 ++ q.1) (q.2) w' := by
  have HR := Aside0.mk (Run.start hM hP)
  have hle := hP.le
  clear hM hP
  have h1 := next_len' C st
  have h2 := expr_len' C (next_ok hk).2 hb
  have h3 := ((mon n : Mon C.L C.orc n).block _ _ h2.2 hc).1
  have hL := C.hL
  have h4 : c.1.length ≤ 40000 := by have a1 := h3.2.2; have a2 := h3.2.1; omega
  have HX := Aside0.mk hb
  have HC := Aside0.mk hc
  have HK := Aside0.mk hk
  have hkc : c.2.kd C.L ≠ 0 := by rw [h13]; decide
  have HKC := Aside0.mk hkc
  have h5 := next_len' C c.2
  have hnle := (next_ok hkc).2
  have HKD := Aside0.mk (fun w h => h13 ▸ kind_any C w pb c.2 h)
  have HKD2 := Aside0.mk (fun w h => kind_any C w pb (nextL C.L c.2).2 h)
  have b12 := nb h12
  have HQ := Aside0.mk hq
  generalize (nextL C.L c.2).2.kd C.L = kd at HKD2 b12
  clear hk hb hc h13 h12 h3 hkc hq
  go_enter Try.func61, Try.ntmps61
  go_wp2_with (first | (go_at_call 50; first | (refine (take_any C S lo _ mb kind _ pb _ c.2 HR.out.mka HR.out.par (by (try simp only [List.length_append, List.length_nil]); omega) HKC.out).mono ?_; rintro e w8 ⟨rfl, hp⟩; obtain ⟨v8, hR⟩ := HR.out.step hp; (try rw [List.nil_append] at hR); clear HR; have HR := Aside0.mk hR; clear hR hp; (try clear hm4); have hm4 := HR.out.m4) | (refine (take_any C S lo _ mb kind _ pb _ st HR.out.mka HR.out.par (by (try simp only [List.length_append, List.length_nil]); omega) HK.out).mono ?_; rintro e w1 ⟨rfl, hp⟩; obtain ⟨v1, hR⟩ := HR.out.step hp; (try rw [List.nil_append] at hR); clear HR; have HR := Aside0.mk hR; clear hR hp; (try clear hm4); have hm4 := HR.out.m4)) | (go_at_call 67; refine (ih.expr S lo _ mb kind _ pb _ _ b HR.out.mka HR.out.par (by (try simp only [List.length_append, List.length_nil]); omega) HX.out).mono ?_; rintro e w6 ⟨rfl, hp⟩; obtain ⟨v6, hR⟩ := HR.out.step hp; (try rw [List.nil_append] at hR); clear HR; have HR := Aside0.mk hR; clear hR hp; (try clear hm4); have hm4 := HR.out.m4) | (go_at_call 47; first | (refine (ih.block S lo _ mb kind _ pb _ _ q HR.out.mka HR.out.par (by (try simp only [List.length_append, List.length_nil]); omega) HQ.out).mono ?_; rintro e w9 ⟨rfl, hp⟩; obtain ⟨v9, hR⟩ := HR.out.step hp; (try rw [List.nil_append] at hR); clear HR; have HR := Aside0.mk hR; clear hR hp; (try clear hm4); have hm4 := HR.out.m4) | (refine (ih.block S lo _ mb kind _ pb _ _ c HR.out.mka HR.out.par (by (try simp only [List.length_append, List.length_nil]); omega) HC.out).mono ?_; rintro e w7 ⟨rfl, hp⟩; obtain ⟨v7, hR⟩ := HR.out.step hp; (try rw [List.nil_append] at hR); clear HR; have HR := Aside0.mk hR; clear hR hp; (try clear hm4); have hm4 := HR.out.m4)) | (go_at_call 21; first | (refine (HKD2.out _ HR.out.par).mono ?_; rintro e w4 ⟨rfl, hb⟩; have hR := HR.out.below hb; clear HR; have HR := Aside0.mk hR; clear hR hb; (try clear hm4); have hm4 := HR.out.m4) | (refine (HKD.out _ HR.out.par).mono ?_; rintro e w5 ⟨rfl, hb⟩; have hR := HR.out.below hb; clear HR; have HR := Aside0.mk hR; clear hR hb; (try clear hm4); have hm4 := HR.out.m4)))
  refine bodyPost_end (v := .tuple #[]) (by first | rfl | simp [results, Try.results61, go_sem]) rfl ⟨rfl, HR.out.post⟩
set_option maxHeartbeats 4000000 in
set_option maxRecDepth 100000 in
theorem branch_if (C : Ctx σ) (hcf0 : Enters C.f) {n : Nat} (ih : AllOK C n) (S : Nat → Prop) (lo : Nat) (w : World) (mb : Nat) (kind : Int) (pb : Nat) (v : Value) (st : St σ) (hM : MkAt C S lo w mb kind [] pb v) (hP : ParAt C w pb st) (hk : st.kd C.L ≠ 0) (b : List Tr × St σ) (hb : Ps.expr C.L C.orc n (nextL C.L st).2 = some b) (c : List Tr × St σ) (hc : Ps.block C.L C.orc n b.2 = some c) (h13 : c.2.kd C.L = 13) (h12 : (nextL C.L c.2).2.kd C.L = 12) (q : List Tr × St σ) (hq : putL C.L C.orc 59 (Ps.statement C.L C.orc n) (nextL C.L c.2).2 = some q) :
    Calls Try.prog 61 #[.pointer (some ⟨mb, 0, none⟩)] w fun e w' => e = .returned (.tuple #[]) ∧ MkPost C S lo mb kind pb w v ((nextL C.L st).1 ++ b.1 ++ c.1 ++ (nextL C.L c.2).1 ++ q.1) (q.2) w' := by
  have HR := Aside0.mk (Run.start hM hP)
  have hle := hP.le
  clear hM hP
  have hmf : ∀ (fn : Fn) (first cap : Array Value) (w : World), (Instr.makeFunc fn first cap).run Try.prog w = .ok (.func fn first cap) w := fun _ _ _ _ => rfl
  have h1 := next_len' C st
  have h2 := expr_len' C (next_ok hk).2 hb
  have h3 := ((mon n : Mon C.L C.orc n).block _ _ h2.2 hc).1
  have hL := C.hL
  have h4 : c.1.length ≤ 40000 := by have a1 := h3.2.2; have a2 := h3.2.1; omega
  have HX := Aside0.mk hb
  have HC := Aside0.mk hc
  have HK := Aside0.mk hk
  have hkc : c.2.kd C.L ≠ 0 := by rw [h13]; decide
  have HKC := Aside0.mk hkc
  have h5 := next_len' C c.2
  have hnle := (next_ok hkc).2
  have HKD := Aside0.mk (fun w h => h13 ▸ kind_any C w pb c.2 h)
  have HKD2 := Aside0.mk (fun w h => h12 ▸ kind_any C w pb (nextL C.L c.2).2 h)
  have HQ := Aside0.mk hq
  have HPT : Aside0 (∀ (w1 : World) (s' : σ) (r' : Tr × St σ), ParAt C w1 pb ⟨nx C.L (nextL C.L c.2).2.at_, s'⟩ → Ps.statement C.L C.orc n ⟨nx C.L (nextL C.L c.2).2.at_, s'⟩ = some r' → Calls Try.prog 35 (#[.pointer (some ⟨pb, 0, none⟩)] ++ #[]) w1 (fun e w' => LvPost C C.S0 pb w1 r'.1 r'.2 e w')) := ⟨fun w1 s' r' hP1 hq => by
    rw [show (#[.pointer (some ⟨pb, 0, none⟩)] ++ #[] : Array Value) = #[.pointer (some ⟨pb, 0, none⟩)] by simp]
    exact ih.statement w1 pb _ r' hP1 (by rw [kd_same (st := (nextL C.L c.2).2) hnle rfl, h12]; decide) (nx_nx C.L _ hnle) hq⟩
  clear hk hb hc h13 h12 h3 hkc hq
  go_enter Try.func61, Try.ntmps61
  go_wp2_with (first | (go_at_call 50; first | (refine (take_any C S lo _ mb kind _ pb _ c.2 HR.out.mka HR.out.par (by (try simp only [List.length_append, List.length_nil]); omega) HKC.out).mono ?_; rintro e w8 ⟨rfl, hp⟩; obtain ⟨v8, hR⟩ := HR.out.step hp; (try rw [List.nil_append] at hR); clear HR; have HR := Aside0.mk hR; clear hR hp; (try clear hm4); have hm4 := HR.out.m4) | (refine (take_any C S lo _ mb kind _ pb _ st HR.out.mka HR.out.par (by (try simp only [List.length_append, List.length_nil]); omega) HK.out).mono ?_; rintro e w1 ⟨rfl, hp⟩; obtain ⟨v1, hR⟩ := HR.out.step hp; (try rw [List.nil_append] at hR); clear HR; have HR := Aside0.mk hR; clear hR hp; (try clear hm4); have hm4 := HR.out.m4)) | (go_at_call 67; refine (ih.expr S lo _ mb kind _ pb _ _ b HR.out.mka HR.out.par (by (try simp only [List.length_append, List.length_nil]); omega) HX.out).mono ?_; rintro e w6 ⟨rfl, hp⟩; obtain ⟨v6, hR⟩ := HR.out.step hp; (try rw [List.nil_append] at hR); clear HR; have HR := Aside0.mk hR; clear hR hp; (try clear hm4); have hm4 := HR.out.m4) | (go_at_call 47; refine (ih.block S lo _ mb kind _ pb _ _ c HR.out.mka HR.out.par (by (try simp only [List.length_append, List.length_nil]); omega) HC.out).mono ?_; rintro e w7 ⟨rfl, hp⟩; obtain ⟨v7, hR⟩ := HR.out.step hp; (try rw [List.nil_append] at hR); clear HR; have HR := Aside0.mk hR; clear hR hp; (try clear hm4); have hm4 := HR.out.m4) | (go_at_call 21; first | (refine (HKD2.out _ HR.out.par).mono ?_; rintro e w4 ⟨rfl, hb⟩; have hR := HR.out.below hb; clear HR; have HR := Aside0.mk hR; clear hR hb; (try clear hm4); have hm4 := HR.out.m4) | (refine (HKD.out _ HR.out.par).mono ?_; rintro e w5 ⟨rfl, hb⟩; have hR := HR.out.below hb; clear HR; have HR := Aside0.mk hR; clear hR hb; (try clear hm4); have hm4 := HR.out.m4)) | (go_at_call 34; refine (put_any C hcf0 S lo _ mb kind _ pb _ _ 59 (by decide) 35 #[.pointer (some ⟨pb, 0, none⟩)] #[] (fun _ _ => rfl) _ q HQ.out HR.out.mka HR.out.par (by (try simp only [List.length_append, List.length_nil]); omega) (fun w2 s' r' hF hm2 hP2 hq => HPT.out w2 s' r' hP2 hq)).mono ?_; rintro e w9 ⟨rfl, hp⟩; obtain ⟨v9, hR⟩ := HR.out.step hp; (try rw [List.nil_append] at hR); clear HR; have HR := Aside0.mk hR; clear hR hp; (try clear hm4); have hm4 := HR.out.m4))
  refine bodyPost_end (v := .tuple #[]) (by first | rfl | simp [results, Try.results61, go_sem]) rfl ⟨rfl, HR.out.post⟩
end
end Go.Proofs.Ytalnicdpcigocaa.PP
namespace Go.Proofs.Ytalnicdpcigocaa.PP
open Go.RowKit Ps PM PL GR Go.Proofs.YtalnicdpcigocaaW.PrintWords Go.Proofs.YtalnicdpcigocaaW.PrintLast Go.Proofs.YtalnicdpcigocaaW.PrintMore
set_option linter.unusedVariables false
set_option linter.unusedSimpArgs false
section
variable {σ : Type}
set_option maxHeartbeats 4000000 in
set_option maxRecDepth 100000 in
theorem sign_do (C : Ctx σ) {n : Nat} (ih : AllOK C n) (S : Nat → Prop) (lo : Nat) (w : World) (mb bp : Nat) (kind : Int) (pb : Nat) (v : Value) (st : St σ) (hM : MkAt C S lo w mb kind [] pb v) (hP : ParAt C w pb st) (hk : st.kd C.L ≠ 0)
    (hbx0 : w.cell? ⟨bp, 0, none⟩ = some (.pointer (some ⟨pb, 0, none⟩))) (hbn : ¬ XM C pb mb v bp) (o : List Tr × St σ) (ho : operandL C.L (Ps.unary C.L C.orc n) (nextL C.L st).2 = some o) :
    Calls Try.prog 82 #[.pointer (some ⟨mb, 0, none⟩), .pointer (some ⟨bp, 0, none⟩)] w fun e w' => e = .returned (.tuple #[]) ∧ MkPost C S lo mb kind pb w v ((nextL C.L st).1 ++ o.1) o.2 w' := by
  have hmf : ∀ (fn : Fn) (first cap : Array Value) (w : World), (Instr.makeFunc fn first cap).run Try.prog w = .ok (.func fn first cap) w := fun _ _ _ _ => rfl
  have HR := Aside0.mk (Run.start hM hP)
  have HBX := Aside0.mk hbx0
  have hbl : bp < w.heap.size := cell_lt hbx0
  have h1 := next_len' C st
  have HO := Aside0.mk ho
  have HK := Aside0.mk hk
  have hnle := (next_ok hk).2
  have HPT : Aside0 (∀ (w1 : World) (r' : Tr × St σ), ParAt C w1 pb ((nextL C.L st).2.to C.L) → begins ((nextL C.L st).2.kd C.L) = true → Ps.unary C.L C.orc n ((nextL C.L st).2.to C.L) = some r' → Calls Try.prog 76 (#[.pointer (some ⟨pb, 0, none⟩)] ++ #[]) w1 (fun e w' => LvPost C C.S0 pb w1 r'.1 r'.2 e w')) := ⟨fun w1 r' hP1 hbe hq => by
    rw [show (#[.pointer (some ⟨pb, 0, none⟩)] ++ #[] : Array Value) = #[.pointer (some ⟨pb, 0, none⟩)] by simp]
    exact ih.unary w1 pb _ r' hP1 (by rw [to_kd hnle]; exact of_begins hbe) hq⟩
  clear hM hP ho hk hbx0
  go_enter Try.func82, Try.ntmps82
  go_wp2_with (first | (go_at_call 50; refine (take_any C S lo _ mb kind _ pb _ _ HR.out.mka HR.out.par (by (try simp only [List.length_append, List.length_nil]); omega) HK.out).mono ?_; rintro e w1 ⟨rfl, hp⟩; obtain ⟨v1, hR⟩ := HR.out.step hp; (try rw [List.nil_append] at hR); clear HR; have HR := Aside0.mk hR; clear hR hp; (try clear hm4); have hm4 := HR.out.m4; (try clear hbx); have hbx := (World.cell?_of_block (a := ⟨bp, 0, none⟩) (HR.out.fr.block bp hbl hbn)).trans HBX.out) | (go_at_call 79; refine (operand_any C S lo _ mb kind _ pb _ _ 76 #[.pointer (some ⟨pb, 0, none⟩)] #[] (fun _ _ => rfl) _ o HO.out HR.out.mka HR.out.par (by (try simp only [List.length_append, List.length_nil]); omega) (fun w2 r' hF hP2 hbe hq => HPT.out w2 r' hP2 hbe hq)).mono ?_; rintro e w9 ⟨rfl, hp⟩; obtain ⟨v9, hR⟩ := HR.out.step hp; (try rw [List.nil_append] at hR); clear HR; have HR := Aside0.mk hR; clear hR hp; (try clear hm4); have hm4 := HR.out.m4))
  refine bodyPost_end (v := .tuple #[]) (by first | rfl | simp [results, Try.results82, go_sem]) rfl ⟨rfl, HR.out.post⟩
theorem make_args (C : Ctx σ) {n : Nat} (ih : AllOK C n) (w : World) (pb : Nat) (st : St σ) (l : List Tr) (st' : St σ) (hP : ParAt C w pb st) (hk : st.kd C.L ≠ 0) (hl : l.length ≤ 1000000) (h : Ps.args C.L C.orc n st = some (node 64 l, st')) :
    Calls Try.prog 19 #[.pointer (some ⟨pb, 0, none⟩), .int .u8 64, .func (.func 85) #[] #[]] w (fun e w' => LvPost C C.S0 pb w (node 64 l) st' e w') := by
  refine make_any C C.S0 w pb st _ 64 _ _ _ _ hl (fun _ _ => rfl) hP (s0_ok C hP (Nat.le_refl _)) (fun _ h => h) (fun w1 mb lo hb1 hm hP1 hM => ?_)
  rw [args1]
  exact ih.args C.S0 lo w1 mb 64 pb _ st l st' hM hP1 hk h
set_option maxHeartbeats 4000000 in
set_option maxRecDepth 100000 in
theorem call_do (C : Ctx σ) {n : Nat} (ih : AllOK C n) (S : Nat → Prop) (lo : Nat) (w : World) (mb fb bp : Nat) (kind : Int) (pb : Nat) (v : Value) (st : St σ) (hM : MkAt C S lo w mb kind [] pb v) (hP : ParAt C w pb st) (hk : st.kd C.L ≠ 0)
    (hbx0 : w.cell? ⟨bp, 0, none⟩ = some (.pointer (some ⟨pb, 0, none⟩))) (hbn : ¬ XM C pb mb v bp) (t : Tr) (a0 a1 a2 a3 : Value)
    (hfb : w.heap[fb]? = some (.cells #[a0, a1, a2, a3] 25 (0, 0))) (hN : NodeC S w t [a0, a1, a2, a3]) (l : List Tr) (st' : St σ) (hl : l.length ≤ 1000000) (ho : Ps.args C.L C.orc n (st.to C.L) = some (node 64 l, st')) :
    Calls Try.prog 84 #[.pointer (some ⟨mb, 0, none⟩), .pointer (some ⟨fb, 0, none⟩), .pointer (some ⟨bp, 0, none⟩)] w fun e w' => e = .returned (.tuple #[]) ∧ MkPost C S lo mb kind pb w v ([t] ++ gapL C.L st ++ [node 64 l]) st' w' := by
  have HR := Aside0.mk (Run.start hM hP)
  have HBX := Aside0.mk hbx0
  have hbl : bp < w.heap.size := cell_lt hbx0
  have hbx := hbx0
  obtain ⟨f0, f1, f2, f3, _⟩ := four_cells hfb
  obtain ⟨A, nn, cc, he, _⟩ := hN.four
  injection he with e0 he
  injection he with e1 he
  injection he with e2 he
  injection he with e3 he
  subst e0 e1 e2 e3
  have HN := Aside0.mk (hN.move (S' := fun b => S b ∨ (lo ≤ b ∧ v.ownBlock ≠ some b)) (w' := w) (fun b hb _ => ⟨Or.inl hb, rfl⟩))
  have hgl := gap_len C.L st C.hL
  have hle := hP.le
  have hone : ([t] : List Tr).length = 1 := rfl
  have HMK := Aside0.mk (fun w h => make_args C ih w pb (st.to C.L) l st' h (by rw [to_kd hle]; exact hk) hl ho)
  generalize node 64 l = T at *
  clear hM hP ho hk hbx0 hN hfb he
  go_enter Try.func84, Try.ntmps84
  go_wp2_with (first | (go_at_call 36; first | (refine (add_any C S lo _ mb kind _ pb _ _ T _ HR.out.mka HR.out.par HN2.out (by (try simp only [List.length_append, List.length_nil]); omega)).mono ?_; rintro e w7 ⟨rfl, hp⟩; obtain ⟨v7, hR⟩ := HR.out.step hp; (try rw [List.nil_append] at hR); clear HR; have HR := Aside0.mk hR; clear hR hp; (try clear hm4); have hm4 := HR.out.m4; (try clear hbx); have hbx := (World.cell?_of_block (a := ⟨bp, 0, none⟩) (HR.out.fr.block bp hbl hbn)).trans HBX.out) | (refine (add_any C S lo _ mb kind [] pb v st t _ HR.out.mka HR.out.par HN.out (by (try simp only [List.length_append, List.length_nil]); omega)).mono ?_; rintro e w1 ⟨rfl, hp⟩; obtain ⟨v1, hR⟩ := HR.out.step hp; (try rw [List.nil_append] at hR); clear HR; have HR := Aside0.mk hR; clear hR hp; (try clear hm4); have hm4 := HR.out.m4; (try clear hbx); have hbx := (World.cell?_of_block (a := ⟨bp, 0, none⟩) (HR.out.fr.block bp hbl hbn)).trans HBX.out)) | (go_at_call 23; refine (gap_any C S lo _ mb kind _ pb _ _ HR.out.mka HR.out.par (by (try simp only [List.length_append, List.length_nil]); omega)).mono ?_; rintro e w3 ⟨rfl, hp⟩; obtain ⟨v3, hR⟩ := HR.out.step hp; (try rw [List.nil_append] at hR); clear HR; have HR := Aside0.mk hR; clear hR hp; (try clear hm4); have hm4 := HR.out.m4; (try clear hbx); have hbx := (World.cell?_of_block (a := ⟨bp, 0, none⟩) (HR.out.fr.block bp hbl hbn)).trans HBX.out) | (go_at_call 19; refine (HMK.out _ HR.out.par).mono ?_; rintro e w6 ⟨cs, rfl, hN, hP6, hF6⟩; have HN2 := Aside0.mk (HR.out.node hN); have hR := HR.out.part hF6 hP6; clear HR; have HR := Aside0.mk hR; clear hR hN hP6 hF6))
  refine bodyPost_end (v := .tuple #[]) (by first | rfl | simp [results, Try.results84, go_sem]) rfl ⟨rfl, by simpa only [List.append_assoc, List.singleton_append, List.cons_append, List.nil_append] using HR.out.post⟩
end
end Go.Proofs.Ytalnicdpcigocaa.PP
namespace Go.Proofs.Ytalnicdpcigocaa.PP
open Go.RowKit Ps PM PL GR Go.Proofs.YtalnicdpcigocaaW.PrintWords Go.Proofs.YtalnicdpcigocaaW.PrintLast Go.Proofs.YtalnicdpcigocaaW.PrintMore
set_option linter.unusedVariables false
set_option linter.unusedSimpArgs false
section
variable {σ : Type}
theorem operand_len (C : Ctx σ) {part : St σ → Option (Tr × St σ)} {st : St σ} {o : List Tr × St σ} (h : operandL C.L part st = some o) : o.1.length ≤ 16385 := by
  have := gap_len C.L st C.hL
  unfold operandL at h
  split at h
  · obtain ⟨r, _, rfl⟩ := Option.map_eq_some_iff.mp h
    simp only [List.length_append, List.length_singleton]
    omega
  · obtain rfl := Option.some.inj h
    simp
theorem args_node (C : Ctx σ) {n : Nat} {st : St σ} {r : Tr × St σ} (hle : st.at_ ≤ C.L.length) (hk : st.kd C.L ≠ 0) (h : Ps.args C.L C.orc n st = some r) : ∃ l, r.1 = node 64 l ∧ l.length ≤ 1000000 := by
  cases n with
  | zero => rw [Ps.args] at h; cases h
  | succ n =>
    rw [Ps.args] at h
    dsimp only at h
    have h1 := next_len' C st
    have hL := C.hL
    have hn := (next_ok hk).2
    split at h
    · obtain ⟨b, hb, h⟩ := Option.bind_eq_some_iff.mp h
      obtain ⟨R, hR, rfl⟩ := Option.map_eq_some_iff.mp h
      have h2 := expr_len' C hn hb
      have h3 := (mon n : Mon C.L C.orc n).argsLoop _ _ _ h2.2 hR
      have h4 := want_len' C 21 R.2
      have h5 := h3.2.2
      have h6 := h3.2.1
      refine ⟨_, rfl, ?_⟩
      rw [List.length_append] at h5 ⊢
      omega
    · obtain rfl := Option.some.inj h
      have h4 := want_len' C 21 (nextL C.L st).2
      refine ⟨_, rfl, ?_⟩
      rw [List.length_append]
      omega
theorem make_sign (C : Ctx σ) {n : Nat} (ih : AllOK C n) (w : World) (bp pb : Nat) (st : St σ) (o : List Tr × St σ) (hP : ParAt C w pb st) (hk : st.kd C.L ≠ 0) (hbx : w.cell? ⟨bp, 0, none⟩ = some (.pointer (some ⟨pb, 0, none⟩))) (hlo : C.lo ≤ bp) (hne : bp ≠ pb)
    (ho : operandL C.L (Ps.unary C.L C.orc n) (nextL C.L st).2 = some o) :
    Calls Try.prog 19 #[.pointer (some ⟨pb, 0, none⟩), .int .u8 62, .func (.func 82) #[] #[.pointer (some ⟨bp, 0, none⟩)]] w (fun e w' => LvPost C C.S0 pb w (node 62 ((nextL C.L st).1 ++ o.1)) o.2 e w') := by
  have hbl := cell_lt hbx
  have h1 := next_len' C st
  have h2 := operand_len C ho
  refine make_any C C.S0 w pb st _ 62 _ _ _ _ (by rw [List.length_append]; omega) (fun _ _ => rfl) hP (s0_ok C hP (Nat.le_refl _)) (fun _ h => h) (fun w1 mb lo hb1 hm hP1 hM => ?_)
  rw [args2]
  refine sign_do C ih C.S0 lo w1 mb bp 62 pb _ st hM hP1 hk ((World.cell?_of_block (hb1.block bp hbl)).trans hbx) ?_ o ho
  rintro (e | e | e | e)
  · exact hne e
  · have : bp < w.heap.size := hbl
    omega
  · cases e
  · have := C.hO _ e; omega
theorem args3 (x y z : Value) : ((#[] : Array Value).push x ++ #[y, z] : Array Value) = #[x, y, z] := by simp
/-- a call's node; the trees that it takes in lie in S1 -/
theorem make_call (C : Ctx σ) {n : Nat} (ih : AllOK C n) (S1 : Nat → Prop) (w : World) (fb bp pb : Nat) (st : St σ) (t : Tr) (a0 a1 a2 a3 : Value) (hP : ParAt C w pb st) (hk : st.kd C.L ≠ 0) (hS1 : ∀ b, S1 b → b < w.heap.size ∧ b ≠ pb ∧ ¬ C.O b) (hS0 : ∀ b, C.S0 b → S1 b)
    (hbx : w.cell? ⟨bp, 0, none⟩ = some (.pointer (some ⟨pb, 0, none⟩))) (hlo : C.lo ≤ bp) (hne : bp ≠ pb) (hfb : w.heap[fb]? = some (.cells #[a0, a1, a2, a3] 25 (0, 0))) (hN : NodeC S1 w t [a0, a1, a2, a3])
    (r : Tr × St σ) (ho : Ps.args C.L C.orc n (st.to C.L) = some r) :
    Calls Try.prog 19 #[.pointer (some ⟨pb, 0, none⟩), .int .u8 63, .func (.func 84) #[] #[.pointer (some ⟨fb, 0, none⟩), .pointer (some ⟨bp, 0, none⟩)]] w (fun e w' => LvPost C S1 pb w (node 63 ([t] ++ gapL C.L st ++ [r.1])) r.2 e w') := by
  have hbl := cell_lt hbx
  have hfl := blk_lt hfb
  have hgl := gap_len C.L st C.hL
  have hle := hP.le
  obtain ⟨l, hl, hlen⟩ := args_node C (by show nx C.L st.at_ ≤ _; exact nx_le C.L _ hle) (by rw [to_kd hle]; exact hk) ho
  obtain ⟨r1, r2⟩ := r
  obtain rfl : r1 = node 64 l := hl
  refine make_any C S1 w pb st _ 63 _ _ _ _ (by simp only [List.length_append, List.length_singleton]; omega) (fun _ _ => rfl) hP hS1 hS0 (fun w1 mb lo hb1 hm hP1 hM => ?_)
  rw [args3]
  refine call_do C ih S1 lo w1 mb fb bp 63 pb _ st hM hP1 hk ((World.cell?_of_block (hb1.block bp hbl)).trans hbx) ?_ t a0 a1 a2 a3 ((hb1.block fb hfl).trans hfb) (hN.move (fun b hb hlt => ⟨hb, hb1.block b hlt⟩)) l r2 hlen ho
  rintro (e | e | e | e)
  · exact hne e
  · have : bp < w.heap.size := hbl
    omega
  · cases e
  · have := C.hO _ e; omega
end
end Go.Proofs.Ytalnicdpcigocaa.PP
namespace Go.Proofs.Ytalnicdpcigocaa.PP
open Go.RowKit Ps PM PL GR Go.Proofs.YtalnicdpcigocaaW.PrintWords Go.Proofs.YtalnicdpcigocaaW.PrintLast Go.Proofs.YtalnicdpcigocaaW.PrintMore
set_option linter.unusedVariables false
set_option linter.unusedSimpArgs false
section
variable {σ : Type}
theorem keep_cell {C : Ctx σ} {pb bp : Nat} {w0 w1 : World} {u : Value} (hz : w0.cell? ⟨bp, 0, none⟩ = some u) (hn : C.lo ≤ bp) (hp : bp ≠ pb) (hF : FrX (XP C pb) w0 w1) : w1.cell? ⟨bp, 0, none⟩ = some u := by
  have hlt : bp < w0.heap.size := cell_lt hz
  refine (World.cell?_of_block (hF.block bp hlt ?_)).trans hz
  rintro (h | h)
  · exact hp h
  · have := C.hO _ h; omega
set_option maxHeartbeats 4000000 in
set_option maxRecDepth 100000 in
theorem unary_sign (C : Ctx σ) {n : Nat} (ih : ∀ k, k ≤ n → AllOK C k) (w : World) (pb : Nat) (st : St σ) (o : List Tr × St σ) (hP : ParAt C w pb st) (hk : st.kd C.L ≠ 0) (hs : st.kd C.L = 34 ∨ st.kd C.L = 38) (ho : operandL C.L (Ps.unary C.L C.orc n) (nextL C.L st).2 = some o) :
    Calls Try.prog 76 #[.pointer (some ⟨pb, 0, none⟩)] w fun e w' => LvPost C C.S0 pb w (node 62 ((nextL C.L st).1 ++ o.1)) o.2 e w' := by
  have hmf : ∀ (fn : Fn) (first cap : Array Value) (w : World), (Instr.makeFunc fn first cap).run Try.prog w = .ok (.func fn first cap) w := fun _ _ _ _ => rfl
  have HP := Aside0.mk hP
  have hlt := hP.lt
  have hplo := hP.lo
  have HKD := Aside0.mk (fun w h => kind_any C w pb st h)
  generalize hsz : w.heap.size = z at *
  have HMK := Aside0.mk (fun w hP hbx => make_sign C (ih n (Nat.le_refl n)) w z pb st o hP hk hbx (by omega) (by omega) ho)
  generalize node 62 ((nextL C.L st).1 ++ o.1) = T at *
  subst hsz
  have hs1 : (w.alloc (.cells #[.pointer (some ⟨pb, 0, none⟩)] 41)).heap.size = w.heap.size + 1 := World.size_alloc _ _
  have hbx2 : ((w.alloc (.cells #[.pointer (some ⟨pb, 0, none⟩)] 41)).alloc zeroNode).cell? ⟨w.heap.size, 0, none⟩ = some (.pointer (some ⟨pb, 0, none⟩)) := alloc_cell (by rw [blk_cell (heap_at rfl)]; rfl) _
  have HZ1 : Aside0 (((w.alloc (.cells #[.pointer (some ⟨pb, 0, none⟩)] 41)).alloc zeroNode).heap[w.heap.size + 1]? = some zeroNode) := ⟨heap_at hs1.symm⟩
  have HB0 : Aside0 (Below w.heap.size w ((w.alloc (.cells #[.pointer (some ⟨pb, 0, none⟩)] 41)).alloc zeroNode)) := ⟨(PL.below_alloc _ _).alloc (by rw [hs1]; omega) _⟩
  have hs2 : ((w.alloc (.cells #[.pointer (some ⟨pb, 0, none⟩)] 41)).alloc zeroNode).heap.size = w.heap.size + 1 + 1 := by rw [World.size_alloc, hs1]
  clear hP hk ho hplo
  rcases hs with hs | hs
  all_goals
    rw [hs] at HKD
    clear hs
    go_enter Try.func76, Try.ntmps76
    go_wp2_with (first | (go_at_call 21; refine (HKD.out _ (HP.out.below HB0.out)).mono ?_; rintro e w1 ⟨rfl, hb1⟩; have hbx3 := (World.cell?_of_block (a := ⟨w.heap.size, 0, none⟩) (hb1.block w.heap.size (by rw [hs2]; omega))).trans hbx2; have HZ2 := Aside0.mk ((hb1.block (w.heap.size + 1) (by rw [hs2]; omega)).trans HZ1.out); have HB1 := Aside0.mk (HB0.out.trans (Below.mono hb1 (by rw [hs2]; omega))); have hs3 := hb1.size; rw [hs2] at hs3; clear hb1) | (go_at_call 19; refine (HMK.out _ (HP.out.below HB1.out) hbx3).mono ?_; rintro e w2 ⟨cs, rfl, hN, hP2, hF2⟩; obtain ⟨A, nn, cc, rfl, _⟩ := hN.four; have hz2 := keep_block HZ2.out (Nat.le_trans HP.out.lo (Nat.le_of_lt (Nat.lt_succ_of_lt HP.out.lt))) (by have := HP.out.lt; omega) hF2; obtain ⟨y0, y1, y2, y3, yf⟩ := four_cells hz2; have HN := Aside0.mk hN; have HP2 := Aside0.mk hP2; have HF2 := Aside0.mk hF2; have HZ3 := Aside0.mk hz2; clear hN hP2 hF2 hz2))
    refine bodyPost_ret (results_cell_row rfl _ _ (w.heap.size + 1) 25 _ (0, 0) _ rfl (set4_block HZ3.out _ _ _ _) Try.underlying25 rfl (by kernel_rfl)) rfl (LvPost.ret HP.out HB1.out (by omega) (by omega) HN.out HP2.out HF2.out)
theorem call_round (C : Ctx σ) {n : Nat} (ih : AllOK C n) {w w2 w4 : World} {pb : Nat} {stc : St σ} {T : Tr} {a0 a1 a2 a3 : Value} (hlt : pb < w.heap.size) (hw2 : w.heap.size + 2 ≤ w2.heap.size) (hP : ParAt C w4 pb stc) (hk : stc.kd C.L ≠ 0) (hF : FrX (XP C pb) w w4)
    (hbx : w4.cell? ⟨w.heap.size, 0, none⟩ = some (.pointer (some ⟨pb, 0, none⟩))) (hL : w4.heap[w2.heap.size]? = some (.cells #[a0, a1, a2, a3] 25 (0, 0))) (hN : NodeC (fun b => C.S0 b ∨ (w.heap.size + 2 ≤ b ∧ b ≠ w2.heap.size)) w4 T [a0, a1, a2, a3])
    {p : Tr × St σ} (hx : Ps.args C.L C.orc n (stc.to C.L) = some p) :
    Calls Try.prog 19 #[.pointer (some ⟨pb, 0, none⟩), .int .u8 63, .func (.func 84) #[] #[.pointer (some ⟨w4.heap.size, 0, none⟩), .pointer (some ⟨w.heap.size, 0, none⟩)]] (w4.alloc (.cells #[a0, a1, a2, a3] 25))
      (fun e w' => LvPost C (fun b => C.S0 b ∨ (w.heap.size + 2 ≤ b ∧ b ≠ w2.heap.size ∧ b < w4.heap.size)) pb (w4.alloc (.cells #[a0, a1, a2, a3] 25)) (node 63 ([T] ++ gapL C.L stc ++ [p.1])) p.2 e w') := by
  have hb := PL.below_alloc w4 (.cells #[a0, a1, a2, a3] 25)
  have hsz : (w4.alloc (.cells #[a0, a1, a2, a3] 25)).heap.size = w4.heap.size + 1 := World.size_alloc _ _
  have hlo := hP.lo
  refine make_call C ih _ _ w4.heap.size w.heap.size pb stc T a0 a1 a2 a3 (hP.below hb) hk (fun b h => ?_) (fun _ h => Or.inl h) (alloc_cell hbx _) (by omega) (by omega) (heap_alloc_new _ _) (hN.move (fun b h hl => ⟨?_, hb.block b hl⟩)) p hx
  · rcases h with h | h
    · have := C.hS b h
      have := hP.lt
      exact ⟨by omega, by omega, (C.hS b h).2⟩
    · exact ⟨by omega, by omega, fun e => by have := C.hO _ e; omega⟩
  · rcases h with h | h
    · exact Or.inl h
    · exact Or.inr ⟨h.1, h.2, hl⟩
set_option maxHeartbeats 4000000 in
set_option maxRecDepth 100000 in
theorem unary_calls (C : Ctx σ) {n : Nat} (ih : ∀ k, k ≤ n → AllOK C k) (w : World) (pb : Nat) (st : St σ) (q R : Tr × St σ) (hP : ParAt C w pb st) (hk : st.kd C.L ≠ 0) (h34 : st.kd C.L ≠ 34) (h38 : st.kd C.L ≠ 38) (hq : Ps.primary C.L C.orc n st = some q) (hR : Ps.callLoop C.L C.orc n q.1 q.2 = some R) :
    Calls Try.prog 76 #[.pointer (some ⟨pb, 0, none⟩)] w fun e w' => LvPost C C.S0 pb w R.1 R.2 e w' := by
  have hmf : ∀ (fn : Fn) (first cap : Array Value) (w : World), (Instr.makeFunc fn first cap).run Try.prog w = .ok (.func fn first cap) w := fun _ _ _ _ => rfl
  have HP := Aside0.mk hP
  have hlt := hP.lt
  have hplo := hP.lo
  have HKD := Aside0.mk (fun w h => kind_any C w pb st h)
  have HPR := Aside0.mk (fun w h => (ih n (Nat.le_refl n)).primary w pb st q h hk hq)
  have HLP := Aside0.mk hR
  have hs1 : (w.alloc (.cells #[.pointer (some ⟨pb, 0, none⟩)] 41)).heap.size = w.heap.size + 1 := World.size_alloc _ _
  have hbx2 : ((w.alloc (.cells #[.pointer (some ⟨pb, 0, none⟩)] 41)).alloc zeroNode).cell? ⟨w.heap.size, 0, none⟩ = some (.pointer (some ⟨pb, 0, none⟩)) := alloc_cell (by rw [blk_cell (heap_at rfl)]; rfl) _
  have HZ1 : Aside0 (((w.alloc (.cells #[.pointer (some ⟨pb, 0, none⟩)] 41)).alloc zeroNode).heap[w.heap.size + 1]? = some zeroNode) := ⟨heap_at hs1.symm⟩
  have HB0 : Aside0 (Below w.heap.size w ((w.alloc (.cells #[.pointer (some ⟨pb, 0, none⟩)] 41)).alloc zeroNode)) := ⟨(PL.below_alloc _ _).alloc (by rw [hs1]; omega) _⟩
  have hs2 : ((w.alloc (.cells #[.pointer (some ⟨pb, 0, none⟩)] 41)).alloc zeroNode).heap.size = w.heap.size + 1 + 1 := by rw [World.size_alloc, hs1]
  have b34 := nb h34
  have b38 := nb h38
  generalize st.kd C.L = kd at HKD b34 b38
  clear hP hk hq hR h34 h38 hplo
  go_enter Try.func76, Try.ntmps76
  go_wp2_with (first | (go_at_call 21; refine (HKD.out _ (HP.out.below HB0.out)).mono ?_; rintro e w1 ⟨rfl, hb1⟩; have hbx3 := (World.cell?_of_block (a := ⟨w.heap.size, 0, none⟩) (hb1.block w.heap.size (by rw [hs2]; omega))).trans hbx2; have HZ2 := Aside0.mk ((hb1.block (w.heap.size + 1) (by rw [hs2]; omega)).trans HZ1.out); have HB1 := Aside0.mk (HB0.out.trans (Below.mono hb1 (by rw [hs2]; omega))); have hs3 := hb1.size; rw [hs2] at hs3; clear hb1) | (go_at_call 83; refine (HPR.out _ (HP.out.below HB1.out)).mono ?_; rintro e w2 ⟨cs, rfl, hN, hP2, hF2⟩; obtain ⟨A, nn, cc, rfl, _⟩ := hN.four; have hz2 := keep_block HZ2.out (Nat.le_trans HP.out.lo (Nat.le_of_lt (Nat.lt_succ_of_lt HP.out.lt))) (by have := HP.out.lt; omega) hF2; have hbx4 := keep_cell hbx3 (by have := HP.out.lo; have := HP.out.lt; omega) (by have := HP.out.lt; omega) hF2; have HN := Aside0.mk hN; have HP2 := Aside0.mk hP2; have HF2 := Aside0.mk hF2; have HZ3 := Aside0.mk hz2; clear hN hP2 hF2 hz2))
  have hw2 : w.heap.size + 2 ≤ w2.heap.size := by have := HF2.out.size; omega
  have hb2 : Below w2.heap.size w2 (w2.alloc (.cells #[.int .u8 q.1.kind, .int .u8 q.1.want, .int .i64 q.1.width, .slice A nn cc] 25)) := PL.below_alloc _ _
  go_loopg [] n (fun kq wr => ∃ (T : Tr) (stc : St σ) (A' : Option Addr) (n' c' : Nat), Aside0 (Ps.callLoop C.L C.orc kq T stc = some R) ∧ Aside0 (kq ≤ n) ∧ Aside0 (ParAt C wr pb stc) ∧ Aside0 (FrX (XP C pb) w wr) ∧
    Aside0 (wr.cell? ⟨w.heap.size, 0, none⟩ = some (.pointer (some ⟨pb, 0, none⟩))) ∧ Aside0 (wr.heap[w.heap.size + 1]? = some zeroNode) ∧ Aside0 (wr.heap[w2.heap.size]? = some (.cells #[.int .u8 T.kind, .int .u8 T.want, .int .i64 T.width, .slice A' n' c'] 25 (0, 0))) ∧
    Aside0 (NodeC (fun b => C.S0 b ∨ (w.heap.size + 2 ≤ b ∧ b ≠ w2.heap.size)) wr T [.int .u8 T.kind, .int .u8 T.want, .int .i64 T.width, .slice A' n' c']))
  case atStart =>
    refine ⟨q.1, q.2, A, nn, cc, HLP, ⟨Nat.le_refl _⟩, ⟨HP2.out.below hb2⟩, ⟨fr_below ((FrX.below (X := fun _ => False) HB1.out).trans HF2.out (fun _ h => h.elim) (fun _ _ h => h)) hb2⟩, ⟨alloc_cell hbx4 _⟩, ⟨(hb2.block _ (by omega)).trans HZ3.out⟩, ⟨heap_alloc_new _ _⟩, ⟨HN.out.move (fun b hb hlt => ⟨?_, hb2.block b hlt⟩)⟩⟩
    rcases hb with hb | hb
    · exact Or.inl hb
    · exact Or.inr ⟨by omega, by omega⟩
  case round =>
    clear HLP HP2 HF2 HN HZ3 hbx4 hb2 HZ2 hbx3 HKD HPR
    obtain ⟨T, stc, A', n', c', HA, HKn, HPc, HFc, HBXc, HZc, HLc, HNc⟩ := hrel
    have hbxc := HBXc.out
    have hA := HA.out
    cases gk with
    | zero => rw [Ps.callLoop] at hA; cases hA
    | succ k1 =>
      rw [Ps.callLoop] at hA
      have HKC := Aside0.mk (fun w h => kind_any C w pb stc h)
      by_cases h20 : stc.kd C.L = 20
      · rw [if_pos h20] at hA
        obtain ⟨p, hx, hA⟩ := Option.bind_eq_some_iff.mp hA
        have HK : Aside0 (stc.kd C.L ≠ 0) := ⟨by rw [h20]; decide⟩
        rw [h20] at HKC
        have HX := Aside0.mk hx
        have HA2 := Aside0.mk hA
        clear hA hx h20 HA
        go_wp2_with (first | (go_at_call 21; refine (HKC.out _ HPc.out).mono ?_; rintro e w4 ⟨rfl, hb4⟩; have HP4 := Aside0.mk (HPc.out.below hb4); have HF4 := Aside0.mk (fr_below HFc.out hb4); have hbx := (World.cell?_of_block (a := ⟨w.heap.size, 0, none⟩) (hb4.block w.heap.size (cell_lt hbxc))).trans hbxc; have HZ4 := Aside0.mk ((hb4.block (w.heap.size + 1) (blk_lt HZc.out)).trans HZc.out); have HL4 := Aside0.mk ((hb4.block w2.heap.size (blk_lt HLc.out)).trans HLc.out); have HN4 := Aside0.mk (HNc.out.move (S' := fun b => C.S0 b ∨ (w.heap.size + 2 ≤ b ∧ b ≠ w2.heap.size)) (fun b hb hlt => ⟨hb, hb4.block b hlt⟩)); obtain ⟨l0, l1, l2, l3, lf⟩ := four_cells HL4.out; have hl4 := blk_lt HL4.out; have abx := alloc_cell hbx; have HBX4 := Aside0.mk hbx; obtain ⟨n0, n1, n2, n3, nf⟩ := four_cells HZ4.out; clear hb4) | (go_at_call 19; refine (call_round C (ih k1 (by have := HKn.out; omega)) hlt hw2 HP4.out HK.out HF4.out hbx HL4.out HN4.out HX.out).mono ?_; rintro e w6 ⟨cs, rfl, hN6, hP6, hF6⟩; obtain ⟨A6, n6, c6, rfl, _⟩ := hN6.four; have HP6 := Aside0.mk hP6; have HF6 := Aside0.mk hF6; have HN6 := Aside0.mk hN6; clear hP6 hF6 hN6; have HL6 := Aside0.mk (keep_block ((heap_alloc_old _ _ hl4).trans HL4.out) (by have := HP.out.lo; omega) (by omega) HF6.out); obtain ⟨z0, z1, z2, z3, zf⟩ := four_cells HL6.out))
        have h7 : FrX (fun b => b = w2.heap.size) w6 ((((w6.setCell ⟨w2.heap.size, 0, none⟩ (.int .u8 (node 63 ([T] ++ gapL C.L stc ++ [p.1])).kind)).setCell ⟨w2.heap.size, 1, none⟩ (.int .u8 (node 63 ([T] ++ gapL C.L stc ++ [p.1])).want)).setCell ⟨w2.heap.size, 2, none⟩ (.int .i64 (node 63 ([T] ++ gapL C.L stc ++ [p.1])).width)).setCell ⟨w2.heap.size, 3, none⟩ (.slice A6 n6 c6)) := set4_fr (X := fun b => b = w2.heap.size) (FrX.refl _ _) rfl _ _ _ _
        have hplo := HP.out.lo
        have hsz5 : (w4.alloc (.cells #[.int .u8 T.kind, .int .u8 T.want, .int .i64 T.width, .slice A' n' c'] 25)).heap.size = w4.heap.size + 1 := World.size_alloc _ _
        have hb5 := PL.below_alloc w4 (.cells #[.int .u8 T.kind, .int .u8 T.want, .int .i64 T.width, .slice A' n' c'] 25)
        have hbl4 := cell_lt HBX4.out
        have hnl4 := blk_lt HZ4.out
        have hbx6 := keep_cell (abx (.cells #[.int .u8 T.kind, .int .u8 T.want, .int .i64 T.width, .slice A' n' c'] 25)) (by omega) (by omega) HF6.out
        have hz6 := keep_block ((hb5.block _ hnl4).trans HZ4.out) (by omega) (by omega) HF6.out
        go_roundg k1
        case measure => omega
        case rel =>
          refine ⟨_, p.2, A6, n6, c6, HA2, ⟨by have := HKn.out; omega⟩, ⟨HP6.out.move h7 (by omega) (fun b hb => by omega)⟩, ⟨((fr_below HF4.out hb5).trans HF6.out (fun _ h => h) (fun _ _ h => h)).trans h7 (fun _ h => h) (fun b hb h => by omega)⟩,
            ⟨(World.cell?_of_block (a := ⟨w.heap.size, 0, none⟩) (h7.block w.heap.size (cell_lt hbx6) (by omega))).trans hbx6⟩, ⟨(h7.block _ (blk_lt hz6) (by omega)).trans hz6⟩, ⟨set4_block HL6.out _ _ _ _⟩, ⟨HN6.out.move (fun b hb hl => ⟨?_, h7.block b hl ?_⟩)⟩⟩
          · rcases hb with (hb | hb) | hb
            · exact Or.inl hb
            · exact Or.inr ⟨hb.1, hb.2.1⟩
            · exact Or.inr ⟨by omega, by omega⟩
          · rcases hb with (hb | hb) | hb
            · have := (C.hS b hb).1; omega
            · exact hb.2.1
            · omega
      · rw [if_neg h20] at hA
        obtain rfl := Option.some.inj hA
        have b20 := nb h20
        generalize stc.kd C.L = kd2 at HKC b20
        clear hA h20 HA
        go_wp2_with (first | (go_at_call 21; refine (HKC.out _ HPc.out).mono ?_; rintro e w4 ⟨rfl, hb4⟩; have HP4 := Aside0.mk (HPc.out.below hb4); have HF4 := Aside0.mk (fr_below HFc.out hb4); have hbx := (World.cell?_of_block (a := ⟨w.heap.size, 0, none⟩) (hb4.block w.heap.size (cell_lt hbxc))).trans hbxc; have HZ4 := Aside0.mk ((hb4.block (w.heap.size + 1) (blk_lt HZc.out)).trans HZc.out); have HL4 := Aside0.mk ((hb4.block w2.heap.size (blk_lt HLc.out)).trans HLc.out); have HN4 := Aside0.mk (HNc.out.move (S' := fun b => C.S0 b ∨ (w.heap.size + 2 ≤ b ∧ b ≠ w2.heap.size)) (fun b hb hlt => ⟨hb, hb4.block b hlt⟩)); obtain ⟨l0, l1, l2, l3, lf⟩ := four_cells HL4.out; have hl4 := blk_lt HL4.out; have abx := alloc_cell hbx; have HBX4 := Aside0.mk hbx; obtain ⟨n0, n1, n2, n3, nf⟩ := four_cells HZ4.out; clear hb4))
        have h7 : FrX (fun b => b = w.heap.size + 1) w4 ((((w4.setCell ⟨w.heap.size + 1, 0, none⟩ (.int .u8 T.kind)).setCell ⟨w.heap.size + 1, 1, none⟩ (.int .u8 T.want)).setCell ⟨w.heap.size + 1, 2, none⟩ (.int .i64 T.width)).setCell ⟨w.heap.size + 1, 3, none⟩ (.slice A' n' c')) := set4_fr (X := fun b => b = w.heap.size + 1) (FrX.refl _ _) rfl _ _ _ _
        have hplo := HP.out.lo
        refine bodyPost_ret (results_cell_row rfl _ _ (w.heap.size + 1) 25 _ (0, 0) _ rfl (set4_block HZ4.out _ _ _ _) Try.underlying25 rfl (by kernel_rfl)) rfl ⟨_, rfl, HN4.out.move (fun b hb hl => ⟨?_, h7.block b hl ?_⟩), HP4.out.move h7 (by omega) (fun b hb => by omega), HF4.out.trans h7 (fun _ h => h) (fun b hb h => by omega)⟩
        · rcases hb with hb | hb
          · exact Or.inl hb
          · exact Or.inr (by omega)
        · rcases hb with hb | hb
          · have := (C.hS b hb).1; omega
          · omega
end
end Go.Proofs.Ytalnicdpcigocaa.PP
namespace Go.Proofs.Ytalnicdpcigocaa.PP
open Go.RowKit Ps PM PL GR Go.Proofs.YtalnicdpcigocaaW.PrintWords Go.Proofs.YtalnicdpcigocaaW.PrintLast Go.Proofs.YtalnicdpcigocaaW.PrintMore
set_option linter.unusedVariables false
set_option linter.unusedSimpArgs false
section
variable {σ : Type}
set_option maxHeartbeats 4000000 in
set_option maxRecDepth 100000 in
theorem kind_drawn (C : Ctx σ) (w : World) (pb : Nat) (st : St σ) (hP : ParAt C w pb st) :
    Calls Try.prog 21 #[.pointer (some ⟨pb, 0, none⟩)] w fun e w' => e = .returned (.int .u8 (st.kd C.L)) ∧ ∃ m, w' = w.drewN m := by
  have hc0 : w.cell? ⟨pb, 0, none⟩ = some (.slice C.A C.L.length C.c) := by rw [blk_cell hP.block]; rfl
  have hc2 : w.cell? ⟨pb, 2, none⟩ = some (.int .i64 ((nx C.L st.at_ : Nat) : Int)) := by rw [blk_cell hP.block]; rfl
  have hle := nx_le C.L st.at_ hP.le
  by_cases hlt : nx C.L st.at_ < C.L.length
  · have d1 : (((nx C.L st.at_ : Nat) : Int) == (C.L.length : Int)) = false := by simp; omega
    obtain ⟨ad, e, hk1, hk2, hk3, hk0, hk9⟩ := (C.toks _ _ hP.inv).at_ _ hlt
    have hkd : st.kd C.L = (C.L.getD (nx C.L st.at_) default).kind := by unfold St.kd kindAt; rw [if_pos hlt]
    rw [hkd]
    have hi0 : (0 : Int) ≤ ((nx C.L st.at_ : Nat) : Int) := by omega
    have hi1 : ((nx C.L st.at_ : Nat) : Int) < (C.L.length : Int) := by omega
    have htn : ((nx C.L st.at_ : Nat) : Int).toNat = nx C.L st.at_ := by omega
    rw [e] at hc0
    clear hkd hk2 hk3 hk0 hk9 hle hlt e hP
    generalize (C.L.getD (nx C.L st.at_) default).kind = kd at *
    generalize nx C.L st.at_ = hd at *
    go_enter Try.func21, Try.ntmps21
    go_upto_region 1 with fail
    go_quiet (fail)
    go_wp2
    go_quiet (fail)
    go_wp2
    go_ret
    exact ⟨rfl, _, World.drewN_drewN _ _ _⟩
  · have he : nx C.L st.at_ = C.L.length := by omega
    have hkd : st.kd C.L = 0 := by unfold St.kd kindAt; rw [if_neg hlt]
    rw [hkd]
    rw [he] at hc2
    have d1 : ((C.L.length : Int) == (C.L.length : Int)) = true := by simp
    clear hkd hle hlt he hP
    go_enter Try.func21, Try.ntmps21
    go_upto_region 1 with fail
    go_quiet (fail)
    go_wp2
    go_ret
    exact ⟨rfl, _, rfl⟩
set_option maxHeartbeats 4000000 in
set_option maxRecDepth 100000 in
theorem level_part (C : Ctx σ) {n : Nat} (ih : AllOK C n) (w : World) (bp bn pb : Nat) (k : Nat) (hk5 : k ≤ 5) (st : St σ) (r : Tr × St σ) (hP : ParAt C w pb st) (hk : st.kd C.L ≠ 0) (hr : Ps.level C.L C.orc n (k + 1) st = some r)
    (hbp : w.cell? ⟨bp, 0, none⟩ = some (.pointer (some ⟨pb, 0, none⟩))) (hbn : w.cell? ⟨bn, 0, none⟩ = some (.int .i64 (k : Int))) :
    Calls Try.prog 80 #[.pointer (some ⟨bp, 0, none⟩), .pointer (some ⟨bn, 0, none⟩)] w fun e w' => LvPost C C.S0 pb w r.1 r.2 e w' := by
  have HP := Aside0.mk hP
  have HLV := Aside0.mk (fun w h => ih.level w pb st (k + 1) r (by omega) h hk hr)
  have HCAST : Aside0 ((k : Int) + 1 = ((k + 1 : Nat) : Int)) := ⟨by omega⟩
  have abp := alloc_cell hbp
  have abn := alloc_cell hbn
  have hk0 : (0 : Int) ≤ (k : Int) := by omega
  have hk5' : (k : Int) ≤ 5 := by omega
  have HZ1 : Aside0 ((w.alloc zeroNode).heap[w.heap.size]? = some zeroNode) := ⟨heap_at rfl⟩
  have HB0 : Aside0 (Below w.heap.size w (w.alloc zeroNode)) := ⟨PL.below_alloc _ _⟩
  have hs1 : (w.alloc zeroNode).heap.size = w.heap.size + 1 := World.size_alloc _ _
  clear hP hr
  go_enter Try.func80, Try.ntmps80
  go_wp2_with (first | (go_at_call 74; rw [HCAST.out]; refine (HLV.out _ (HP.out.below HB0.out)).mono ?_; rintro e w2 ⟨cs, rfl, hN, hP2, hF2⟩; obtain ⟨A, nn, cc, rfl, _⟩ := hN.four; have hz2 := keep_block HZ1.out (Nat.le_trans HP.out.lo (Nat.le_of_lt HP.out.lt)) (by have := HP.out.lt; omega) hF2; obtain ⟨y0, y1, y2, y3, yf⟩ := four_cells hz2; have HN := Aside0.mk hN; have HP2 := Aside0.mk hP2; have HF2 := Aside0.mk hF2; have HZ2 := Aside0.mk hz2; clear hN hP2 hF2 hz2))
  refine bodyPost_ret (results_cell_row rfl _ _ w.heap.size 25 _ (0, 0) _ rfl (set4_block HZ2.out _ _ _ _) Try.underlying25 rfl (by kernel_rfl)) rfl (LvPost.ret HP.out HB0.out (Nat.le_refl _) (by rw [hs1]; omega) HN.out HP2.out HF2.out)
end
end Go.Proofs.Ytalnicdpcigocaa.PP
namespace Go.Proofs.Ytalnicdpcigocaa.PP
open Go.RowKit Ps PM PL GR Go.Proofs.YtalnicdpcigocaaW.PrintWords Go.Proofs.YtalnicdpcigocaaW.PrintLast Go.Proofs.YtalnicdpcigocaaW.PrintMore
set_option linter.unusedVariables false
set_option linter.unusedSimpArgs false
section
variable {σ : Type}
set_option maxHeartbeats 4000000 in
set_option maxRecDepth 100000 in
theorem binary_do (C : Ctx σ) {n : Nat} (ih : AllOK C n) (S : Nat → Prop) (lo : Nat) (w : World) (mb fb bp bn : Nat) (kind : Int) (pb : Nat) (v : Value) (k : Nat) (hk5 : k ≤ 5) (st : St σ) (hM : MkAt C S lo w mb kind [] pb v) (hP : ParAt C w pb st) (hk : st.kd C.L ≠ 0)
    (hbp0 : w.cell? ⟨bp, 0, none⟩ = some (.pointer (some ⟨pb, 0, none⟩))) (hbn0 : w.cell? ⟨bn, 0, none⟩ = some (.int .i64 (k : Int))) (hbx : ¬ XM C pb mb v bp) (hnx : ¬ XM C pb mb v bn) (t : Tr) (a0 a1 a2 a3 : Value)
    (hfb : w.heap[fb]? = some (.cells #[a0, a1, a2, a3] 25 (0, 0))) (hN : NodeC S w t [a0, a1, a2, a3]) (o : List Tr × St σ) (ho : operandL C.L (Ps.level C.L C.orc n (k + 1)) (nextL C.L st).2 = some o) :
    Calls Try.prog 78 #[.pointer (some ⟨mb, 0, none⟩), .pointer (some ⟨fb, 0, none⟩), .pointer (some ⟨bp, 0, none⟩), .pointer (some ⟨bn, 0, none⟩)] w fun e w' => e = .returned (.tuple #[]) ∧ MkPost C S lo mb kind pb w v ([t] ++ (nextL C.L st).1 ++ o.1) o.2 w' := by
  have hmf : ∀ (fn : Fn) (first cap : Array Value) (w : World), (Instr.makeFunc fn first cap).run Try.prog w = .ok (.func fn first cap) w := fun _ _ _ _ => rfl
  have HR := Aside0.mk (Run.start hM hP)
  have HBP := Aside0.mk hbp0
  have HBN := Aside0.mk hbn0
  have hbl : bp < w.heap.size := cell_lt hbp0
  have hnl : bn < w.heap.size := cell_lt hbn0
  obtain ⟨f0, f1, f2, f3, _⟩ := four_cells hfb
  obtain ⟨A, nn, cc, he, _⟩ := hN.four
  injection he with e0 he
  injection he with e1 he
  injection he with e2 he
  injection he with e3 he
  subst e0 e1 e2 e3
  have HN := Aside0.mk (hN.move (S' := fun b => S b ∨ (lo ≤ b ∧ v.ownBlock ≠ some b)) (w' := w) (fun b hb _ => ⟨Or.inl hb, rfl⟩))
  have h1 := next_len' C st
  have hone : ([t] : List Tr).length = 1 := rfl
  have HO := Aside0.mk ho
  have HK := Aside0.mk hk
  have hnle := (next_ok hk).2
  have HPT : Aside0 (∀ (w1 : World) (r' : Tr × St σ), FrX (XM C pb mb v) w w1 → ParAt C w1 pb ((nextL C.L st).2.to C.L) → begins ((nextL C.L st).2.kd C.L) = true → Ps.level C.L C.orc n (k + 1) ((nextL C.L st).2.to C.L) = some r' → Calls Try.prog 80 (#[] ++ #[.pointer (some ⟨bp, 0, none⟩), .pointer (some ⟨bn, 0, none⟩)]) w1 (fun e w' => LvPost C C.S0 pb w1 r'.1 r'.2 e w')) := ⟨fun w1 r' hF hP1 hbe hq => by
    rw [show (#[] ++ #[.pointer (some ⟨bp, 0, none⟩), .pointer (some ⟨bn, 0, none⟩)] : Array Value) = #[.pointer (some ⟨bp, 0, none⟩), .pointer (some ⟨bn, 0, none⟩)] by simp]
    exact level_part C ih w1 bp bn pb k hk5 _ r' hP1 (by rw [to_kd hnle]; exact of_begins hbe) hq ((World.cell?_of_block (a := ⟨bp, 0, none⟩) (hF.block bp hbl hbx)).trans HBP.out) ((World.cell?_of_block (a := ⟨bn, 0, none⟩) (hF.block bn hnl hnx)).trans HBN.out)⟩
  clear hM hP ho hk hbp0 hbn0 hN hfb he
  go_enter Try.func78, Try.ntmps78
  go_wp2_with (first | (go_at_call 36; refine (add_any C S lo _ mb kind [] pb v st t _ HR.out.mka HR.out.par HN.out (by (try simp only [List.length_append, List.length_nil]); omega)).mono ?_; rintro e w1 ⟨rfl, hp⟩; obtain ⟨v1, hR⟩ := HR.out.step hp; (try rw [List.nil_append] at hR); clear HR; have HR := Aside0.mk hR; clear hR hp; (try clear hm4); have hm4 := HR.out.m4; (try clear hbp); (try clear hbn); have hbp := (World.cell?_of_block (a := ⟨bp, 0, none⟩) (HR.out.fr.block bp hbl hbx)).trans HBP.out; have hbn := (World.cell?_of_block (a := ⟨bn, 0, none⟩) (HR.out.fr.block bn hnl hnx)).trans HBN.out) | (go_at_call 50; refine (take_any C S lo _ mb kind _ pb _ _ HR.out.mka HR.out.par (by (try simp only [List.length_append, List.length_nil]); omega) HK.out).mono ?_; rintro e w1 ⟨rfl, hp⟩; obtain ⟨v1, hR⟩ := HR.out.step hp; (try rw [List.nil_append] at hR); clear HR; have HR := Aside0.mk hR; clear hR hp; (try clear hm4); have hm4 := HR.out.m4; (try clear hbp); (try clear hbn); have hbp := (World.cell?_of_block (a := ⟨bp, 0, none⟩) (HR.out.fr.block bp hbl hbx)).trans HBP.out; have hbn := (World.cell?_of_block (a := ⟨bn, 0, none⟩) (HR.out.fr.block bn hnl hnx)).trans HBN.out) | (go_at_call 79; refine (operand_any C S lo _ mb kind _ pb _ _ 80 #[] #[.pointer (some ⟨bp, 0, none⟩), .pointer (some ⟨bn, 0, none⟩)] (fun _ _ => rfl) _ o HO.out HR.out.mka HR.out.par (by (try simp only [List.length_append, List.length_nil]); omega) (fun w2 r' hF hP2 hbe hq => HPT.out w2 r' (fr_mk HR.out.fr HR.out.own hF) hP2 hbe hq)).mono ?_; rintro e w9 ⟨rfl, hp⟩; obtain ⟨v9, hR⟩ := HR.out.step hp; (try rw [List.nil_append] at hR); clear HR; have HR := Aside0.mk hR; clear hR hp; (try clear hm4); have hm4 := HR.out.m4))
  refine bodyPost_end (v := .tuple #[]) (by first | rfl | simp [results, Try.results78, go_sem]) rfl ⟨rfl, by simpa only [List.append_assoc, List.singleton_append, List.cons_append, List.nil_append] using HR.out.post⟩
theorem args4 (x a b c : Value) : ((#[] : Array Value).push x ++ #[a, b, c] : Array Value) = #[x, a, b, c] := by simp
theorem make_binary (C : Ctx σ) {n : Nat} (ih : AllOK C n) (S1 : Nat → Prop) (w : World) (fb bp bn pb : Nat) (k : Nat) (hk5 : k ≤ 5) (st : St σ) (t : Tr) (a0 a1 a2 a3 : Value) (hP : ParAt C w pb st) (hk : st.kd C.L ≠ 0) (hS1 : ∀ b, S1 b → b < w.heap.size ∧ b ≠ pb ∧ ¬ C.O b) (hS0 : ∀ b, C.S0 b → S1 b)
    (hbp : w.cell? ⟨bp, 0, none⟩ = some (.pointer (some ⟨pb, 0, none⟩))) (hbn : w.cell? ⟨bn, 0, none⟩ = some (.int .i64 (k : Int))) (hlo : C.lo ≤ bp) (hne : bp ≠ pb) (hlo' : C.lo ≤ bn) (hne' : bn ≠ pb) (hfb : w.heap[fb]? = some (.cells #[a0, a1, a2, a3] 25 (0, 0))) (hN : NodeC S1 w t [a0, a1, a2, a3])
    (o : List Tr × St σ) (ho : operandL C.L (Ps.level C.L C.orc n (k + 1)) (nextL C.L st).2 = some o) :
    Calls Try.prog 19 #[.pointer (some ⟨pb, 0, none⟩), .int .u8 61, .func (.func 78) #[] #[.pointer (some ⟨fb, 0, none⟩), .pointer (some ⟨bp, 0, none⟩), .pointer (some ⟨bn, 0, none⟩)]] w (fun e w' => LvPost C S1 pb w (node 61 ([t] ++ (nextL C.L st).1 ++ o.1)) o.2 e w') := by
  have hbl := cell_lt hbp
  have hnl := cell_lt hbn
  have hfl := blk_lt hfb
  have h1 := next_len' C st
  have h2 := operand_len C ho
  refine make_any C S1 w pb st _ 61 _ _ _ _ (by simp only [List.length_append, List.length_singleton]; omega) (fun _ _ => rfl) hP hS1 hS0 (fun w1 mb lo hb1 hm hP1 hM => ?_)
  rw [args4]
  refine binary_do C ih S1 lo w1 mb fb bp bn 61 pb _ k hk5 st hM hP1 hk ((World.cell?_of_block (hb1.block bp hbl)).trans hbp) ((World.cell?_of_block (hb1.block bn hnl)).trans hbn) ?_ ?_ t a0 a1 a2 a3 ((hb1.block fb hfl).trans hfb) (hN.move (fun b hb hlt => ⟨hb, hb1.block b hlt⟩)) o ho
  · rintro (e | e | e | e)
    · exact hne e
    · have : bp < w.heap.size := hbl
      omega
    · cases e
    · have := C.hO _ e; omega
  · rintro (e | e | e | e)
    · exact hne' e
    · have : bn < w.heap.size := hnl
      omega
    · cases e
    · have := C.hO _ e; omega
end
end Go.Proofs.Ytalnicdpcigocaa.PP
namespace Go.Proofs.Ytalnicdpcigocaa.PP
open Go.RowKit Ps PM PL GR Go.Proofs.YtalnicdpcigocaaW.PrintWords Go.Proofs.YtalnicdpcigocaaW.PrintLast Go.Proofs.YtalnicdpcigocaaW.PrintMore
set_option linter.unusedVariables false
set_option linter.unusedSimpArgs false
section
variable {σ : Type}
theorem unary_succ (C : Ctx σ) {n : Nat} (ih : ∀ k, k ≤ n → AllOK C k) (w : World) (pb : Nat) (st : St σ) (r : Tr × St σ) (hP : ParAt C w pb st) (hk : st.kd C.L ≠ 0) (hr : Ps.unary C.L C.orc (n + 1) st = some r) :
    Calls Try.prog 76 #[.pointer (some ⟨pb, 0, none⟩)] w fun e w' => LvPost C C.S0 pb w r.1 r.2 e w' := by
  rw [Ps.unary] at hr
  by_cases hs : st.kd C.L = 34 ∨ st.kd C.L = 38
  · rw [if_pos hs] at hr
    obtain ⟨o, ho, rfl⟩ := Option.map_eq_some_iff.mp hr
    exact unary_sign C ih w pb st o hP hk hs ho
  · rw [if_neg hs] at hr
    obtain ⟨q, hq, hR⟩ := Option.bind_eq_some_iff.mp hr
    exact unary_calls C ih w pb st q r hP hk (fun h => hs (Or.inl h)) (fun h => hs (Or.inr h)) hq hR
set_option maxHeartbeats 4000000 in
set_option maxRecDepth 100000 in
theorem level_top (C : Ctx σ) {n : Nat} (ih : AllOK C n) (w : World) (pb : Nat) (st : St σ) (k : Nat) (hk6 : k = 6) (r : Tr × St σ) (hP : ParAt C w pb st) (hk : st.kd C.L ≠ 0) (hr : Ps.unary C.L C.orc n st = some r) :
    Calls Try.prog 74 #[.pointer (some ⟨pb, 0, none⟩), .int .i64 (k : Int)] w fun e w' => LvPost C C.S0 pb w r.1 r.2 e w' := by
  have hmf : ∀ (fn : Fn) (first cap : Array Value) (w : World), (Instr.makeFunc fn first cap).run Try.prog w = .ok (.func fn first cap) w := fun _ _ _ _ => rfl
  have HP := Aside0.mk hP
  have hlt := hP.lt
  have hplo := hP.lo
  have HUN := Aside0.mk (fun w h => ih.unary w pb st r h hk hr)
  have d5 : decide ((5 : Int) < (k : Int)) = true := by simp; omega
  have hs1 : (w.alloc (.cells #[.pointer (some ⟨pb, 0, none⟩)] 41)).heap.size = w.heap.size + 1 := World.size_alloc _ _
  have hs2 : ((w.alloc (.cells #[.pointer (some ⟨pb, 0, none⟩)] 41)).alloc (.cells #[.int .i64 (k : Int)] 3)).heap.size = w.heap.size + 1 + 1 := by rw [World.size_alloc, hs1]
  have hs3 : (((w.alloc (.cells #[.pointer (some ⟨pb, 0, none⟩)] 41)).alloc (.cells #[.int .i64 (k : Int)] 3)).alloc zeroNode).heap.size = w.heap.size + 1 + 1 + 1 := by rw [World.size_alloc, hs2]
  have hbp3 : (((w.alloc (.cells #[.pointer (some ⟨pb, 0, none⟩)] 41)).alloc (.cells #[.int .i64 (k : Int)] 3)).alloc zeroNode).cell? ⟨w.heap.size, 0, none⟩ = some (.pointer (some ⟨pb, 0, none⟩)) := alloc_cell (alloc_cell (by rw [blk_cell (heap_at rfl)]; rfl) _) _
  have hbn3 : (((w.alloc (.cells #[.pointer (some ⟨pb, 0, none⟩)] 41)).alloc (.cells #[.int .i64 (k : Int)] 3)).alloc zeroNode).cell? ⟨w.heap.size + 1, 0, none⟩ = some (.int .i64 (k : Int)) := alloc_cell (by rw [blk_cell (heap_at hs1.symm)]; rfl) _
  have HZ3 : Aside0 ((((w.alloc (.cells #[.pointer (some ⟨pb, 0, none⟩)] 41)).alloc (.cells #[.int .i64 (k : Int)] 3)).alloc zeroNode).heap[w.heap.size + 1 + 1]? = some zeroNode) := ⟨heap_at hs2.symm⟩
  have HB3 : Aside0 (Below w.heap.size w (((w.alloc (.cells #[.pointer (some ⟨pb, 0, none⟩)] 41)).alloc (.cells #[.int .i64 (k : Int)] 3)).alloc zeroNode)) := ⟨((PL.below_alloc _ _).alloc (by rw [hs1]; omega) _).alloc (by rw [hs2]; omega) _⟩
  clear hP hk hr hk6
  go_enter Try.func74, Try.ntmps74
  go_wp2_with (first | (go_at_call 76; refine (HUN.out _ (HP.out.below HB3.out)).mono ?_; rintro e w2 ⟨cs, rfl, hN, hP2, hF2⟩; obtain ⟨A, nn, cc, rfl, _⟩ := hN.four; have hz2 := keep_block HZ3.out (by omega) (by omega) hF2; obtain ⟨y0, y1, y2, y3, yf⟩ := four_cells hz2; have HN := Aside0.mk hN; have HP2 := Aside0.mk hP2; have HF2 := Aside0.mk hF2; have HZ4 := Aside0.mk hz2; clear hN hP2 hF2 hz2))
  refine bodyPost_ret (results_cell_row rfl _ _ (w.heap.size + 1 + 1) 25 _ (0, 0) _ rfl (set4_block HZ4.out _ _ _ _) Try.underlying25 rfl (by kernel_rfl)) rfl (LvPost.ret HP.out HB3.out (by omega) (by rw [hs3]; omega) HN.out HP2.out HF2.out)
theorem bin_round (C : Ctx σ) {n : Nat} (ih : AllOK C n) {k : Nat} (hk5 : k ≤ 5) {w w2 w4 : World} {pb : Nat} {stc : St σ} {T : Tr} {a0 a1 a2 a3 : Value} (hlt : pb < w.heap.size) (hw2 : w.heap.size + 3 ≤ w2.heap.size) (hP : ParAt C w4 pb stc) (hk : stc.kd C.L ≠ 0) (hF : FrX (XP C pb) w w4)
    (hbx : w4.cell? ⟨w.heap.size, 0, none⟩ = some (.pointer (some ⟨pb, 0, none⟩))) (hbn : w4.cell? ⟨w.heap.size + 1, 0, none⟩ = some (.int .i64 (k : Int))) (hL : w4.heap[w2.heap.size]? = some (.cells #[a0, a1, a2, a3] 25 (0, 0))) (hN : NodeC (fun b => C.S0 b ∨ (w.heap.size + 3 ≤ b ∧ b ≠ w2.heap.size)) w4 T [a0, a1, a2, a3])
    {o : List Tr × St σ} (hx : operandL C.L (Ps.level C.L C.orc n (k + 1)) (nextL C.L stc).2 = some o) :
    Calls Try.prog 19 #[.pointer (some ⟨pb, 0, none⟩), .int .u8 61, .func (.func 78) #[] #[.pointer (some ⟨w4.heap.size, 0, none⟩), .pointer (some ⟨w.heap.size, 0, none⟩), .pointer (some ⟨w.heap.size + 1, 0, none⟩)]] (w4.alloc (.cells #[a0, a1, a2, a3] 25))
      (fun e w' => LvPost C (fun b => C.S0 b ∨ (w.heap.size + 3 ≤ b ∧ b ≠ w2.heap.size ∧ b < w4.heap.size)) pb (w4.alloc (.cells #[a0, a1, a2, a3] 25)) (node 61 ([T] ++ (nextL C.L stc).1 ++ o.1)) o.2 e w') := by
  have hb := PL.below_alloc w4 (.cells #[a0, a1, a2, a3] 25)
  have hsz : (w4.alloc (.cells #[a0, a1, a2, a3] 25)).heap.size = w4.heap.size + 1 := World.size_alloc _ _
  have hlo := hP.lo
  refine make_binary C ih _ _ w4.heap.size w.heap.size (w.heap.size + 1) pb k hk5 stc T a0 a1 a2 a3 (hP.below hb) hk (fun b h => ?_) (fun _ h => Or.inl h) (alloc_cell hbx _) (alloc_cell hbn _) (by omega) (by omega) (by omega) (by omega) (heap_alloc_new _ _) (hN.move (fun b h hl => ⟨?_, hb.block b hl⟩)) o hx
  · rcases h with h | h
    · have := C.hS b h
      have := hP.lt
      exact ⟨by omega, by omega, (C.hS b h).2⟩
    · exact ⟨by omega, by omega, fun e => by have := C.hO _ e; omega⟩
  · rcases h with h | h
    · exact Or.inl h
    · exact Or.inr ⟨h.1, h.2, hl⟩
set_option maxHeartbeats 4000000 in
set_option maxRecDepth 100000 in
theorem level_low (C : Ctx σ) {n : Nat} (ih : ∀ k, k ≤ n → AllOK C k) (w : World) (pb : Nat) (st : St σ) (k : Nat) (hk5 : k ≤ 5) (q R : Tr × St σ) (hP : ParAt C w pb st) (hk : st.kd C.L ≠ 0) (hq : Ps.level C.L C.orc n (k + 1) st = some q) (hR : Ps.levelLoop C.L C.orc n k q.1 q.2 = some R) (hk1 : 1 ≤ k) :
    Calls Try.prog 74 #[.pointer (some ⟨pb, 0, none⟩), .int .i64 (k : Int)] w fun e w' => LvPost C C.S0 pb w R.1 R.2 e w' := by
  have hmf : ∀ (fn : Fn) (first cap : Array Value) (w : World), (Instr.makeFunc fn first cap).run Try.prog w = .ok (.func fn first cap) w := fun _ _ _ _ => rfl
  have HP := Aside0.mk hP
  have hlt := hP.lt
  have hplo := hP.lo
  have HLV := Aside0.mk (fun w h => (ih n (Nat.le_refl n)).level w pb st (k + 1) q (by omega) h hk hq)
  have HLP := Aside0.mk hR
  have HCAST : Aside0 ((k : Int) + 1 = ((k + 1 : Nat) : Int)) := ⟨by omega⟩
  have d5 : decide ((5 : Int) < (k : Int)) = false := by simp; omega
  have hk0 : (0 : Int) ≤ (k : Int) := by omega
  have hk5' : (k : Int) ≤ 5 := by omega
  have hs1 : (w.alloc (.cells #[.pointer (some ⟨pb, 0, none⟩)] 41)).heap.size = w.heap.size + 1 := World.size_alloc _ _
  have hs2 : ((w.alloc (.cells #[.pointer (some ⟨pb, 0, none⟩)] 41)).alloc (.cells #[.int .i64 (k : Int)] 3)).heap.size = w.heap.size + 1 + 1 := by rw [World.size_alloc, hs1]
  have hs3 : (((w.alloc (.cells #[.pointer (some ⟨pb, 0, none⟩)] 41)).alloc (.cells #[.int .i64 (k : Int)] 3)).alloc zeroNode).heap.size = w.heap.size + 1 + 1 + 1 := by rw [World.size_alloc, hs2]
  have hbp3 : (((w.alloc (.cells #[.pointer (some ⟨pb, 0, none⟩)] 41)).alloc (.cells #[.int .i64 (k : Int)] 3)).alloc zeroNode).cell? ⟨w.heap.size, 0, none⟩ = some (.pointer (some ⟨pb, 0, none⟩)) := alloc_cell (alloc_cell (by rw [blk_cell (heap_at rfl)]; rfl) _) _
  have hbn3 : (((w.alloc (.cells #[.pointer (some ⟨pb, 0, none⟩)] 41)).alloc (.cells #[.int .i64 (k : Int)] 3)).alloc zeroNode).cell? ⟨w.heap.size + 1, 0, none⟩ = some (.int .i64 (k : Int)) := alloc_cell (by rw [blk_cell (heap_at hs1.symm)]; rfl) _
  have HZ3 : Aside0 ((((w.alloc (.cells #[.pointer (some ⟨pb, 0, none⟩)] 41)).alloc (.cells #[.int .i64 (k : Int)] 3)).alloc zeroNode).heap[w.heap.size + 1 + 1]? = some zeroNode) := ⟨heap_at hs2.symm⟩
  have HB3 : Aside0 (Below w.heap.size w (((w.alloc (.cells #[.pointer (some ⟨pb, 0, none⟩)] 41)).alloc (.cells #[.int .i64 (k : Int)] 3)).alloc zeroNode)) := ⟨((PL.below_alloc _ _).alloc (by rw [hs1]; omega) _).alloc (by rw [hs2]; omega) _⟩
  clear hP hk hq hR
  go_enter Try.func74, Try.ntmps74
  go_wp2_with (first | (go_at_call 74; rw [HCAST.out]; refine (HLV.out _ (HP.out.below HB3.out)).mono ?_; rintro e w2 ⟨cs, rfl, hN, hP2, hF2⟩; obtain ⟨A, nn, cc, rfl, _⟩ := hN.four; have hz2 := keep_block HZ3.out (by omega) (by omega) hF2; have hbp4 := keep_cell hbp3 (by omega) (by omega) hF2; have hbn4 := keep_cell hbn3 (by omega) (by omega) hF2; have HN := Aside0.mk hN; have HP2 := Aside0.mk hP2; have HF2 := Aside0.mk hF2; have HZ4 := Aside0.mk hz2; clear hN hP2 hF2 hz2))
  have hw2 : w.heap.size + 3 ≤ w2.heap.size := by have := HF2.out.size; rw [hs3] at this; omega
  have hb2 : Below w2.heap.size w2 (w2.alloc (.cells #[.int .u8 q.1.kind, .int .u8 q.1.want, .int .i64 q.1.width, .slice A nn cc] 25)) := PL.below_alloc _ _
  go_loopg [] n (fun kq wr => ∃ (T : Tr) (stc : St σ) (A' : Option Addr) (n' c' : Nat), Aside0 (Ps.levelLoop C.L C.orc kq k T stc = some R) ∧ Aside0 (kq ≤ n) ∧ Aside0 (ParAt C wr pb stc) ∧ Aside0 (FrX (XP C pb) w wr) ∧
    Aside0 (wr.cell? ⟨w.heap.size, 0, none⟩ = some (.pointer (some ⟨pb, 0, none⟩))) ∧ Aside0 (wr.cell? ⟨w.heap.size + 1, 0, none⟩ = some (.int .i64 (k : Int))) ∧ Aside0 (wr.heap[w.heap.size + 1 + 1]? = some zeroNode) ∧ Aside0 (wr.heap[w2.heap.size]? = some (.cells #[.int .u8 T.kind, .int .u8 T.want, .int .i64 T.width, .slice A' n' c'] 25 (0, 0))) ∧
    Aside0 (NodeC (fun b => C.S0 b ∨ (w.heap.size + 3 ≤ b ∧ b ≠ w2.heap.size)) wr T [.int .u8 T.kind, .int .u8 T.want, .int .i64 T.width, .slice A' n' c']))
  case atStart =>
    refine ⟨q.1, q.2, A, nn, cc, HLP, ⟨Nat.le_refl _⟩, ⟨HP2.out.below hb2⟩, ⟨fr_below ((FrX.below (X := fun _ => False) HB3.out).trans HF2.out (fun _ h => h.elim) (fun _ _ h => h)) hb2⟩, ⟨alloc_cell hbp4 _⟩, ⟨alloc_cell hbn4 _⟩, ⟨(hb2.block _ (by omega)).trans HZ4.out⟩, ⟨heap_alloc_new _ _⟩, ⟨HN.out.move (fun b hb hlt => ⟨?_, hb2.block b hlt⟩)⟩⟩
    rcases hb with hb | hb
    · exact Or.inl hb
    · exact Or.inr ⟨by rw [hs3] at hb; omega, by omega⟩
  case round =>
    clear HLP HP2 HF2 HN HZ4 hbp4 hbn4 hb2 HLV hbp3 hbn3 HZ3
    obtain ⟨T, stc, A', n', c', HA, HKn, HPc, HFc, HBPc, HBNc, HZc, HLc, HNc⟩ := hrel
    have hbpc := HBPc.out
    have hbnc := HBNc.out
    have hA := HA.out
    cases gk with
    | zero => rw [Ps.levelLoop] at hA; cases hA
    | succ k1 =>
      rw [Ps.levelLoop] at hA
      have HKQ := Aside0.mk (fun nq => Calls.quiet_of (kind_drawn C (wr.drewN nq) pb stc (HPc.out.below (Drawn0.below ⟨nq, rfl⟩))))
      have HLQ := Aside0.mk (fun nq => Calls.quiet_of_same (lvl_any (stc.kd C.L) (wr.drewN nq)))
      by_cases hl : lvl (stc.kd C.L) = (k : Int)
      · rw [if_pos hl] at hA
        obtain ⟨o, hx, hA⟩ := Option.bind_eq_some_iff.mp hA
        have HK : Aside0 (stc.kd C.L ≠ 0) := ⟨fun e => by rw [e, lvl_zero] at hl; omega⟩
        have HX := Aside0.mk hx
        have HA2 := Aside0.mk hA
        have bl : (lvl (stc.kd C.L) == (k : Int)) = true := by rw [hl]; simp
        clear hA hx HA hl
        go_wp2
        go_quiet ((first | (go_at_call 21; exact HKQ.out _) | (go_at_call 77; exact HLQ.out _)))
        generalize hq4 : wr.drewN nq = w4
        have hb4 : Below wr.heap.size wr w4 := hq4 ▸ Drawn0.below ⟨nq, rfl⟩
        have HP4 := Aside0.mk (HPc.out.below hb4)
        have HF4 := Aside0.mk (fr_below HFc.out hb4)
        have HBP4 := Aside0.mk ((World.cell?_of_block (a := ⟨w.heap.size, 0, none⟩) (hb4.block w.heap.size (cell_lt hbpc))).trans hbpc)
        have HBN4 := Aside0.mk ((World.cell?_of_block (a := ⟨w.heap.size + 1, 0, none⟩) (hb4.block (w.heap.size + 1) (cell_lt hbnc))).trans hbnc)
        have HZ5 := Aside0.mk ((hb4.block (w.heap.size + 1 + 1) (blk_lt HZc.out)).trans HZc.out)
        have HL4 := Aside0.mk ((hb4.block w2.heap.size (blk_lt HLc.out)).trans HLc.out)
        have HN4 := Aside0.mk (HNc.out.move (S' := fun b => C.S0 b ∨ (w.heap.size + 3 ≤ b ∧ b ≠ w2.heap.size)) (fun b hb hlt => ⟨hb, hb4.block b hlt⟩))
        obtain ⟨l0, l1, l2, l3, lf⟩ := four_cells HL4.out
        obtain ⟨n0, n1, n2, n3, nf⟩ := four_cells HZ5.out
        have hl4 := blk_lt HL4.out
        have hbp := HBP4.out
        have hbn := HBN4.out
        have abp := alloc_cell hbp
        have abn := alloc_cell hbn
        clear hq4 hb4 hbpc hbnc
        go_wp2_with (first | (go_at_call 19; refine (bin_round C (ih k1 (by have := HKn.out; omega)) hk5 hlt hw2 HP4.out HK.out HF4.out HBP4.out HBN4.out HL4.out HN4.out HX.out).mono ?_; rintro e w6 ⟨cs, rfl, hN6, hP6, hF6⟩; obtain ⟨A6, n6, c6, rfl, _⟩ := hN6.four; have HP6 := Aside0.mk hP6; have HF6 := Aside0.mk hF6; have HN6 := Aside0.mk hN6; clear hP6 hF6 hN6; have HL6 := Aside0.mk (keep_block ((heap_alloc_old _ _ hl4).trans HL4.out) (by omega) (by omega) HF6.out); obtain ⟨z0, z1, z2, z3, zf⟩ := four_cells HL6.out))
        have h7 : FrX (fun b => b = w2.heap.size) w6 ((((w6.setCell ⟨w2.heap.size, 0, none⟩ (.int .u8 (node 61 ([T] ++ (nextL C.L stc).1 ++ o.1)).kind)).setCell ⟨w2.heap.size, 1, none⟩ (.int .u8 (node 61 ([T] ++ (nextL C.L stc).1 ++ o.1)).want)).setCell ⟨w2.heap.size, 2, none⟩ (.int .i64 (node 61 ([T] ++ (nextL C.L stc).1 ++ o.1)).width)).setCell ⟨w2.heap.size, 3, none⟩ (.slice A6 n6 c6)) := set4_fr (X := fun b => b = w2.heap.size) (FrX.refl _ _) rfl _ _ _ _
        have hsz5 : (w4.alloc (.cells #[.int .u8 T.kind, .int .u8 T.want, .int .i64 T.width, .slice A' n' c'] 25)).heap.size = w4.heap.size + 1 := World.size_alloc _ _
        have hb5 := PL.below_alloc w4 (.cells #[.int .u8 T.kind, .int .u8 T.want, .int .i64 T.width, .slice A' n' c'] 25)
        have hnl4 := blk_lt HZ5.out
        have hbp6 := keep_cell (alloc_cell HBP4.out (.cells #[.int .u8 T.kind, .int .u8 T.want, .int .i64 T.width, .slice A' n' c'] 25)) (by omega) (by omega) HF6.out
        have hbn6 := keep_cell (alloc_cell HBN4.out (.cells #[.int .u8 T.kind, .int .u8 T.want, .int .i64 T.width, .slice A' n' c'] 25)) (by omega) (by omega) HF6.out
        have hz6 := keep_block ((hb5.block _ hnl4).trans HZ5.out) (by omega) (by omega) HF6.out
        go_roundg k1
        case measure => omega
        case rel =>
          refine ⟨_, o.2, A6, n6, c6, HA2, ⟨by have := HKn.out; omega⟩, ⟨HP6.out.move h7 (by omega) (fun b hb => by omega)⟩, ⟨((fr_below HF4.out hb5).trans HF6.out (fun _ h => h) (fun _ _ h => h)).trans h7 (fun _ h => h) (fun b hb h => by omega)⟩,
            ⟨(World.cell?_of_block (a := ⟨w.heap.size, 0, none⟩) (h7.block w.heap.size (cell_lt hbp6) (by omega))).trans hbp6⟩, ⟨(World.cell?_of_block (a := ⟨w.heap.size + 1, 0, none⟩) (h7.block (w.heap.size + 1) (cell_lt hbn6) (by omega))).trans hbn6⟩, ⟨(h7.block _ (blk_lt hz6) (by omega)).trans hz6⟩, ⟨set4_block HL6.out _ _ _ _⟩, ⟨HN6.out.move (fun b hb hl => ⟨?_, h7.block b hl ?_⟩)⟩⟩
          · rcases hb with (hb | hb) | hb
            · exact Or.inl hb
            · exact Or.inr ⟨hb.1, hb.2.1⟩
            · exact Or.inr ⟨by omega, by omega⟩
          · rcases hb with (hb | hb) | hb
            · have := (C.hS b hb).1; omega
            · exact hb.2.1
            · omega
      · rw [if_neg hl] at hA
        obtain rfl := Option.some.inj hA
        have bl : (lvl (stc.kd C.L) == (k : Int)) = false := nb hl
        clear hA HA hl
        go_wp2
        go_quiet ((first | (go_at_call 21; exact HKQ.out _) | (go_at_call 77; exact HLQ.out _)))
        generalize hq4 : wr.drewN nq = w4
        have hb4 : Below wr.heap.size wr w4 := hq4 ▸ Drawn0.below ⟨nq, rfl⟩
        have HP4 := Aside0.mk (HPc.out.below hb4)
        have HF4 := Aside0.mk (fr_below HFc.out hb4)
        have HBP4 := Aside0.mk ((World.cell?_of_block (a := ⟨w.heap.size, 0, none⟩) (hb4.block w.heap.size (cell_lt hbpc))).trans hbpc)
        have HBN4 := Aside0.mk ((World.cell?_of_block (a := ⟨w.heap.size + 1, 0, none⟩) (hb4.block (w.heap.size + 1) (cell_lt hbnc))).trans hbnc)
        have HZ5 := Aside0.mk ((hb4.block (w.heap.size + 1 + 1) (blk_lt HZc.out)).trans HZc.out)
        have HL4 := Aside0.mk ((hb4.block w2.heap.size (blk_lt HLc.out)).trans HLc.out)
        have HN4 := Aside0.mk (HNc.out.move (S' := fun b => C.S0 b ∨ (w.heap.size + 3 ≤ b ∧ b ≠ w2.heap.size)) (fun b hb hlt => ⟨hb, hb4.block b hlt⟩))
        obtain ⟨l0, l1, l2, l3, lf⟩ := four_cells HL4.out
        obtain ⟨n0, n1, n2, n3, nf⟩ := four_cells HZ5.out
        have hl4 := blk_lt HL4.out
        have hbp := HBP4.out
        have hbn := HBN4.out
        have abp := alloc_cell hbp
        have abn := alloc_cell hbn
        clear hq4 hb4 hbpc hbnc
        go_wp2
        have h7 : FrX (fun b => b = w.heap.size + 1 + 1) w4 ((((w4.setCell ⟨w.heap.size + 1 + 1, 0, none⟩ (.int .u8 T.kind)).setCell ⟨w.heap.size + 1 + 1, 1, none⟩ (.int .u8 T.want)).setCell ⟨w.heap.size + 1 + 1, 2, none⟩ (.int .i64 T.width)).setCell ⟨w.heap.size + 1 + 1, 3, none⟩ (.slice A' n' c')) := set4_fr (X := fun b => b = w.heap.size + 1 + 1) (FrX.refl _ _) rfl _ _ _ _
        refine bodyPost_ret (results_cell_row rfl _ _ (w.heap.size + 1 + 1) 25 _ (0, 0) _ rfl (set4_block HZ5.out _ _ _ _) Try.underlying25 rfl (by kernel_rfl)) rfl ⟨_, rfl, HN4.out.move (fun b hb hl => ⟨?_, h7.block b hl ?_⟩), HP4.out.move h7 (by omega) (fun b hb => by omega), HF4.out.trans h7 (fun _ h => h) (fun b hb h => by omega)⟩
        · rcases hb with hb | hb
          · exact Or.inl hb
          · exact Or.inr (by omega)
        · rcases hb with hb | hb
          · have := (C.hS b hb).1; omega
          · omega
end
end Go.Proofs.Ytalnicdpcigocaa.PP
namespace Go.Proofs.Ytalnicdpcigocaa.PP
open Go.RowKit Ps PM PL GR Go.Maps Go.Proofs.YtalnicdpcigocaaW.PrintWords Go.Proofs.YtalnicdpcigocaaW.PrintLast Go.Proofs.YtalnicdpcigocaaW.PrintMore
set_option linter.unusedVariables false
set_option linter.unusedSimpArgs false
/-- an element reads as itself -/
def selfR (v : Value) : Option (DataW Value × List MemPlace) := some (.held v, [])
theorem wpList_insert_own {P : Program} (w : World) {ops : Array Oper} {rest : List Oper} {o : Oper} {a : Act} {Q : Exit → Act → World → Prop}
    (hg : o.guard = none) (m x v : Operand) (t : TypeId) (hop : o.op = Op.insert t m x v)
    (k e : TypeId) (K : Keyed P k) (ht : P.underlying t = some (.map k e)) (b n : Nat) (D : DataW Value)
    (hm : a.eval m = .map (some b)) (hown : w.ownsMap P k selfR b n D) (hn : n < maxLen) (key val : Value) (kl : Lit) (hx : a.eval x = key) (hv : a.eval v = val) (hkey : keyOf P k key = some kl)
    (hK : ∀ w', w'.ownsMap P k selfR b (n + 1) (D.put kl (.held val)) → w.grownBy w' (some b) → wpList P ops Q rest (a.put o.dst undef) w') :
    wpList P ops Q (o :: rest) a w := by
  refine wpList_plain hg fun K' hK' => ?_
  obtain ⟨w', hrun, r1, r2⟩ := hown.update K ht hn hkey (show selfR val = some (.held val, []) from rfl)
  unfold Oper.wp
  simp [execOp, hop, hm, hx, hv, hrun, Result.andThen]
  exact hK' _ _ (hK w' r1 r2)
def stmtsD : DataW Value := ((((((DataW.map []).put (.int .u8 53) (.held (.func (.func 59) #[] #[]))).put (.int .u8 54) (.held (.func (.func 60) #[] #[]))).put (.int .u8 56) (.held (.func (.func 61) #[] #[]))).put (.int .u8 57) (.held (.func (.func 62) #[] #[]))).put (.int .u8 58) (.held (.func (.func 63) #[] #[]))).put (.int .u8 59) (.held (.func (.func 64) #[] #[]))
theorem u8_keyed : Keyed Try.prog 5 := int_keyed Try.underlying5
set_option maxHeartbeats 1000000 in
set_option maxRecDepth 100000 in
theorem stmts_any (w : World) : Calls Try.prog 48 #[] w fun e w' => ∃ b, e = .returned (.map (some b)) ∧ w'.ownsMap Try.prog 5 selfR b 6 stmtsD ∧ Below w.heap.size w w' := by
  have hmk := fun w => run_makeMap (P := Try.prog) 74 w
  have hown := World.ownsMap_made w Try.prog 5 selfR
  have hbel : Below w.heap.size w (w.alloc (.map #[] 0)) := PL.below_alloc _ _
  generalize hw0 : w.alloc (.map #[] 0) = w0 at hown hbel
  have HOWN := Aside0.mk hown
  have HBEL := Aside0.mk hbel
  clear hown hbel
  go_enter Try.func48, Try.ntmps48
  go_wp2_with (first | (rw [hw0]; fail) | (refine wpList_insert_own _ rfl _ _ _ 74 rfl 5 56 u8_keyed Try.underlying74 w.heap.size _ _ rfl HOWN.out (by simp only [maxLen]; omega) _ _ _ rfl rfl (by rfl) ?_; intro w1 hown1 hg1; have hB1 := HBEL.out.grown hg1 HBEL.out.size (by intro k e; cases e; exact Nat.le_refl _); clear HOWN HBEL; have HOWN := Aside0.mk hown1; have HBEL := Aside0.mk hB1; clear hown1 hB1 hg1))
  go_ret
  exact ⟨_, rfl, HOWN.out, HBEL.out⟩
/-- what lies in the map -/
theorem stmts_one (w : World) (b : Nat) (h : w.ownsMap Try.prog 5 selfR b 6 stmtsD) (k : Int) (f : Nat) (hkey : keyOf Try.prog 5 (.int .u8 k) = some (.int .u8 k)) (hat : stmtsD.atKey (.int .u8 k) (.held .nilFunc) = .held (.func (.func f) #[] #[])) :
    (Instr.lookup 74 (.map (some b)) (.int .u8 k) false).run Try.prog w = .ok (.func (.func f) #[] #[]) w := by
  have hz : (zeroValue 56).run Try.prog w = .ok .nilFunc w := by rfl
  obtain ⟨v, ps, hrun, hv⟩ := h.lookup u8_keyed Try.underlying74 hz (show selfR .nilFunc = some (.held .nilFunc, []) from rfl) (key := .int .u8 k) (kl := .int .u8 k) hkey
  have hv' := Option.some.inj hv
  injection hv' with h1 h2
  rw [hat] at h1
  injection h1 with h3
  rw [hrun, h3]
theorem stmts_53 (w : World) (b : Nat) (h : w.ownsMap Try.prog 5 selfR b 6 stmtsD) : (Instr.lookup 74 (.map (some b)) (.int .u8 53) false).run Try.prog w = .ok (.func (.func 59) #[] #[]) w := stmts_one w b h _ _ (by rfl) (by rfl)
theorem stmts_54 (w : World) (b : Nat) (h : w.ownsMap Try.prog 5 selfR b 6 stmtsD) : (Instr.lookup 74 (.map (some b)) (.int .u8 54) false).run Try.prog w = .ok (.func (.func 60) #[] #[]) w := stmts_one w b h _ _ (by rfl) (by rfl)
theorem stmts_56 (w : World) (b : Nat) (h : w.ownsMap Try.prog 5 selfR b 6 stmtsD) : (Instr.lookup 74 (.map (some b)) (.int .u8 56) false).run Try.prog w = .ok (.func (.func 61) #[] #[]) w := stmts_one w b h _ _ (by rfl) (by rfl)
theorem stmts_57 (w : World) (b : Nat) (h : w.ownsMap Try.prog 5 selfR b 6 stmtsD) : (Instr.lookup 74 (.map (some b)) (.int .u8 57) false).run Try.prog w = .ok (.func (.func 62) #[] #[]) w := stmts_one w b h _ _ (by rfl) (by rfl)
theorem stmts_58 (w : World) (b : Nat) (h : w.ownsMap Try.prog 5 selfR b 6 stmtsD) : (Instr.lookup 74 (.map (some b)) (.int .u8 58) false).run Try.prog w = .ok (.func (.func 63) #[] #[]) w := stmts_one w b h _ _ (by rfl) (by rfl)
theorem stmts_59 (w : World) (b : Nat) (h : w.ownsMap Try.prog 5 selfR b 6 stmtsD) : (Instr.lookup 74 (.map (some b)) (.int .u8 59) false).run Try.prog w = .ok (.func (.func 64) #[] #[]) w := stmts_one w b h _ _ (by rfl) (by rfl)
end Go.Proofs.Ytalnicdpcigocaa.PP
namespace Go.Proofs.Ytalnicdpcigocaa.PP
open Go.RowKit Ps PM PL GR Go.Proofs.YtalnicdpcigocaaW.PrintWords Go.Proofs.YtalnicdpcigocaaW.PrintLast Go.Proofs.YtalnicdpcigocaaW.PrintMore
set_option linter.unusedVariables false
set_option linter.unusedSimpArgs false
section
variable {σ : Type}
set_option maxHeartbeats 4000000 in
set_option maxRecDepth 100000 in
theorem stmt_make (C : Ctx σ) (w : World) (pb : Nat) (st st' : St σ) (k : Int) (f : Nat) (T : Tr) (hP : ParAt C w pb st) (hs : stat (st.kd C.L) = k) (h52 : k ≠ 52)
    (hlk : ∀ (w : World) (b : Nat), w.ownsMap Try.prog 5 selfR b 6 stmtsD → (Instr.lookup 74 (.map (some b)) (.int .u8 k) false).run Try.prog w = .ok (.func (.func f) #[] #[]) w)
    (hmk : ∀ w, ParAt C w pb st → Calls Try.prog 19 #[.pointer (some ⟨pb, 0, none⟩), .int .u8 k, .func (.func f) #[] #[]] w (fun e w' => LvPost C C.S0 pb w T st' e w')) :
    Calls Try.prog 35 #[.pointer (some ⟨pb, 0, none⟩)] w fun e w' => LvPost C C.S0 pb w T st' e w' := by
  have HP := Aside0.mk hP
  have hlt := hP.lt
  have hplo := hP.lo
  have HKD := Aside0.mk (fun w h => kind_any C w pb st h)
  have HST := Aside0.mk (fun w => stat_any (st.kd C.L) w)
  have HLK := Aside0.mk hlk
  have HMK := Aside0.mk hmk
  rw [hs] at HST
  have b52 := nb h52
  generalize st.kd C.L = kd at HKD HST
  have HZ1 : Aside0 ((w.alloc zeroNode).heap[w.heap.size]? = some zeroNode) := ⟨heap_at rfl⟩
  have HB0 : Aside0 (Below w.heap.size w (w.alloc zeroNode)) := ⟨PL.below_alloc _ _⟩
  have hs1 : (w.alloc zeroNode).heap.size = w.heap.size + 1 := World.size_alloc _ _
  clear hP hs hlk hmk h52
  go_enter Try.func35, Try.ntmps35
  go_wp2_with (first | (go_at_call 21; refine (HKD.out _ (HP.out.below HB0.out)).mono ?_; rintro e w1 ⟨rfl, hb1⟩; have HZ2 := Aside0.mk ((hb1.block w.heap.size (by rw [hs1]; omega)).trans HZ1.out); have HB1 := Aside0.mk (HB0.out.trans (Below.mono hb1 (by rw [hs1]; omega))); have hs2 := hb1.size; rw [hs1] at hs2; clear hb1) | (go_at_call 33; refine (HST.out _).mono ?_; rintro e w9 ⟨rfl, rfl⟩) | (go_at_call 48; refine (stmts_any _).mono ?_; rintro e w3 ⟨b, rfl, hown, hb3⟩; have hlk := HLK.out _ b hown; have HZ3 := Aside0.mk ((hb3.block w.heap.size (by omega)).trans HZ2.out); have HB3 := Aside0.mk (HB1.out.trans (Below.mono hb3 (by omega))); have hs3 := hb3.size; clear hb3 hown) | (go_at_call 19; refine (HMK.out _ (HP.out.below HB3.out)).mono ?_; rintro e w6 ⟨cs, rfl, hN, hP2, hF2⟩; obtain ⟨A, nn, cc, rfl, _⟩ := hN.four; have hz2 := keep_block HZ3.out (by omega) (by omega) hF2; obtain ⟨y0, y1, y2, y3, yf⟩ := four_cells hz2; have HN := Aside0.mk hN; have HP2 := Aside0.mk hP2; have HF2 := Aside0.mk hF2; have HZ4 := Aside0.mk hz2; clear hN hP2 hF2 hz2))
  refine bodyPost_ret (results_cell_row rfl _ _ w.heap.size 25 _ (0, 0) _ rfl (set4_block HZ4.out _ _ _ _) Try.underlying25 rfl (by kernel_rfl)) rfl (LvPost.ret HP.out HB3.out (Nat.le_refl _) (by omega) HN.out HP2.out HF2.out)
end
end Go.Proofs.Ytalnicdpcigocaa.PP
namespace Go.Proofs.Ytalnicdpcigocaa.PP
open Go.RowKit Ps PM PL GR Go.Proofs.YtalnicdpcigocaaW.PrintWords Go.Proofs.YtalnicdpcigocaaW.PrintLast Go.Proofs.YtalnicdpcigocaaW.PrintMore
set_option linter.unusedVariables false
set_option linter.unusedSimpArgs false
section
variable {σ : Type}
/-- make of a statement's own function -/
theorem make_stmt (C : Ctx σ) (w : World) (pb : Nat) (st st' : St σ) (k : Int) (f : Nat) (l : List Tr) (hlen : l.length ≤ 1000000) (hcf : Enters f) (hP : ParAt C w pb st)
    (hdo : ∀ (lo : Nat) (w1 : World) (mb : Nat), MkAt C C.S0 lo w1 mb k [] pb (.slice none 0 0) → ParAt C w1 pb st → Calls Try.prog f #[.pointer (some ⟨mb, 0, none⟩)] w1 (fun e w' => e = .returned (.tuple #[]) ∧ MkPost C C.S0 lo mb k pb w1 (.slice none 0 0) l st' w')) :
    Calls Try.prog 19 #[.pointer (some ⟨pb, 0, none⟩), .int .u8 k, .func (.func f) #[] #[]] w (fun e w' => LvPost C C.S0 pb w (node k l) st' e w') := by
  refine make_any C C.S0 w pb st st' k l f #[] #[] hlen hcf hP (s0_ok C hP (Nat.le_refl _)) (fun _ h => h) (fun w1 mb lo hb1 hm hP1 hM => ?_)
  rw [args1]
  exact hdo lo w1 mb hM hP1
end
end Go.Proofs.Ytalnicdpcigocaa.PP
namespace Go.Proofs.Ytalnicdpcigocaa.PP
open Go.RowKit Ps PM PL GR Go.Proofs.YtalnicdpcigocaaW.PrintWords Go.Proofs.YtalnicdpcigocaaW.PrintLast Go.Proofs.YtalnicdpcigocaaW.PrintMore
set_option linter.unusedVariables false
set_option linter.unusedSimpArgs false
section
variable {σ : Type}
theorem block_len' (C : Ctx σ) {n : Nat} {st : St σ} {b : List Tr × St σ} (hle : st.at_ ≤ C.L.length) (hb : Ps.block C.L C.orc n st = some b) : b.1.length ≤ 40000 ∧ b.2.at_ ≤ C.L.length := by
  have h := ((mon n : Mon C.L C.orc n).block _ _ hle hb).1
  have := C.hL
  have h2 := h.2.2
  have h3 := h.2.1
  exact ⟨by omega, h3⟩
theorem stmt_let (C : Ctx σ) {n : Nat} (ih : AllOK C n) (w : World) (pb : Nat) (st : St σ) (d : List Tr × St σ) (hP : ParAt C w pb st) (hs : stat (st.kd C.L) = 53) (hd : Ps.expr C.L C.orc n (wantL C.L 26 (wantL C.L 6 (nextL C.L st).2).2).2 = some d) :
    Calls Try.prog 35 #[.pointer (some ⟨pb, 0, none⟩)] w fun e w' => LvPost C C.S0 pb w (node 53 ((nextL C.L st).1 ++ (wantL C.L 6 (nextL C.L st).2).1 ++ (wantL C.L 26 (wantL C.L 6 (nextL C.L st).2).2).1 ++ d.1 ++ (wantL C.L 25 d.2).1)) (wantL C.L 25 d.2).2 e w' := by
  have hk : st.kd C.L ≠ 0 := of_stat (by rw [hs]; decide)
  have h1 := next_len' C st
  have h2 := want_len' C 6 (nextL C.L st).2
  have h3 := want_len' C 26 (wantL C.L 6 (nextL C.L st).2).2
  have g1 := next_ok hk
  have g2 := want_ok (L := C.L) (k := 6) (by decide) g1.2
  have g3 := want_ok (L := C.L) (k := 26) (by decide) g2.2
  have h4 := (expr_len' C g3.2 hd).1
  have h5 := want_len' C 25 d.2
  refine stmt_make C w pb st _ 53 _ _ hP hs (by decide) stmts_53 (fun w h => make_stmt C w pb st _ 53 _ _ (by simp only [List.length_append]; omega) (fun _ _ => rfl) h (fun lo w1 mb hM hP1 => let_do C ih C.S0 lo w1 mb 53 pb _ st hM hP1 hk d hd))
theorem stmt_loop (C : Ctx σ) {n : Nat} (ih : AllOK C n) (w : World) (pb : Nat) (st : St σ) (b c : List Tr × St σ) (hP : ParAt C w pb st) (hs : stat (st.kd C.L) = 57) (hb : Ps.expr C.L C.orc n (nextL C.L st).2 = some b) (hc : Ps.block C.L C.orc n b.2 = some c) :
    Calls Try.prog 35 #[.pointer (some ⟨pb, 0, none⟩)] w fun e w' => LvPost C C.S0 pb w (node 57 ((nextL C.L st).1 ++ b.1 ++ c.1)) c.2 e w' := by
  have hk : st.kd C.L ≠ 0 := of_stat (by rw [hs]; decide)
  have h1 := next_len' C st
  have h2 := expr_len' C (next_ok hk).2 hb
  have h3 := block_len' C h2.2 hc
  refine stmt_make C w pb st _ 57 _ _ hP hs (by decide) stmts_57 (fun w h => make_stmt C w pb st _ 57 _ _ (by simp only [List.length_append]; omega) (fun _ _ => rfl) h (fun lo w1 mb hM hP1 => loop_do C ih C.S0 lo w1 mb 57 pb _ st hM hP1 hk b c hb hc))
end
end Go.Proofs.Ytalnicdpcigocaa.PP
namespace Go.Proofs.Ytalnicdpcigocaa.PP
open Go.RowKit Ps PM PL GR Go.Proofs.YtalnicdpcigocaaW.PrintWords Go.Proofs.YtalnicdpcigocaaW.PrintLast Go.Proofs.YtalnicdpcigocaaW.PrintMore
set_option linter.unusedVariables false
set_option linter.unusedSimpArgs false
section
variable {σ : Type}
theorem stmt_back1 (C : Ctx σ) {n : Nat} (ih : AllOK C n) (w : World) (pb : Nat) (st : St σ) (b : List Tr × St σ) (hP : ParAt C w pb st) (hs : stat (st.kd C.L) = 58) (hbe : begins ((nextL C.L st).2.kd C.L) = true) (hb : Ps.expr C.L C.orc n (nextL C.L st).2 = some b) :
    Calls Try.prog 35 #[.pointer (some ⟨pb, 0, none⟩)] w fun e w' => LvPost C C.S0 pb w (node 58 ((nextL C.L st).1 ++ b.1 ++ (wantL C.L 25 b.2).1)) (wantL C.L 25 b.2).2 e w' := by
  have hk : st.kd C.L ≠ 0 := of_stat (by rw [hs]; decide)
  have h1 := next_len' C st
  have h2 := expr_len' C (next_ok hk).2 hb
  have h3 := want_len' C 25 b.2
  refine stmt_make C w pb st _ 58 _ _ hP hs (by decide) stmts_58 (fun w h => make_stmt C w pb st _ 58 _ _ (by simp only [List.length_append]; omega) (fun _ _ => rfl) h (fun lo w1 mb hM hP1 => back_yes C ih C.S0 lo w1 mb 58 pb _ st hM hP1 hk hbe b hb))
theorem stmt_back0 (C : Ctx σ) {n : Nat} (ih : AllOK C n) (w : World) (pb : Nat) (st : St σ) (hP : ParAt C w pb st) (hs : stat (st.kd C.L) = 58) (hbe : begins ((nextL C.L st).2.kd C.L) = false) :
    Calls Try.prog 35 #[.pointer (some ⟨pb, 0, none⟩)] w fun e w' => LvPost C C.S0 pb w (node 58 ((nextL C.L st).1 ++ (wantL C.L 25 (nextL C.L st).2).1)) (wantL C.L 25 (nextL C.L st).2).2 e w' := by
  have hk : st.kd C.L ≠ 0 := of_stat (by rw [hs]; decide)
  have h1 := next_len' C st
  have h3 := want_len' C 25 (nextL C.L st).2
  refine stmt_make C w pb st _ 58 _ _ hP hs (by decide) stmts_58 (fun w h => make_stmt C w pb st _ 58 _ _ (by simp only [List.length_append]; omega) (fun _ _ => rfl) h (fun lo w1 mb hM hP1 => back_no C ih C.S0 lo w1 mb 58 pb _ st hM hP1 hk hbe))
theorem stmt_do1 (C : Ctx σ) {n : Nat} (ih : AllOK C n) (w : World) (pb : Nat) (st : St σ) (a c : List Tr × St σ) (hP : ParAt C w pb st) (hs : stat (st.kd C.L) = 59) (ha : Ps.expr C.L C.orc n st = some a) (h26 : a.2.kd C.L = 26) (hc : Ps.expr C.L C.orc n (nextL C.L a.2).2 = some c) :
    Calls Try.prog 35 #[.pointer (some ⟨pb, 0, none⟩)] w fun e w' => LvPost C C.S0 pb w (node 59 (a.1 ++ (nextL C.L a.2).1 ++ c.1 ++ (wantL C.L 25 c.2).1)) (wantL C.L 25 c.2).2 e w' := by
  have hka : a.2.kd C.L ≠ 0 := by rw [h26]; decide
  have h0 := expr_len' C hP.le ha
  have h1 := next_len' C a.2
  have h2 := expr_len' C (next_ok hka).2 hc
  have h3 := want_len' C 25 c.2
  refine stmt_make C w pb st _ 59 _ _ hP hs (by decide) stmts_59 (fun w h => make_stmt C w pb st _ 59 _ _ (by simp only [List.length_append]; omega) (fun _ _ => rfl) h (fun lo w1 mb hM hP1 => do_yes C ih C.S0 lo w1 mb 59 pb _ st hM hP1 a ha h26 c hc))
theorem stmt_do0 (C : Ctx σ) {n : Nat} (ih : AllOK C n) (w : World) (pb : Nat) (st : St σ) (a : List Tr × St σ) (hP : ParAt C w pb st) (hs : stat (st.kd C.L) = 59) (ha : Ps.expr C.L C.orc n st = some a) (h26 : a.2.kd C.L ≠ 26) :
    Calls Try.prog 35 #[.pointer (some ⟨pb, 0, none⟩)] w fun e w' => LvPost C C.S0 pb w (node 59 (a.1 ++ (wantL C.L 25 a.2).1)) (wantL C.L 25 a.2).2 e w' := by
  have h0 := expr_len' C hP.le ha
  have h3 := want_len' C 25 a.2
  refine stmt_make C w pb st _ 59 _ _ hP hs (by decide) stmts_59 (fun w h => make_stmt C w pb st _ 59 _ _ (by simp only [List.length_append]; omega) (fun _ _ => rfl) h (fun lo w1 mb hM hP1 => do_no C ih C.S0 lo w1 mb 59 pb _ st hM hP1 a ha h26))
end
end Go.Proofs.Ytalnicdpcigocaa.PP
namespace Go.Proofs.Ytalnicdpcigocaa.PP
open Go.RowKit Ps PM PL GR Go.Proofs.YtalnicdpcigocaaW.PrintWords Go.Proofs.YtalnicdpcigocaaW.PrintLast Go.Proofs.YtalnicdpcigocaaW.PrintMore
set_option linter.unusedVariables false
set_option linter.unusedSimpArgs false
section
variable {σ : Type}
theorem stmt_fn (C : Ctx σ) (hcf0 : Enters C.f) {n : Nat} (ih : AllOK C n) (w : World) (pb : Nat) (st : St σ) (p : Tr × St σ) (c : List Tr × St σ) (hP : ParAt C w pb st) (hs : stat (st.kd C.L) = 54) (hp : Ps.params C.L n ((wantL C.L 6 (nextL C.L st).2).2.to C.L) = some p) (hc : Ps.block C.L C.orc n p.2 = some c) :
    Calls Try.prog 35 #[.pointer (some ⟨pb, 0, none⟩)] w fun e w' => LvPost C C.S0 pb w (node 54 ((nextL C.L st).1 ++ (wantL C.L 6 (nextL C.L st).2).1 ++ gapL C.L (wantL C.L 6 (nextL C.L st).2).2 ++ [p.1] ++ c.1)) c.2 e w' := by
  have hk : st.kd C.L ≠ 0 := of_stat (by rw [hs]; decide)
  have h1 := next_len' C st
  have h2 := want_len' C 6 (nextL C.L st).2
  have h3 := gap_len C.L (wantL C.L 6 (nextL C.L st).2).2 C.hL
  have g2 := want_ok (L := C.L) (k := 6) (by decide) (next_ok hk).2
  have g3 : ((wantL C.L 6 (nextL C.L st).2).2.to C.L).at_ ≤ C.L.length := nx_le C.L _ g2.2
  have g4 := (params_goes (L := C.L) n _ p g3 hp).2
  have h4 := block_len' C g4 hc
  refine stmt_make C w pb st _ 54 _ _ hP hs (by decide) stmts_54 (fun w h => make_stmt C w pb st _ 54 _ _ (by simp only [List.length_append, List.length_singleton]; omega) (fun _ _ => rfl) h (fun lo w1 mb hM hP1 => fn_do C hcf0 ih C.S0 lo w1 mb 54 pb _ st hM hP1 hk p hp c hc))
theorem stmt_if0 (C : Ctx σ) (hcf0 : Enters C.f) {n : Nat} (ih : AllOK C n) (w : World) (pb : Nat) (st : St σ) (b c : List Tr × St σ) (hP : ParAt C w pb st) (hs : stat (st.kd C.L) = 56) (hb : Ps.expr C.L C.orc n (nextL C.L st).2 = some b) (hc : Ps.block C.L C.orc n b.2 = some c) (h13 : c.2.kd C.L ≠ 13) :
    Calls Try.prog 35 #[.pointer (some ⟨pb, 0, none⟩)] w fun e w' => LvPost C C.S0 pb w (node 56 ((nextL C.L st).1 ++ b.1 ++ c.1)) c.2 e w' := by
  have hk : st.kd C.L ≠ 0 := of_stat (by rw [hs]; decide)
  have h1 := next_len' C st
  have h2 := expr_len' C (next_ok hk).2 hb
  have h3 := block_len' C h2.2 hc
  refine stmt_make C w pb st _ 56 _ _ hP hs (by decide) stmts_56 (fun w h => make_stmt C w pb st _ 56 _ _ (by simp only [List.length_append]; omega) (fun _ _ => rfl) h (fun lo w1 mb hM hP1 => branch_no C hcf0 ih C.S0 lo w1 mb 56 pb _ st hM hP1 hk b hb c hc h13))
theorem stmt_if1 (C : Ctx σ) (hcf0 : Enters C.f) {n : Nat} (ih : AllOK C n) (w : World) (pb : Nat) (st : St σ) (b c q : List Tr × St σ) (hP : ParAt C w pb st) (hs : stat (st.kd C.L) = 56) (hb : Ps.expr C.L C.orc n (nextL C.L st).2 = some b) (hc : Ps.block C.L C.orc n b.2 = some c) (h13 : c.2.kd C.L = 13) (h12 : (nextL C.L c.2).2.kd C.L ≠ 12) (hq : Ps.block C.L C.orc n (nextL C.L c.2).2 = some q) :
    Calls Try.prog 35 #[.pointer (some ⟨pb, 0, none⟩)] w fun e w' => LvPost C C.S0 pb w (node 56 ((nextL C.L st).1 ++ b.1 ++ c.1 ++ (nextL C.L c.2).1 ++ q.1)) q.2 e w' := by
  have hk : st.kd C.L ≠ 0 := of_stat (by rw [hs]; decide)
  have hkc : c.2.kd C.L ≠ 0 := by rw [h13]; decide
  have h1 := next_len' C st
  have h2 := expr_len' C (next_ok hk).2 hb
  have h3 := block_len' C h2.2 hc
  have h4 := next_len' C c.2
  have h5 := block_len' C (next_ok hkc).2 hq
  refine stmt_make C w pb st _ 56 _ _ hP hs (by decide) stmts_56 (fun w h => make_stmt C w pb st _ 56 _ _ (by simp only [List.length_append]; omega) (fun _ _ => rfl) h (fun lo w1 mb hM hP1 => branch_block C hcf0 ih C.S0 lo w1 mb 56 pb _ st hM hP1 hk b hb c hc h13 h12 q hq))
end
end Go.Proofs.Ytalnicdpcigocaa.PP
namespace Go.Proofs.Ytalnicdpcigocaa.PP
open Go.RowKit Ps PM PL GR Go.Proofs.YtalnicdpcigocaaW.PrintWords Go.Proofs.YtalnicdpcigocaaW.PrintLast Go.Proofs.YtalnicdpcigocaaW.PrintMore
set_option linter.unusedVariables false
set_option linter.unusedSimpArgs false
section
variable {σ : Type}
theorem put_len (C : Ctx σ) {kd : Int} {part : St σ → Option (Tr × St σ)} {st : St σ} {q : List Tr × St σ} (h : putL C.L C.orc kd part st = some q) : q.1.length ≤ 16385 := by
  have hg := gap_len C.L st C.hL
  unfold putL at h
  split at h
  · split at h
    · obtain rfl := Option.some.inj h
      simp only [List.length_append, List.length_singleton]; omega
    · obtain ⟨r, _, rfl⟩ := Option.map_eq_some_iff.mp h
      simp only [List.length_append, List.length_singleton]; omega
  · obtain ⟨r, _, rfl⟩ := Option.map_eq_some_iff.mp h
    simp only [List.length_append, List.length_singleton]; omega
theorem stmt_if2 (C : Ctx σ) (hcf0 : Enters C.f) {n : Nat} (ih : AllOK C n) (w : World) (pb : Nat) (st : St σ) (b c q : List Tr × St σ) (hP : ParAt C w pb st) (hs : stat (st.kd C.L) = 56) (hb : Ps.expr C.L C.orc n (nextL C.L st).2 = some b) (hc : Ps.block C.L C.orc n b.2 = some c) (h13 : c.2.kd C.L = 13) (h12 : (nextL C.L c.2).2.kd C.L = 12) (hq : putL C.L C.orc 59 (Ps.statement C.L C.orc n) (nextL C.L c.2).2 = some q) :
    Calls Try.prog 35 #[.pointer (some ⟨pb, 0, none⟩)] w fun e w' => LvPost C C.S0 pb w (node 56 ((nextL C.L st).1 ++ b.1 ++ c.1 ++ (nextL C.L c.2).1 ++ q.1)) q.2 e w' := by
  have hk : st.kd C.L ≠ 0 := of_stat (by rw [hs]; decide)
  have h1 := next_len' C st
  have h2 := expr_len' C (next_ok hk).2 hb
  have h3 := block_len' C h2.2 hc
  have h4 := next_len' C c.2
  have h5 := put_len C hq
  refine stmt_make C w pb st _ 56 _ _ hP hs (by decide) stmts_56 (fun w h => make_stmt C w pb st _ 56 _ _ (by simp only [List.length_append]; omega) (fun _ _ => rfl) h (fun lo w1 mb hM hP1 => branch_if C hcf0 ih C.S0 lo w1 mb 56 pb _ st hM hP1 hk b hb c hc h13 h12 q hq))
end
end Go.Proofs.Ytalnicdpcigocaa.PP
namespace Go.Proofs.Ytalnicdpcigocaa.PP
open Go.RowKit Ps PM PL GR Go.Proofs.YtalnicdpcigocaaW.PrintWords Go.Proofs.YtalnicdpcigocaaW.PrintLast Go.Proofs.YtalnicdpcigocaaW.PrintMore
set_option linter.unusedVariables false
set_option linter.unusedSimpArgs false
section
variable {σ : Type}
set_option maxHeartbeats 2000000 in
set_option maxRecDepth 100000 in
theorem stmt_block (C : Ctx σ) {n : Nat} (ih : AllOK C n) (w : World) (pb : Nat) (st : St σ) (x : Tr) (l : List Tr) (st' : St σ) (hP : ParAt C w pb st) (hs : stat (st.kd C.L) = 52) (hb : Ps.block C.L C.orc n st = some (x :: l, st')) :
    Calls Try.prog 35 #[.pointer (some ⟨pb, 0, none⟩)] w fun e w' => LvPost C C.S0 pb w x st' e w' := by
  have HP := Aside0.mk hP
  have hlt := hP.lt
  have hplo := hP.lo
  have HKD := Aside0.mk (fun w h => kind_any C w pb st h)
  have HST := Aside0.mk (fun w => stat_any (st.kd C.L) w)
  have HB := Aside0.mk hb
  rw [hs] at HST
  generalize st.kd C.L = kd at HKD HST
  have HZ1 : Aside0 ((w.alloc zeroNode).heap[w.heap.size]? = some zeroNode) := ⟨heap_at rfl⟩
  have HB0 : Aside0 (Below w.heap.size w (w.alloc zeroNode)) := ⟨PL.below_alloc _ _⟩
  have hs1 : (w.alloc zeroNode).heap.size = w.heap.size + 1 := World.size_alloc _ _
  clear hP hs hb
  go_enter Try.func35, Try.ntmps35
  go_wp2_with (first | (go_at_call 21; refine (HKD.out _ (HP.out.below HB0.out)).mono ?_; rintro e w1 ⟨rfl, hb1⟩; have HZ2 := Aside0.mk ((hb1.block w.heap.size (by rw [hs1]; omega)).trans HZ1.out); have HB1 := Aside0.mk (HB0.out.trans (Below.mono hb1 (by rw [hs1]; omega))); have hs2 := hb1.size; rw [hs1] at hs2; clear hb1) | (go_at_call 33; refine (HST.out _).mono ?_; rintro e w9 ⟨rfl, rfl⟩))
  have hsz : ∀ o, (w9.alloc o).heap.size = w9.heap.size + 1 := fun o => World.size_alloc _ _
  refine (ih.block C.S0 (w9.heap.size + 1) _ w9.heap.size 0 [] pb (.slice none 0 0) st (x :: l, st') ⟨heap_at rfl, ⟨[], World.ownsRow_nil _ _ _ _, by intro j t ht; simp at ht⟩, by omega, by omega, by omega, by omega, fun b hb => ⟨by have := (C.hS b hb).1; omega, by have := (C.hS b hb).1; omega, by have := (C.hS b hb).1; omega, (C.hS b hb).2⟩, fun _ h => h, by rw [hsz]; exact Nat.le_refl _⟩ ((HP.out.below HB1.out).below (PL.below_alloc _ _)) (by simp) HB.out).mono ?_
  rintro e w4 ⟨rfl, v, hv, hM, hP4, hF4⟩
  obtain ⟨g, c, nn, cc, A, t, rfl, ht, hg, hgl, hN, k0, k1, k2, k3⟩ := hM.kid 0 (by simp)
  obtain rfl : x = t := by simpa using ht
  have m3 : w4.cell? ⟨w9.heap.size, 3, none⟩ = some (.slice (some ⟨g, 0, none⟩) ([] ++ (x :: l, st').1).length c) := by rw [blk_cell hM.block]; rfl
  have hz4 : w4.heap[w.heap.size]? = some zeroNode := by
    rw [hF4.block w.heap.size (by rw [hsz]; omega) (by rintro (e | e | e | e) <;> first | omega | (cases e; done) | (have := C.hO _ e; omega)), heap_alloc_old _ _ (by omega)]
    exact HZ2.out
  obtain ⟨y0, y1, y2, y3, yf⟩ := four_cells hz4
  have hl0 : (0 : Int) < (([] ++ (x :: l, st').1).length : Int) := by simp
  have HN := Aside0.mk hN
  have HP4 := Aside0.mk hP4
  have HF4 := Aside0.mk hF4
  have HZ4 := Aside0.mk hz4
  clear hN hP4 hF4 hM hv
  go_wp2
  have h7 : FrX (fun b => b = w.heap.size) w4 ((((w4.setCell ⟨w.heap.size, 0, none⟩ (.int .u8 x.kind)).setCell ⟨w.heap.size, 1, none⟩ (.int .u8 x.want)).setCell ⟨w.heap.size, 2, none⟩ (.int .i64 x.width)).setCell ⟨w.heap.size, 3, none⟩ (.slice A nn cc)) := set4_fr (X := fun b => b = w.heap.size) (FrX.refl _ _) rfl _ _ _ _
  refine bodyPost_ret (results_cell_row rfl _ _ w.heap.size 25 _ (0, 0) _ rfl (set4_block HZ4.out _ _ _ _) Try.underlying25 rfl (by kernel_rfl)) rfl ⟨_, rfl, HN.out.move (fun b hb hl => ⟨?_, h7.block b hl ?_⟩), HP4.out.move h7 (by omega) (fun b hb => by omega), ?_⟩
  · rcases hb with hb | hb
    · exact Or.inl hb
    · exact Or.inr (by omega)
  · rcases hb with hb | hb
    · have := (C.hS b hb).1; omega
    · omega
  · refine ((fr_below (FrX.below (X := fun _ => False) HB1.out) (PL.below_alloc _ _)).trans HF4.out (fun _ h => h.elim) (fun b hb h => ?_)).trans h7 (fun _ h => h) (fun b hb h => by omega)
    rcases h with h | h | h | h
    · exact Or.inl h
    · omega
    · cases h
    · exact Or.inr h
end
end Go.Proofs.Ytalnicdpcigocaa.PP
namespace Go.Proofs.Ytalnicdpcigocaa.PP
open Go.RowKit Ps PM PL GR Go.Proofs.YtalnicdpcigocaaW.PrintWords Go.Proofs.YtalnicdpcigocaaW.PrintLast Go.Proofs.YtalnicdpcigocaaW.PrintMore
set_option linter.unusedVariables false
set_option linter.unusedSimpArgs false
section
variable {σ : Type}
theorem stat_59 {k : Int} (h0 : stat k ≠ 0) (h1 : stat k ≠ 53) (h2 : stat k ≠ 54) (h3 : stat k ≠ 56) (h4 : stat k ≠ 57) (h5 : stat k ≠ 58) (h6 : stat k ≠ 52) : stat k = 59 := by
  have hb := stat_do h0 h1 h2 h3 h4 h5 h6
  have e1 : k ≠ 10 := fun e => h1 (by rw [e]; rfl)
  have e2 : k ≠ 11 := fun e => h2 (by rw [e]; rfl)
  have e3 : k ≠ 12 := fun e => h3 (by rw [e]; rfl)
  have e4 : k ≠ 14 := fun e => h4 (by rw [e]; rfl)
  have e5 : k ≠ 15 := fun e => h5 (by rw [e]; rfl)
  have e6 : k ≠ 22 := fun e => h6 (by rw [e]; rfl)
  unfold stat
  rw [if_neg e1, if_neg e2, if_neg e3, if_neg e4, if_neg e5, if_neg e6, if_pos hb]
theorem statement_succ (C : Ctx σ) (hcf0 : Enters C.f) {n : Nat} (ih : AllOK C n) (w : World) (pb : Nat) (st : St σ) (r : Tr × St σ) (hP : ParAt C w pb st) (h0 : stat (st.kd C.L) ≠ 0) (hr : Ps.statement C.L C.orc (n + 1) st = some r) :
    Calls Try.prog 35 #[.pointer (some ⟨pb, 0, none⟩)] w fun e w' => LvPost C C.S0 pb w r.1 r.2 e w' := by
  rw [Ps.statement] at hr
  dsimp only at hr
  by_cases h53 : stat (st.kd C.L) = 53
  · rw [if_pos h53] at hr
    obtain ⟨d, hd, hr⟩ := Option.bind_eq_some_iff.mp hr
    obtain rfl := Option.some.inj hr
    exact stmt_let C ih w pb st d hP h53 hd
  rw [if_neg h53] at hr
  by_cases h54 : stat (st.kd C.L) = 54
  · rw [if_pos h54] at hr
    obtain ⟨p, hp, hr⟩ := Option.bind_eq_some_iff.mp hr
    obtain ⟨c, hc, hr⟩ := Option.bind_eq_some_iff.mp hr
    obtain rfl := Option.some.inj hr
    exact stmt_fn C hcf0 ih w pb st p c hP h54 hp hc
  rw [if_neg h54] at hr
  by_cases h56 : stat (st.kd C.L) = 56
  · rw [if_pos h56] at hr
    obtain ⟨b, hb, hr⟩ := Option.bind_eq_some_iff.mp hr
    obtain ⟨c, hc, hr⟩ := Option.bind_eq_some_iff.mp hr
    by_cases h13 : c.2.kd C.L = 13
    · rw [if_pos h13] at hr
      by_cases h12 : (nextL C.L c.2).2.kd C.L = 12
      · rw [if_pos h12] at hr
        obtain ⟨q, hq, hr⟩ := Option.bind_eq_some_iff.mp hr
        obtain rfl := Option.some.inj hr
        exact stmt_if2 C hcf0 ih w pb st b c q hP h56 hb hc h13 h12 hq
      · rw [if_neg h12] at hr
        obtain ⟨q, hq, hr⟩ := Option.bind_eq_some_iff.mp hr
        obtain rfl := Option.some.inj hr
        exact stmt_if1 C hcf0 ih w pb st b c q hP h56 hb hc h13 h12 hq
    · rw [if_neg h13] at hr
      obtain rfl := Option.some.inj hr
      exact stmt_if0 C hcf0 ih w pb st b c hP h56 hb hc h13
  rw [if_neg h56] at hr
  by_cases h57 : stat (st.kd C.L) = 57
  · rw [if_pos h57] at hr
    obtain ⟨b, hb, hr⟩ := Option.bind_eq_some_iff.mp hr
    obtain ⟨c, hc, hr⟩ := Option.bind_eq_some_iff.mp hr
    obtain rfl := Option.some.inj hr
    exact stmt_loop C ih w pb st b c hP h57 hb hc
  rw [if_neg h57] at hr
  by_cases h58 : stat (st.kd C.L) = 58
  · rw [if_pos h58] at hr
    cases hbe : begins ((nextL C.L st).2.kd C.L) with
    | true =>
      rw [if_pos hbe] at hr
      obtain ⟨b, hb, hr⟩ := Option.bind_eq_some_iff.mp hr
      obtain rfl := Option.some.inj hr
      exact stmt_back1 C ih w pb st b hP h58 hbe hb
    | false =>
      rw [if_neg (by rw [hbe]; decide)] at hr
      obtain rfl := Option.some.inj hr
      exact stmt_back0 C ih w pb st hP h58 hbe
  rw [if_neg h58] at hr
  by_cases h52 : stat (st.kd C.L) = 52
  · rw [if_pos h52] at hr
    obtain ⟨b, hb, hr⟩ := Option.bind_eq_some_iff.mp hr
    obtain ⟨b1, b2⟩ := b
    cases b1 with
    | nil => cases hr
    | cons x l =>
      obtain rfl := Option.some.inj hr
      exact stmt_block C ih w pb st x l b2 hP h52 hb
  rw [if_neg h52] at hr
  have h59 := stat_59 h0 h53 h54 h56 h57 h58 h52
  obtain ⟨a, ha, hr⟩ := Option.bind_eq_some_iff.mp hr
  by_cases h26 : a.2.kd C.L = 26
  · rw [if_pos h26] at hr
    obtain ⟨c, hc, hr⟩ := Option.bind_eq_some_iff.mp hr
    obtain rfl := Option.some.inj hr
    exact stmt_do1 C ih w pb st a c hP h59 ha h26 hc
  · rw [if_neg h26] at hr
    obtain rfl := Option.some.inj hr
    exact stmt_do0 C ih w pb st a hP h59 ha h26
end
end Go.Proofs.Ytalnicdpcigocaa.PP
namespace Go.Proofs.Ytalnicdpcigocaa.PP
open Go.RowKit Ps PM PL GR Go.Proofs.YtalnicdpcigocaaW.PrintWords Go.Proofs.YtalnicdpcigocaaW.PrintLast Go.Proofs.YtalnicdpcigocaaW.PrintMore
set_option linter.unusedVariables false
set_option linter.unusedSimpArgs false
section
variable {σ : Type}
theorem all_zero (C : Ctx σ) : AllOK C 0 where
  statement := fun w pb st r _ _ _ h => by rw [Ps.statement] at h; cases h
  inner := fun S lo w mb kind kids pb v st r _ _ _ _ h => by rw [Ps.inner] at h; cases h
  block := fun S lo w mb kind kids pb v st r _ _ _ h => by rw [Ps.block] at h; cases h
  expr := fun S lo w mb kind kids pb v st r _ _ _ h => by rw [Ps.expr] at h; cases h
  level := fun w pb st k r _ _ _ h => by rw [Ps.level] at h; cases h
  unary := fun w pb st r _ _ h => by rw [Ps.unary] at h; cases h
  args := fun S lo w mb kind pb v st l st' _ _ _ h => by rw [Ps.args] at h; cases h
  primary := fun w pb st r _ _ h => by rw [Ps.primary] at h; cases h
theorem level_succ (C : Ctx σ) {n : Nat} (ih : ∀ k, k ≤ n → AllOK C k) (w : World) (pb : Nat) (st : St σ) (k : Nat) (r : Tr × St σ) (hk : 1 ≤ k ∧ k ≤ 6) (hP : ParAt C w pb st) (hkd : st.kd C.L ≠ 0) (hr : Ps.level C.L C.orc (n + 1) k st = some r) :
    Calls Try.prog 74 #[.pointer (some ⟨pb, 0, none⟩), .int .i64 (k : Int)] w (fun e w' => LvPost C C.S0 pb w r.1 r.2 e w') := by
  rw [Ps.level] at hr
  by_cases h5 : 5 < k
  · rw [if_pos h5] at hr
    exact level_top C (ih n (Nat.le_refl _)) w pb st k (by omega) r hP hkd hr
  · rw [if_neg h5] at hr
    obtain ⟨q, hq, hr⟩ := Option.bind_eq_some_iff.mp hr
    exact level_low C ih w pb st k (by omega) q r hP hkd hq hr hk.1
theorem all_succ (C : Ctx σ) (hcf0 : Enters C.f) {n : Nat} (ih : ∀ k, k ≤ n → AllOK C k) : AllOK C (n + 1) where
  statement := fun w pb st r hP h0 _ h => statement_succ C hcf0 (ih n (Nat.le_refl _)) w pb st r hP h0 h
  inner := fun S lo w mb kind kids pb v st r hM hP hl hk h => inner_succ C hcf0 (ih n (Nat.le_refl _)) S lo w mb kind kids pb v st r hM hP hl hk h
  block := fun S lo w mb kind kids pb v st r hM hP hl h => block_succ C hcf0 ih S lo w mb kind kids pb v st r hM hP hl h
  expr := fun S lo w mb kind kids pb v st r hM hP hl h => expr_succ C hcf0 (ih n (Nat.le_refl _)) S lo w mb kind kids pb v st r hM hP hl h
  level := fun w pb st k r hk hP hkd h => level_succ C ih w pb st k r hk hP hkd h
  unary := fun w pb st r hP hk h => unary_succ C ih w pb st r hP hk h
  args := fun S lo w mb kind pb v st l st' hM hP hk h => args_succ C ih S lo w mb kind pb v st l st' hM hP hk h
  primary := fun w pb st r hP hk h => primary_succ C (ih n (Nat.le_refl _)) w pb st r hP hk h
theorem all_ok (C : Ctx σ) (hcf0 : Enters C.f) : ∀ n k, k ≤ n → AllOK C k
  | 0, k, hk => by
    obtain rfl : k = 0 := by omega
    exact all_zero C
  | n + 1, k, hk => by
    rcases Nat.lt_or_ge k (n + 1) with h | h
    · exact all_ok C hcf0 n k (by omega)
    · obtain rfl : k = n + 1 := by omega
      exact all_succ C hcf0 (all_ok C hcf0 n)
end
end Go.Proofs.Ytalnicdpcigocaa.PP
namespace Go.Proofs.Ytalnicdpcigocaa.PP
open Go.RowKit Ps PM PL GR Go.Proofs.YtalnicdpcigocaaW.PrintWords Go.Proofs.YtalnicdpcigocaaW.PrintLast Go.Proofs.YtalnicdpcigocaaW.PrintMore
set_option linter.unusedVariables false
set_option linter.unusedSimpArgs false
section
variable {σ : Type}
set_option maxHeartbeats 4000000 in
set_option maxRecDepth 100000 in
theorem file_do (C : Ctx σ) {m : Nat} (ih : ∀ k, k ≤ m → AllOK C k) (S : Nat → Prop) (lo : Nat) (w : World) (mb bp : Nat) (kind : Int) (pb : Nat) (v : Value) (st : St σ) (hM : MkAt C S lo w mb kind [] pb v) (hP : ParAt C w pb st)
    (hbx0 : w.cell? ⟨bp, 0, none⟩ = some (.pointer (some ⟨pb, 0, none⟩))) (hbn : ¬ XM C pb mb v bp) (R : List Tr × St σ) (hr : Ps.fileLoop C.L C.orc m [] st = some R) :
    Calls Try.prog 20 #[.pointer (some ⟨mb, 0, none⟩), .pointer (some ⟨bp, 0, none⟩)] w fun e w' => e = .returned (.tuple #[]) ∧ MkPost C S lo mb kind pb w v (R.1 ++ gapL C.L R.2) (R.2.to C.L) w' := by
  have HR := Aside0.mk (Run.start hM hP)
  have hL := C.hL
  have HBX := Aside0.mk hbx0
  have hbl : bp < w.heap.size := cell_lt hbx0
  have HLP := Aside0.mk hr
  clear hM hP hr hbx0
  go_enter Try.func20, Try.ntmps20
  go_wp2
  go_loopg [] m (fun kq wr => ∃ (acc : List Tr) (stc : St σ) (v' : Value), Aside0 (Run C S lo mb kind pb w v acc stc wr v') ∧ Aside0 (Ps.fileLoop C.L C.orc kq acc stc = some R) ∧ Aside0 (kq ≤ m) ∧ Aside0 (acc.length + 2 * (C.L.length - stc.at_) ≤ 100000))
  case atStart => exact ⟨_, _, _, HR, HLP, ⟨Nat.le_refl _⟩, ⟨by simp only [List.length_nil]; omega⟩⟩
  case round =>
    clear HR HLP
    obtain ⟨acc, stc, v', HR, HA, HKn, HBc⟩ := hrel
    have hA := HA.out
    have hm4 := HR.out.m4
    have hbx := (World.cell?_of_block (a := ⟨bp, 0, none⟩) (HR.out.fr.block bp hbl hbn)).trans HBX.out
    cases gk with
    | zero => rw [Ps.fileLoop] at hA; cases hA
    | succ k1 =>
      rw [Ps.fileLoop] at hA
      have hal := HBc.out
      have HKD := Aside0.mk (fun w h => kind_any C w pb stc h)
      by_cases h0 : stc.kd C.L = 0
      · rw [if_neg (fun h => h h0)] at hA
        obtain rfl := Option.some.inj hA
        rw [h0] at HKD
        clear hA h0 HA
        go_wp2_with (first | (go_at_call 21; refine (HKD.out _ HR.out.par).mono ?_; rintro e w4 ⟨rfl, hb⟩; have hR := HR.out.below hb; clear HR; have HR := Aside0.mk hR; clear hR hb; (try clear hm4); have hm4 := HR.out.m4; (try clear hbx); have hbx := (World.cell?_of_block (a := ⟨bp, 0, none⟩) (HR.out.fr.block bp hbl hbn)).trans HBX.out) | (go_at_call 23; refine (gap_any C S lo _ mb kind _ pb _ _ HR.out.mka HR.out.par (by (try simp only [List.length_append, List.length_nil]); omega)).mono ?_; rintro e w3 ⟨rfl, hp⟩; obtain ⟨v3, hR⟩ := HR.out.step hp; (try rw [List.nil_append] at hR); clear HR; have HR := Aside0.mk hR; clear hR hp; (try clear hm4); have hm4 := HR.out.m4; (try clear hbx); have hbx := (World.cell?_of_block (a := ⟨bp, 0, none⟩) (HR.out.fr.block bp hbl hbn)).trans HBX.out))
        refine bodyPost_end (v := .tuple #[]) (by first | rfl | simp [results, Try.results20, go_sem]) rfl ⟨rfl, HR.out.post⟩
      · rw [if_pos h0] at hA
        obtain ⟨q, hx, hA⟩ := Option.bind_eq_some_iff.mp hA
        have b0 := nb h0
        have c0 : (stc.kd C.L != 0) = true := bne_iff_ne.mpr h0
        have hig := (mon k1 : Mon C.L C.orc k1).inner _ _ HR.out.par.le h0 hx
        have HA2 := Aside0.mk hA
        have HX := Aside0.mk hx
        have HK0 := Aside0.mk h0
        have hlb : q.1.length ≤ 40000 ∧ (acc ++ q.1).length + 2 * (C.L.length - q.2.at_) ≤ 100000 := by
          have a1 := hig.2.2.2
          have a2 := hig.2.2.1
          have a3 := hig.1
          have a4 := HR.out.par.le
          rw [List.length_append]
          omega
        have HLB := Aside0.mk hlb.2
        generalize stc.kd C.L = kd at HKD b0 c0
        clear hA hx h0 hig HA hlb
        go_wp2_with (first | (go_at_call 21; refine (HKD.out _ HR.out.par).mono ?_; rintro e w4 ⟨rfl, hb⟩; have hR := HR.out.below hb; clear HR; have HR := Aside0.mk hR; clear hR hb; (try clear hm4); have hm4 := HR.out.m4; (try clear hbx); have hbx := (World.cell?_of_block (a := ⟨bp, 0, none⟩) (HR.out.fr.block bp hbl hbn)).trans HBX.out) | (go_at_call 22; refine ((ih k1 (by have := HKn.out; omega)).inner S lo _ mb kind _ pb _ _ q HR.out.mka HR.out.par (by (try simp only [List.length_append, List.length_nil]); omega) HK0.out HX.out).mono ?_; rintro e w8 ⟨rfl, hp⟩; obtain ⟨v8, hR⟩ := HR.out.step hp; (try rw [List.nil_append] at hR); clear HR; have HR := Aside0.mk hR; clear hR hp; (try clear hm4); have hm4 := HR.out.m4; (try clear hbx); have hbx := (World.cell?_of_block (a := ⟨bp, 0, none⟩) (HR.out.fr.block bp hbl hbn)).trans HBX.out))
        go_roundg k1
        case measure => omega
        case rel => exact ⟨_, _, _, HR, HA2, ⟨by have := HKn.out; omega⟩, HLB⟩
theorem file_len (C : Ctx σ) {m : Nat} {st : St σ} {R : List Tr × St σ} (hle : st.at_ ≤ C.L.length) (hr : Ps.fileLoop C.L C.orc m [] st = some R) : (R.1 ++ gapL C.L R.2).length ≤ 1000000 := by
  have key : ∀ (m : Nat) (acc : List Tr) (st : St σ), st.at_ ≤ C.L.length → Ps.fileLoop C.L C.orc m acc st = some R → R.1.length ≤ acc.length + 2 * (C.L.length - st.at_) := by
    intro m
    induction m with
    | zero => intro acc st _ h; rw [Ps.fileLoop] at h; cases h
    | succ m ih =>
      intro acc st hle h
      rw [Ps.fileLoop] at h
      by_cases h0 : st.kd C.L = 0
      · rw [if_neg (fun h => h h0)] at h
        obtain rfl := Option.some.inj h
        show acc.length ≤ _
        omega
      · rw [if_pos h0] at h
        obtain ⟨q, hx, hA⟩ := Option.bind_eq_some_iff.mp h
        have hig := (mon m : Mon C.L C.orc m).inner _ _ hle h0 hx
        have a1 := hig.2.2.2
        have a2 := hig.2.2.1
        have a3 := hig.1
        have := ih _ _ a2 hA
        rw [List.length_append] at this
        omega
  have h1 := key m [] st hle hr
  have h2 := gap_len C.L R.2 C.hL
  have h3 := C.hL
  rw [List.length_append]
  simp only [List.length_nil] at h1
  omega
theorem make_file (C : Ctx σ) {m : Nat} (ih : ∀ k, k ≤ m → AllOK C k) (w : World) (bp pb : Nat) (st : St σ) (R : List Tr × St σ) (hP : ParAt C w pb st) (hbx : w.cell? ⟨bp, 0, none⟩ = some (.pointer (some ⟨pb, 0, none⟩))) (hlo : C.lo ≤ bp) (hne : bp ≠ pb) (hr : Ps.fileLoop C.L C.orc m [] st = some R) :
    Calls Try.prog 19 #[.pointer (some ⟨pb, 0, none⟩), .int .u8 51, .func (.func 20) #[] #[.pointer (some ⟨bp, 0, none⟩)]] w (fun e w' => LvPost C C.S0 pb w (node 51 (R.1 ++ gapL C.L R.2)) (R.2.to C.L) e w') := by
  have hbl := cell_lt hbx
  refine make_any C C.S0 w pb st _ 51 _ _ _ _ (file_len C hP.le hr) (fun _ _ => rfl) hP (s0_ok C hP (Nat.le_refl _)) (fun _ h => h) (fun w1 mb lo hb1 hm hP1 hM => ?_)
  rw [args2]
  refine file_do C ih C.S0 lo w1 mb bp 51 pb _ st hM hP1 ((World.cell?_of_block (hb1.block bp hbl)).trans hbx) ?_ R hr
  rintro (e | e | e | e)
  · exact hne e
  · have : bp < w.heap.size := hbl
    omega
  · cases e
  · have := C.hO _ e; omega
set_option maxHeartbeats 4000000 in
set_option maxRecDepth 100000 in
theorem file_any (C : Ctx σ) {m : Nat} (ih : ∀ k, k ≤ m → AllOK C k) (w : World) (pb : Nat) (st : St σ) (R : List Tr × St σ) (hP : ParAt C w pb st) (hr : Ps.fileLoop C.L C.orc m [] st = some R) :
    Calls Try.prog 13 #[.pointer (some ⟨pb, 0, none⟩)] w fun e w' => LvPost C C.S0 pb w (node 51 (R.1 ++ gapL C.L R.2)) (R.2.to C.L) e w' := by
  have hmf : ∀ (fn : Fn) (first cap : Array Value) (w : World), (Instr.makeFunc fn first cap).run Try.prog w = .ok (.func fn first cap) w := fun _ _ _ _ => rfl
  have HP := Aside0.mk hP
  have hlt := hP.lt
  have hplo := hP.lo
  generalize hsz : w.heap.size = z at *
  have HMK := Aside0.mk (fun w hP hbx => make_file C ih w z pb st R hP hbx (by omega) (by omega) hr)
  generalize node 51 (R.1 ++ gapL C.L R.2) = T at *
  subst hsz
  have hs1 : (w.alloc (.cells #[.pointer (some ⟨pb, 0, none⟩)] 41)).heap.size = w.heap.size + 1 := World.size_alloc _ _
  have hbx2 : ((w.alloc (.cells #[.pointer (some ⟨pb, 0, none⟩)] 41)).alloc zeroNode).cell? ⟨w.heap.size, 0, none⟩ = some (.pointer (some ⟨pb, 0, none⟩)) := alloc_cell (by rw [blk_cell (heap_at rfl)]; rfl) _
  have HZ1 : Aside0 (((w.alloc (.cells #[.pointer (some ⟨pb, 0, none⟩)] 41)).alloc zeroNode).heap[w.heap.size + 1]? = some zeroNode) := ⟨heap_at hs1.symm⟩
  have HB0 : Aside0 (Below w.heap.size w ((w.alloc (.cells #[.pointer (some ⟨pb, 0, none⟩)] 41)).alloc zeroNode)) := ⟨(PL.below_alloc _ _).alloc (by rw [hs1]; omega) _⟩
  have hs2 : ((w.alloc (.cells #[.pointer (some ⟨pb, 0, none⟩)] 41)).alloc zeroNode).heap.size = w.heap.size + 1 + 1 := by rw [World.size_alloc, hs1]
  clear hP hr hplo
  go_enter Try.func13, Try.ntmps13
  go_wp2_with (first | (go_at_call 19; refine (HMK.out _ (HP.out.below HB0.out) hbx2).mono ?_; rintro e w2 ⟨cs, rfl, hN, hP2, hF2⟩; obtain ⟨A, nn, cc, rfl, _⟩ := hN.four; have hz2 := keep_block HZ1.out (Nat.le_trans HP.out.lo (Nat.le_of_lt (Nat.lt_succ_of_lt HP.out.lt))) (by have := HP.out.lt; omega) hF2; obtain ⟨y0, y1, y2, y3, yf⟩ := four_cells hz2; have HN := Aside0.mk hN; have HP2 := Aside0.mk hP2; have HF2 := Aside0.mk hF2; have HZ2 := Aside0.mk hz2; clear hN hP2 hF2 hz2))
  refine bodyPost_ret (results_cell_row rfl _ _ (w.heap.size + 1) 25 _ (0, 0) _ rfl (set4_block HZ2.out _ _ _ _) Try.underlying25 rfl (by kernel_rfl)) rfl (LvPost.ret HP.out HB0.out (by omega) (by rw [hs2]; omega) HN.out HP2.out HF2.out)
end
end Go.Proofs.Ytalnicdpcigocaa.PP
namespace Go.Proofs.Ytalnicdpcigocaa.PP
open Go.RowKit Ps PM PL GR Go.Proofs.YtalnicdpcigocaaW.PrintWords Go.Proofs.YtalnicdpcigocaaW.PrintLast Go.Proofs.YtalnicdpcigocaaW.PrintMore
set_option linter.unusedVariables false
set_option linter.unusedSimpArgs false
section
variable {σ : Type}
/-- may it be? -/
def okTok (t : Tok) : Bool := isTok t.kind && (decide (1 ≤ t.width) && decide (t.width ≤ 67108864))
/-- what By leaves where all is well -/
def ByPost (C : Ctx σ) (w : World) (t : Tr) (s : σ) (e : Ending) (w' : World) : Prop := ∃ cs : List Value, e = .returned (.tuple #[.agg cs.toArray, .int .i64 0]) ∧ NodeC (fun b => C.S0 b ∨ w.heap.size ≤ b) w' t cs ∧ FrX C.O w w' ∧ C.I s w'
set_option maxHeartbeats 4000000 in
set_option maxRecDepth 100000 in
theorem ptoken_any (k : Int) (w : World) : Calls Try.prog 10 #[.int .u8 k] w fun e w' => e = .returned (.bool (isTok k)) ∧ w' = w := by
  have key : (1 ≤ k ∧ k ≤ 17) ∨ k < 1 ∨ (17 < k ∧ k < 20) ∨ (20 ≤ k ∧ k ≤ 40) ∨ 40 < k := by omega
  rcases key with h | h | h | h | h
  · have d1 : decide (1 ≤ k) = true := by simp; omega
    have d2 : decide (k ≤ 17) = true := by simp; omega
    have hs : isTok k = true := by unfold isTok; rw [d1, d2]; simp
    rw [hs]
    clear h hs
    go_enter Try.func10, Try.ntmps10
    go_wp2
    go_ret
    exact ⟨rfl, rfl⟩
  · have d1 : decide (1 ≤ k) = false := by simp; omega
    have d3 : decide (20 ≤ k) = false := by simp; omega
    have hs : isTok k = false := by unfold isTok; rw [d1, d3]; simp
    rw [hs]
    clear h hs
    go_enter Try.func10, Try.ntmps10
    go_wp2
    go_ret
    exact ⟨rfl, rfl⟩
  · have d1 : decide (1 ≤ k) = true := by simp; omega
    have d2 : decide (k ≤ 17) = false := by simp; omega
    have d3 : decide (20 ≤ k) = false := by simp; omega
    have hs : isTok k = false := by unfold isTok; rw [d2, d3]; simp
    rw [hs]
    clear h hs
    go_enter Try.func10, Try.ntmps10
    go_wp2
    go_ret
    exact ⟨rfl, rfl⟩
  · have d1 : decide (1 ≤ k) = true := by simp; omega
    have d2 : decide (k ≤ 17) = false := by simp; omega
    have d3 : decide (20 ≤ k) = true := by simp; omega
    have d4 : decide (k ≤ 40) = true := by simp; omega
    have hs : isTok k = true := by unfold isTok; rw [d3, d4]; simp
    rw [hs]
    clear h hs
    go_enter Try.func10, Try.ntmps10
    go_wp2
    go_ret
    exact ⟨rfl, rfl⟩
  · have d1 : decide (1 ≤ k) = true := by simp; omega
    have d2 : decide (k ≤ 17) = false := by simp; omega
    have d3 : decide (20 ≤ k) = true := by simp; omega
    have d4 : decide (k ≤ 40) = false := by simp; omega
    have hs : isTok k = false := by unfold isTok; rw [d2, d4]; simp
    rw [hs]
    clear h hs
    go_enter Try.func10, Try.ntmps10
    go_wp2
    go_ret
    exact ⟨rfl, rfl⟩
set_option maxHeartbeats 1000000 in
set_option maxRecDepth 100000 in
theorem pby_full (w : World) (A : Option Addr) (tv : Value) (n c : Nat) (hn : 16384 < n) :
    Calls Try.prog 8 #[.slice A n c, tv] w fun e w' => e = .returned (.tuple #[.agg #[.int .u8 0, .int .u8 0, .int .i64 0, .slice none 0 0], .int .i64 4]) ∧ Below w.heap.size w w' := by
  have d1 : decide ((16384 : Int) < (n : Int)) = true := by simp; omega
  clear hn
  go_enter Try.func8, Try.ntmps8
  go_wp2
  refine bodyPost_ret (results_ct rfl _ _ w.heap.size 25 _ (0, 0) _ rfl (heap_at rfl) Try.underlying25 rfl (by kernel_rfl)) rfl ⟨rfl, PL.below_alloc _ _⟩
set_option maxHeartbeats 1000000 in
set_option maxRecDepth 100000 in
theorem pby_bad (w : World) (A : Option Addr) (tv : Value) (c : Nat) (L : List Tok) (hT : Toks w A L) (hc : L.length ≤ c) (hL : L.length ≤ 16384) (hb : L.all okTok = false) :
    Calls Try.prog 8 #[.slice A L.length c, tv] w fun e w' => e = .returned (.tuple #[.agg #[.int .u8 0, .int .u8 0, .int .i64 0, .slice none 0 0], .int .i64 120]) ∧ Below w.heap.size w w' := by
  have d1 : decide ((16384 : Int) < (L.length : Int)) = false := by simp; omega
  have HZ := Aside0.mk (heap_at (w := w) (cs := #[.int .u8 0, .int .u8 0, .int .i64 0, .slice none 0 0]) (t := 25) rfl)
  have HBW := Aside0.mk (PL.below_alloc w (.cells #[.int .u8 0, .int .u8 0, .int .i64 0, .slice none 0 0] 25))
  have HT0 := Aside0.mk (hT.move (w' := w.alloc (.cells #[.int .u8 0, .int .u8 0, .int .i64 0, .slice none 0 0] 25)) (fun ad _ hlt => heap_alloc_old _ _ hlt))
  have HB := Aside0.mk hb
  have HLL := Aside0.mk hL
  have HC := Aside0.mk hc
  clear hT hb hc
  go_enter Try.func8, Try.ntmps8
  go_upto_region 1 with fail
  generalize (w.alloc (.cells #[.int .u8 0, .int .u8 0, .int .i64 0, .slice none 0 0] 25)) = w0 at *
  have hrb := blk_lt HZ.out
  go_wp2
  go_loopw [15] (fun v15 wr => ∃ i : Nat, i ≤ L.length ∧ v15 = .int .i64 (i : Int) ∧ Aside0 (Below w0.heap.size w0 wr) ∧ Aside0 (∀ j, j < i → okTok (L.getD j default) = true)) (fun v15 _ => L.length - (intOf v15).toNat)
  case atStart => exact ⟨0, Nat.zero_le _, rfl, ⟨Below.refl _ _⟩, ⟨fun j hj => by omega⟩⟩
  case round =>
    obtain ⟨i, h2, rfl, HW, HOK⟩ := hrel
    have HT := Aside0.mk (HT0.out.move (fun ad _ hlt => HW.out.block _ hlt))
    have HZ1 := Aside0.mk ((HW.out.block _ hrb).trans HZ.out)
    obtain ⟨r0, r1, r2, r3, rf⟩ := four_cells HZ1.out
    have hwz := HW.out.size
    have hlz : w.heap.size < wr.heap.size := by omega
    have hi0 : (0 : Int) ≤ (i : Int) := by omega
    have hl6 := HLL.out
    by_cases hlt : i < L.length
    · have d2 : decide ((i : Int) < (L.length : Int)) = true := by simp; omega
      have hi1 : (i : Int) < (L.length : Int) := by omega
      have htn : (i : Int).toNat = i := by omega
      obtain ⟨ad, e, hc1, hc2, hc3, hk0, hk1⟩ := HT.out.at_ i hlt
      cases e
      generalize htk : L.getD i default = tk at *
      have HTK := Aside0.mk htk
      have HTOK := Aside0.mk (fun w => ptoken_any tk.kind w)
      have hokd : okTok tk = (isTok tk.kind && (decide (1 ≤ tk.width) && decide (tk.width ≤ 67108864))) := rfl
      clear hk0 hk1 htk
      by_cases g1 : isTok tk.kind = true
      · rw [g1] at HTOK hokd
        by_cases g2 : tk.width < 1
        · have d3 : decide (tk.width < 1) = true := by simpa using g2
          have HBAD : Aside0 (okTok tk = false) := ⟨by rw [hokd]; have : decide (1 ≤ tk.width) = false := by simp; omega
                                                       rw [this]; rfl⟩
          clear hokd g1 g2
          generalize tk.kind = kd at *
          go_wp2_with (first | (go_at_call 10; refine (HTOK.out _).mono ?_; rintro e w1 ⟨rfl, hw⟩; obtain rfl := hw.symm))
          obtain ⟨wz, hwz'⟩ : ∃ wz : World, wz = ((((wr.setCell ⟨w.heap.size, 0, none⟩ (.int .u8 0)).setCell ⟨w.heap.size, 1, none⟩ (.int .u8 0)).setCell ⟨w.heap.size, 2, none⟩ (.int .i64 0)).setCell ⟨w.heap.size, 3, none⟩ (.slice none 0 0)) := ⟨_, rfl⟩
          have hs4 := set4_block HZ1.out (.int .u8 0) (.int .u8 0) (.int .i64 0) (.slice none 0 0)
          have hf4 : FrX (fun b => b = w.heap.size) wr wz := hwz' ▸ set4_fr (X := fun b => b = w.heap.size) (FrX.refl _ _) rfl _ _ _ _
          rw [← hwz'] at hs4 ⊢
          refine bodyPost_ret (results_ct rfl _ _ w.heap.size 25 _ (0, 0) _ rfl ((heap_alloc_old _ _ (by have := hf4.size; omega)).trans hs4) Try.underlying25 rfl (by kernel_rfl)) rfl ⟨rfl, ?_⟩
          have f1 : FrX (fun b => w.heap.size ≤ b) w w0 := FrX.below HBW.out
          have f2 := f1.trans (FrX.below (X := fun _ => False) HW.out) (fun _ h => h) (fun _ _ h => h.elim)
          exact ((f2.trans hf4 (fun _ h => h) (fun b hb e => by omega)).alloc _).to_below (fun b h => h)
        · have d3 : decide (tk.width < 1) = false := by simpa using g2
          by_cases g3 : tk.width ≤ 67108864
          · have d4 : decide ((67108864 : Int) < tk.width) = false := by simp; omega
            have HGOOD : Aside0 (okTok tk = true) := ⟨by rw [hokd]; have : decide (1 ≤ tk.width) = true := by simp; omega
                                                         have h4 : decide (tk.width ≤ 67108864) = true := by simpa using g3
                                                         rw [this, h4]; rfl⟩
            clear hokd g1 g2 g3
            generalize tk.kind = kd at *
            go_wp2_with (first | (go_at_call 10; refine (HTOK.out _).mono ?_; rintro e w1 ⟨rfl, hw⟩; obtain rfl := hw.symm))
            go_roundw
            case rel =>
              refine ⟨i + 1, by omega, by go_num, ⟨HW.out.alloc HW.out.size _⟩, ⟨fun j hj => ?_⟩⟩
              rcases Nat.lt_or_ge j i with h | h
              · exact HOK.out j h
              · obtain rfl : j = i := by omega
                rw [HTK.out]; exact HGOOD.out
            case measure => simp [intOf]; omega
          · have d4 : decide ((67108864 : Int) < tk.width) = true := by simp; omega
            have HBAD : Aside0 (okTok tk = false) := ⟨by rw [hokd]; have : decide (tk.width ≤ 67108864) = false := by simp; omega
                                                         rw [this]; simp⟩
            clear hokd g1 g2 g3
            generalize tk.kind = kd at *
            go_wp2_with (first | (go_at_call 10; refine (HTOK.out _).mono ?_; rintro e w1 ⟨rfl, hw⟩; obtain rfl := hw.symm))
            obtain ⟨wz, hwz'⟩ : ∃ wz : World, wz = ((((wr.setCell ⟨w.heap.size, 0, none⟩ (.int .u8 0)).setCell ⟨w.heap.size, 1, none⟩ (.int .u8 0)).setCell ⟨w.heap.size, 2, none⟩ (.int .i64 0)).setCell ⟨w.heap.size, 3, none⟩ (.slice none 0 0)) := ⟨_, rfl⟩
            have hs4 := set4_block HZ1.out (.int .u8 0) (.int .u8 0) (.int .i64 0) (.slice none 0 0)
            have hf4 : FrX (fun b => b = w.heap.size) wr wz := hwz' ▸ set4_fr (X := fun b => b = w.heap.size) (FrX.refl _ _) rfl _ _ _ _
            rw [← hwz'] at hs4 ⊢
            refine bodyPost_ret (results_ct rfl _ _ w.heap.size 25 _ (0, 0) _ rfl ((heap_alloc_old _ _ (by have := hf4.size; omega)).trans hs4) Try.underlying25 rfl (by kernel_rfl)) rfl ⟨rfl, ?_⟩
            have f1 : FrX (fun b => w.heap.size ≤ b) w w0 := FrX.below HBW.out
            have f2 := f1.trans (FrX.below (X := fun _ => False) HW.out) (fun _ h => h) (fun _ _ h => h.elim)
            exact ((f2.trans hf4 (fun _ h => h) (fun b hb e => by omega)).alloc _).to_below (fun b h => h)
      · have g1' : isTok tk.kind = false := by simpa using g1
        rw [g1'] at HTOK hokd
        have HBAD : Aside0 (okTok tk = false) := ⟨hokd⟩
        clear hokd g1 g1'
        generalize tk.kind = kd at *
        go_wp2_with (first | (go_at_call 10; refine (HTOK.out _).mono ?_; rintro e w1 ⟨rfl, hw⟩; obtain rfl := hw.symm))
        obtain ⟨wz, hwz'⟩ : ∃ wz : World, wz = ((((wr.setCell ⟨w.heap.size, 0, none⟩ (.int .u8 0)).setCell ⟨w.heap.size, 1, none⟩ (.int .u8 0)).setCell ⟨w.heap.size, 2, none⟩ (.int .i64 0)).setCell ⟨w.heap.size, 3, none⟩ (.slice none 0 0)) := ⟨_, rfl⟩
        have hs4 := set4_block HZ1.out (.int .u8 0) (.int .u8 0) (.int .i64 0) (.slice none 0 0)
        have hf4 : FrX (fun b => b = w.heap.size) wr wz := hwz' ▸ set4_fr (X := fun b => b = w.heap.size) (FrX.refl _ _) rfl _ _ _ _
        rw [← hwz'] at hs4 ⊢
        refine bodyPost_ret (results_ct rfl _ _ w.heap.size 25 _ (0, 0) _ rfl ((heap_alloc_old _ _ (by have := hf4.size; omega)).trans hs4) Try.underlying25 rfl (by kernel_rfl)) rfl ⟨rfl, ?_⟩
        have f1 : FrX (fun b => w.heap.size ≤ b) w w0 := FrX.below HBW.out
        have f2 := f1.trans (FrX.below (X := fun _ => False) HW.out) (fun _ h => h) (fun _ _ h => h.elim)
        exact ((f2.trans hf4 (fun _ h => h) (fun b hb e => by omega)).alloc _).to_below (fun b h => h)
    · have d2 : decide ((i : Int) < (L.length : Int)) = false := by simp; omega
      obtain rfl : i = L.length := by omega
      exfalso
      have hall : L.all okTok = true := by
        rw [List.all_eq_true]
        intro x hx
        obtain ⟨j, hj, rfl⟩ := List.getElem_of_mem hx
        have := HOK.out j hj
        rwa [List.getD_eq_getElem?_getD, List.getElem?_eq_getElem hj] at this
      rw [hall] at HB
      cases HB.out
set_option maxHeartbeats 1000000 in
set_option maxRecDepth 100000 in
theorem pby_nil (C : Ctx σ) (hcf0 : Enters C.f) {n : Nat} (s : σ) (w : World) (r : Tr × St σ) (hf : C.f = 11) (hcp : C.caps = #[]) (hlo : C.lo ≤ w.heap.size) (hI : C.I s w) (hb : C.L.all okTok = true) (hr : Ps.file C.L C.orc n s = some r) :
    Calls Try.prog 8 #[.slice C.A C.L.length C.c, .nilFunc] w (ByPost C w r.1 r.2.s) := by
  have d1 : decide ((16384 : Int) < (C.L.length : Int)) = false := by have := C.hL; simp; omega
  have HR0 := Aside0.mk hr
  have HI := Aside0.mk (C.keep s w (w.alloc (.cells #[.int .u8 0, .int .u8 0, .int .i64 0, .slice none 0 0] 25)) hI (fun b hb => heap_alloc_old _ _ (by omega)))
  have HLO := Aside0.mk hlo
  have HF := Aside0.mk hf
  have HCP := Aside0.mk hcp
  have hT := C.toks s w hI
  have hL := C.hL
  have hc := C.hc
  have hcf := hcf0
  unfold Enters at hcf
  have hbe : ∀ W : World, (binOp .eql 39 .nilFunc .nilFunc).run Try.prog W = .ok (.bool true) W := fun _ => rfl
  clear hI hr
  have HZ := Aside0.mk (heap_at (w := w) (cs := #[.int .u8 0, .int .u8 0, .int .i64 0, .slice none 0 0]) (t := 25) rfl)
  have HBW := Aside0.mk (PL.below_alloc w (.cells #[.int .u8 0, .int .u8 0, .int .i64 0, .slice none 0 0] 25))
  have HT0 := Aside0.mk (hT.move (w' := w.alloc (.cells #[.int .u8 0, .int .u8 0, .int .i64 0, .slice none 0 0] 25)) (fun ad _ hlt => heap_alloc_old _ _ hlt))
  have HB := Aside0.mk hb
  have HLL := Aside0.mk hL
  have HC := Aside0.mk hc
  clear hT hb hc
  generalize hA : C.A = A at *
  have HA := Aside0.mk hA
  clear hA
  go_enter Try.func8, Try.ntmps8
  go_upto_region 1 with fail
  generalize (w.alloc (.cells #[.int .u8 0, .int .u8 0, .int .i64 0, .slice none 0 0] 25)) = w0 at *
  have hrb := blk_lt HZ.out
  go_wp2
  go_loopw [15] (fun v15 wr => ∃ i : Nat, i ≤ C.L.length ∧ v15 = .int .i64 (i : Int) ∧ Aside0 (Below w0.heap.size w0 wr) ∧ Aside0 (∀ j, j < i → okTok (C.L.getD j default) = true)) (fun v15 _ => C.L.length - (intOf v15).toNat)
  case atStart => exact ⟨0, Nat.zero_le _, rfl, ⟨Below.refl _ _⟩, ⟨fun j hj => by omega⟩⟩
  case round =>
    obtain ⟨i, h2, rfl, HW, HOK⟩ := hrel
    have HT := Aside0.mk (HT0.out.move (fun ad _ hlt => HW.out.block _ hlt))
    have HZ1 := Aside0.mk ((HW.out.block _ hrb).trans HZ.out)
    obtain ⟨r0, r1, r2, r3, rf⟩ := four_cells HZ1.out
    have hwz := HW.out.size
    have hlz : w.heap.size < wr.heap.size := by omega
    have hi0 : (0 : Int) ≤ (i : Int) := by omega
    have hl6 := HLL.out
    by_cases hlt : i < C.L.length
    · have d2 : decide ((i : Int) < (C.L.length : Int)) = true := by simp; omega
      have hi1 : (i : Int) < (C.L.length : Int) := by omega
      have htn : (i : Int).toNat = i := by omega
      obtain ⟨ad, e, hc1, hc2, hc3, hk0, hk1⟩ := HT.out.at_ i hlt
      cases e
      generalize htk : C.L.getD i default = tk at *
      have HTK := Aside0.mk htk
      have HTOK := Aside0.mk (fun w => ptoken_any tk.kind w)
      have hokd : okTok tk = (isTok tk.kind && (decide (1 ≤ tk.width) && decide (tk.width ≤ 67108864))) := rfl
      clear hk0 hk1 htk
      by_cases g1 : isTok tk.kind = true
      · rw [g1] at HTOK hokd
        by_cases g2 : tk.width < 1
        · have d3 : decide (tk.width < 1) = true := by simpa using g2
          have HBAD : Aside0 (okTok tk = false) := ⟨by rw [hokd]; have : decide (1 ≤ tk.width) = false := by simp; omega
                                                       rw [this]; rfl⟩
          clear hokd g1 g2
          generalize tk.kind = kd at *
          exfalso
          have := List.all_eq_true.1 HB.out tk (by rw [← HTK.out, List.getD_eq_getElem?_getD, List.getElem?_eq_getElem hlt]; exact List.getElem_mem hlt)
          rw [HBAD.out] at this
          cases this
        · have d3 : decide (tk.width < 1) = false := by simpa using g2
          by_cases g3 : tk.width ≤ 67108864
          · have d4 : decide ((67108864 : Int) < tk.width) = false := by simp; omega
            have HGOOD : Aside0 (okTok tk = true) := ⟨by rw [hokd]; have : decide (1 ≤ tk.width) = true := by simp; omega
                                                         have h4 : decide (tk.width ≤ 67108864) = true := by simpa using g3
                                                         rw [this, h4]; rfl⟩
            clear hokd g1 g2 g3
            generalize tk.kind = kd at *
            go_wp2_with (first | (go_at_call 10; refine (HTOK.out _).mono ?_; rintro e w1 ⟨rfl, hw⟩; obtain rfl := hw.symm))
            go_roundw
            case rel =>
              refine ⟨i + 1, by omega, by go_num, ⟨HW.out.alloc HW.out.size _⟩, ⟨fun j hj => ?_⟩⟩
              rcases Nat.lt_or_ge j i with h | h
              · exact HOK.out j h
              · obtain rfl : j = i := by omega
                rw [HTK.out]; exact HGOOD.out
            case measure => simp [intOf]; omega
          · have d4 : decide ((67108864 : Int) < tk.width) = true := by simp; omega
            have HBAD : Aside0 (okTok tk = false) := ⟨by rw [hokd]; have : decide (tk.width ≤ 67108864) = false := by simp; omega
                                                         rw [this]; simp⟩
            clear hokd g1 g2 g3
            generalize tk.kind = kd at *
            exfalso
            have := List.all_eq_true.1 HB.out tk (by rw [← HTK.out, List.getD_eq_getElem?_getD, List.getElem?_eq_getElem hlt]; exact List.getElem_mem hlt)
            rw [HBAD.out] at this
            cases this
      · have g1' : isTok tk.kind = false := by simpa using g1
        rw [g1'] at HTOK hokd
        have HBAD : Aside0 (okTok tk = false) := ⟨hokd⟩
        clear hokd g1 g1'
        generalize tk.kind = kd at *
        exfalso
        have := List.all_eq_true.1 HB.out tk (by rw [← HTK.out, List.getD_eq_getElem?_getD, List.getElem?_eq_getElem hlt]; exact List.getElem_mem hlt)
        rw [HBAD.out] at this
        cases this
    · have d2 : decide ((i : Int) < (C.L.length : Int)) = false := by simp; omega
      obtain rfl : i = C.L.length := by omega
      clear HOK HB r0 r1 r2 r3 rf
      have HA2 := HA
      obtain ⟨R, hlp, hr⟩ := Option.map_eq_some_iff.mp HR0.out
      subst hr
      have hlo := HLO.out
      have HI2 := Aside0.mk (C.keep _ _ _ HI.out (fun b hb => HW.out.block b (by omega)))
      generalize hwb : wr = wb at *
      clear hwb
      have hlw : w.heap.size < wb.heap.size := by omega
      have hlow : C.lo ≤ wb.heap.size := by omega
      have HBP := Aside0.mk (PL.below_alloc wb (.cells #[.slice A C.L.length C.c, .int .i64 0, .int .i64 0, .func (.func 11) #[] #[]] 44))
      have HI3 := Aside0.mk (C.keep _ _ _ HI2.out (fun b hb => HBP.out.block b (by omega)))
      have HP : Aside0 ((wb.alloc (.cells #[.slice A C.L.length C.c, .int .i64 0, .int .i64 0, .func (.func 11) #[] #[]] 44)).heap[wb.heap.size]? = some (.cells #[.slice C.A C.L.length C.c, .int .i64 0, .int .i64 0, .func (.func C.f) #[] C.caps] 44 (0, 0))) := ⟨by rw [HA.out, HF.out, HCP.out]; exact heap_at rfl⟩
      have hbp : (wb.alloc (.cells #[.slice A C.L.length C.c, .int .i64 0, .int .i64 0, .func (.func 11) #[] #[]] 44)).heap.size = wb.heap.size + 1 := World.size_alloc _ _
      go_wp2_with fail
      go_at_call 12
      refine (on_any C _ wb.heap.size 0 0 s 0 (Nat.zero_le _) HP.out hlow HI3.out).mono ?_
      rintro e w2 ⟨rfl, hP2, hF2⟩
      have HP2 := Aside0.mk hP2
      have HF2 := Aside0.mk hF2
      clear hP2 hF2
      go_wp2_with fail
      go_at_call 13
      refine (file_any C (all_ok C hcf0 n) w2 wb.heap.size ⟨0, s⟩ R HP2.out hlp).mono ?_
      rintro e w3 ⟨cs3, rfl, hN, hP3, hF3⟩
      obtain ⟨A3, n3, c3, rfl, _⟩ := hN.four
      have hsz2 := HF2.out.size
      have hZ3 : w3.heap[w.heap.size]? = some (.cells #[.int .u8 0, .int .u8 0, .int .i64 0, .slice none 0 0] 25 (0, 0)) := by
        rw [hF3.block _ (by omega) (fun e => by rcases e with e | e; omega; exact absurd (C.hO _ e) (by omega)), HF2.out.block _ (by omega) (by omega), heap_alloc_old _ _ (by omega)]
        exact HZ1.out
      have HZ3 := Aside0.mk hZ3
      have HN := Aside0.mk hN
      have HP3 := Aside0.mk hP3
      have HF3 := Aside0.mk hF3
      clear hN hP3 hF3 hZ3
      obtain ⟨r0, r1, r2, r3, rf⟩ := four_cells HZ3.out
      generalize node 51 (R.1 ++ gapL C.L R.2) = T at *
      generalize htk : T.kind = tk at *
      generalize htw : T.want = tw at *
      generalize htd : T.width = td at *
      clear htk htw htd
      go_wp2
      refine bodyPost_ret (results_ct rfl _ _ w.heap.size 25 _ (0, 0) _ rfl (set4_block HZ3.out _ _ _ _) Try.underlying25 rfl (by kernel_rfl)) rfl ?_
      have hS4 : FrX (fun b => b = w.heap.size) w3 ((((w3.setCell ⟨w.heap.size, 0, none⟩ (.int .u8 tk)).setCell ⟨w.heap.size, 1, none⟩ (.int .u8 tw)).setCell ⟨w.heap.size, 2, none⟩ (.int .i64 td)).setCell ⟨w.heap.size, 3, none⟩ (.slice A3 n3 c3)) := set4_fr (X := fun b => b = w.heap.size) (FrX.refl _ _) rfl _ _ _ _
      refine ⟨[.int .u8 tk, .int .u8 tw, .int .i64 td, .slice A3 n3 c3], rfl, HN.out.move (fun b hb hlt => ⟨hb.imp id (fun h => by omega), hS4.block b hlt (fun e => ?_)⟩), ?_, ?_⟩
      · rcases hb with hb | hb
        · have := (C.hS b hb).1; omega
        · omega
      · have f1 : FrX (fun b => w.heap.size ≤ b) w w0 := FrX.below HBW.out
        have f2 := f1.trans (FrX.below (X := fun _ => False) HW.out) (fun _ h => h) (fun _ _ h => h.elim)
        have f2' := f2.trans (FrX.below (X := fun _ => False) HBP.out) (fun _ h => h) (fun _ _ h => h.elim)
        have f2'' := f2'.trans HF2.out (fun _ h => h) (fun b hb e => by omega)
        have f3 := f2''.trans HF3.out (Z := fun b => w.heap.size ≤ b ∨ C.O b) (fun _ h => Or.inl h) (fun b hb e => by rcases e with e | e; exact Or.inl (by omega); exact Or.inr e)
        have f4 := f3.trans hS4 (Z := fun b => w.heap.size ≤ b ∨ C.O b) (fun _ h => h) (fun b hb e => Or.inl (by omega))
        exact ⟨f4.os, f4.tape, f4.output, f4.size, fun b hb ho => f4.block b hb (fun e => e.elim (fun h => by omega) ho)⟩
      · exact C.keep _ _ _ HP3.out.inv (fun b hb => hS4.block b (by have := HF3.out.size; omega) (by omega))
end
end Go.Proofs.Ytalnicdpcigocaa.PP
namespace Go.Proofs.Ytalnicdpcigocaa.PR
open Go.RowKit Ps PM PL PP GR Go.Proofs.YtalnicdpcigocaaW.PrintWords Go.Proofs.YtalnicdpcigocaaW.PrintLast Go.Proofs.YtalnicdpcigocaaW.PrintMore
set_option linter.unusedVariables false
set_option linter.unusedSimpArgs false
/-- what take answers -/
structure An where
  kind : Int
  at_ : Int
  node : Tr
  count : Int
def ansOf (T : List An) (k : Int) (i : Nat) : Option (Tr × Int) := (T.find? (fun x => x.kind == k && x.at_ == (i : Int))).map (fun x => (x.node, x.count))
def ansOrc (T : List An) : Unit → Int → Nat → Option (Tr × Int) × Unit := fun _ k i => (ansOf T k i, ())
/-- the answers, row by row: seven cells each -/
def Answers (S0 : Nat → Prop) (w : World) (A : Option Addr) (T : List An) : Prop := ∀ i x, T[i]? = some x → ∃ (ad : Addr) (N : Option Addr) (n c : Nat), A = some ad ∧
  w.cell? (ad.add (i * 7)) = some (.int .u8 x.kind) ∧ w.cell? ⟨(ad.add (i * 7)).block, (ad.add (i * 7)).off + 1, none⟩ = some (.int .i64 x.at_) ∧
  w.cell? ⟨(ad.add (i * 7)).block, (ad.add (i * 7)).off + 2, none⟩ = some (.int .u8 x.node.kind) ∧ w.cell? ⟨(ad.add (i * 7)).block, (ad.add (i * 7)).off + 3, none⟩ = some (.int .u8 x.node.want) ∧
  w.cell? ⟨(ad.add (i * 7)).block, (ad.add (i * 7)).off + 4, none⟩ = some (.int .i64 x.node.width) ∧ w.cell? ⟨(ad.add (i * 7)).block, (ad.add (i * 7)).off + 5, none⟩ = some (.slice N n c) ∧
  w.cell? ⟨(ad.add (i * 7)).block, (ad.add (i * 7)).off + 6, none⟩ = some (.int .i64 x.count) ∧ NodeC S0 w x.node [.int .u8 x.node.kind, .int .u8 x.node.want, .int .i64 x.node.width, .slice N n c]
/-- what the reference is given -/
structure RC where
  L : List Tok
  A : Option Addr
  c : Nat
  T : List An
  AT : Option Addr
  cT : Nat
  lo : Nat
  S0 : Nat → Prop
  I : World → Prop
  hc : L.length ≤ c
  hL : L.length ≤ 16384
  hcT : T.length ≤ cT
  hT : T.length ≤ 1000000
  hS : ∀ b, S0 b → b < lo
  toks : ∀ w, I w → Toks w A L
  ans : ∀ w, I w → Answers S0 w AT T
  keep : ∀ w w', I w → (∀ b, b < lo → w'.heap[b]? = w.heap[b]?) → I w'
abbrev RC.orc (C : RC) : Unit → Int → Nat → Option (Tr × Int) × Unit := ansOrc C.T
abbrev RSt := St Unit
structure RPar (C : RC) (w : World) (pb : Nat) (st : RSt) : Prop where
  block : ∃ a p : Int, w.heap[pb]? = some (.cells #[.slice C.A C.L.length C.c, .int .i64 (st.at_ : Int), .slice C.AT C.T.length C.cT, .int .i64 a, .int .i64 p] 50 (0, 0))
  lo : C.lo ≤ pb
  inv : C.I w
  le : st.at_ ≤ C.L.length
theorem RPar.lt {C : RC} {w : World} {pb : Nat} {st : RSt} (h : RPar C w pb st) : pb < w.heap.size := by
  obtain ⟨a, p, hb⟩ := h.block
  exact blk_lt hb
theorem RPar.move {C : RC} {w w' : World} {pb : Nat} {st : RSt} (h : RPar C w pb st) {X : Nat → Prop} (k : FrX X w w') (hp : ¬ X pb) (hX : ∀ b, b < C.lo → ¬ X b) : RPar C w' pb st := by
  obtain ⟨a, p, hb⟩ := h.block
  exact ⟨⟨a, p, (k.block pb h.lt hp).trans hb⟩, h.lo, C.keep _ _ h.inv (fun b hb => k.block b (Nat.lt_trans (Nat.lt_of_lt_of_le hb h.lo) h.lt) (hX b hb)), h.le⟩
theorem RPar.below {C : RC} {w w' : World} {pb : Nat} {st : RSt} (h : RPar C w pb st) (k : Below w.heap.size w w') : RPar C w' pb st := h.move (X := fun _ => False) (FrX.below k) (fun e => e) (fun _ _ e => e)
/-- a node in hand: its row is its own, its kids lie in blocks of Z -/
structure ND (C : RC) (Z : Nat → Prop) (w : World) (kids : List Tr) (v : Value) : Prop where
  row : ∃ xs, w.ownsRow C.lo 25 4 v kids.length xs ∧ ∀ j t, kids[j]? = some t → ∃ cs, NodeC (fun b => Z b ∧ v.ownBlock ≠ some b) w t cs ∧ ∀ q u, cs[q]? = some u → xs[j * 4 + q]? = some u
  ownZ : ∀ g, v.ownBlock = some g → Z g
theorem ND.own_lt {C : RC} {Z : Nat → Prop} {w : World} {kids : List Tr} {v : Value} (h : ND C Z w kids v) {b : Nat} (e : v.ownBlock = some b) : C.lo ≤ b ∧ b < w.heap.size := by
  obtain ⟨xs, hown, _⟩ := h.row
  exact hown.lt b e
/-- where neither its row nor its kids are turned -/
theorem ND.move {C : RC} {Z Z' : Nat → Prop} {w w' : World} {kids : List Tr} {v : Value} (h : ND C Z w kids v) (hk : ∀ b, Z b → b < w.heap.size → Z' b ∧ w'.heap[b]? = w.heap[b]?) : ND C Z' w' kids v := by
  obtain ⟨xs, hown, hx⟩ := h.row
  refine ⟨⟨xs, own_move hown (fun g hg => (hk g (h.ownZ g hg) (h.own_lt hg).2).2), fun j t ht => ?_⟩, fun g hg => (hk g (h.ownZ g hg) (h.own_lt hg).2).1⟩
  obtain ⟨cs, h1, h2⟩ := hx j t ht
  exact ⟨cs, h1.move (fun b hb hlt => ⟨⟨(hk b hb.1 hlt).1, hb.2⟩, (hk b hb.1 hlt).2⟩), h2⟩
theorem ND.nil (C : RC) (Z : Nat → Prop) (w : World) : ND C Z w [] (.slice none 0 0) :=
  ⟨⟨[], World.ownsRow_nil _ _ _ _, fun j t ht => by simp at ht⟩, fun g hg => by cases hg⟩
/-- it is a tree -/
theorem ND.tree {C : RC} {Z : Nat → Prop} {w : World} {kids : List Tr} {v : Value} (h : ND C Z w kids v) (hlen : kids.length ≤ 1000000) (kind : Int) : NodeC Z w (node kind kids) [.int .u8 kind, .int .u8 0, .int .i64 (wsum kids 0), v] := by
  obtain ⟨xs, hown, hk⟩ := h.row
  unfold node NodeC
  have hz := h.ownZ
  rcases hown.2 with ⟨rfl, h0⟩ | ⟨g, cap, cur, rfl, hg, hcur, hnc, hcm, hcs, htake⟩
  · have : kids = [] := List.length_eq_zero_iff.mp h0
    subst this
    exact ⟨none, 0, 0, rfl, rfl, Nat.le_refl _, by omega, by unfold RowC; trivial⟩
  · refine ⟨some ⟨g, 0, none⟩, kids.length, cap, rfl, rfl, hnc, by omega, RowC.mk_ (hz g rfl) kids 0 (fun j t ht => ?_)⟩
    obtain ⟨cs, h1, h2⟩ := hk j t ht
    refine ⟨cs, h1.move (fun b hb hlt => ⟨hb.1, rfl⟩), fun q u hu => ?_⟩
    have hjl : j < kids.length := by
      rcases Nat.lt_or_ge j kids.length with h | h
      · exact h
      · rw [List.getElem?_eq_none h] at ht; cases ht
    have hq : q < 4 := by
      rcases Nat.lt_or_ge q 4 with h | h
      · exact h
      · rw [List.getElem?_eq_none (by rw [h1.len]; exact h)] at hu; cases hu
    rw [show 0 + (0 + j) * 4 + q = j * 4 + q by omega, hown.cellAt _ (by omega)]
    exact h2 q u hu
/-- a kid more -/
theorem ND.add {C : RC} {Z Z' : Nat → Prop} {w w' : World} {kids : List Tr} {v : Value} {t : Tr} {cs xs : List Value} {gg cap : Nat} (h : ND C Z w kids v)
    (hN : NodeC (fun b => Z b ∧ v.ownBlock ≠ some b) w t cs) (hZ : ∀ b, Z b → Z' b) (hZn : ∀ b, w.heap.size ≤ b → Z' b)
    (hown : w.ownsRow C.lo 25 4 v kids.length xs) (hxs : ∀ j t, kids[j]? = some t → ∃ cs, NodeC (fun b => Z b ∧ v.ownBlock ≠ some b) w t cs ∧ ∀ q u, cs[q]? = some u → xs[j * 4 + q]? = some u)
    (hfr : FrX (fun b => v.ownBlock = some b) w w') (hat : v.ownBlock = some gg ∨ w.heap.size ≤ gg)
    (hown' : w'.ownsRow C.lo 25 4 (.slice (some ⟨gg, 0, none⟩) (kids.length + 1) cap) (kids.length + 1) (xs ++ cs)) :
    ND C Z' w' (kids ++ [t]) (.slice (some ⟨gg, 0, none⟩) (kids.length + 1) cap) := by
  have hnv : ∀ b, v.ownBlock ≠ some b → b < w.heap.size → b ≠ gg := fun b h1 h2 e => by
    rcases hat with h | h
    · exact h1 (e ▸ h)
    · omega
  have hk : ∀ (t : Tr) (cs : List Value), NodeC (fun b => Z b ∧ v.ownBlock ≠ some b) w t cs → NodeC (fun b => Z' b ∧ (Value.slice (some ⟨gg, 0, none⟩) (kids.length + 1) cap).ownBlock ≠ some b) w' t cs := by
    intro t cs hh
    refine hh.move (fun b hb hlt => ⟨⟨hZ b hb.1, fun e => hnv b hb.2 hlt (by injection e with e; exact e.symm)⟩, hfr.block b hlt hb.2⟩)
  refine ⟨⟨xs ++ cs, ?_, fun j t' ht => ?_⟩, fun g hg => ?_⟩
  · rw [List.length_append]; exact hown'
  · have hl := hown.1
    rcases Nat.lt_or_ge j kids.length with hj | hj
    · rw [List.getElem?_append_left hj] at ht
      obtain ⟨cs', h1, h2⟩ := hxs j t' ht
      refine ⟨cs', hk _ _ h1, fun q u hu => ?_⟩
      have := h2 q u hu
      rw [List.getElem?_append_left]
      · exact this
      · rcases Nat.lt_or_ge (j * 4 + q) xs.length with h | h
        · exact h
        · rw [List.getElem?_eq_none h] at this; cases this
    · rw [List.getElem?_append_right hj] at ht
      rcases Nat.lt_or_ge 0 (j - kids.length) with h0 | h0
      · rw [List.getElem?_eq_none (by simp; omega)] at ht; cases ht
      · have hj' : j = kids.length := by omega
        subst hj'
        rw [Nat.sub_self] at ht
        have ht : t = t' := by simpa using ht
        subst ht
        refine ⟨cs, hk _ _ hN, fun q u hu => ?_⟩
        rw [List.getElem?_append_right (by omega), show kids.length * 4 + q - xs.length = q by omega]
        exact hu
  · have hg : gg = g := by injection hg
    subst hg
    rcases hat with e | e
    · exact hZ gg (h.ownZ gg e)
    · exact hZn gg e
def XR (pb : Nat) (v : Value) : Nat → Prop := fun b => b = pb ∨ v.ownBlock = some b
/-- the blocks of Z, of the answers, or new -/
def Up (C : RC) (Z : Nat → Prop) (n : Nat) : Nat → Prop := fun b => Z b ∨ C.S0 b ∨ n ≤ b
/-- what a method that hands its node back leaves -/
def RPost (C : RC) (Z : Nat → Prop) (pb : Nat) (w : World) (v : Value) (kind : Int) (kids : List Tr) (st : RSt) (e : Ending) (w' : World) : Prop :=
  ∃ v', e = .returned (.agg #[.int .u8 kind, .int .u8 0, .int .i64 (wsum kids 0), v']) ∧ (v'.ownBlock = v.ownBlock ∨ ∀ g, v'.ownBlock = some g → w.heap.size ≤ g) ∧ ND C (Up C Z w.heap.size) w' kids v' ∧ RPar C w' pb st ∧ FrX (XR pb v) w w'
/-- what a part leaves: a node of memory of its own -/
def RLv (C : RC) (pb : Nat) (w : World) (t : Tr) (st : RSt) (e : Ending) (w' : World) : Prop :=
  ∃ cs, e = .returned (.agg cs.toArray) ∧ NodeC (fun b => C.S0 b ∨ w.heap.size ≤ b) w' t cs ∧ RPar C w' pb st ∧ FrX (fun b => b = pb) w w'
theorem XR.old {pb : Nat} {v v' : Value} {n : Nat} (hv : v'.ownBlock = v.ownBlock ∨ ∀ g, v'.ownBlock = some g → n ≤ g) : ∀ b, b < n → XR pb v' b → XR pb v b := by
  intro b hb hx
  rcases hx with hx | hx
  · exact Or.inl hx
  · rcases hv with hv | hv
    · exact Or.inr (hv ▸ hx)
    · have := hv b hx; omega
theorem own_tr {v v1 v2 : Value} {n m : Nat} (h : v1.ownBlock = v.ownBlock ∨ ∀ g, v1.ownBlock = some g → n ≤ g) (k : v2.ownBlock = v1.ownBlock ∨ ∀ g, v2.ownBlock = some g → m ≤ g) (hnm : n ≤ m) : v2.ownBlock = v.ownBlock ∨ ∀ g, v2.ownBlock = some g → n ≤ g := by
  rcases k with k | k
  · rw [k]; exact h
  · exact Or.inr (fun g hg => Nat.le_trans hnm (k g hg))
/-- a cell block of the call's own: where, what it holds, its type -/
abbrev Bx := Nat × Array Value × TypeId
/-- where a chain of steps stands that began at w with v; the boxes of the call's own -/
structure RRun (C : RC) (Z : Nat → Prop) (bs : List Bx) (pb : Nat) (w : World) (v : Value) (kids : List Tr) (st : RSt) (w1 : World) (v1 : Value) : Prop where
  own : v1.ownBlock = v.ownBlock ∨ ∀ g, v1.ownBlock = some g → w.heap.size ≤ g
  nd : ND C (fun b => Up C Z w.heap.size b ∧ ∀ x ∈ bs, x.1 ≠ b) w1 kids v1
  par : RPar C w1 pb st
  fr : FrX (XR pb v) w w1
  bx : ∀ x ∈ bs, w.heap.size ≤ x.1 ∧ w1.heap[x.1]? = some (.cells x.2.1 x.2.2 (0, 0))
  dis : (bs.map (fun x => x.1)).Nodup
  hZ : ¬ Z pb
  plt : pb < w.heap.size
theorem RRun.start {C : RC} {Z : Nat → Prop} {pb : Nat} {w : World} {v : Value} {kids : List Tr} {st : RSt} (hN : ND C Z w kids v) (hP : RPar C w pb st) (hZ : ¬ Z pb) : RRun C Z [] pb w v kids st w v :=
  ⟨Or.inl rfl, hN.move (fun b hb _ => ⟨⟨Or.inl hb, fun x hx => (by cases hx)⟩, rfl⟩), hP, FrX.refl _ _, fun x hx => (by cases hx), by simp, hZ, hP.lt⟩
theorem RRun.start0 {C : RC} {pb : Nat} {w : World} {st : RSt} (hP : RPar C w pb st) : RRun C (fun _ => False) [] pb w (.slice none 0 0) [] st w (.slice none 0 0) :=
  RRun.start (ND.nil _ _ _) hP (fun h => h)
theorem RRun.bxlt {C : RC} {Z : Nat → Prop} {bs : List Bx} {pb : Nat} {w : World} {v : Value} {kids : List Tr} {st : RSt} {w1 : World} {v1 : Value} (h : RRun C Z bs pb w v kids st w1 v1) {x : Bx} (hx : x ∈ bs) : x.1 < w1.heap.size := blk_lt (h.bx x hx).2
theorem RRun.nopb {C : RC} {Z : Nat → Prop} {bs : List Bx} {pb : Nat} {w : World} {v : Value} {kids : List Tr} {st : RSt} {w1 : World} {v1 : Value} (h : RRun C Z bs pb w v kids st w1 v1) : ¬ (Up C Z w.heap.size pb ∧ ∀ x ∈ bs, x.1 ≠ pb) := by
  rintro ⟨e | e | e, _⟩
  · exact h.hZ e
  · have := C.hS _ e; have := h.par.lo; omega
  · have := h.plt; omega
/-- a call came back, with a node -/
theorem RRun.next {C : RC} {Z : Nat → Prop} {bs : List Bx} {pb : Nat} {w : World} {v : Value} {kids : List Tr} {st : RSt} {w1 : World} {v1 : Value} (h : RRun C Z bs pb w v kids st w1 v1) {kids2 : List Tr} {st2 : RSt} {w2 : World} {v2 : Value}
    (ho : v2.ownBlock = v1.ownBlock ∨ ∀ g, v2.ownBlock = some g → w1.heap.size ≤ g) (hN : ND C (Up C (fun b => Up C Z w.heap.size b ∧ ∀ x ∈ bs, x.1 ≠ b) w1.heap.size) w2 kids2 v2) (hP : RPar C w2 pb st2) (hF : FrX (XR pb v1) w1 w2) : RRun C Z bs pb w v kids2 st2 w2 v2 := by
  have hpl := h.par.lo
  have hpt := h.plt
  refine ⟨own_tr h.own ho h.fr.size, hN.move (fun b hb _ => ⟨?_, rfl⟩), hP, h.fr.trans hF (fun _ h => h) (fun b hb hx => XR.old h.own b hb hx), fun x hx => ?_, h.dis, h.hZ, h.plt⟩
  · rcases hb with hb | hb | hb
    · exact hb
    · exact ⟨Or.inr (Or.inl hb), fun x hx e => by have := C.hS b hb; have := (h.bx x hx).1; omega⟩
    · exact ⟨Or.inr (Or.inr (Nat.le_trans h.fr.size hb)), fun x hx e => by have := h.bxlt hx; omega⟩
  · refine ⟨(h.bx x hx).1, (hF.block _ (h.bxlt hx) ?_).trans (h.bx x hx).2⟩
    rintro (e | e)
    · have := (h.bx x hx).1; omega
    · exact (h.nd.ownZ _ e).2 x hx rfl
theorem RRun.step {C : RC} {Z : Nat → Prop} {bs : List Bx} {pb : Nat} {w : World} {v : Value} {kids : List Tr} {st : RSt} {w1 : World} {v1 : Value} (h : RRun C Z bs pb w v kids st w1 v1) {kind : Int} {kids2 : List Tr} {st2 : RSt} {e : Ending} {w2 : World}
    (k : RPost C (fun b => Up C Z w.heap.size b ∧ ∀ x ∈ bs, x.1 ≠ b) pb w1 v1 kind kids2 st2 e w2) : ∃ v2, e = .returned (.agg #[.int .u8 kind, .int .u8 0, .int .i64 (wsum kids2 0), v2]) ∧ RRun C Z bs pb w v kids2 st2 w2 v2 := by
  obtain ⟨v2, he, h1, h2, h3, h4⟩ := k
  exact ⟨v2, he, h.next h1 h2 h3 h4⟩
theorem RRun.below {C : RC} {Z : Nat → Prop} {bs : List Bx} {pb : Nat} {w : World} {v : Value} {kids : List Tr} {st : RSt} {w1 w2 : World} {v1 : Value} (h : RRun C Z bs pb w v kids st w1 v1) (b : Below w1.heap.size w1 w2) : RRun C Z bs pb w v kids st w2 v1 :=
  ⟨h.own, h.nd.move (fun k hk hlt => ⟨hk, b.block k hlt⟩), h.par.below b, h.fr.trans (FrX.below (X := fun _ => False) b) (fun _ h => h) (fun _ _ h => h.elim), fun x hx => ⟨(h.bx x hx).1, (b.block _ (h.bxlt hx)).trans (h.bx x hx).2⟩, h.dis, h.hZ, h.plt⟩
/-- a part was made -/
theorem RRun.part {C : RC} {Z : Nat → Prop} {bs : List Bx} {pb : Nat} {w : World} {v : Value} {kids : List Tr} {st : RSt} {w1 w2 : World} {v1 : Value} (h : RRun C Z bs pb w v kids st w1 v1) {st2 : RSt} (hF : FrX (fun b => b = pb) w1 w2) (hP : RPar C w2 pb st2) : RRun C Z bs pb w v kids st2 w2 v1 :=
  ⟨h.own, h.nd.move (fun k hk hlt => ⟨hk, hF.block k hlt (fun e => h.nopb (e ▸ hk))⟩), hP, h.fr.trans hF (fun _ h => h) (fun _ _ h => Or.inl h), fun x hx => ⟨(h.bx x hx).1, (hF.block _ (h.bxlt hx) (fun e => by have := (h.bx x hx).1; have := h.plt; omega)).trans (h.bx x hx).2⟩, h.dis, h.hZ, h.plt⟩
/-- a box more -/
theorem RRun.alloc {C : RC} {Z : Nat → Prop} {bs : List Bx} {pb : Nat} {w : World} {v : Value} {kids : List Tr} {st : RSt} {w1 : World} {v1 : Value} (h : RRun C Z bs pb w v kids st w1 v1) (cs : Array Value) (T : TypeId) : RRun C Z ((w1.heap.size, cs, T) :: bs) pb w v kids st (w1.alloc (.cells cs T)) v1 := by
  have hb : Below w1.heap.size w1 (w1.alloc (.cells cs T)) := (Below.refl _ _).alloc (Nat.le_refl _) _
  have h1 := h.below hb
  refine ⟨h1.own, h.nd.move (fun k hk hlt => ⟨⟨hk.1, fun x hx => ?_⟩, hb.block k hlt⟩), h1.par, h1.fr, fun x hx => ?_, ?_, h.hZ, h.plt⟩
  · rcases List.mem_cons.1 hx with rfl | hx
    · exact Nat.ne_of_gt hlt
    · exact hk.2 x hx
  · rcases List.mem_cons.1 hx with rfl | hx
    · exact ⟨h.fr.size, heap_at rfl⟩
    · exact h1.bx x hx
  · rw [List.map_cons, List.nodup_cons]
    refine ⟨fun e => ?_, h.dis⟩
    obtain ⟨x, hx, e⟩ := List.mem_map.1 e
    have := h.bxlt hx
    omega
/-- a box is written -/
theorem RRun.put {C : RC} {Z : Nat → Prop} (l1 l2 : List Bx) {nb : Nat} {cs cs' : Array Value} {T : TypeId} {pb : Nat} {w : World} {v : Value} {kids : List Tr} {st : RSt} {w1 w2 : World} {v1 : Value} (h : RRun C Z (l1 ++ (nb, cs, T) :: l2) pb w v kids st w1 v1)
    (hF : FrX (fun b => b = nb) w1 w2) (hb : w2.heap[nb]? = some (.cells cs' T (0, 0))) : RRun C Z (l1 ++ (nb, cs', T) :: l2) pb w v kids st w2 v1 := by
  have hm : (nb, cs, T) ∈ l1 ++ (nb, cs, T) :: l2 := by simp
  have hge := (h.bx _ hm).1
  have hpl := h.plt
  have hlo := h.par.lo
  have hmem : ∀ x, x ∈ l1 ++ (nb, cs', T) :: l2 → x = (nb, cs', T) ∨ (x ∈ l1 ++ (nb, cs, T) :: l2 ∧ x.1 ≠ nb) := by
    intro x hx
    have hd := h.dis
    rw [List.map_append, List.map_cons, List.nodup_append, List.nodup_cons] at hd
    rcases List.mem_append.1 hx with hx | hx
    · exact Or.inr ⟨List.mem_append_left _ hx, hd.2.2 _ (List.mem_map.2 ⟨x, hx, rfl⟩) _ List.mem_cons_self⟩
    · rcases List.mem_cons.1 hx with rfl | hx
      · exact Or.inl rfl
      · refine Or.inr ⟨List.mem_append_right _ (List.mem_cons_of_mem _ hx), fun e => hd.2.1.1 (List.mem_map.2 ⟨x, hx, e⟩)⟩
  refine ⟨h.own, h.nd.move (fun k hk hlt => ⟨⟨hk.1, fun x hx => ?_⟩, hF.block k hlt (fun e => hk.2 _ hm e.symm)⟩), h.par.move hF (by omega) (fun b hb => by omega), h.fr.trans (hF.mono (Y := fun b => b = nb) (fun _ _ h => h)) (fun _ h => h) (fun b hb e => by omega), fun x hx => ?_, ?_, h.hZ, h.plt⟩
  · rcases hmem x hx with rfl | hx
    · exact hk.2 (nb, cs, T) hm
    · exact hk.2 x hx.1
  · rcases hmem x hx with rfl | ⟨hx, hne⟩
    · exact ⟨hge, hb⟩
    · exact ⟨(h.bx x hx).1, (hF.block _ (h.bxlt hx) hne).trans (h.bx x hx).2⟩
  · have := h.dis
    simpa using this
theorem RRun.st0 {C : RC} {Z : Nat → Prop} {bs : List Bx} {nb : Nat} {z0 z1 z2 z3 : Value} {T : TypeId} {pb : Nat} {w : World} {v : Value} {kids : List Tr} {st : RSt} {w1 : World} {v1 : Value} (h : RRun C Z ((nb, #[z0, z1, z2, z3], T) :: bs) pb w v kids st w1 v1) (a b c d : Value) :
    RRun C Z ((nb, #[a, b, c, d], T) :: bs) pb w v kids st ((((w1.setCell ⟨nb, 0, none⟩ a).setCell ⟨nb, 1, none⟩ b).setCell ⟨nb, 2, none⟩ c).setCell ⟨nb, 3, none⟩ d) v1 :=
  h.put [] bs (set4_fr (X := fun b => b = nb) (FrX.refl _ _) rfl _ _ _ _) (set4_block (h.bx _ List.mem_cons_self).2 a b c d)
theorem RRun.st1 {C : RC} {Z : Nat → Prop} {bs : List Bx} {y : Bx} {nb : Nat} {z0 z1 z2 z3 : Value} {T : TypeId} {pb : Nat} {w : World} {v : Value} {kids : List Tr} {st : RSt} {w1 : World} {v1 : Value} (h : RRun C Z (y :: (nb, #[z0, z1, z2, z3], T) :: bs) pb w v kids st w1 v1) (a b c d : Value) :
    RRun C Z (y :: (nb, #[a, b, c, d], T) :: bs) pb w v kids st ((((w1.setCell ⟨nb, 0, none⟩ a).setCell ⟨nb, 1, none⟩ b).setCell ⟨nb, 2, none⟩ c).setCell ⟨nb, 3, none⟩ d) v1 :=
  h.put [y] bs (set4_fr (X := fun b => b = nb) (FrX.refl _ _) rfl _ _ _ _) (set4_block (h.bx _ (List.mem_cons_of_mem _ List.mem_cons_self)).2 a b c d)
theorem RRun.st2 {C : RC} {Z : Nat → Prop} {bs : List Bx} {y y' : Bx} {nb : Nat} {z0 z1 z2 z3 : Value} {T : TypeId} {pb : Nat} {w : World} {v : Value} {kids : List Tr} {st : RSt} {w1 : World} {v1 : Value} (h : RRun C Z (y :: y' :: (nb, #[z0, z1, z2, z3], T) :: bs) pb w v kids st w1 v1) (a b c d : Value) :
    RRun C Z (y :: y' :: (nb, #[a, b, c, d], T) :: bs) pb w v kids st ((((w1.setCell ⟨nb, 0, none⟩ a).setCell ⟨nb, 1, none⟩ b).setCell ⟨nb, 2, none⟩ c).setCell ⟨nb, 3, none⟩ d) v1 :=
  h.put [y, y'] bs (set4_fr (X := fun b => b = nb) (FrX.refl _ _) rfl _ _ _ _) (set4_block (h.bx _ (List.mem_cons_of_mem _ (List.mem_cons_of_mem _ List.mem_cons_self))).2 a b c d)
theorem RRun.box0 {C : RC} {Z : Nat → Prop} {bs : List Bx} {nb : Nat} {a b c d : Value} {T : TypeId} {pb : Nat} {w : World} {v : Value} {kids : List Tr} {st : RSt} {w1 : World} {v1 : Value} (h : RRun C Z ((nb, #[a, b, c, d], T) :: bs) pb w v kids st w1 v1) :
    w1.cell? ⟨nb, 0, none⟩ = some a ∧ w1.cell? ⟨nb, 1, none⟩ = some b ∧ w1.cell? ⟨nb, 2, none⟩ = some c ∧ w1.cell? ⟨nb, 3, none⟩ = some d ∧ ∀ j, w1.frozen? ⟨nb, j, none⟩ = false := four_cells (h.bx _ List.mem_cons_self).2
theorem RRun.box1 {C : RC} {Z : Nat → Prop} {bs : List Bx} {y : Bx} {nb : Nat} {a b c d : Value} {T : TypeId} {pb : Nat} {w : World} {v : Value} {kids : List Tr} {st : RSt} {w1 : World} {v1 : Value} (h : RRun C Z (y :: (nb, #[a, b, c, d], T) :: bs) pb w v kids st w1 v1) :
    w1.cell? ⟨nb, 0, none⟩ = some a ∧ w1.cell? ⟨nb, 1, none⟩ = some b ∧ w1.cell? ⟨nb, 2, none⟩ = some c ∧ w1.cell? ⟨nb, 3, none⟩ = some d ∧ ∀ j, w1.frozen? ⟨nb, j, none⟩ = false := four_cells (h.bx _ (List.mem_cons_of_mem _ List.mem_cons_self)).2
theorem RRun.box2 {C : RC} {Z : Nat → Prop} {bs : List Bx} {y y' : Bx} {nb : Nat} {a b c d : Value} {T : TypeId} {pb : Nat} {w : World} {v : Value} {kids : List Tr} {st : RSt} {w1 : World} {v1 : Value} (h : RRun C Z (y :: y' :: (nb, #[a, b, c, d], T) :: bs) pb w v kids st w1 v1) :
    w1.cell? ⟨nb, 0, none⟩ = some a ∧ w1.cell? ⟨nb, 1, none⟩ = some b ∧ w1.cell? ⟨nb, 2, none⟩ = some c ∧ w1.cell? ⟨nb, 3, none⟩ = some d ∧ ∀ j, w1.frozen? ⟨nb, j, none⟩ = false := four_cells (h.bx _ (List.mem_cons_of_mem _ (List.mem_cons_of_mem _ List.mem_cons_self))).2
theorem RRun.bx0 {C : RC} {Z : Nat → Prop} {bs : List Bx} {nb : Nat} {cs : Array Value} {T : TypeId} {pb : Nat} {w : World} {v : Value} {kids : List Tr} {st : RSt} {w1 : World} {v1 : Value} (h : RRun C Z ((nb, cs, T) :: bs) pb w v kids st w1 v1) : w1.heap[nb]? = some (.cells cs T (0, 0)) := (h.bx _ List.mem_cons_self).2
theorem RRun.bx1 {C : RC} {Z : Nat → Prop} {bs : List Bx} {y : Bx} {nb : Nat} {cs : Array Value} {T : TypeId} {pb : Nat} {w : World} {v : Value} {kids : List Tr} {st : RSt} {w1 : World} {v1 : Value} (h : RRun C Z (y :: (nb, cs, T) :: bs) pb w v kids st w1 v1) : w1.heap[nb]? = some (.cells cs T (0, 0)) := (h.bx _ (List.mem_cons_of_mem _ List.mem_cons_self)).2
theorem RRun.bx2 {C : RC} {Z : Nat → Prop} {bs : List Bx} {y y' : Bx} {nb : Nat} {cs : Array Value} {T : TypeId} {pb : Nat} {w : World} {v : Value} {kids : List Tr} {st : RSt} {w1 : World} {v1 : Value} (h : RRun C Z (y :: y' :: (nb, cs, T) :: bs) pb w v kids st w1 v1) : w1.heap[nb]? = some (.cells cs T (0, 0)) := (h.bx _ (List.mem_cons_of_mem _ (List.mem_cons_of_mem _ List.mem_cons_self))).2
/-- at the end of a method that hands its node back -/
theorem RRun.post {C : RC} {Z : Nat → Prop} {bs : List Bx} {pb : Nat} {w : World} {v : Value} {kids : List Tr} {st : RSt} {w1 : World} {v1 : Value} (h : RRun C Z bs pb w v kids st w1 v1) (kind : Int) : RPost C Z pb w v kind kids st (.returned (.agg #[.int .u8 kind, .int .u8 0, .int .i64 (wsum kids 0), v1])) w1 :=
  ⟨v1, rfl, h.own, h.nd.move (fun b hb _ => ⟨hb.1, rfl⟩), h.par, h.fr⟩
/-- at the end of a part -/
theorem RRun.leaf {C : RC} {bs : List Bx} {pb : Nat} {w : World} {kids : List Tr} {st : RSt} {w1 : World} {v1 : Value} (h : RRun C (fun _ => False) bs pb w (.slice none 0 0) kids st w1 v1) (hlen : kids.length ≤ 1000000) (kind : Int) :
    RLv C pb w (node kind kids) st (.returned (.agg #[.int .u8 kind, .int .u8 0, .int .i64 (wsum kids 0), v1])) w1 :=
  ⟨[.int .u8 kind, .int .u8 0, .int .i64 (wsum kids 0), v1], rfl, (h.nd.tree hlen kind).move (fun b hb _ => ⟨hb.1.elim (fun e => e.elim) id, rfl⟩), h.par, h.fr.mono (fun b _ hx => by rcases hx with hx | hx; exact hx; cases hx)⟩
/-- at the end of a part whose node another part made -/
theorem RRun.pass {C : RC} {bs : List Bx} {pb : Nat} {w : World} {kids : List Tr} {st : RSt} {w1 : World} {v1 : Value} (h : RRun C (fun _ => False) bs pb w (.slice none 0 0) kids st w1 v1) {t : Tr} {a b c d : Value} {S : Nat → Prop} (hS : ∀ b, S b → C.S0 b ∨ w.heap.size ≤ b) (hN : NodeC S w1 t [a, b, c, d]) :
    RLv C pb w t st (.returned (.agg #[a, b, c, d])) w1 :=
  ⟨[a, b, c, d], rfl, hN.move (fun b hb _ => ⟨hS b hb, rfl⟩), h.par, h.fr.mono (fun b _ hx => by rcases hx with hx | hx; exact hx; cases hx)⟩
/-- a part's node may be put in -/
theorem RRun.kid {C : RC} {Z : Nat → Prop} {bs : List Bx} {pb : Nat} {w : World} {v : Value} {kids : List Tr} {st : RSt} {w1 w2 : World} {v1 : Value} (h : RRun C Z bs pb w v kids st w1 v1)
    {t : Tr} {cs : List Value} (hN : NodeC (fun b => C.S0 b ∨ w1.heap.size ≤ b) w2 t cs) : NodeC (fun b => (Up C Z w.heap.size b ∧ ∀ x ∈ bs, x.1 ≠ b) ∧ v1.ownBlock ≠ some b) w2 t cs :=
  hN.move (fun b hb hlt => ⟨by
    have hpl := h.par.lo
    have hpt := h.plt
    rcases hb with hb | hb
    · have := C.hS b hb
      exact ⟨⟨Or.inr (Or.inl hb), fun x hx e => by have := (h.bx x hx).1; omega⟩, fun e => by have := (h.nd.own_lt e).1; omega⟩
    · have := h.fr.size
      exact ⟨⟨Or.inr (Or.inr (by omega)), fun x hx e => by have := h.bxlt hx; omega⟩, fun e => by have := (h.nd.own_lt e).2; omega⟩, rfl⟩)
end Go.Proofs.Ytalnicdpcigocaa.PR
namespace Go.Proofs.Ytalnicdpcigocaa.PR
open Go.RowKit Ps PM PL PP GR Go.Proofs.YtalnicdpcigocaaW.PrintWords Go.Proofs.YtalnicdpcigocaaW.PrintLast Go.Proofs.YtalnicdpcigocaaW.PrintMore
set_option linter.unusedVariables false
set_option linter.unusedSimpArgs false
set_option maxHeartbeats 8000000 in
set_option maxRecDepth 100000 in
theorem radd_any (C : RC) (Z : Nat → Prop) (w : World) (kind wd : Int) (kids : List Tr) (v : Value) (t : Tr) (cs : List Value) (hwd : wsum kids 0 = wd) (hlo : C.lo ≤ w.heap.size)
    (hD : ND C Z w kids v) (hN : NodeC (fun b => Z b ∧ v.ownBlock ≠ some b) w t cs) (hlen : kids.length ≤ 1000000) :
    Calls Try.prog 27 #[.agg #[.int .u8 kind, .int .u8 0, .int .i64 wd, v], .agg cs.toArray] w fun e w' =>
      ∃ v', e = .returned (.agg #[.int .u8 kind, .int .u8 0, .int .i64 (wsum (kids ++ [t]) 0), v']) ∧ (v'.ownBlock = v.ownBlock ∨ ∀ g, v'.ownBlock = some g → w.heap.size ≤ g) ∧ ND C (Up C Z w.heap.size) w' (kids ++ [t]) v' ∧ FrX (fun b => v.ownBlock = some b) w w' := by
  have HWS : Aside0 (wsum (kids ++ [t]) 0 = wrap64 (wd + t.width)) := ⟨by rw [wsum_append, hwd]; rfl⟩
  obtain ⟨A, n, cap, rfl, hkn, hnc, hn12, hrow⟩ := hN.four
  obtain ⟨A0, c0, rfl⟩ : ∃ A c, v = .slice A kids.length c := PP.own_slice hD.row.choose_spec.1
  have HN := Aside0.mk hN
  have HD := Aside0.mk hD
  obtain ⟨xs, hown, hxs⟩ := hD.row
  have HXS := Aside0.mk hxs
  have hl1 : (kids.length : Int) < (kids.length : Int) + 1 := by omega
  obtain ⟨i0, hi0, hz0, hz1, hz2⟩ := info_parts nodeInfo
  have HOWN := Aside0.mk hown
  clear hD hN hxs hown hrow hkn hwd
  go_enter Try.func27, Try.ntmps27
  generalize t.kind = tk at *
  generalize t.want = tw at *
  generalize t.width = td at *
  have q1 : ∀ o : Obj, (w.alloc o).heap.size = w.heap.size + 1 := fun o => World.size_alloc _ _
  have q2 : ∀ o o' : Obj, ((w.alloc o).alloc o').heap.size = w.heap.size + 1 + 1 := fun o o' => by rw [World.size_alloc, q1]
  have q3 : ∀ o o' o'' : Obj, (((w.alloc o).alloc o').alloc o'').heap.size = w.heap.size + 1 + 1 + 1 := fun o o' o'' => by rw [World.size_alloc, q2]
  have q4 : ∀ o o' o'' o3 : Obj, ((((w.alloc o).alloc o').alloc o'').alloc o3).heap.size = w.heap.size + 1 + 1 + 1 + 1 := fun o o' o'' o3 => by rw [World.size_alloc, q3]
  have p0 : ∀ o o' o'' o3 : Obj, ((((w.alloc o).alloc o').alloc o'').alloc o3).heap[w.heap.size]? = (w.alloc o).heap[w.heap.size]? := fun o o' o'' o3 => by
    rw [heap_alloc_old _ _ (by rw [q3]; omega), heap_alloc_old _ _ (by rw [q2]; omega), heap_alloc_old _ _ (by rw [q1]; omega)]
  have p1 : ∀ o o' o'' o3 : Obj, ((((w.alloc o).alloc o').alloc o'').alloc o3).heap[w.heap.size + 1]? = ((w.alloc o).alloc o').heap[w.heap.size + 1]? := fun o o' o'' o3 => by
    rw [heap_alloc_old _ _ (by rw [q3]; omega), heap_alloc_old _ _ (by rw [q2]; omega)]
  have p2 : ∀ o o' o'' o3 : Obj, ((((w.alloc o).alloc o').alloc o'').alloc o3).heap[w.heap.size + 1 + 1]? = (((w.alloc o).alloc o').alloc o'').heap[w.heap.size + 1 + 1]? := fun o o' o'' o3 => by
    rw [heap_alloc_old _ _ (by rw [q3]; omega)]
  have hol : ∀ b, (Value.slice A0 kids.length c0).ownBlock = some b → b < w.heap.size := fun b e => (HOWN.out.lt b e).2
  have HQ4 := Aside0.mk q4
  have HQ3 := Aside0.mk q3
  have HQ2 := Aside0.mk q2
  have HQ1 := Aside0.mk q1
  have HP0 := Aside0.mk p0
  have HP1 := Aside0.mk p1
  have HP2 := Aside0.mk p2
  clear q1 q2 q3 q4 p0 p1 p2
  go_wp2_with ((with_reducible refine gate_builtin (b := .append) (xs := #[.tmp 6, .tmp 8]) rfl ?_); at_builtin; refine wpList_append_own_at _ rfl (.tmp 6) (.tmp 8) 23 rfl C.lo 25 i0 (.agg #[.int .u8 0, .int .u8 0, .int .i64 0, .slice none 0 0]) 4 40 Try.underlying23 hi0 hz0 hz1 hz2 rfl (by omega) (.slice A0 kids.length c0) kids.length xs (by rfl) ((((HOWN.out.alloc _).alloc _).alloc _).alloc _) ⟨w.heap.size + 1 + 1 + 1, 0, none⟩ 1 1 [.int .u8 tk, .int .u8 tw, .int .i64 td, .slice A n cap] (by rfl) (by rfl) ?hnews ?h1 (by simp only [maxLen]; omega) (by omega) (by rw [HQ4.out]; omega) ?_)
  case hnews => exact World.news_of_block (cs := #[.int .u8 tk, .int .u8 tw, .int .i64 td, .slice A n cap]) (t := 25) (fr := (0, 0)) (heap_at (HQ3.out _ _ _).symm)
  case h1 => simp [Value.oneCell']
  intro v5 w5 hown5 hgrow hiff hat
  obtain ⟨gg, cap5, rfl, hg1, hg2⟩ := hown5.form (by omega)
  (try rw [HQ4.out] at hat)
  have hat' : (Value.slice A0 kids.length c0).ownBlock = some gg ∨ gg = w.heap.size + 1 + 1 + 1 + 1 := by
    rcases hat with h | h
    · exact Or.inl h.symm
    · injection h with h; exact Or.inr h
  have hfar : ∀ b, w.heap.size ≤ b → b < w.heap.size + 1 + 1 + 1 + 1 → some b ≠ (Value.slice A0 kids.length c0).ownBlock := fun b h1 h2 e => by have := hol b e.symm; omega
  have hgne : ∀ b, w.heap.size ≤ b → b < w.heap.size + 1 + 1 + 1 + 1 → b ≠ gg := fun b h1 h2 e => by
    rcases hat' with h | h
    · have := hol gg h; omega
    · omega
  have hnb := ((hgrow.block w.heap.size (by rw [HQ4.out]; omega) (hfar _ (by omega) (by omega))).trans (HP0.out _ _ _ _)).trans (heap_at rfl)
  have hkb := ((hgrow.block (w.heap.size + 1) (by rw [HQ4.out]; omega) (hfar _ (by omega) (by omega))).trans (HP1.out _ _ _ _)).trans (heap_at (HQ1.out _).symm)
  have hrb := ((hgrow.block (w.heap.size + 1 + 1) (by rw [HQ4.out]; omega) (hfar _ (by omega) (by omega))).trans (HP2.out _ _ _ _)).trans (heap_at (HQ2.out _ _).symm)
  obtain ⟨y0, y1, y2, y3, yf⟩ := four_cells hnb
  obtain ⟨k0, k1, k2, k3, kf⟩ := four_cells hkb
  obtain ⟨r0, r1, r2, r3, rf⟩ := four_cells hrb
  have HGROW := Aside0.mk hgrow
  have HOWN5 := Aside0.mk hown5
  have HAT := Aside0.mk hat'
  have HRB := Aside0.mk hrb
  have HGNE := Aside0.mk hgne
  clear hgrow hown5 hiff hat hat' hfar hnb hkb hrb hg1 hg2 hgne
  go_wp2_with fail
  have hne1 : w.heap.size + 1 + 1 ≠ w.heap.size := by omega
  refine bodyPost_ret (results_cell_row rfl _ _ (w.heap.size + 1 + 1) 25 _ (0, 0) _ rfl (set4_block ((heap_setCell_other _ _ _ _ hne1).trans ((heap_setCell_other _ _ _ _ hne1).trans HRB.out)) _ _ _ _) Try.underlying25 rfl (by kernel_rfl)) rfl ?_
  have hF5 : FrX (fun b => (Value.slice A0 kids.length c0).ownBlock = some b) w w5 := by
    refine ⟨HGROW.out.os, HGROW.out.tape, HGROW.out.output, ?_, fun b hb hx => ?_⟩
    · have := HGROW.out.size
      rw [HQ4.out] at this
      omega
    · rw [HGROW.out.block b (by rw [HQ4.out]; omega) (fun e => hx e.symm), heap_alloc_old _ _ (by rw [HQ3.out]; omega), heap_alloc_old _ _ (by rw [HQ2.out]; omega), heap_alloc_old _ _ (by rw [HQ1.out]; omega), heap_alloc_old _ _ hb]
  have hF6 := (hF5.set (b := w.heap.size) (j := 3) (Or.inr (Nat.le_refl _)) (.slice (some ⟨gg, 0, none⟩) (kids.length + 1) cap5)).set (b := w.heap.size) (j := 2) (Or.inr (Nat.le_refl _)) (.int .i64 (wrap64 (wd + td)))
  have hF7 := hF6.trans (set4_fr (X := fun b => b = w.heap.size + 1 + 1) (FrX.refl _ _) rfl (.int .u8 kind) (.int .u8 0) (.int .i64 (wrap64 (wd + td))) (.slice (some ⟨gg, 0, none⟩) (kids.length + 1) cap5)) (fun _ h => h) (fun b hb e => by omega)
  refine ⟨_, by rw [HWS.out], ?_, HD.out.add (gg := gg) HN.out (fun b h => Or.inl h) (fun b h => Or.inr (Or.inr h)) HOWN.out HXS.out hF7 ?_ ?_, hF7⟩
  · rcases HAT.out with h | h
    · exact Or.inl h.symm
    · refine Or.inr (fun g hg => ?_)
      have hg : gg = g := by injection hg
      omega
  · exact HAT.out.imp id (fun h => by omega)
  · refine own_move HOWN5.out (fun k hk => ?_)
    have hk : gg = k := by injection hk
    subst hk
    have a1 := HGNE.out w.heap.size (Nat.le_refl _) (by omega)
    have a2 := HGNE.out (w.heap.size + 1 + 1) (by omega) (by omega)
    rw [heap_setCell_other _ _ _ _ a2.symm, heap_setCell_other _ _ _ _ a2.symm, heap_setCell_other _ _ _ _ a2.symm, heap_setCell_other _ _ _ _ a2.symm, heap_setCell_other _ _ _ _ a1.symm, heap_setCell_other _ _ _ _ a1.symm]
end Go.Proofs.Ytalnicdpcigocaa.PR
namespace Go.Proofs.Ytalnicdpcigocaa.PR
open Go.RowKit Ps PM PL PP Go.Proofs.YtalnicdpcigocaaW.PrintWords Go.Proofs.YtalnicdpcigocaaW.PrintLast Go.Proofs.YtalnicdpcigocaaW.PrintMore
attribute [local go_sem] max2_int min2_int max_two min_two
set_option linter.unusedVariables false
set_option linter.unusedSimpArgs false
set_option maxHeartbeats 4000000 in
set_option maxRecDepth 100000 in
theorem rexpr_any (k : Int) (w : World) : Calls Try.prog 39 #[.int .u8 k] w fun e w' => e = .returned (.bool (begins k)) ∧ w' = w := by
  have key : k = 6 ∨ k = 7 ∨ k = 8 ∨ k = 16 ∨ k = 17 ∨ k = 20 ∨ k = 34 ∨ k = 38 ∨ (k ≠ 6 ∧ k ≠ 7 ∧ k ≠ 8 ∧ k ≠ 16 ∧ k ≠ 17 ∧ k ≠ 20 ∧ k ≠ 34 ∧ k ≠ 38) := by omega
  rcases key with rfl | rfl | rfl | rfl | rfl | rfl | rfl | rfl | ⟨h0, h1, h2, h3, h4, h5, h6, h7⟩
  case inr.inr.inr.inr.inr.inr.inr.inr =>
    have hs : begins k = false := by simp [begins, nb h0, nb h1, nb h2, nb h3, nb h4, nb h5, nb h6, nb h7, h0, h1, h2, h3, h4, h5, h6, h7]
    rw [hs]
    have b0 := nb h0; have b1 := nb h1; have b2 := nb h2; have b3 := nb h3; have b4 := nb h4; have b5 := nb h5; have b6 := nb h6; have b7 := nb h7
    clear h0 h1 h2 h3 h4 h5 h6 h7 hs
    go_enter Try.func39, Try.ntmps39
    go_wp2
    go_ret
    exact ⟨rfl, rfl⟩
  all_goals
    go_enter Try.func39, Try.ntmps39
    go_wp2
    go_ret
    exact ⟨rfl, rfl⟩
set_option maxHeartbeats 4000000 in
set_option maxRecDepth 100000 in
theorem rstat_any (k : Int) (w : World) : Calls Try.prog 25 #[.int .u8 k] w fun e w' => e = .returned (.int .u8 (stat k)) ∧ w' = w := by
  have key : k = 10 ∨ k = 11 ∨ k = 12 ∨ k = 14 ∨ k = 15 ∨ k = 22 ∨ k = 6 ∨ k = 7 ∨ k = 8 ∨ k = 16 ∨ k = 17 ∨ k = 20 ∨ k = 34 ∨ k = 38 ∨ (k ≠ 10 ∧ k ≠ 11 ∧ k ≠ 12 ∧ k ≠ 14 ∧ k ≠ 15 ∧ k ≠ 22 ∧ k ≠ 6 ∧ k ≠ 7 ∧ k ≠ 8 ∧ k ≠ 16 ∧ k ≠ 17 ∧ k ≠ 20 ∧ k ≠ 34 ∧ k ≠ 38) := by omega
  rcases key with rfl | rfl | rfl | rfl | rfl | rfl | rfl | rfl | rfl | rfl | rfl | rfl | rfl | rfl | ⟨h0, h1, h2, h3, h4, h5, h6, h7, h8, h9, h10, h11, h12, h13⟩
  case inr.inr.inr.inr.inr.inr.inr.inr.inr.inr.inr.inr.inr.inr =>
    have hbe : begins k = false := by simp [begins, nb h6, nb h7, nb h8, nb h9, nb h10, nb h11, nb h12, nb h13]
    have hs : stat k = 0 := by simp [stat, begins, nb h0, nb h1, nb h2, nb h3, nb h4, nb h5, nb h6, nb h7, nb h8, nb h9, nb h10, nb h11, nb h12, nb h13, h0, h1, h2, h3, h4, h5, h6, h7, h8, h9, h10, h11, h12, h13]
    rw [hs]
    have b0 := nb h0; have b1 := nb h1; have b2 := nb h2; have b3 := nb h3; have b4 := nb h4; have b5 := nb h5; have b6 := nb h6; have b7 := nb h7; have b8 := nb h8; have b9 := nb h9; have b10 := nb h10; have b11 := nb h11; have b12 := nb h12; have b13 := nb h13
    clear h0 h1 h2 h3 h4 h5 h6 h7 h8 h9 h10 h11 h12 h13 hs
    go_enter Try.func25, Try.ntmps25
    go_wp2_with (first | (go_at_call 39; refine (rexpr_any _ _).mono ?_; rintro e w9 ⟨rfl, rfl⟩; first | rw [hbe] | simp only [begins] at *))
    go_ret
    exact ⟨rfl, rfl⟩
  all_goals
    go_enter Try.func25, Try.ntmps25
    go_wp2_with (first | (go_at_call 39; refine (rexpr_any _ _).mono ?_; rintro e w9 ⟨rfl, rfl⟩; first | rw [hbe] | simp only [begins] at *))
    go_ret
    exact ⟨rfl, rfl⟩
set_option maxHeartbeats 4000000 in
set_option maxRecDepth 100000 in
theorem rlvl_any (k : Int) (w : World) : Calls Try.prog 66 #[.int .u8 k] w fun e w' => e = .returned (.int .i64 (lvl k)) ∧ w' = w := by
  have key : k = 40 ∨ k = 39 ∨ k = 27 ∨ k = 28 ∨ k = 29 ∨ k = 30 ∨ k = 31 ∨ k = 32 ∨ k = 33 ∨ k = 34 ∨ k = 35 ∨ k = 36 ∨ k = 37 ∨ (k ≠ 40 ∧ k ≠ 39 ∧ k ≠ 27 ∧ k ≠ 28 ∧ k ≠ 29 ∧ k ≠ 30 ∧ k ≠ 31 ∧ k ≠ 32 ∧ k ≠ 33 ∧ k ≠ 34 ∧ k ≠ 35 ∧ k ≠ 36 ∧ k ≠ 37) := by omega
  rcases key with rfl | rfl | rfl | rfl | rfl | rfl | rfl | rfl | rfl | rfl | rfl | rfl | rfl | ⟨h0, h1, h2, h3, h4, h5, h6, h7, h8, h9, h10, h11, h12⟩
  case inr.inr.inr.inr.inr.inr.inr.inr.inr.inr.inr.inr.inr =>
    have hh : ¬ (27 ≤ k ∧ k ≤ 32) := by omega
    have hs : lvl k = 0 := by simp [lvl, nb h0, nb h1, nb h2, nb h3, nb h4, nb h5, nb h6, nb h7, nb h8, nb h9, nb h10, nb h11, nb h12, h0, h1, h2, h3, h4, h5, h6, h7, h8, h9, h10, h11, h12, hh]
    clear hh
    rw [hs]
    have b0 := nb h0; have b1 := nb h1; have b2 := nb h2; have b3 := nb h3; have b4 := nb h4; have b5 := nb h5; have b6 := nb h6; have b7 := nb h7; have b8 := nb h8; have b9 := nb h9; have b10 := nb h10; have b11 := nb h11; have b12 := nb h12
    clear h0 h1 h2 h3 h4 h5 h6 h7 h8 h9 h10 h11 h12 hs
    go_enter Try.func66, Try.ntmps66
    go_wp2
    go_ret
    exact ⟨rfl, rfl⟩
  all_goals
    go_enter Try.func66, Try.ntmps66
    go_wp2
    go_ret
    exact ⟨rfl, rfl⟩
set_option maxHeartbeats 4000000 in
set_option maxRecDepth 100000 in
theorem rtoken_any (k : Int) (w : World) : Calls Try.prog 14 #[.int .u8 k] w fun e w' => e = .returned (.bool (isTok k)) ∧ w' = w := by
  have key : (1 ≤ k ∧ k ≤ 17) ∨ k < 1 ∨ (17 < k ∧ k < 20) ∨ (20 ≤ k ∧ k ≤ 40) ∨ 40 < k := by omega
  rcases key with h | h | h | h | h
  · have d1 : decide (1 ≤ k) = true := by simp; omega
    have d2 : decide (k ≤ 17) = true := by simp; omega
    have hs : isTok k = true := by unfold isTok; rw [d1, d2]; simp
    rw [hs]
    clear h hs
    go_enter Try.func14, Try.ntmps14
    go_wp2
    go_ret
    exact ⟨rfl, rfl⟩
  · have d1 : decide (1 ≤ k) = false := by simp; omega
    have d3 : decide (20 ≤ k) = false := by simp; omega
    have hs : isTok k = false := by unfold isTok; rw [d1, d3]; simp
    rw [hs]
    clear h hs
    go_enter Try.func14, Try.ntmps14
    go_wp2
    go_ret
    exact ⟨rfl, rfl⟩
  · have d1 : decide (1 ≤ k) = true := by simp; omega
    have d2 : decide (k ≤ 17) = false := by simp; omega
    have d3 : decide (20 ≤ k) = false := by simp; omega
    have hs : isTok k = false := by unfold isTok; rw [d2, d3]; simp
    rw [hs]
    clear h hs
    go_enter Try.func14, Try.ntmps14
    go_wp2
    go_ret
    exact ⟨rfl, rfl⟩
  · have d1 : decide (1 ≤ k) = true := by simp; omega
    have d2 : decide (k ≤ 17) = false := by simp; omega
    have d3 : decide (20 ≤ k) = true := by simp; omega
    have d4 : decide (k ≤ 40) = true := by simp; omega
    have hs : isTok k = true := by unfold isTok; rw [d3, d4]; simp
    rw [hs]
    clear h hs
    go_enter Try.func14, Try.ntmps14
    go_wp2
    go_ret
    exact ⟨rfl, rfl⟩
  · have d1 : decide (1 ≤ k) = true := by simp; omega
    have d2 : decide (k ≤ 17) = false := by simp; omega
    have d3 : decide (20 ≤ k) = true := by simp; omega
    have d4 : decide (k ≤ 40) = false := by simp; omega
    have hs : isTok k = false := by unfold isTok; rw [d2, d4]; simp
    rw [hs]
    clear h hs
    go_enter Try.func14, Try.ntmps14
    go_wp2
    go_ret
    exact ⟨rfl, rfl⟩
theorem counts_tok {k : Int} (h1 : k ≠ 1) (h2 : k ≠ 2) (h3 : k ≠ 3) (h4 : k ≠ 4) (h5 : k ≠ 5) (h9 : k ≠ 9) : isTok k = counts k := by
  rw [Bool.eq_iff_iff]
  unfold isTok counts
  simp only [Bool.or_eq_true, Bool.and_eq_true, decide_eq_true_eq]
  omega
set_option maxHeartbeats 4000000 in
set_option maxRecDepth 100000 in
theorem rcounts_any (k : Int) (w : World) : Calls Try.prog 51 #[.int .u8 k] w fun e w' => e = .returned (.bool (counts k)) ∧ w' = w := by
  have key : k = 1 ∨ k = 2 ∨ k = 3 ∨ k = 4 ∨ k = 5 ∨ k = 9 ∨ (k ≠ 1 ∧ k ≠ 2 ∧ k ≠ 3 ∧ k ≠ 4 ∧ k ≠ 5 ∧ k ≠ 9) := by omega
  rcases key with rfl | rfl | rfl | rfl | rfl | rfl | ⟨h0, h1, h2, h3, h4, h5⟩
  case inr.inr.inr.inr.inr.inr =>
    have hs : counts k = isTok k := (counts_tok h0 h1 h2 h3 h4 h5).symm
    rw [hs]
    have b0 := nb h0; have b1 := nb h1; have b2 := nb h2; have b3 := nb h3; have b4 := nb h4; have b5 := nb h5
    clear h0 h1 h2 h3 h4 h5 hs
    go_enter Try.func51, Try.ntmps51
    go_wp2_with (first | (go_at_call 14; refine (rtoken_any _ _).mono ?_; rintro e w9 ⟨rfl, rfl⟩))
    go_ret
    exact ⟨rfl, rfl⟩
  all_goals
    go_enter Try.func51, Try.ntmps51
    go_wp2_with (first | (go_at_call 14; refine (rtoken_any _ _).mono ?_; rintro e w9 ⟨rfl, rfl⟩))
    go_ret
    exact ⟨rfl, rfl⟩
set_option maxHeartbeats 4000000 in
set_option maxRecDepth 100000 in
theorem rnext_any (w : World) (A : Option Addr) (c : Nat) (L : List Tok) (hT : Toks w A L) (hc : L.length ≤ c) (hL : L.length ≤ 1000000) :
    Calls Try.prog 38 #[.slice A L.length c, .int .i64 0] w fun e w' => e = .returned (.int .i64 ((nx L 0 : Nat) : Int)) ∧ Below w.heap.size w w' := by
  have HT := Aside0.mk hT
  have HL := Aside0.mk hL
  have HC := Aside0.mk hc
  clear hT hL hc
  go_enter Try.func38, Try.ntmps38
  go_wp2
  go_loopw [5] (fun v5 wr => ∃ i : Nat, i ≤ L.length ∧ v5 = .int .i64 (i : Int) ∧ Aside0 (nx L i = nx L 0) ∧ Aside0 (Below w.heap.size w wr)) (fun v5 _ => L.length - (intOf v5).toNat)
  case atStart => exact ⟨0, Nat.zero_le _, rfl, ⟨rfl⟩, ⟨Below.refl _ _⟩⟩
  case round =>
    obtain ⟨i, h2, rfl, HX, HB⟩ := hrel
    have hi0 : (0 : Int) ≤ (i : Int) := by omega
    have HT' : Aside0 (Toks wr A L) := ⟨HT.out.move (fun ad _ hlt => HB.out.block _ hlt)⟩
    by_cases hlt : i < L.length
    · have d1 : decide ((i : Int) < (L.length : Int)) = true := by simp; omega
      have d0 : decide (0 ≤ (i : Int)) = true := by simp
      have hi1 : (i : Int) < (L.length : Int) := by omega
      obtain ⟨ad, e, hc1, hc2, hc3, hk0, hk1⟩ := HT'.out.at_ i hlt
      cases e
      have htn : (i : Int).toNat = i := by omega
      have HN : Aside0 (counts (L.getD i default).kind = true → nx L i = i) := ⟨fun h => nx_yes L i hlt h⟩
      have HM : Aside0 (counts (L.getD i default).kind = false → nx L i = nx L (i + 1)) := ⟨fun h => nx_no L i hlt h⟩
      have hl6 := HL.out
      generalize (L.getD i default).kind = k at *
      clear hc2 hc3 hk0 hk1
      have HK := Aside0.mk (fun w => rcounts_any k w)
      generalize hq : counts k = q at *
      clear hq
      cases q with
      | true =>
        go_wp2_with (first | (go_at_call 51; refine (HK.out _).mono ?_; rintro e w1 ⟨rfl, rfl⟩))
        go_ret
        exact ⟨by rw [← HX.out, HN.out (by trivial)]; rfl, HB.out⟩
      | false =>
        go_wp2_with (first | (go_at_call 51; refine (HK.out _).mono ?_; rintro e w1 ⟨rfl, rfl⟩))
        go_roundw
        case rel => exact ⟨i + 1, by omega, by go_num, ⟨by rw [← HM.out (by trivial)]; exact HX.out⟩, HB⟩
        case measure => simp [intOf]; omega
    · have d1 : decide ((i : Int) < (L.length : Int)) = false := by simp; omega
      obtain rfl : i = L.length := by omega
      go_wp2
      go_ret
      exact ⟨by rw [← HX.out, nx_end L _ (Nat.le_refl _)]; rfl, HB.out⟩
end Go.Proofs.Ytalnicdpcigocaa.PR
namespace Go.Proofs.Ytalnicdpcigocaa.PR
open Go.RowKit Ps PM PL PP GR Go.Proofs.YtalnicdpcigocaaW.PrintWords Go.Proofs.YtalnicdpcigocaaW.PrintLast Go.Proofs.YtalnicdpcigocaaW.PrintMore
set_option linter.unusedVariables false
set_option linter.unusedSimpArgs false
theorem tokInfo : (Try.prog.info? 38).map (fun i => i.size) = some 3 := by kernel_rfl
theorem toks_cut (A : Option Addr) (c : Nat) (L : List Tok) (i : Nat) (hi : i ≤ L.length) (hc : L.length ≤ c) : ∃ A' : Option Addr,
    (∀ W : World, (Instr.slice 22 (.slice A L.length c) (some (.int .i64 (i : Int))) none none).run Try.prog W = .ok (.slice A' (L.drop i).length (c - i)) W) ∧ ∀ w, Toks w A L → Toks w A' (L.drop i) := by
  obtain ⟨i0, hi0, hsz⟩ := Option.map_eq_some_iff.1 tokInfo
  refine ⟨if c = i then A else A.map (·.add (i * 3)), fun W => ?_, fun w h j t ht => ?_⟩
  · have hel : Try.prog.elem 22 = 38 := by simp [Program.elem, Try.underlying22]
    have hu : Try.prog.underlying 22 = some (.slice (Try.prog.elem 22)) := by rw [hel]; exact Try.underlying22
    rw [run_slice_l W 22 A L.length c hu .i64 (i : Int) (Int.natCast_nonneg _) (by omega), hel]
    simp [sizeOf, typeInfo, hi0, hsz, sliced, Result.andThen]
  · rw [List.getElem?_drop] at ht
    obtain ⟨ad, rfl, h1⟩ := h (i + j) t ht
    have hlt : i + j < L.length := by
      rcases Nat.lt_or_ge (i + j) L.length with h | h
      · exact h
      · rw [List.getElem?_eq_none h] at ht; cases ht
    rw [if_neg (by omega)]
    refine ⟨ad.add (i * 3), rfl, ?_⟩
    rw [Addr.add_add, ← Nat.add_mul]
    exact h1
theorem nx_drop (L : List Tok) (i : Nat) : nx (L.drop i) 0 + i = nx L i := by
  unfold nx
  rw [List.drop_zero]
  omega
set_option maxHeartbeats 4000000 in
set_option maxRecDepth 100000 in
theorem rhand_any (C : RC) (w : World) (pb : Nat) (st : RSt) (hP : RPar C w pb st) :
    Calls Try.prog 24 #[.pointer (some ⟨pb, 0, none⟩)] w fun e w' => e = .returned (.int .i64 ((nx C.L st.at_ : Nat) : Int)) ∧ Below w.heap.size w w' := by
  obtain ⟨a, p, hb⟩ := hP.block
  have hlt := blk_lt hb
  have hc0 : w.cell? ⟨pb, 0, none⟩ = some (.slice C.A C.L.length C.c) := by rw [blk_cell hb]; rfl
  have hc1 : w.cell? ⟨pb, 1, none⟩ = some (.int .i64 (st.at_ : Int)) := by rw [blk_cell hb]; rfl
  have hle := hP.le
  have hcc := C.hc
  have hLL := C.hL
  have HP := Aside0.mk hP
  have HB := Aside0.mk hb
  obtain ⟨A', hsl, htk⟩ := toks_cut C.A C.c C.L st.at_ hle hcc
  have hlen : (C.L.drop st.at_).length ≤ C.c - st.at_ := by rw [List.length_drop]; omega
  have HX := Aside0.mk (nx_drop C.L st.at_)
  have HN := Aside0.mk (fun (W : World) (hW : W.heap = w.heap) => rnext_any W A' (C.c - st.at_) (C.L.drop st.at_) ((htk _ (C.toks _ hP.inv)).move (fun _ _ _ => by rw [hW])) hlen (by rw [List.length_drop]; omega))
  have hnl := nx_le C.L st.at_ hle
  clear hP hb htk hlen
  generalize C.L.drop st.at_ = L' at *
  generalize C.L.length = n at *
  generalize st.at_ = at_ at *
  generalize nx C.L at_ = z at *
  generalize nx L' 0 = y at *
  generalize L'.length = m at *
  have hy : y + at_ = z := HX.out
  have hyi : (y : Int) + (at_ : Int) = (z : Int) := by omega
  have hz1 : (z : Int) ≤ 16384 := by omega
  clear HX hle hcc hy
  go_enter Try.func24, Try.ntmps24
  go_wp2_with fail
  go_region_held3 (fun w' => w'.cell? ⟨pb, 0, none⟩ = some (.slice C.A n C.c) ∧ w'.cell? ⟨pb, 1, none⟩ = some (.int .i64 (at_ : Int))) (first | go_keep | (refine ⟨(World.cell?_of_block (w := w) (hb1.block pb hlt)).trans hc0, (World.cell?_of_block (w := w) (hb1.block pb hlt)).trans hc1⟩)) ((go_at_call 38; refine (HN.out _ (by rfl)).mono ?_; rintro e w1 ⟨rfl, hb1⟩))
  have hz0 : (0 : Int) ≤ (z : Int) := by omega
  have hwz : IntKind.i64.wrap (z : Int) = (z : Int) := by rw [i64_w]; unfold wrap64; omega
  rw [hwz]
  go_wp2
  go_ret
  exact ⟨rfl, (Below.refl _ _).drew.trans (Below.mono hb1 (Nat.le_refl _))⟩
theorem rkd_nat (C : RC) {w : World} {pb : Nat} {st : RSt} (hP : RPar C w pb st) : ∃ k : Nat, st.kd C.L = (k : Int) ∧ k < 256 := by
  by_cases hlt : nx C.L st.at_ < C.L.length
  · obtain ⟨ad, e, hk1, hk2, hk3, hk0, hk9⟩ := (C.toks _ hP.inv).at_ _ hlt
    refine ⟨(st.kd C.L).toNat, ?_, ?_⟩ <;> (unfold St.kd kindAt; rw [if_pos hlt]; omega)
  · exact ⟨0, by unfold St.kd kindAt; rw [if_neg hlt]; rfl, by omega⟩
set_option maxHeartbeats 4000000 in
set_option maxRecDepth 100000 in
theorem rkind_any (C : RC) (w : World) (pb : Nat) (st : RSt) (hP : RPar C w pb st) :
    Calls Try.prog 15 #[.pointer (some ⟨pb, 0, none⟩)] w fun e w' => e = .returned (.int .u8 (st.kd C.L)) ∧ Below w.heap.size w w' := by
  obtain ⟨a, p, hb⟩ := hP.block
  have hlt := blk_lt hb
  have hle := nx_le C.L st.at_ hP.le
  have HH := Aside0.mk (rhand_any C w pb st hP)
  have HB := Aside0.mk hb
  have hcl : ∀ w1, Below w.heap.size w w1 → w1.cell? ⟨pb, 0, none⟩ = some (.slice C.A C.L.length C.c) := fun w1 h1 => by rw [blk_cell ((h1.block pb hlt).trans hb)]; rfl
  have HCL := Aside0.mk hcl
  by_cases hl : nx C.L st.at_ < C.L.length
  · have d1 : (((nx C.L st.at_ : Nat) : Int) == (C.L.length : Int)) = false := by simp; omega
    have HT := Aside0.mk (fun w1 (h1 : Below w.heap.size w w1) => ((C.toks _ hP.inv).move (fun ad _ h => h1.block _ h)).at_ _ hl)
    have hkd : st.kd C.L = (C.L.getD (nx C.L st.at_) default).kind := by unfold St.kd kindAt; rw [if_pos hl]
    rw [hkd]
    have hi0 : (0 : Int) ≤ ((nx C.L st.at_ : Nat) : Int) := by omega
    have hi1 : ((nx C.L st.at_ : Nat) : Int) < (C.L.length : Int) := by omega
    have htn : ((nx C.L st.at_ : Nat) : Int).toNat = nx C.L st.at_ := by omega
    clear hb hcl hkd hle hl hP
    generalize C.L.getD (nx C.L st.at_) default = tk at *
    generalize nx C.L st.at_ = z at *
    go_enter Try.func15, Try.ntmps15
    go_wp2_with (first | (go_at_call 24; refine HH.out.mono ?_; rintro e w1 ⟨rfl, hb1⟩; have hc0 := HCL.out w1 hb1; obtain ⟨ad, eA, hk1, hk2, hk3, hk0, hk9⟩ := HT.out w1 hb1; rw [eA] at hc0; clear hk2 hk3 hk0 hk9))
    go_ret
    exact ⟨rfl, hb1⟩
  · have he : nx C.L st.at_ = C.L.length := by omega
    have hkd : st.kd C.L = 0 := by unfold St.kd kindAt; rw [if_neg hl]
    rw [hkd]
    rw [he] at HH
    have d1 : ((C.L.length : Int) == (C.L.length : Int)) = true := by simp
    clear hb hcl hkd hle hl hP he
    go_enter Try.func15, Try.ntmps15
    go_wp2_with (first | (go_at_call 24; refine HH.out.mono ?_; rintro e w1 ⟨rfl, hb1⟩; have hc0 := HCL.out w1 hb1))
    go_ret
    exact ⟨rfl, hb1⟩
end Go.Proofs.Ytalnicdpcigocaa.PR
namespace Go.Proofs.Ytalnicdpcigocaa.PR
open Go.RowKit Ps PM PL PP GR Go.Proofs.YtalnicdpcigocaaW.PrintWords Go.Proofs.YtalnicdpcigocaaW.PrintLast Go.Proofs.YtalnicdpcigocaaW.PrintMore
set_option linter.unusedVariables false
set_option linter.unusedSimpArgs false
theorem RRun.box {C : RC} {Z : Nat → Prop} {bs : List Bx} {pb : Nat} {w : World} {v : Value} {kids : List Tr} {st : RSt} {w1 : World} {v1 : Value} (h : RRun C Z bs pb w v kids st w1 v1) (nb : Nat) (cs : Array Value) (T : TypeId) (hn : nb = w1.heap.size) : RRun C Z ((nb, cs, T) :: bs) pb w v kids st (w1.alloc (.cells cs T)) v1 := by
  subst hn
  exact h.alloc cs T
theorem RRun.sl {C : RC} {Z : Nat → Prop} {bs : List Bx} {pb : Nat} {w : World} {v : Value} {kids : List Tr} {st : RSt} {w1 : World} {v1 : Value} (h : RRun C Z bs pb w v kids st w1 v1) : ∃ (A : Option Addr) (n c : Nat), v1 = .slice A n c := by
  obtain ⟨A, c, e⟩ := PP.own_slice h.nd.row.choose_spec.1
  exact ⟨A, _, c, e⟩
/-- add was called -/
theorem RRun.addk {C : RC} {Z : Nat → Prop} {bs : List Bx} {pb : Nat} {w : World} {v : Value} {kids : List Tr} {st : RSt} {w1 : World} {v1 : Value} (h : RRun C Z bs pb w v kids st w1 v1) {kind : Int} {kids2 : List Tr} {e : Ending} {w2 : World}
    (k : ∃ v', e = .returned (.agg #[.int .u8 kind, .int .u8 0, .int .i64 (wsum kids2 0), v']) ∧ (v'.ownBlock = v1.ownBlock ∨ ∀ g, v'.ownBlock = some g → w1.heap.size ≤ g) ∧ ND C (Up C (fun b => Up C Z w.heap.size b ∧ ∀ x ∈ bs, x.1 ≠ b) w1.heap.size) w2 kids2 v' ∧ FrX (fun b => v1.ownBlock = some b) w1 w2) :
    ∃ v2, e = .returned (.agg #[.int .u8 kind, .int .u8 0, .int .i64 (wsum kids2 0), v2]) ∧ RRun C Z bs pb w v kids2 st w2 v2 := by
  obtain ⟨v2, he, h1, h2, h3⟩ := k
  have hpl := h.par.lo
  exact ⟨v2, he, h.next h1 h2 (h.par.move h3 (fun e => h.nopb (h.nd.ownZ _ e)) (fun b hb e => by have := (h.nd.own_lt e).1; omega)) (h3.mono (fun b _ e => Or.inr e))⟩
theorem RRun.lo {C : RC} {Z : Nat → Prop} {bs : List Bx} {pb : Nat} {w : World} {v : Value} {kids : List Tr} {st : RSt} {w1 : World} {v1 : Value} (h : RRun C Z bs pb w v kids st w1 v1) : C.lo ≤ w1.heap.size := Nat.le_trans h.par.lo (Nat.le_of_lt h.par.lt)
theorem RRun.addN {C : RC} {Z : Nat → Prop} {bs : List Bx} {pb : Nat} {w : World} {v : Value} {kids : List Tr} {st : RSt} {w1 : World} {v1 : Value} (h : RRun C Z bs pb w v kids st w1 v1) (kind wd : Int) (t : Tr) (cs : List Value) (hwd : wsum kids 0 = wd)
    (hN : NodeC (fun b => (Up C Z w.heap.size b ∧ ∀ x ∈ bs, x.1 ≠ b) ∧ v1.ownBlock ≠ some b) w1 t cs) (hlen : kids.length ≤ 1000000) :
    Calls Try.prog 27 #[.agg #[.int .u8 kind, .int .u8 0, .int .i64 wd, v1], .agg cs.toArray] w1 fun e w' => ∃ v2, e = .returned (.agg #[.int .u8 kind, .int .u8 0, .int .i64 (wsum (kids ++ [t]) 0), v2]) ∧ RRun C Z bs pb w v (kids ++ [t]) st w' v2 :=
  (radd_any C _ w1 kind wd kids v1 t cs hwd h.lo h.nd hN hlen).mono (fun e w' k => h.addk k)
set_option maxHeartbeats 4000000 in
set_option maxRecDepth 100000 in
theorem rmissing_any (C : RC) (Z : Nat → Prop) (w : World) (pb : Nat) (kind wd : Int) (kids : List Tr) (v : Value) (st : RSt) (k : Int) (hwd : wsum kids 0 = wd) (hZ : ¬ Z pb) (hD : ND C Z w kids v) (hP : RPar C w pb st) (hlen : kids.length ≤ 1000000) :
    Calls Try.prog 52 #[.agg #[.int .u8 kind, .int .u8 0, .int .i64 wd, v], .int .u8 k] w (RPost C Z pb w v kind (kids ++ [Ps.missing k]) st) := by
  obtain ⟨A0, c0, rfl⟩ : ∃ A c, v = .slice A kids.length c := PP.own_slice hD.row.choose_spec.1
  have HR := Aside0.mk (((RRun.start hD hP hZ).box w.heap.size #[.int .u8 kind, .int .u8 0, .int .i64 wd, .slice A0 kids.length c0] 25 rfl).box (w.heap.size + 1) #[.int .u8 0, .int .u8 0, .int .i64 0, .slice none 0 0] 25 (by simp only [World.size_alloc]))
  clear hD hP
  go_enter Try.func52, Try.ntmps52
  go_wp2_with (first | (go_at_call 27; refine (HR.out.addN kind wd (Ps.missing k) [.int .u8 50, .int .u8 k, .int .i64 0, .slice none 0 0] hwd (leafC _ _ _ _ _) hlen).mono ?_; rintro e w1 ⟨v1, rfl, hR⟩; obtain ⟨A1, n1, c1, rfl⟩ := hR.sl; clear HR; have HR := Aside0.mk hR; clear hR; obtain ⟨r0, r1, r2, r3, rf⟩ := HR.out.box0))
  refine bodyPost_ret (results_cell_row rfl _ _ (w.heap.size + 1) 25 _ (0, 0) _ rfl (HR.out.st0 _ _ _ _).bx0 Try.underlying25 rfl (by kernel_rfl)) rfl ((HR.out.st0 _ _ _ _).post kind)
/-- the next token is taken -/
theorem RPar.step1 {C : RC} {w : World} {pb i : Nat} (h : RPar C w pb ⟨i, ()⟩) (hi : i < C.L.length) : RPar C (w.setCell ⟨pb, 1, none⟩ (.int .i64 ((i : Int) + 1))) pb ⟨i + 1, ()⟩ := by
  obtain ⟨a, p, hb⟩ := h.block
  have hpl := h.lo
  refine ⟨⟨a, p, ?_⟩, h.lo, C.keep _ _ h.inv (fun b hb => heap_setCell_other _ _ _ _ (show b ≠ pb by omega)), hi⟩
  show _ = some (Obj.cells #[.slice C.A C.L.length C.c, .int .i64 ((i + 1 : Nat) : Int), .slice C.AT C.T.length C.cT, .int .i64 a, .int .i64 p] _ _)
  rw [show ((i + 1 : Nat) : Int) = (i : Int) + 1 by omega]
  exact (heap_setCell_same _ pb 1 #[.slice C.A C.L.length C.c, .int .i64 (i : Int), .slice C.AT C.T.length C.cT, .int .i64 a, .int .i64 p] 50 _ hb).trans (by simp)
theorem RRun.step1 {C : RC} {Z : Nat → Prop} {bs : List Bx} {pb : Nat} {w : World} {v : Value} {kids : List Tr} {i : Nat} {w1 : World} {v1 : Value} (h : RRun C Z bs pb w v kids ⟨i, ()⟩ w1 v1) (hi : i < C.L.length) : RRun C Z bs pb w v kids ⟨i + 1, ()⟩ (w1.setCell ⟨pb, 1, none⟩ (.int .i64 ((i : Int) + 1))) v1 :=
  h.part (FrX.set (X := fun b => b = pb) (FrX.refl _ _) (Or.inl rfl) _) (h.par.step1 hi)
theorem RPar.cells {C : RC} {w : World} {pb : Nat} {st : RSt} (h : RPar C w pb st) : w.cell? ⟨pb, 0, none⟩ = some (.slice C.A C.L.length C.c) ∧ w.cell? ⟨pb, 1, none⟩ = some (.int .i64 (st.at_ : Int)) ∧ ∀ j, w.frozen? ⟨pb, j, none⟩ = false := by
  obtain ⟨a, p, hb⟩ := h.block
  refine ⟨?_, ?_, blk_frozen hb⟩ <;> (rw [blk_cell hb]; rfl)
set_option maxHeartbeats 4000000 in
set_option maxRecDepth 100000 in
theorem rgap_any (C : RC) (Z : Nat → Prop) (w : World) (pb : Nat) (kind wd : Int) (kids : List Tr) (v : Value) (st : RSt) (hwd : wsum kids 0 = wd) (hZ : ¬ Z pb) (hD : ND C Z w kids v) (hP : RPar C w pb st) (hlen : kids.length ≤ 500000) :
    Calls Try.prog 17 #[.pointer (some ⟨pb, 0, none⟩), .agg #[.int .u8 kind, .int .u8 0, .int .i64 wd, v]] w (RPost C Z pb w v kind (kids ++ gapL C.L st) (st.to C.L)) := by
  obtain ⟨A0, c0, rfl⟩ : ∃ A c, v = .slice A kids.length c := PP.own_slice hD.row.choose_spec.1
  generalize hkl : kids.length = kl at *
  have HR := Aside0.mk (((RRun.start hD hP hZ).box w.heap.size #[.int .u8 kind, .int .u8 0, .int .i64 wd, .slice A0 kl c0] 25 rfl).box (w.heap.size + 1) #[.int .u8 0, .int .u8 0, .int .i64 0, .slice none 0 0] 25 (by simp only [World.size_alloc]))
  have HD := Aside0.mk hD
  have hL := C.hL
  have hnl := nx_le C.L st.at_ hP.le
  clear hD hP
  subst hwd
  go_enter Try.func17, Try.ntmps17
  go_wp2_with (first | (go_at_call 24; refine (rhand_any C _ pb st HR.out.par).mono ?_; rintro e w1 ⟨rfl, hb1⟩; have hR := HR.out.below hb1; clear HR; have HR := Aside0.mk hR; clear hR hb1))
  go_loopw [] (fun wr => ∃ (i : Nat) (v' : Value), st.at_ ≤ i ∧ i ≤ nx C.L st.at_ ∧
    Aside0 (RRun C Z [(w.heap.size + 1, #[.int .u8 0, .int .u8 0, .int .i64 0, .slice none 0 0], 25), (w.heap.size, #[.int .u8 kind, .int .u8 0, .int .i64 (wsum (kids ++ ((C.L.drop st.at_).take (i - st.at_)).map leaf) 0), v'], 25)] pb w (.slice A0 kl c0) (kids ++ ((C.L.drop st.at_).take (i - st.at_)).map leaf) ⟨i, ()⟩ wr v'))
    (fun wr => nx C.L st.at_ - (match wr.cell? ⟨pb, 1, none⟩ with | some (.int .i64 i) => i.toNat | _ => 0))
  case atStart => exact ⟨st.at_, _, Nat.le_refl _, nx_ge _ _, ⟨by simpa using HR.out⟩⟩
  case round =>
    clear HR
    obtain ⟨i, v', h1, h2, HR⟩ := hrel
    obtain ⟨A2, n2, c2, rfl⟩ := HR.out.sl
    have hpw := HR.out.plt
    obtain ⟨hp0, hp1, hpf⟩ := HR.out.par.cells
    obtain ⟨y0, y1, y2, y3, yf⟩ := HR.out.box1
    obtain ⟨r0, r1, r2, r3, rf⟩ := HR.out.box0
    by_cases hlt : i < nx C.L st.at_
    · have d1 : decide ((i : Int) < ((nx C.L st.at_ : Nat) : Int)) = true := by simp; omega
      have hi0 : (0 : Int) ≤ (i : Int) := by omega
      have hi1 : (i : Int) < (C.L.length : Int) := by omega
      have htn : (i : Int).toNat = i := by omega
      have hiL : i < C.L.length := by omega
      have hlen' : (kids ++ ((C.L.drop st.at_).take (i - st.at_)).map leaf).length ≤ 1000000 := by
        rw [List.length_append, List.length_map, List.length_take]
        have : min (i - st.at_) (C.L.drop st.at_).length ≤ i - st.at_ := Nat.min_le_left _ _
        omega
      obtain ⟨ad, e, hk1, hk2, hk3, hk0, hk9⟩ := (C.toks _ HR.out.par.inv).at_ i hiL
      rw [e] at hp0
      clear hk0 hk9
      generalize htk : C.L.getD i default = tk at *
      generalize hK : kids ++ ((C.L.drop st.at_).take (i - st.at_)).map leaf = K at *
      have HTK := Aside0.mk htk
      have HKK := Aside0.mk hK
      have HM := Aside0.mk hp1
      clear htk hK
      go_wp2_with fail
      go_still_tail 24, (by kernel_rfl)
      change wpList _ _ _ _ _ wr.drew
      have hR := HR.out.below (Below.refl _ _).drew
      clear HR
      have HR := Aside0.mk hR
      clear hR
      go_wp2_with (first | (go_at_call 27; refine (HR.out.addN kind _ (leaf tk) [.int .u8 tk.kind, .int .u8 0, .int .i64 tk.width, .slice none 0 0] rfl (leafC _ _ _ _ _) hlen').mono ?_; rintro e w3 ⟨v3, rfl, hR⟩; obtain ⟨A3, n3, c3, rfl⟩ := hR.sl; clear HR; have HR := Aside0.mk hR; clear hR; clear r0 r1 r2 r3 rf hp0 hp1 hpf; obtain ⟨hp0, hp1, hpf⟩ := HR.out.par.cells; obtain ⟨s0, s1, s2, s3, sf⟩ := HR.out.box1))
      go_roundw
      case rel =>
        have hn1 : ((C.L.drop st.at_).take (i + 1 - st.at_)).map leaf = ((C.L.drop st.at_).take (i - st.at_)).map leaf ++ [leaf tk] := by
          rw [take_next C.L st.at_ i h1 hiL, HTK.out, List.map_append]; rfl
        refine ⟨i + 1, .slice A3 n3 c3, by omega, by omega, ⟨?_⟩⟩
        rw [hn1, ← List.append_assoc, HKK.out]
        exact (HR.out.st1 _ _ _ _).step1 hiL
      case measure =>
        have hc := ((HR.out.st1 (.int .u8 kind) (.int .u8 0) (.int .i64 (wsum (K ++ [leaf tk]) 0)) (.slice A3 n3 c3)).step1 hiL).par.cells.2.1
        rw [hc, HM.out]
        show nx C.L st.at_ - (((i + 1 : Nat) : Int)).toNat < nx C.L st.at_ - ((i : Int)).toNat
        omega
    · have d1 : decide ((i : Int) < ((nx C.L st.at_ : Nat) : Int)) = false := by simp; omega
      have hie : i = nx C.L st.at_ := by omega
      subst hie
      have hR : RRun C Z [(w.heap.size + 1, #[.int .u8 0, .int .u8 0, .int .i64 0, .slice none 0 0], 25), (w.heap.size, #[.int .u8 kind, .int .u8 0, .int .i64 (wsum (kids ++ gapL C.L st) 0), .slice A2 n2 c2], 25)] pb w (.slice A0 kl c0) (kids ++ gapL C.L st) (st.to C.L) wr (.slice A2 n2 c2) := HR.out
      clear HR
      have HR := Aside0.mk hR
      replace y2 : wr.cell? ⟨w.heap.size, 2, none⟩ = some (.int .i64 (wsum (kids ++ gapL C.L st) 0)) := y2
      clear hR
      generalize kids ++ gapL C.L st = K at *
      go_wp2
      refine bodyPost_ret (results_cell_row rfl _ _ (w.heap.size + 1) 25 _ (0, 0) _ rfl (HR.out.st0 _ _ _ _).bx0 Try.underlying25 rfl (by kernel_rfl)) rfl ((HR.out.st0 _ _ _ _).post kind)
end Go.Proofs.Ytalnicdpcigocaa.PR
namespace Go.Proofs.Ytalnicdpcigocaa.PR
open Go.RowKit Ps PM PL PP GR Go.Proofs.YtalnicdpcigocaaW.PrintWords Go.Proofs.YtalnicdpcigocaaW.PrintLast Go.Proofs.YtalnicdpcigocaaW.PrintMore
set_option linter.unusedVariables false
set_option linter.unusedSimpArgs false
theorem rgap_len (C : RC) (st : RSt) : (gapL C.L st).length ≤ 16384 := PP.gap_len C.L st C.hL
theorem RRun.gap {C : RC} {Z : Nat → Prop} {bs : List Bx} {pb : Nat} {w : World} {v : Value} {kids : List Tr} {st : RSt} {w1 : World} {v1 : Value} (h : RRun C Z bs pb w v kids st w1 v1) (kind wd : Int) (hwd : wsum kids 0 = wd) (hlen : kids.length ≤ 500000) :
    Calls Try.prog 17 #[.pointer (some ⟨pb, 0, none⟩), .agg #[.int .u8 kind, .int .u8 0, .int .i64 wd, v1]] w1 fun e w' => ∃ v2, e = .returned (.agg #[.int .u8 kind, .int .u8 0, .int .i64 (wsum (kids ++ gapL C.L st) 0), v2]) ∧ RRun C Z bs pb w v (kids ++ gapL C.L st) (st.to C.L) w' v2 :=
  (rgap_any C _ w1 pb kind wd kids v1 st hwd h.nopb h.nd h.par hlen).mono (fun e w' k => h.step k)
theorem RRun.miss {C : RC} {Z : Nat → Prop} {bs : List Bx} {pb : Nat} {w : World} {v : Value} {kids : List Tr} {st : RSt} {w1 : World} {v1 : Value} (h : RRun C Z bs pb w v kids st w1 v1) (kind wd k : Int) (hwd : wsum kids 0 = wd) (hlen : kids.length ≤ 1000000) :
    Calls Try.prog 52 #[.agg #[.int .u8 kind, .int .u8 0, .int .i64 wd, v1], .int .u8 k] w1 fun e w' => ∃ v2, e = .returned (.agg #[.int .u8 kind, .int .u8 0, .int .i64 (wsum (kids ++ [Ps.missing k]) 0), v2]) ∧ RRun C Z bs pb w v (kids ++ [Ps.missing k]) st w' v2 :=
  (rmissing_any C _ w1 pb kind wd kids v1 st k hwd h.nopb h.nd h.par hlen).mono (fun e w' k => h.step k)
set_option maxHeartbeats 4000000 in
set_option maxRecDepth 100000 in
theorem rtake_any (C : RC) (Z : Nat → Prop) (w : World) (pb : Nat) (kind wd : Int) (kids : List Tr) (v : Value) (st : RSt) (hwd : wsum kids 0 = wd) (hZ : ¬ Z pb) (hD : ND C Z w kids v) (hP : RPar C w pb st) (hlen : kids.length ≤ 400000) (hk : st.kd C.L ≠ 0) :
    Calls Try.prog 29 #[.pointer (some ⟨pb, 0, none⟩), .agg #[.int .u8 kind, .int .u8 0, .int .i64 wd, v]] w (RPost C Z pb w v kind (kids ++ (nextL C.L st).1) (nextL C.L st).2) := by
  obtain ⟨A0, c0, rfl⟩ : ∃ A c, v = .slice A kids.length c := PP.own_slice hD.row.choose_spec.1
  generalize hkl : kids.length = kl at *
  have HR := Aside0.mk (((RRun.start hD hP hZ).box w.heap.size #[.int .u8 kind, .int .u8 0, .int .i64 wd, .slice A0 kl c0] 25 rfl).box (w.heap.size + 1) #[.int .u8 0, .int .u8 0, .int .i64 0, .slice none 0 0] 25 (by simp only [World.size_alloc]))
  have hL := C.hL
  have hpw := hP.lt
  have hlt := kd_lt hk
  have hgl := rgap_len C st
  have HWD := Aside0.mk hwd
  have hK : kids ++ (nextL C.L st).1 = kids ++ gapL C.L st ++ [leaf (C.L.getD (nx C.L st.at_) default)] := by rw [List.append_assoc]; rfl
  rw [hK]
  show Calls _ _ _ _ (RPost C Z pb w _ kind _ ⟨nx C.L st.at_ + 1, ()⟩)
  have hlen1 : (kids ++ gapL C.L st).length ≤ 1000000 := by rw [List.length_append]; omega
  clear hD hP hK hwd hk
  generalize hz : nx C.L st.at_ = z at *
  have HZ := Aside0.mk hz
  have hi0 : (0 : Int) ≤ (z : Int) := by omega
  have hi1 : (z : Int) < (C.L.length : Int) := by omega
  have htn : (z : Int).toNat = z := by omega
  clear hz
  go_enter Try.func29, Try.ntmps29
  go_wp2_with (first | (go_at_call 17; refine (HR.out.gap kind wd HWD.out (by omega)).mono ?_; rintro e w1 ⟨v1, rfl, hR⟩; obtain ⟨A1, n1, c1, rfl⟩ := hR.sl; clear HR; unfold St.to at hR; rw [HZ.out] at hR; have HR := Aside0.mk hR; clear hR; obtain ⟨r0, r1, r2, r3, rf⟩ := HR.out.box0; obtain ⟨y0, y1, y2, y3, yf⟩ := HR.out.box1; obtain ⟨hp0, hp1, hpf⟩ := HR.out.par.cells; generalize kids ++ gapL C.L st = K at *))
  have hR := HR.out.st1 (.int .u8 kind) (.int .u8 0) (.int .i64 (wsum K 0)) (.slice A1 n1 c1)
  clear HR r0 r1 r2 r3 rf y0 y1 y2 y3 yf hp0 hp1 hpf
  generalize ((((w1.setCell ⟨w.heap.size, 0, none⟩ (.int .u8 kind)).setCell ⟨w.heap.size, 1, none⟩ (.int .u8 0)).setCell ⟨w.heap.size, 2, none⟩ (.int .i64 (wsum K 0))).setCell ⟨w.heap.size, 3, none⟩ (.slice A1 n1 c1)) = w2 at *
  have HR := Aside0.mk hR
  clear hR
  obtain ⟨r0, r1, r2, r3, rf⟩ := HR.out.box0
  obtain ⟨y0, y1, y2, y3, yf⟩ := HR.out.box1
  obtain ⟨hp0, hp1, hpf⟩ := HR.out.par.cells
  obtain ⟨ad, e, hk1, hk2, hk3, hk0, hk9⟩ := (C.toks _ HR.out.par.inv).at_ z hlt
  rw [e] at hp0
  clear hk0 hk9
  generalize htk : C.L.getD z default = tk at *
  clear htk
  go_still_tail 24, (by kernel_rfl)
  change wpList _ _ _ _ _ w2.drew
  have hR := HR.out.below (Below.refl _ _).drew
  clear HR
  have HR := Aside0.mk hR
  clear hR
  go_wp2_with (first | (go_at_call 27; refine (HR.out.addN kind _ (leaf tk) [.int .u8 tk.kind, .int .u8 0, .int .i64 tk.width, .slice none 0 0] rfl (leafC _ _ _ _ _) hlen1).mono ?_; rintro e w3 ⟨v3, rfl, hR⟩; obtain ⟨A3, n3, c3, rfl⟩ := hR.sl; clear HR; have HR := Aside0.mk hR; clear hR; clear r0 r1 r2 r3 rf hp0 hp1 hpf; obtain ⟨hp0, hp1, hpf⟩ := HR.out.par.cells; obtain ⟨s0, s1, s2, s3, sf⟩ := HR.out.box1; obtain ⟨r0, r1, r2, r3, rf⟩ := HR.out.box0))
  generalize K ++ [leaf tk] = K2 at *
  refine bodyPost_ret (results_cell_row rfl _ _ (w.heap.size + 1) 25 _ (0, 0) _ rfl (((HR.out.st1 _ _ _ _).step1 hlt).st0 _ _ _ _).bx0 Try.underlying25 rfl (by kernel_rfl)) rfl ((((HR.out.st1 _ _ _ _).step1 hlt).st0 _ _ _ _).post kind)
end Go.Proofs.Ytalnicdpcigocaa.PR
namespace Go.Proofs.Ytalnicdpcigocaa.PR
open Go.RowKit Ps PM PL PP GR Go.Proofs.YtalnicdpcigocaaW.PrintWords Go.Proofs.YtalnicdpcigocaaW.PrintLast Go.Proofs.YtalnicdpcigocaaW.PrintMore
set_option linter.unusedVariables false
set_option linter.unusedSimpArgs false
theorem RRun.take {C : RC} {Z : Nat → Prop} {bs : List Bx} {pb : Nat} {w : World} {v : Value} {kids : List Tr} {st : RSt} {w1 : World} {v1 : Value} (h : RRun C Z bs pb w v kids st w1 v1) (kind wd : Int) (hwd : wsum kids 0 = wd) (hlen : kids.length ≤ 400000) (hk : st.kd C.L ≠ 0) :
    Calls Try.prog 29 #[.pointer (some ⟨pb, 0, none⟩), .agg #[.int .u8 kind, .int .u8 0, .int .i64 wd, v1]] w1 fun e w' => ∃ v2, e = .returned (.agg #[.int .u8 kind, .int .u8 0, .int .i64 (wsum (kids ++ (nextL C.L st).1) 0), v2]) ∧ RRun C Z bs pb w v (kids ++ (nextL C.L st).1) (nextL C.L st).2 w' v2 :=
  (rtake_any C _ w1 pb kind wd kids v1 st hwd h.nopb h.nd h.par hlen hk).mono (fun e w' k => h.step k)
set_option maxHeartbeats 4000000 in
set_option maxRecDepth 100000 in
theorem rwant_any (C : RC) (Z : Nat → Prop) (w : World) (pb : Nat) (kind wd : Int) (kids : List Tr) (v : Value) (st : RSt) (k : Int) (hk0 : k ≠ 0) (hwd : wsum kids 0 = wd) (hZ : ¬ Z pb) (hD : ND C Z w kids v) (hP : RPar C w pb st) (hlen : kids.length ≤ 400000) :
    Calls Try.prog 40 #[.pointer (some ⟨pb, 0, none⟩), .agg #[.int .u8 kind, .int .u8 0, .int .i64 wd, v], .int .u8 k] w (RPost C Z pb w v kind (kids ++ (wantL C.L k st).1) (wantL C.L k st).2) := by
  obtain ⟨A0, c0, rfl⟩ : ∃ A c, v = .slice A kids.length c := PP.own_slice hD.row.choose_spec.1
  generalize hkl : kids.length = kl at *
  have HR := Aside0.mk (((RRun.start hD hP hZ).box w.heap.size #[.int .u8 kind, .int .u8 0, .int .i64 wd, .slice A0 kl c0] 25 rfl).box (w.heap.size + 1) #[.int .u8 0, .int .u8 0, .int .i64 0, .slice none 0 0] 25 (by simp only [World.size_alloc]))
  have hpw := hP.lt
  have HWD := Aside0.mk hwd
  have HKD := Aside0.mk (fun w h => rkind_any C w pb st h)
  have HKL := Aside0.mk hkl
  clear hD hP hwd hkl
  unfold wantL
  by_cases hk : st.kd C.L = k
  · rw [if_pos hk]
    have HKN : Aside0 (st.kd C.L ≠ 0) := ⟨by rw [hk]; exact hk0⟩
    rw [hk] at HKD
    clear hk
    go_enter Try.func40, Try.ntmps40
    go_wp2_with (first | (go_at_call 15; refine (HKD.out _ HR.out.par).mono ?_; rintro e w1 ⟨rfl, hb1⟩; have hR := HR.out.below hb1; clear HR; have HR := Aside0.mk hR; clear hR hb1; obtain ⟨r0, r1, r2, r3, rf⟩ := HR.out.box0; obtain ⟨y0, y1, y2, y3, yf⟩ := HR.out.box1) | (go_at_call 29; refine (HR.out.take kind wd HWD.out (by rw [HKL.out]; exact hlen) HKN.out).mono ?_; rintro e w2 ⟨v2, rfl, hR⟩; obtain ⟨A2, n2, c2, rfl⟩ := hR.sl; clear HR r0 r1 r2 r3 rf y0 y1 y2 y3 yf; have HR := Aside0.mk hR; clear hR; obtain ⟨r0, r1, r2, r3, rf⟩ := HR.out.box0; obtain ⟨y0, y1, y2, y3, yf⟩ := HR.out.box1))
    refine bodyPost_ret (results_cell_row rfl _ _ (w.heap.size + 1) 25 _ (0, 0) _ rfl (HR.out.st0 _ _ _ _).bx0 Try.underlying25 rfl (by kernel_rfl)) rfl ((HR.out.st0 _ _ _ _).post kind)
  · rw [if_neg hk]
    have b1 := nb hk
    generalize st.kd C.L = kd at HKD b1
    clear hk
    go_enter Try.func40, Try.ntmps40
    go_wp2_with (first | (go_at_call 15; refine (HKD.out _ HR.out.par).mono ?_; rintro e w1 ⟨rfl, hb1⟩; have hR := HR.out.below hb1; clear HR; have HR := Aside0.mk hR; clear hR hb1; obtain ⟨r0, r1, r2, r3, rf⟩ := HR.out.box0; obtain ⟨y0, y1, y2, y3, yf⟩ := HR.out.box1) | (go_at_call 52; refine (HR.out.miss kind wd k HWD.out (by rw [HKL.out]; omega)).mono ?_; rintro e w2 ⟨v2, rfl, hR⟩; obtain ⟨A2, n2, c2, rfl⟩ := hR.sl; clear HR r0 r1 r2 r3 rf y0 y1 y2 y3 yf; have HR := Aside0.mk hR; clear hR; obtain ⟨r0, r1, r2, r3, rf⟩ := HR.out.box0; obtain ⟨y0, y1, y2, y3, yf⟩ := HR.out.box1))
    refine bodyPost_ret (results_cell_row rfl _ _ (w.heap.size + 1) 25 _ (0, 0) _ rfl (HR.out.st0 _ _ _ _).bx0 Try.underlying25 rfl (by kernel_rfl)) rfl ((HR.out.st0 _ _ _ _).post kind)
theorem RRun.want {C : RC} {Z : Nat → Prop} {bs : List Bx} {pb : Nat} {w : World} {v : Value} {kids : List Tr} {st : RSt} {w1 : World} {v1 : Value} (h : RRun C Z bs pb w v kids st w1 v1) (kind wd k : Int) (hk0 : k ≠ 0) (hwd : wsum kids 0 = wd) (hlen : kids.length ≤ 400000) :
    Calls Try.prog 40 #[.pointer (some ⟨pb, 0, none⟩), .agg #[.int .u8 kind, .int .u8 0, .int .i64 wd, v1], .int .u8 k] w1 fun e w' => ∃ v2, e = .returned (.agg #[.int .u8 kind, .int .u8 0, .int .i64 (wsum (kids ++ (wantL C.L k st).1) 0), v2]) ∧ RRun C Z bs pb w v (kids ++ (wantL C.L k st).1) (wantL C.L k st).2 w' v2 :=
  (rwant_any C _ w1 pb kind wd kids v1 st k hk0 hwd h.nopb h.nd h.par hlen).mono (fun e w' k => h.step k)
end Go.Proofs.Ytalnicdpcigocaa.PR
namespace Go.Proofs.Ytalnicdpcigocaa.PR
open Go.RowKit Ps PM PL PP GR Go.Proofs.YtalnicdpcigocaaW.PrintWords Go.Proofs.YtalnicdpcigocaaW.PrintLast Go.Proofs.YtalnicdpcigocaaW.PrintMore
set_option linter.unusedVariables false
set_option linter.unusedSimpArgs false
/-- what counts of what take answers -/
def hit (T : List An) (n : Nat) (k : Int) (i : Nat) : Option (Tr × Nat) :=
  match ansOf T k i with
  | some (t, c) => if 1 ≤ c ∧ c ≤ (n : Int) - (i : Int) then some (t, c.toNat) else none
  | none => none
theorem putL_hit (C : RC) (kind : Int) (part : RSt → Option (Tr × RSt)) (st : RSt) : putL C.L C.orc kind part st =
    match hit C.T C.L.length kind (nx C.L st.at_) with
    | some (t, c) => some (gapL C.L st ++ [t], ⟨nx C.L st.at_ + c, ()⟩)
    | none => (part ⟨nx C.L st.at_, ()⟩).map (fun r => (gapL C.L st ++ [r.1], r.2)) := by
  unfold putL hit
  have e : C.orc st.s kind (nx C.L st.at_) = (ansOf C.T kind (nx C.L st.at_), ()) := rfl
  rw [e]
  cases ansOf C.T kind (nx C.L st.at_) with
  | none => rfl
  | some x =>
    obtain ⟨t, c⟩ := x
    dsimp only
    split <;> rfl
theorem hit_le {T : List An} {n : Nat} {k : Int} {i : Nat} {t : Tr} {c : Nat} (h : hit T n k i = some (t, c)) : i + c ≤ n := by
  unfold hit at h
  cases e : ansOf T k i with
  | none => rw [e] at h; cases h
  | some x =>
    obtain ⟨t', c'⟩ := x
    rw [e] at h
    dsimp only at h
    split at h
    · injection h with h; injection h with h1 h2; omega
    · cases h
theorem RPar.asked {C : RC} {w : World} {pb : Nat} {st : RSt} (h : RPar C w pb st) (x : Int) : RPar C (w.setCell ⟨pb, 3, none⟩ (.int .i64 x)) pb st := by
  obtain ⟨a, p, hb⟩ := h.block
  have hpl := h.lo
  exact ⟨⟨x, p, (heap_setCell_same _ pb 3 #[.slice C.A C.L.length C.c, .int .i64 (st.at_ : Int), .slice C.AT C.T.length C.cT, .int .i64 a, .int .i64 p] 50 _ hb).trans (by simp)⟩, h.lo, C.keep _ _ h.inv (fun b hb => heap_setCell_other _ _ _ _ (show b ≠ pb by omega)), h.le⟩
theorem RPar.putc {C : RC} {w : World} {pb : Nat} {st : RSt} (h : RPar C w pb st) (x : Int) : RPar C (w.setCell ⟨pb, 4, none⟩ (.int .i64 x)) pb st := by
  obtain ⟨a, p, hb⟩ := h.block
  have hpl := h.lo
  exact ⟨⟨a, x, (heap_setCell_same _ pb 4 #[.slice C.A C.L.length C.c, .int .i64 (st.at_ : Int), .slice C.AT C.T.length C.cT, .int .i64 a, .int .i64 p] 50 _ hb).trans (by simp)⟩, h.lo, C.keep _ _ h.inv (fun b hb => heap_setCell_other _ _ _ _ (show b ≠ pb by omega)), h.le⟩
theorem RPar.moved {C : RC} {w : World} {pb : Nat} {st : RSt} (h : RPar C w pb st) (i : Nat) (hi : i ≤ C.L.length) : RPar C (w.setCell ⟨pb, 1, none⟩ (.int .i64 (i : Int))) pb ⟨i, ()⟩ := by
  obtain ⟨a, p, hb⟩ := h.block
  have hpl := h.lo
  exact ⟨⟨a, p, (heap_setCell_same _ pb 1 #[.slice C.A C.L.length C.c, .int .i64 (st.at_ : Int), .slice C.AT C.T.length C.cT, .int .i64 a, .int .i64 p] 50 _ hb).trans (by simp)⟩, h.lo, C.keep _ _ h.inv (fun b hb => heap_setCell_other _ _ _ _ (show b ≠ pb by omega)), hi⟩
theorem RRun.asked {C : RC} {Z : Nat → Prop} {bs : List Bx} {pb : Nat} {w : World} {v : Value} {kids : List Tr} {st : RSt} {w1 : World} {v1 : Value} (h : RRun C Z bs pb w v kids st w1 v1) (x : Int) : RRun C Z bs pb w v kids st (w1.setCell ⟨pb, 3, none⟩ (.int .i64 x)) v1 :=
  h.part (FrX.set (X := fun b => b = pb) (FrX.refl _ _) (Or.inl rfl) _) (h.par.asked x)
theorem RRun.putc {C : RC} {Z : Nat → Prop} {bs : List Bx} {pb : Nat} {w : World} {v : Value} {kids : List Tr} {st : RSt} {w1 : World} {v1 : Value} (h : RRun C Z bs pb w v kids st w1 v1) (x : Int) : RRun C Z bs pb w v kids st (w1.setCell ⟨pb, 4, none⟩ (.int .i64 x)) v1 :=
  h.part (FrX.set (X := fun b => b = pb) (FrX.refl _ _) (Or.inl rfl) _) (h.par.putc x)
theorem RRun.moved {C : RC} {Z : Nat → Prop} {bs : List Bx} {pb : Nat} {w : World} {v : Value} {kids : List Tr} {st : RSt} {w1 : World} {v1 : Value} (h : RRun C Z bs pb w v kids st w1 v1) (i : Nat) (hi : i ≤ C.L.length) : RRun C Z bs pb w v kids ⟨i, ()⟩ (w1.setCell ⟨pb, 1, none⟩ (.int .i64 (i : Int))) v1 :=
  h.part (FrX.set (X := fun b => b = pb) (FrX.refl _ _) (Or.inl rfl) _) (h.par.moved i hi)
theorem RPar.cells5 {C : RC} {w : World} {pb : Nat} {st : RSt} (h : RPar C w pb st) : ∃ a p : Int, w.cell? ⟨pb, 0, none⟩ = some (.slice C.A C.L.length C.c) ∧ w.cell? ⟨pb, 1, none⟩ = some (.int .i64 (st.at_ : Int)) ∧ w.cell? ⟨pb, 2, none⟩ = some (.slice C.AT C.T.length C.cT) ∧ w.cell? ⟨pb, 3, none⟩ = some (.int .i64 a) ∧ w.cell? ⟨pb, 4, none⟩ = some (.int .i64 p) ∧ ∀ j, w.frozen? ⟨pb, j, none⟩ = false := by
  obtain ⟨a, p, hb⟩ := h.block
  refine ⟨a, p, ?_, ?_, ?_, ?_, ?_, blk_frozen hb⟩ <;> (rw [blk_cell hb]; rfl)
/-- what the row of answers says from there on -/
def rest (T : List An) (k : Int) (z i : Nat) : Option (Tr × Int) := ((T.drop i).find? (fun x => x.kind == k && x.at_ == (z : Int))).map (fun x => (x.node, x.count))
theorem rest_next {T : List An} {k : Int} {z i : Nat} {x : An} (hx : T[i]? = some x) (h : (x.kind == k && x.at_ == (z : Int)) = false) : rest T k z i = rest T k z (i + 1) := by
  unfold rest
  obtain ⟨hi, e⟩ := List.getElem?_eq_some_iff.1 hx
  rw [List.drop_eq_getElem_cons hi, e, List.find?_cons_of_neg (p := fun x : An => x.kind == k && x.at_ == (z : Int)) (by rw [h]; decide)]
theorem rest_this {T : List An} {k : Int} {z i : Nat} {x : An} (hx : T[i]? = some x) (h : (x.kind == k && x.at_ == (z : Int)) = true) : rest T k z i = some (x.node, x.count) := by
  unfold rest
  obtain ⟨hi, e⟩ := List.getElem?_eq_some_iff.1 hx
  rw [List.drop_eq_getElem_cons hi, e, List.find?_cons_of_pos (p := fun x : An => x.kind == k && x.at_ == (z : Int)) h]
  rfl
theorem rest_end {T : List An} {k : Int} {z i : Nat} (h : T.length ≤ i) : rest T k z i = none := by
  unfold rest
  rw [List.drop_eq_nil_of_le h]
  rfl
def TkPost (C : RC) (Z : Nat → Prop) (pb : Nat) (w : World) (v : Value) (kind wd : Int) (kids : List Tr) (st : RSt) : Option (Tr × Nat) → Ending → World → Prop
  | some (t, c), e, w' => ∃ v', e = .returned (.tuple #[.agg #[.int .u8 kind, .int .u8 0, .int .i64 (wsum (kids ++ [t]) 0), v'], .bool true]) ∧ (v'.ownBlock = v.ownBlock ∨ ∀ g, v'.ownBlock = some g → w.heap.size ≤ g) ∧ ND C (Up C Z w.heap.size) w' (kids ++ [t]) v' ∧ RPar C w' pb ⟨st.at_ + c, ()⟩ ∧ FrX (XR pb v) w w'
  | none, e, w' => e = .returned (.tuple #[.agg #[.int .u8 kind, .int .u8 0, .int .i64 wd, v], .bool false]) ∧ ND C (Up C Z w.heap.size) w' kids v ∧ RPar C w' pb st ∧ FrX (XR pb v) w w'
set_option maxHeartbeats 2000000 in
set_option maxRecDepth 100000 in
theorem rtaken_any (C : RC) (Z : Nat → Prop) (w : World) (pb : Nat) (kind wd : Int) (kids : List Tr) (v : Value) (st : RSt) (k : Int) (hwd : wsum kids 0 = wd) (hZ : ¬ Z pb) (hD : ND C Z w kids v) (hP : RPar C w pb st) (hlen : kids.length ≤ 1000000) (hnx : nx C.L st.at_ = st.at_) :
    Calls Try.prog 26 #[.pointer (some ⟨pb, 0, none⟩), .agg #[.int .u8 kind, .int .u8 0, .int .i64 wd, v], .int .u8 k] w (TkPost C Z pb w v kind wd kids st (hit C.T C.L.length k st.at_)) := by
  obtain ⟨A0, c0, rfl⟩ : ∃ A c, v = .slice A kids.length c := PP.own_slice hD.row.choose_spec.1
  generalize hkl : kids.length = kl at *
  have hR := (((RRun.start hD hP hZ).box w.heap.size #[.int .u8 kind, .int .u8 0, .int .i64 wd, .slice A0 kl c0] 25 rfl).box (w.heap.size + 1) #[.int .u8 0, .int .u8 0, .int .i64 0, .slice none 0 0] 25 (by simp only [World.size_alloc]))
  have hpw := hP.lt
  have HWD := Aside0.mk hwd
  have HKL := Aside0.mk hkl
  have HH := Aside0.mk (fun w h => hnx ▸ rhand_any C w pb st h)
  have hhit : hit C.T C.L.length k st.at_ = (match rest C.T k st.at_ 0 with | some (t, c) => if 1 ≤ c ∧ c ≤ (C.L.length : Int) - (st.at_ : Int) then some (t, c.toNat) else none | none => none) := rfl
  have HHIT := Aside0.mk hhit
  have hle := hP.le
  have hTl := C.hT
  clear hD hP hwd hkl hhit hnx
  generalize hit C.T C.L.length k st.at_ = ht at *
  go_enter Try.func26, Try.ntmps26
  go_upto_region 1 with fail
  generalize ((w.alloc (.cells #[.int .u8 kind, .int .u8 0, .int .i64 wd, .slice A0 kl c0] 25)).alloc (.cells #[.int .u8 0, .int .u8 0, .int .i64 0, .slice none 0 0] 25)) = w0 at *
  obtain ⟨a0, p0, hp0, hp1, hp2, hp3, hp4, hpf⟩ := hR.par.cells5
  have HR := Aside0.mk hR
  clear hR
  go_wp2_with (first | (go_at_call 24; refine (HH.out _ (HR.out.asked _).par).mono ?_; rintro e w1 ⟨rfl, hb1⟩; have hR := (HR.out.asked _).below hb1; clear HR; have HR := Aside0.mk hR; clear hR hb1 hp0 hp1 hp2 hp3 hp4 hpf))
  go_loopw [9] (fun v9 wr => ∃ i : Nat, i ≤ C.T.length ∧ v9 = .int .i64 (i : Int) ∧ Aside0 (RRun C Z [(w.heap.size + 1, #[.int .u8 0, .int .u8 0, .int .i64 0, .slice none 0 0], 25), (w.heap.size, #[.int .u8 kind, .int .u8 0, .int .i64 wd, .slice A0 kl c0], 25)] pb w (.slice A0 kl c0) kids st wr (.slice A0 kl c0)) ∧ Aside0 (rest C.T k st.at_ i = rest C.T k st.at_ 0)) (fun v9 _ => C.T.length - (intOf v9).toNat)
  case atStart => exact ⟨0, Nat.zero_le _, rfl, HR, ⟨rfl⟩⟩
  case round =>
    clear HR
    obtain ⟨i, hiT, rfl, HR, HX⟩ := hrel
    obtain ⟨a1, p1, hp0, hp1, hp2, hp3, hp4, hpf⟩ := HR.out.par.cells5
    obtain ⟨y0, y1, y2, y3, yf⟩ := HR.out.box1
    obtain ⟨r0, r1, r2, r3, rf⟩ := HR.out.box0
    have hi0 : (0 : Int) ≤ (i : Int) := by omega
    have htn : (i : Int).toNat = i := by omega
    have hcT := C.hcT
    by_cases hlt : i < C.T.length
    · have d1 : decide ((i : Int) < (C.T.length : Int)) = true := by simp; omega
      have hi1 : (i : Int) < (C.T.length : Int) := by omega
      obtain ⟨x, hx⟩ : ∃ x, C.T[i]? = some x := ⟨_, List.getElem?_eq_getElem hlt⟩
      obtain ⟨ad, N, nn, cc, e, h0, h1, h2, h3, h4, h5, h6, hN⟩ := C.ans _ HR.out.par.inv i x hx
      rw [e] at hp2
      have HN := Aside0.mk hN
      have HXI := Aside0.mk hx
      have hhit1 := fun h => rest_this (k := k) (z := st.at_) hx h
      have hhit2 := fun h => rest_next (k := k) (z := st.at_) hx h
      have HH1 := Aside0.mk hhit1
      have HH2 := Aside0.mk hhit2
      clear hN hx hhit1 hhit2
      generalize hnk : x.node.kind = nk at *
      generalize hnw : x.node.want = nw at *
      generalize hnd : x.node.width = nd at *
      have HB1 : Aside0 (∀ o : Obj, Below wr.heap.size wr (wr.alloc o)) := ⟨fun o => (Below.refl _ _).alloc (Nat.le_refl _) _⟩
      by_cases hkk : x.kind = k
      · by_cases hat : x.at_ = (st.at_ : Int)
        · have c1 : (x.kind != k) = false := by simp [hkk]
          have c2 : (x.at_ != (st.at_ : Int)) = false := by simp [hat]
          have HQ : Aside0 (rest C.T k st.at_ 0 = some (x.node, x.count)) := ⟨by rw [← HX.out]; exact HH1.out (by rw [hkk, hat]; simp)⟩
          clear hkk hat
          go_wp2
          have hR := HR.out.below (HB1.out (.cells #[.int .u8 x.kind, .int .i64 x.at_, .int .u8 nk, .int .u8 nw, .int .i64 nd, .slice N nn cc, .int .i64 x.count] 67))
          have hxb : (wr.alloc (.cells #[.int .u8 x.kind, .int .i64 x.at_, .int .u8 nk, .int .u8 nw, .int .i64 nd, .slice N nn cc, .int .i64 x.count] 67)).heap[wr.heap.size]? = some (.cells #[.int .u8 x.kind, .int .i64 x.at_, .int .u8 nk, .int .u8 nw, .int .i64 nd, .slice N nn cc, .int .i64 x.count] 67 (0, 0)) := heap_at rfl
          have hwr := HR.out.fr.size
          have HN2 := Aside0.mk (HN.out.move (S' := C.S0) (fun b hb hlt => ⟨hb, (HB1.out (.cells #[.int .u8 x.kind, .int .i64 x.at_, .int .u8 nk, .int .u8 nw, .int .i64 nd, .slice N nn cc, .int .i64 x.count] 67)).block b hlt⟩))
          clear HR r0 r1 r2 r3 rf y0 y1 y2 y3 yf hp0 hp1 hp2 hp3 hp4 hpf h0 h1 h2 h3 h4 h5 h6 HB1
          generalize wr.alloc (.cells #[.int .u8 x.kind, .int .i64 x.at_, .int .u8 nk, .int .u8 nw, .int .i64 nd, .slice N nn cc, .int .i64 x.count] 67) = w2 at *
          generalize hxz : wr.heap.size = xb at *
          clear hxz HN
          have x2 : w2.cell? ⟨xb, 2, none⟩ = some (.int .u8 nk) := by rw [blk_cell hxb]; rfl
          have x3 : w2.cell? ⟨xb, 3, none⟩ = some (.int .u8 nw) := by rw [blk_cell hxb]; rfl
          have x4 : w2.cell? ⟨xb, 4, none⟩ = some (.int .i64 nd) := by rw [blk_cell hxb]; rfl
          have x5 : w2.cell? ⟨xb, 5, none⟩ = some (.slice N nn cc) := by rw [blk_cell hxb]; rfl
          have x6 : w2.cell? ⟨xb, 6, none⟩ = some (.int .i64 x.count) := by rw [blk_cell hxb]; rfl
          have HXB := Aside0.mk hxb
          have HR := Aside0.mk hR
          clear hR hxb
          obtain ⟨a2, p2, hp0, hp1, hp2, hp3, hp4, hpf⟩ := HR.out.par.cells5
          obtain ⟨y0, y1, y2, y3, yf⟩ := HR.out.box1
          obtain ⟨r0, r1, r2, r3, rf⟩ := HR.out.box0
          by_cases g1 : x.count < 1
          · have c3 : decide (x.count < 1) = true := by simpa using g1
            have HE : Aside0 (ht = none) := ⟨by rw [HHIT.out, HQ.out]; exact if_neg (by omega)⟩
            clear g1
            go_quiet (fail)
            go_wp2
            have hR := (HR.out.below (Drawn0.below ⟨nq, rfl⟩)).st0 (.int .u8 kind) (.int .u8 0) (.int .i64 wd) (.slice A0 kl c0)
            refine bodyPost_ret (results_ct rfl _ _ (w.heap.size + 1) 25 _ (0, 0) _ rfl hR.bx0 Try.underlying25 rfl (by kernel_rfl)) rfl ?_
            rw [HE.out]
            exact ⟨rfl, hR.nd.move (fun b hb _ => ⟨hb.1, rfl⟩), hR.par, hR.fr⟩
          · have c3 : decide (x.count < 1) = false := by simpa using g1
            have hlc : (C.L.length : Int) ≤ 16384 := by have := C.hL; omega
            by_cases g2 : x.count ≤ (C.L.length : Int) - (st.at_ : Int)
            · have c4 : decide ((C.L.length : Int) - (st.at_ : Int) < x.count) = false := by simp; omega
              have HE : Aside0 (ht = some (x.node, x.count.toNat)) := ⟨by rw [HHIT.out, HQ.out]; exact if_pos (by omega)⟩
              obtain ⟨n, hn⟩ : ∃ n : Nat, x.count = (n : Int) := ⟨x.count.toNat, by omega⟩
              rw [hn] at HE c3 c4 x6 g2
              have hcast : (st.at_ : Int) + (n : Int) = ((st.at_ + n : Nat) : Int) := by omega
              have hnle : st.at_ + n ≤ C.L.length := by omega
              have HC := Aside0.mk hcast
              have hn0 : (0 : Int) ≤ (n : Int) := by omega
              have hn1 : (st.at_ : Int) + (n : Int) ≤ 16384 := by omega
              have hxp : xb ≠ pb := by omega
              clear g1 g2 hcast
              go_quiet (fail)
              go_wp2_with fail
              rw [HC.out]
              have hR := ((HR.out.below (Drawn0.below ⟨nq, rfl⟩)).moved (st.at_ + n) hnle).putc (wrap64 (p2 + 1))
              have hlop := HR.out.par.lo
              have hNk := hR.kid (HN2.out.move (S' := fun b => C.S0 b ∨ (((w2.drewN nq).setCell ⟨pb, 1, none⟩ (.int .i64 ((st.at_ + n : Nat) : Int))).setCell ⟨pb, 4, none⟩ (.int .i64 (wrap64 (p2 + 1)))).heap.size ≤ b) (w' := ((w2.drewN nq).setCell ⟨pb, 1, none⟩ (.int .i64 ((st.at_ + n : Nat) : Int))).setCell ⟨pb, 4, none⟩ (.int .i64 (wrap64 (p2 + 1)))) (fun b hb hlt => ⟨Or.inl hb, by
                have := C.hS b hb
                rw [heap_setCell_other _ _ _ _ (show b ≠ pb by omega), heap_setCell_other _ _ _ _ (show b ≠ pb by omega)]
                exact (Drawn0.below (w := w2) ⟨nq, rfl⟩).block b hlt⟩))
              clear HR
              have HR := Aside0.mk hR
              have HNK := Aside0.mk hNk
              clear hR hNk
              go_at_call 27
              refine (HR.out.addN kind wd x.node [.int .u8 nk, .int .u8 nw, .int .i64 nd, .slice N nn cc] HWD.out HNK.out (by rw [HKL.out]; exact hlen)).mono ?_
              rintro e w3 ⟨v3, rfl, hR⟩
              obtain ⟨A3, n3, c5, rfl⟩ := hR.sl
              clear HR r0 r1 r2 r3 rf
              have HR := Aside0.mk hR
              clear hR
              obtain ⟨r0, r1, r2, r3, rf⟩ := HR.out.box0
              go_wp2
              have hR := HR.out.st0 (.int .u8 kind) (.int .u8 0) (.int .i64 (wsum (kids ++ [x.node]) 0)) (.slice A3 n3 c5)
              refine bodyPost_ret (results_ct rfl _ _ (w.heap.size + 1) 25 _ (0, 0) _ rfl hR.bx0 Try.underlying25 rfl (by kernel_rfl)) rfl ?_
              rw [HE.out]
              exact ⟨_, rfl, hR.own, hR.nd.move (fun b hb _ => ⟨hb.1, rfl⟩), hR.par, hR.fr⟩
            · have c4 : decide ((C.L.length : Int) - (st.at_ : Int) < x.count) = true := by simp; omega
              have HE : Aside0 (ht = none) := ⟨by rw [HHIT.out, HQ.out]; exact if_neg (by omega)⟩
              clear g1 g2
              go_quiet (fail)
              go_wp2
              have hR := (HR.out.below (Drawn0.below ⟨nq, rfl⟩)).st0 (.int .u8 kind) (.int .u8 0) (.int .i64 wd) (.slice A0 kl c0)
              refine bodyPost_ret (results_ct rfl _ _ (w.heap.size + 1) 25 _ (0, 0) _ rfl hR.bx0 Try.underlying25 rfl (by kernel_rfl)) rfl ?_
              rw [HE.out]
              exact ⟨rfl, hR.nd.move (fun b hb _ => ⟨hb.1, rfl⟩), hR.par, hR.fr⟩
        · have c1 : (x.kind != k) = false := by simp [hkk]
          have c2 : (x.at_ != (st.at_ : Int)) = true := bne_iff_ne.mpr hat
          have HQ := Aside0.mk (HH2.out (by rw [nb hat, Bool.and_false]))
          clear hkk hat
          go_wp2
          go_roundw
          case rel => exact ⟨i + 1, by omega, by go_num, ⟨HR.out.below (HB1.out _)⟩, ⟨by rw [← HQ.out]; exact HX.out⟩⟩
          case measure => simp [intOf]; omega
      · have c1 : (x.kind != k) = true := bne_iff_ne.mpr hkk
        have HQ := Aside0.mk (HH2.out (by rw [nb hkk, Bool.false_and]))
        clear hkk
        go_wp2
        go_roundw
        case rel => exact ⟨i + 1, by omega, by go_num, ⟨HR.out.below (HB1.out _)⟩, ⟨by rw [← HQ.out]; exact HX.out⟩⟩
        case measure => simp [intOf]; omega
    · have d1 : decide ((i : Int) < (C.T.length : Int)) = false := by simp; omega
      have HE : Aside0 (ht = none) := ⟨by rw [HHIT.out, ← HX.out, rest_end (by omega)]⟩
      go_wp2
      refine bodyPost_ret (results_ct rfl _ _ (w.heap.size + 1) 25 _ (0, 0) _ rfl (HR.out.st0 _ _ _ _).bx0 Try.underlying25 rfl (by kernel_rfl)) rfl ?_
      have hR := HR.out.st0 (.int .u8 kind) (.int .u8 0) (.int .i64 wd) (.slice A0 kl c0)
      rw [HE.out]
      exact ⟨rfl, hR.nd.move (fun b hb _ => ⟨hb.1, rfl⟩), hR.par, hR.fr⟩
end Go.Proofs.Ytalnicdpcigocaa.PR
namespace Go.Proofs.Ytalnicdpcigocaa.PR
open Go.RowKit Ps PM PL PP GR Go.Proofs.YtalnicdpcigocaaW.PrintWords Go.Proofs.YtalnicdpcigocaaW.PrintLast Go.Proofs.YtalnicdpcigocaaW.PrintMore
set_option linter.unusedVariables false
set_option linter.unusedSimpArgs false
theorem RRun.tkYes {C : RC} {Z : Nat → Prop} {bs : List Bx} {pb : Nat} {w : World} {v : Value} {kids : List Tr} {st : RSt} {w1 : World} {v1 : Value} (h : RRun C Z bs pb w v kids st w1 v1) (kind wd k : Int) (hwd : wsum kids 0 = wd) (hlen : kids.length ≤ 1000000) (hnx : nx C.L st.at_ = st.at_) {t : Tr} {c : Nat} (hh : hit C.T C.L.length k st.at_ = some (t, c)) :
    Calls Try.prog 26 #[.pointer (some ⟨pb, 0, none⟩), .agg #[.int .u8 kind, .int .u8 0, .int .i64 wd, v1], .int .u8 k] w1 fun e w' => ∃ v2, e = .returned (.tuple #[.agg #[.int .u8 kind, .int .u8 0, .int .i64 (wsum (kids ++ [t]) 0), v2], .bool true]) ∧ RRun C Z bs pb w v (kids ++ [t]) ⟨st.at_ + c, ()⟩ w' v2 := by
  refine (rtaken_any C _ w1 pb kind wd kids v1 st k hwd h.nopb h.nd h.par hlen hnx).mono (fun e w' q => ?_)
  rw [hh] at q
  obtain ⟨v2, he, h1, h2, h3, h4⟩ := q
  exact ⟨v2, he, h.next h1 h2 h3 h4⟩
theorem RRun.tkNo {C : RC} {Z : Nat → Prop} {bs : List Bx} {pb : Nat} {w : World} {v : Value} {kids : List Tr} {st : RSt} {w1 : World} {v1 : Value} (h : RRun C Z bs pb w v kids st w1 v1) (kind wd k : Int) (hwd : wsum kids 0 = wd) (hlen : kids.length ≤ 1000000) (hnx : nx C.L st.at_ = st.at_) (hh : hit C.T C.L.length k st.at_ = none) :
    Calls Try.prog 26 #[.pointer (some ⟨pb, 0, none⟩), .agg #[.int .u8 kind, .int .u8 0, .int .i64 wd, v1], .int .u8 k] w1 fun e w' => e = .returned (.tuple #[.agg #[.int .u8 kind, .int .u8 0, .int .i64 wd, v1], .bool false]) ∧ RRun C Z bs pb w v kids st w' v1 := by
  refine (rtaken_any C _ w1 pb kind wd kids v1 st k hwd h.nopb h.nd h.par hlen hnx).mono (fun e w' q => ?_)
  rw [hh] at q
  obtain ⟨he, h2, h3, h4⟩ := q
  exact ⟨he, h.next (Or.inl rfl) h2 h3 h4⟩
/-- what all parts do, at that depth -/
structure RAll (C : RC) (n : Nat) : Prop where
  statement : ∀ (w : World) (pb : Nat) (st : RSt) (r : Tr × RSt), RPar C w pb st → stat (st.kd C.L) ≠ 0 → nx C.L st.at_ = st.at_ → Ps.statement C.L C.orc n st = some r →
    Calls Try.prog 28 #[.pointer (some ⟨pb, 0, none⟩)] w (RLv C pb w r.1 r.2)
  begun : ∀ (w : World) (pb : Nat) (st : RSt) (r : Tr × RSt), RPar C w pb st → st.kd C.L ≠ 0 → Ps.begun C.L C.orc n st = some r →
    Calls Try.prog 44 #[.pointer (some ⟨pb, 0, none⟩)] w (RLv C pb w r.1 r.2)
  level : ∀ (w : World) (pb : Nat) (st : RSt) (k : Nat) (r : Tr × RSt), 1 ≤ k ∧ k ≤ 6 → RPar C w pb st → st.kd C.L ≠ 0 → Ps.level C.L C.orc n k st = some r →
    Calls Try.prog 53 #[.pointer (some ⟨pb, 0, none⟩), .int .i64 (k : Int)] w (RLv C pb w r.1 r.2)
  unary : ∀ (w : World) (pb : Nat) (st : RSt) (r : Tr × RSt), RPar C w pb st → st.kd C.L ≠ 0 → Ps.unary C.L C.orc n st = some r →
    Calls Try.prog 65 #[.pointer (some ⟨pb, 0, none⟩)] w (RLv C pb w r.1 r.2)
  args : ∀ (w : World) (pb : Nat) (st : RSt) (r : Tr × RSt), RPar C w pb st → st.kd C.L ≠ 0 → Ps.args C.L C.orc n st = some r →
    Calls Try.prog 71 #[.pointer (some ⟨pb, 0, none⟩)] w (RLv C pb w r.1 r.2)
  primary : ∀ (w : World) (pb : Nat) (st : RSt) (r : Tr × RSt), RPar C w pb st → st.kd C.L ≠ 0 → Ps.primary C.L C.orc n st = some r →
    Calls Try.prog 70 #[.pointer (some ⟨pb, 0, none⟩)] w (RLv C pb w r.1 r.2)
  inner : ∀ (Z : Nat → Prop) (w : World) (pb : Nat) (kind wd : Int) (kids : List Tr) (v : Value) (st : RSt) (r : List Tr × RSt), wsum kids 0 = wd → ¬ Z pb → ND C Z w kids v → RPar C w pb st → kids.length ≤ 200000 → st.kd C.L ≠ 0 → Ps.inner C.L C.orc n st = some r →
    Calls Try.prog 16 #[.pointer (some ⟨pb, 0, none⟩), .agg #[.int .u8 kind, .int .u8 0, .int .i64 wd, v]] w (RPost C Z pb w v kind (kids ++ r.1) r.2)
  block : ∀ (Z : Nat → Prop) (w : World) (pb : Nat) (kind wd : Int) (kids : List Tr) (v : Value) (st : RSt) (r : List Tr × RSt), wsum kids 0 = wd → ¬ Z pb → ND C Z w kids v → RPar C w pb st → kids.length ≤ 200000 → Ps.block C.L C.orc n st = some r →
    Calls Try.prog 43 #[.pointer (some ⟨pb, 0, none⟩), .agg #[.int .u8 kind, .int .u8 0, .int .i64 wd, v]] w (RPost C Z pb w v kind (kids ++ r.1) r.2)
  expr : ∀ (Z : Nat → Prop) (w : World) (pb : Nat) (kind wd : Int) (kids : List Tr) (v : Value) (st : RSt) (r : List Tr × RSt), wsum kids 0 = wd → ¬ Z pb → ND C Z w kids v → RPar C w pb st → kids.length ≤ 200000 → Ps.expr C.L C.orc n st = some r →
    Calls Try.prog 41 #[.pointer (some ⟨pb, 0, none⟩), .agg #[.int .u8 kind, .int .u8 0, .int .i64 wd, v]] w (RPost C Z pb w v kind (kids ++ r.1) r.2)
theorem RRun.inner {C : RC} {Z : Nat → Prop} {bs : List Bx} {pb : Nat} {w : World} {v : Value} {kids : List Tr} {st : RSt} {w1 : World} {v1 : Value} (h : RRun C Z bs pb w v kids st w1 v1) {n : Nat} (ih : RAll C n) (kind wd : Int) (r : List Tr × RSt) (hwd : wsum kids 0 = wd) (hlen : kids.length ≤ 200000) (hk : st.kd C.L ≠ 0) (hr : Ps.inner C.L C.orc n st = some r) :
    Calls Try.prog 16 #[.pointer (some ⟨pb, 0, none⟩), .agg #[.int .u8 kind, .int .u8 0, .int .i64 wd, v1]] w1 fun e w' => ∃ v2, e = .returned (.agg #[.int .u8 kind, .int .u8 0, .int .i64 (wsum (kids ++ r.1) 0), v2]) ∧ RRun C Z bs pb w v (kids ++ r.1) r.2 w' v2 :=
  (ih.inner _ w1 pb kind wd kids v1 st r hwd h.nopb h.nd h.par hlen hk hr).mono (fun e w' k => h.step k)
theorem RRun.block {C : RC} {Z : Nat → Prop} {bs : List Bx} {pb : Nat} {w : World} {v : Value} {kids : List Tr} {st : RSt} {w1 : World} {v1 : Value} (h : RRun C Z bs pb w v kids st w1 v1) {n : Nat} (ih : RAll C n) (kind wd : Int) (r : List Tr × RSt) (hwd : wsum kids 0 = wd) (hlen : kids.length ≤ 200000) (hr : Ps.block C.L C.orc n st = some r) :
    Calls Try.prog 43 #[.pointer (some ⟨pb, 0, none⟩), .agg #[.int .u8 kind, .int .u8 0, .int .i64 wd, v1]] w1 fun e w' => ∃ v2, e = .returned (.agg #[.int .u8 kind, .int .u8 0, .int .i64 (wsum (kids ++ r.1) 0), v2]) ∧ RRun C Z bs pb w v (kids ++ r.1) r.2 w' v2 :=
  (ih.block _ w1 pb kind wd kids v1 st r hwd h.nopb h.nd h.par hlen hr).mono (fun e w' k => h.step k)
theorem RRun.expr {C : RC} {Z : Nat → Prop} {bs : List Bx} {pb : Nat} {w : World} {v : Value} {kids : List Tr} {st : RSt} {w1 : World} {v1 : Value} (h : RRun C Z bs pb w v kids st w1 v1) {n : Nat} (ih : RAll C n) (kind wd : Int) (r : List Tr × RSt) (hwd : wsum kids 0 = wd) (hlen : kids.length ≤ 200000) (hr : Ps.expr C.L C.orc n st = some r) :
    Calls Try.prog 41 #[.pointer (some ⟨pb, 0, none⟩), .agg #[.int .u8 kind, .int .u8 0, .int .i64 wd, v1]] w1 fun e w' => ∃ v2, e = .returned (.agg #[.int .u8 kind, .int .u8 0, .int .i64 (wsum (kids ++ r.1) 0), v2]) ∧ RRun C Z bs pb w v (kids ++ r.1) r.2 w' v2 :=
  (ih.expr _ w1 pb kind wd kids v1 st r hwd h.nopb h.nd h.par hlen hr).mono (fun e w' k => h.step k)
theorem RRun.leafw {C : RC} {bs : List Bx} {pb : Nat} {w : World} {kids : List Tr} {st : RSt} {w1 : World} {v1 : Value} (h : RRun C (fun _ => False) bs pb w (.slice none 0 0) kids st w1 v1) (hlen : kids.length ≤ 1000000) (kind : Int) {wd : Int} (hwd : wsum kids 0 = wd) :
    RLv C pb w (Ps.node kind kids) st (.returned (.agg #[.int .u8 kind, .int .u8 0, .int .i64 wd, v1])) w1 := by
  subst hwd
  exact h.leaf hlen kind
theorem RRun.postw {C : RC} {Z : Nat → Prop} {bs : List Bx} {pb : Nat} {w : World} {v : Value} {kids : List Tr} {st : RSt} {w1 : World} {v1 : Value} (h : RRun C Z bs pb w v kids st w1 v1) (kind : Int) {wd : Int} (hwd : wsum kids 0 = wd) : RPost C Z pb w v kind kids st (.returned (.agg #[.int .u8 kind, .int .u8 0, .int .i64 wd, v1])) w1 := by
  subst hwd
  exact h.post kind
theorem RPost.kids {C : RC} {Z : Nat → Prop} {pb : Nat} {w : World} {v : Value} {kind : Int} {kids kids' : List Tr} {st : RSt} {e : Ending} {w' : World} (h : RPost C Z pb w v kind kids st e w') (hk : kids = kids') : RPost C Z pb w v kind kids' st e w' := hk ▸ h
theorem RLv.tree {C : RC} {pb : Nat} {w : World} {t t' : Tr} {st : RSt} {e : Ending} {w' : World} (h : RLv C pb w t st e w') (hk : t = t') : RLv C pb w t' st e w' := hk ▸ h
/-- the same, of a node without kids -/
theorem RRun.take0 {C : RC} {Z : Nat → Prop} {bs : List Bx} {pb : Nat} {w : World} {v : Value} {st : RSt} {w1 : World} {v1 : Value} (h : RRun C Z bs pb w v [] st w1 v1) (kind : Int) (hk : st.kd C.L ≠ 0) :
    Calls Try.prog 29 #[.pointer (some ⟨pb, 0, none⟩), .agg #[.int .u8 kind, .int .u8 0, .int .i64 0, v1]] w1 fun e w' => ∃ v2, e = .returned (.agg #[.int .u8 kind, .int .u8 0, .int .i64 (wsum (nextL C.L st).1 0), v2]) ∧ RRun C Z bs pb w v (nextL C.L st).1 (nextL C.L st).2 w' v2 :=
  (h.take kind 0 rfl (by simp) hk).mono (fun e w' k => k)
theorem RRun.want0 {C : RC} {Z : Nat → Prop} {bs : List Bx} {pb : Nat} {w : World} {v : Value} {st : RSt} {w1 : World} {v1 : Value} (h : RRun C Z bs pb w v [] st w1 v1) (kind k : Int) (hk0 : k ≠ 0) :
    Calls Try.prog 40 #[.pointer (some ⟨pb, 0, none⟩), .agg #[.int .u8 kind, .int .u8 0, .int .i64 0, v1], .int .u8 k] w1 fun e w' => ∃ v2, e = .returned (.agg #[.int .u8 kind, .int .u8 0, .int .i64 (wsum (wantL C.L k st).1 0), v2]) ∧ RRun C Z bs pb w v (wantL C.L k st).1 (wantL C.L k st).2 w' v2 :=
  (h.want kind 0 k hk0 rfl (by simp)).mono (fun e w' k => k)
theorem RRun.expr0 {C : RC} {Z : Nat → Prop} {bs : List Bx} {pb : Nat} {w : World} {v : Value} {st : RSt} {w1 : World} {v1 : Value} (h : RRun C Z bs pb w v [] st w1 v1) {n : Nat} (ih : RAll C n) (kind : Int) (r : List Tr × RSt) (hr : Ps.expr C.L C.orc n st = some r) :
    Calls Try.prog 41 #[.pointer (some ⟨pb, 0, none⟩), .agg #[.int .u8 kind, .int .u8 0, .int .i64 0, v1]] w1 fun e w' => ∃ v2, e = .returned (.agg #[.int .u8 kind, .int .u8 0, .int .i64 (wsum r.1 0), v2]) ∧ RRun C Z bs pb w v r.1 r.2 w' v2 :=
  (h.expr ih kind 0 r rfl (by simp) hr).mono (fun e w' k => k)
theorem RRun.addN0 {C : RC} {Z : Nat → Prop} {bs : List Bx} {pb : Nat} {w : World} {v : Value} {st : RSt} {w1 : World} {v1 : Value} (h : RRun C Z bs pb w v [] st w1 v1) (kind : Int) (t : Tr) (cs : List Value) (hN : NodeC (fun b => (Up C Z w.heap.size b ∧ ∀ x ∈ bs, x.1 ≠ b) ∧ v1.ownBlock ≠ some b) w1 t cs) :
    Calls Try.prog 27 #[.agg #[.int .u8 kind, .int .u8 0, .int .i64 0, v1], .agg cs.toArray] w1 fun e w' => ∃ v2, e = .returned (.agg #[.int .u8 kind, .int .u8 0, .int .i64 (wsum [t] 0), v2]) ∧ RRun C Z bs pb w v [t] st w' v2 :=
  (h.addN kind 0 t cs rfl hN (by simp)).mono (fun e w' k => k)
/-- a part put into a node of its own -/
theorem radd_wrap (C : RC) (w3 w4 : World) (pb : Nat) (st : RSt) (kind : Int) (t : Tr) (cs : List Value) (hN : NodeC (fun b => C.S0 b ∨ w3.heap.size ≤ b) w4 t cs) (hP : RPar C w4 pb st) (hF : FrX (fun b => b = pb) w3 w4) :
    Calls Try.prog 27 #[.agg #[.int .u8 kind, .int .u8 0, .int .i64 0, .slice none 0 0], .agg cs.toArray] w4 (RLv C pb w3 (node kind [t]) st) := by
  refine (radd_any C (fun b => C.S0 b ∨ w3.heap.size ≤ b) w4 kind 0 [] (.slice none 0 0) t cs rfl (Nat.le_trans hP.lo (Nat.le_of_lt hP.lt)) (ND.nil _ _ _) (hN.move (fun b hb _ => ⟨⟨hb, fun e => by cases e⟩, rfl⟩)) (by simp)).mono (fun e w5 q => ?_)
  obtain ⟨v5, rfl, h1, h2, h3⟩ := q
  have h3' : FrX (fun _ => False) w4 w5 := h3.mono (fun b _ e => by cases e)
  refine ⟨_, rfl, (h2.tree (by simp) kind).move (fun b hb _ => ⟨?_, rfl⟩), hP.move h3' (fun e => e) (fun _ _ e => e), hF.trans h3' (fun _ h => h) (fun _ _ h => h.elim)⟩
  have := hF.size
  rcases hb with hb | hb | hb
  · exact hb
  · exact Or.inl hb
  · exact Or.inr (by omega)
theorem rnext_len (C : RC) (st : RSt) : (nextL C.L st).1.length ≤ 16385 := by
  have := rgap_len C st
  unfold nextL
  simp only [List.length_append, List.length_singleton]
  omega
theorem rwant_len (C : RC) (k : Int) (st : RSt) : (wantL C.L k st).1.length ≤ 16385 := by
  have := rnext_len C st
  unfold wantL
  split
  · exact this
  · simp
theorem rexpr_len (C : RC) {n : Nat} {st : RSt} {b : List Tr × RSt} (hle : st.at_ ≤ C.L.length) (hb : Ps.expr C.L C.orc n st = some b) : b.1.length ≤ 40000 ∧ b.2.at_ ≤ C.L.length := by
  have h := ((mon n : Mon C.L C.orc n).expr _ _ hle hb).1
  have := C.hL
  have h2 := h.2.2
  have h3 := h.2.1
  exact ⟨by omega, h3⟩
end Go.Proofs.Ytalnicdpcigocaa.PR
