/- The reference's behind, walked. -/
import Derived.Test.YtlliokmcfmcigaaGFound
namespace Go.Proofs.Ytlliokmcfmcigaa.GR
open Go.RowKit Go.Proofs.YtlliokmcfmcigaaW.PrintWords Go.Proofs.YtlliokmcfmcigaaW.PrintLast Go.Proofs.YtlliokmcfmcigaaW.PrintMore
set_option linter.unusedVariables false
set_option linter.unusedSimpArgs false
theorem sym_at {i k : Nat} (hi : i < 74) (hk : k < (nrule i).2.length) : (nrule i).2.getD k 0 < 256 := by
  have h74 : Gm.rules.length = 74 := by decide +kernel
  have hm : nrule i ∈ Gm.rules := by
    unfold nrule
    rw [List.getD_eq_getElem?_getD, List.getElem?_eq_getElem (by rw [h74]; exact hi)]
    exact List.getElem_mem _
  have : Gm.rules.all (fun r => r.2.all (fun s => decide (s < 256))) = true := by decide +kernel
  have := List.all_eq_true.1 this _ hm
  have := List.all_eq_true.1 this ((nrule i).2.getD k 0) (by rw [List.getD_eq_getElem?_getD, List.getElem?_eq_getElem hk]; exact List.getElem_mem _)
  simpa using this
theorem drop_getD (l : List Nat) (k : Nat) (h : k < l.length) : l.drop k = l.getD k 0 :: l.drop (k + 1) := by
  rw [List.drop_eq_getElem_cons h]
  congr 1
  rw [List.getD_eq_getElem?_getD, List.getElem?_eq_getElem h]; rfl
theorem C_at {w : World} {A : Option Addr} {l : List Nat} (h : Kd.C (Kd.int .u8) w A l.length (l.map Int.ofNat)) (k : Nat) (hk : k < l.length) : ∃ ad, A = some ad ∧ w.cell? (ad.add k) = some (.int .u8 ((l.getD k 0 : Nat) : Int)) := by
  obtain ⟨ad, e, hc⟩ := Kd.at_int h k (by omega) (by omega)
  refine ⟨ad, e, ?_⟩
  rw [rd_map l k hk, Int.toNat_natCast] at hc
  rw [hc]
  rw [List.getD_eq_getElem?_getD, List.getElem?_eq_getElem hk]; rfl
theorem C_cell {w : World} {ad : Addr} {l : List Nat} (h : Kd.C (Kd.int .u8) w (some ad) l.length (l.map Int.ofNat)) {k x : Nat} (hk : k < l.length) (hx : l.getD k 0 = x) : w.cell? (ad.add k) = some (.int .u8 (x : Int)) := by
  obtain ⟨ad', e, hc⟩ := C_at h k hk
  cases e
  rw [← hx]; exact hc
theorem box_cell {w : World} {b : Nat} {u v : Value} {T : TypeId} (h : w.heap[b]? = some (.cells #[u, v] T (0, 0))) : w.cell? ⟨b, 1, none⟩ = some v := by rw [blk_cell h]; rfl
theorem box_cell0 {w : World} {b : Nat} {u v : Value} {T : TypeId} (h : w.heap[b]? = some (.cells #[u, v] T (0, 0))) : w.cell? ⟨b, 0, none⟩ = some u := by rw [blk_cell h]; rfl
theorem Only.undrew {A : Nat} {w w' : World} (h : Only A w.drew w') : Only A w w' := ⟨h.os, h.tape, h.output, h.size, h.block⟩
set_option maxHeartbeats 8000000 in
set_option maxRecDepth 100000 in
theorem behind_any (S : Nat → Prop) (w1 w : World) (L : Lay) (P Z N D : Nat) (hF : FoundAt w L P Z N D) (hL : L.Ok S) (hb : Kp S w1 w) (i : Nat) (hi : i < 74) (A : Option Addr) (hC : ∀ w2, Kp S w1 w2 → Kd.C (Kd.int .u8) w2 A (nrule i).2.length ((nrule i).2.map Int.ofNat)) :
    Calls Try.prog 37 #[.pointer (some ⟨L.f, 0, none⟩), .agg #[.int .u8 ((nrule i).1 : Int), .slice A (nrule i).2.length (nrule i).2.length]] w fun e w' => e = .returned (.tuple #[]) ∧ FoundAt w' L P Z N (Gm.behStep Z N D (nrule i)) ∧ Kp S w1 w' := by
  have HF := Aside0.mk hF
  have HL := Aside0.mk hL
  have HB := Aside0.mk hb
  have HC := Aside0.mk hC
  have hpart := nrule_lt i
  have hsl := sl_len i hi
  clear hF hL hb hC
  go_enter Try.func37, Try.ntmps37
  go_wp2
  generalize hbx : w.heap.size = bx at *
  have HF0 : Aside0 (FoundAt (w.alloc (.cells #[.int .u8 ((nrule i).1 : Int), .slice A (nrule i).2.length (nrule i).2.length] 29)) L P Z N D) := ⟨HF.out.below ((Below.refl _ _).alloc (Nat.le_refl _) _)⟩
  have HX0 : Aside0 ((w.alloc (.cells #[.int .u8 ((nrule i).1 : Int), .slice A (nrule i).2.length (nrule i).2.length] 29)).heap[bx]? = some (.cells #[.int .u8 ((nrule i).1 : Int), .slice A (nrule i).2.length (nrule i).2.length] 29 (0, 0))) := ⟨by rw [← hbx]; exact heap_alloc_new _ _⟩
  have HB0 : Aside0 (Kp S w1 (w.alloc (.cells #[.int .u8 ((nrule i).1 : Int), .slice A (nrule i).2.length (nrule i).2.length] 29))) := ⟨HB.out.alloc _⟩
  clear HF HB hbx
  go_loopw [4] (fun v4 wr => ∃ (k D' : Nat), k ≤ (nrule i).2.length ∧ v4 = .int .i64 k ∧ Aside0 (FoundAt wr L P Z N D') ∧ Aside0 (wr.heap[bx]? = some (.cells #[.int .u8 ((nrule i).1 : Int), .slice A (nrule i).2.length (nrule i).2.length] 29 (0, 0))) ∧ Aside0 (Kp S w1 wr) ∧ Aside0 (Gm.behRow Z N (nrule i).1 ((nrule i).2.drop k) D' = Gm.behStep Z N D (nrule i))) (fun v4 _ => (nrule i).2.length - (intOf v4).toNat)
  case atStart => exact ⟨0, D, by omega, rfl, HF0, HX0, HB0, ⟨rfl⟩⟩
  case round =>
    clear HF0 HX0 HB0
    obtain ⟨k, D', hk, rfl, HF, HX, HB, HT⟩ := hrel
    have hx0 : wr.cell? ⟨bx, 0, none⟩ = some (.int .u8 ((nrule i).1 : Int)) := by rw [blk_cell HX.out]; rfl
    have hx1 : wr.cell? ⟨bx, 1, none⟩ = some (.slice A (nrule i).2.length (nrule i).2.length) := by rw [blk_cell HX.out]; rfl
    by_cases hlt : k < (nrule i).2.length
    · have hd : decide ((k : Int) < ((nrule i).2.length : Int)) = true := by simp; omega
      have hk0 : (0 : Int) ≤ (k : Int) := by omega
      have hk1 : (k : Int) < ((nrule i).2.length : Int) := by omega
      have hy := sym_at hi hlt
      have HDR := Aside0.mk (drop_getD _ k hlt)
      have HGX : Aside0 ((nrule i).2.getD k 0 = (nrule i).2.getD k 0) := ⟨rfl⟩
      generalize hgx : (nrule i).2.getD k 0 = x at *
      have HXK := Aside0.mk hgx
      clear hgx HGX
      go_wp2
      go_loopw [5, 6] (fun v5 v6 wr => ∃ (all : Bool) (j D2 : Nat), k + 1 ≤ j ∧ j ≤ (nrule i).2.length ∧ v5 = .bool all ∧ v6 = .int .i64 j ∧ Aside0 (FoundAt wr L P Z N D2) ∧ Aside0 (wr.heap[bx]? = some (.cells #[.int .u8 ((nrule i).1 : Int), .slice A (nrule i).2.length (nrule i).2.length] 29 (0, 0))) ∧ Aside0 (Kp S w1 wr) ∧ Aside0 (all = true → Gm.behIn Z N x ((nrule i).2.drop j) D2 = Gm.behIn Z N x ((nrule i).2.drop (k + 1)) D') ∧ Aside0 (all = false → (D2, false) = Gm.behIn Z N x ((nrule i).2.drop (k + 1)) D')) (fun _ v6 _ => (nrule i).2.length - (intOf v6).toNat)
      case atStart => exact ⟨true, k + 1, D', Nat.le_refl _, by omega, rfl, by go_num, HF, HX, HB, ⟨fun _ => rfl⟩, ⟨fun h => by cases h⟩⟩
      case round =>
        clear HF HX HB hx0 hx1
        obtain ⟨all, j, D2, hj0, hj, rfl, rfl, HF, HX, HB, H1, H2⟩ := hrel
        have hx0 : wr.cell? ⟨bx, 0, none⟩ = some (.int .u8 ((nrule i).1 : Int)) := by rw [blk_cell HX.out]; rfl
        have hx1 : wr.cell? ⟨bx, 1, none⟩ = some (.slice A (nrule i).2.length (nrule i).2.length) := by rw [blk_cell HX.out]; rfl
        cases all with
        | false =>
          have h2 := H2.out rfl
          have HT1 : Aside0 (Gm.behRow Z N (nrule i).1 ((nrule i).2.drop (k + 1)) D2 = Gm.behStep Z N D (nrule i)) := ⟨by
            rw [← HT.out, HDR.out, Gm.behRow, ← h2]; rfl⟩
          clear h2 H1 H2
          by_cases hlj : j < (nrule i).2.length
          · have hd2 : decide ((j : Int) < ((nrule i).2.length : Int)) = true := by simp; omega
            go_wp2
            go_roundw
            case rel => exact ⟨k + 1, D2, by omega, by go_num, HF, HX, HB, HT1⟩
            case measure => simp [intOf]; omega
          · have hd2 : decide ((j : Int) < ((nrule i).2.length : Int)) = false := by simp; omega
            go_wp2
            go_roundw
            case rel => exact ⟨k + 1, D2, by omega, by go_num, HF, HX, HB, HT1⟩
            case measure => simp [intOf]; omega
        | true =>
          by_cases hlj : j < (nrule i).2.length
          · have hd2 : decide ((j : Int) < ((nrule i).2.length : Int)) = true := by simp; omega
            have hj1 : (0 : Int) ≤ (j : Int) := by omega
            have hj2 : (j : Int) < ((nrule i).2.length : Int) := by omega
            have hCw := HC.out _ HB.out
            obtain ⟨ad, e, hck⟩ := C_at hCw k hlt
            obtain ⟨ad', e', hcj⟩ := C_at hCw j hlj
            rw [e] at e'
            cases e'
            subst e
            rw [HXK.out] at hck
            have hyy := sym_at hi hlj
            have HDJ := Aside0.mk (drop_getD _ j hlj)
            generalize hgy : (nrule i).2.getD j 0 = y at *
            have HYJ := Aside0.mk hgy
            clear hgy hCw
            have h1 := H1.out rfl
            rw [HDJ.out] at h1
            have HT1 := Aside0.mk h1
            clear h1 H1 H2
            have c4 := HF.out.c4
            have c3 := HF.out.c3
            have c2 := HF.out.c2
            have cdx := HF.out.cd x hy
            have cby := HF.out.cb y hyy
            have hy0 : (0 : Int) ≤ (y : Int) := by omega
            have hy1 : (y : Int) < 256 := by omega
            have hxx0 : (0 : Int) ≤ (x : Int) := by omega
            have hxx1 : (x : Int) < 256 := by omega
            go_wp2
            go_region_held3 (fun w' => w'.cell? ⟨L.f, 4, none⟩ = some (.slice (some ⟨L.dt, 0, none⟩) 256 L.cd) ∧ w'.cell? ⟨L.f, 3, none⟩ = some (.slice (some ⟨L.bt, 0, none⟩) 256 L.cb) ∧ w'.cell? ⟨bx, 1, none⟩ = some (.slice (some ad) (nrule i).2.length (nrule i).2.length) ∧ w'.cell? (ad.add k) = some (.int .u8 (x : Int)) ∧ w'.cell? (ad.add j) = some (.int .u8 (y : Int)) ∧ w'.cell? ⟨L.dt, x, none⟩ = some (.slice (some ⟨L.D x, 0, none⟩) 256 256) ∧ w'.cell? ⟨L.bt, y, none⟩ = some (.slice (some ⟨L.B y, 0, none⟩) 256 256)) (first | go_keep | exact ⟨HF3.out.c4, HF3.out.c3, box_cell HX3.out, C_cell (HC.out _ HB3.out) hlt HXK.out, C_cell (HC.out _ HB3.out) hlj HYJ.out, HF3.out.cd x hy, HF3.out.cb y hyy⟩) ((go_at_call 36; refine (add_both _ (L.D x) (L.B y) 256 (fun k => D2.testBit (x * 256 + k)) (fun k => N.testBit (y * 256 + k)) ?hA ?hB (by decide)).mono ?_; (case hA => exact HF.out.drow x hy); (case hB => exact HF.out.brow y hyy); rintro e w3 ⟨rfl, hr3, ho3⟩; have ho4 := Only.undrew ho3; have HF3 := Aside0.mk (HF.out.addD HL.out hy ho4 hr3); have HX3 := Aside0.mk ((ho4.block bx (blk_ne HX.out (HF.out.drow x hy) (by decide))).trans HX.out); have HB3 := Aside0.mk (HB.out.only ho4 (HL.out.dm x hy)); clear ho3 ho4 hr3))
            have n2 := HF3.out.c2
            have ny : w3.cell? ⟨L.n, y, none⟩ = some (.bool (Z.testBit y)) := (blk_cell HF3.out.null y).trans (boolRow_at _ _ _ hyy)
            have nb := box_cell HX3.out
            have nj := C_cell (HC.out _ HB3.out) hlj HYJ.out
            rename_i hHeld
            clear hHeld c4 c3 c2 cdx cby hck hcj hx0 hx1 HF HX HB
            generalize hzy : Z.testBit y = zy at *
            have HZY := Aside0.mk hzy
            clear hzy
            go_wp2
            go_quiet (fail)
            go_wp2
            go_roundw
            case rel =>
              refine ⟨zy, j + 1, Gm.orX D2 N x y, by omega, by omega, rfl, by go_num, ⟨HF3.out.below (pw_below_drewN (Below.refl _ _) _)⟩, ⟨HX3.out⟩, ⟨HB3.out.below (pw_below_drewN (Below.refl _ _) _)⟩, ⟨fun h => ?_⟩, ⟨fun h => ?_⟩⟩
              · rw [← HT1.out, Gm.behIn, HZY.out, h]; rfl
              · rw [← HT1.out, Gm.behIn, HZY.out, h]; rfl
            case measure => simp [intOf]; omega
          · have hd2 : decide ((j : Int) < ((nrule i).2.length : Int)) = false := by simp; omega
            have hjl : j = (nrule i).2.length := by omega
            have h1 := H1.out rfl
            rw [hjl, List.drop_length] at h1
            have HT1 : Aside0 (Gm.behRow Z N (nrule i).1 ((nrule i).2.drop (k + 1)) (Gm.orX D2 D2 x (nrule i).1) = Gm.behStep Z N D (nrule i)) := ⟨by
              rw [← HT.out, HDR.out, Gm.behRow, ← h1]; rfl⟩
            clear h1 hjl H1 H2
            have hCw := HC.out _ HB.out
            obtain ⟨ad, e, hck⟩ := C_at hCw k hlt
            subst e
            rw [HXK.out] at hck
            have c4 := HF.out.c4
            have cdx := HF.out.cd x hy
            have cdp := HF.out.cd (nrule i).1 hpart
            have hxx0 : (0 : Int) ≤ (x : Int) := by omega
            have hxx1 : (x : Int) < 256 := by omega
            have hp0 : (0 : Int) ≤ ((nrule i).1 : Int) := by omega
            have hp1 : ((nrule i).1 : Int) < 256 := by omega
            clear hCw
            go_wp2
            go_region_held3 (fun w' => w'.cell? ⟨L.f, 4, none⟩ = some (.slice (some ⟨L.dt, 0, none⟩) 256 L.cd) ∧ w'.cell? ⟨bx, 0, none⟩ = some (.int .u8 ((nrule i).1 : Int)) ∧ w'.cell? ⟨bx, 1, none⟩ = some (.slice (some ad) (nrule i).2.length (nrule i).2.length) ∧ w'.cell? (ad.add k) = some (.int .u8 (x : Int)) ∧ w'.cell? ⟨L.dt, x, none⟩ = some (.slice (some ⟨L.D x, 0, none⟩) 256 256) ∧ w'.cell? ⟨L.dt, (nrule i).1, none⟩ = some (.slice (some ⟨L.D (nrule i).1, 0, none⟩) 256 256)) (first | go_keep | exact ⟨HF3.out.c4, box_cell0 HX3.out, box_cell HX3.out, C_cell (HC.out _ HB3.out) hlt HXK.out, HF3.out.cd x hy, HF3.out.cd (nrule i).1 hpart⟩) ((go_at_call 36; refine (add_both _ (L.D x) (L.D (nrule i).1) 256 (fun k => D2.testBit (x * 256 + k)) (fun k => D2.testBit ((nrule i).1 * 256 + k)) ?hA ?hB (by decide)).mono ?_; (case hA => exact HF.out.drow x hy); (case hB => exact HF.out.drow (nrule i).1 hpart); rintro e w3 ⟨rfl, hr3, ho3⟩; have ho4 := Only.undrew ho3; have HF3 := Aside0.mk (HF.out.addD HL.out hy ho4 hr3); have HX3 := Aside0.mk ((ho4.block bx (blk_ne HX.out (HF.out.drow x hy) (by decide))).trans HX.out); have HB3 := Aside0.mk (HB.out.only ho4 (HL.out.dm x hy)); clear ho3 ho4 hr3))
            rename_i hHeld
            clear hHeld c4 cdx cdp hck hx0 hx1 HF HX HB
            go_wp2
            go_roundw
            case rel => exact ⟨k + 1, _, by omega, by go_num, HF3, HX3, HB3, HT1⟩
            case measure => simp [intOf]; omega
    · have hd : decide ((k : Int) < ((nrule i).2.length : Int)) = false := by simp; omega
      have hkl : k = (nrule i).2.length := by omega
      go_wp2
      refine bodyPost_end (v := .tuple #[]) (by first | rfl | simp [results, Try.results37, go_sem]) rfl ?_
      refine ⟨rfl, ?_, HB.out⟩
      have := HT.out
      rw [hkl, List.drop_length] at this
      rw [← this]
      exact HF.out
end Go.Proofs.Ytlliokmcfmcigaa.GR
