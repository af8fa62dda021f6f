/- The reference's Found, asked: First, Follow, Begins, Empty, Would, Choose, walked. -/
import Derived.Test.YtlliokmcfmcigaaGFind
import Derived.Test.YtlliokmcfmcigaaGmTells
namespace Go.Proofs.Ytlliokmcfmcigaa.GR
open Go.RowKit Go.Proofs.YtlliokmcfmcigaaW.PrintWords Go.Proofs.YtlliokmcfmcigaaW.PrintLast Go.Proofs.YtlliokmcfmcigaaW.PrintMore
set_option linter.unusedVariables false
set_option linter.unusedSimpArgs false
def FF (w : World) (L : Lay) : Prop := FoundAt w L Gm.partsF Gm.stF.2 Gm.stF.1 Gm.behF
theorem FF.below {w w' : World} {L : Lay} (h : FF w L) (hb : Below w.heap.size w w') : FF w' L := FoundAt.below h hb
theorem bools_C {w : World} {b : Nat} {t : TypeId} {f : Nat → Bool} {n : Nat} (hn : n ≤ 9223372036854775807) (h : w.heap[b]? = some (.cells (boolRow f n) t (0, 0))) : Kd.C Kd.bool w (some ⟨b, 0, none⟩) ((List.range n).map f).length ((List.range n).map f) := by
  refine Kd.C_of_reads (enc := Value.bool) (d := false) (h1 := fun _ => rfl) ⟨by simp, by simpa using hn, fun h0 => ⟨_, rfl, fun j hj => ?_⟩⟩
  have hj : j < n := by simpa using hj
  rw [add_plain, blk_cell h, boolRow_at _ _ _ hj]
  simp [List.getD_eq_getElem?_getD, hj]
theorem len_256 (f : Nat → Bool) : ((List.range 256).map f).length = 256 := by rw [List.length_map, List.length_range]
theorem told_any (w : World) (b m : Nat) (hm : m < 2 ^ 64) (h : w.heap[b]? = some (.cells (boolRow (fun k => m.testBit k) 256) 4 (0, 0))) :
    Calls Try.prog 41 #[.slice (some ⟨b, 0, none⟩) 256 256] w fun e w' => ∃ v, e = .returned v ∧ Kd.R (Kd.int .u8) 5 w' w.heap.size (fun _ => True) v ((kindsOf m).map Int.ofNat) ∧ Below w.heap.size w w' := by
  have := PGrammarTells.glossatorref14_told.calls 257 (some ⟨b, 0, none⟩) 256 _ _ w (bools_C (by omega) h) (by rw [len_256]; exact Nat.le_refl _) (told_says m hm)
  rw [len_256] at this
  exact this
theorem refFirst_any (w : World) (L : Lay) (hF : FF w L) (s : Nat) (hs : s < 256) :
    Calls Try.prog 26 #[.pointer (some ⟨L.f, 0, none⟩), .int .u8 (Int.ofNat s)] w fun e w' => ∃ v, e = .returned v ∧ Kd.R (Kd.int .u8) 5 w' w.heap.size (fun _ => True) v ((firstL s).map Int.ofNat) ∧ Below w.heap.size w w' := by
  have c1 := FoundAt.c1 hF
  have c3 := FoundAt.c3 hF
  have cb := FoundAt.cb hF s hs
  have cp : w.cell? ⟨L.p, s, none⟩ = some (.bool (Gm.part s)) := by rw [blk_cell hF.part, boolRow_at _ _ _ hs, Gm.partsF_bit s hs]
  have hr : w.heap[L.B s]? = some (.cells (boolRow (fun k => (Gm.first s).testBit k) 256) 4 (0, 0)) := by
    rw [hF.brow s hs, boolRow_congr (fun k hk => Gm.stF_bit hs hk)]
  have HC := Aside0.mk hr
  have hs0 : (0 : Int) ≤ (s : Int) := by omega
  have hs1 : (s : Int) < 256 := by omega
  have HT := Aside0.mk (first_64 s hs)
  clear hr hF
  cases hp : Gm.part s with
  | false =>
    rw [hp] at cp
    have HP := Aside0.mk hp
    clear hp
    go_enter Try.func26, Try.ntmps26
    go_wp2
    go_ret
    exact ⟨_, rfl, by unfold firstL; rw [HP.out]; exact Kd.R_nil _ _ _ _ _, Below.refl _ _⟩
  | true =>
    rw [hp] at cp
    have HP := Aside0.mk hp
    clear hp
    go_enter Try.func26, Try.ntmps26
    go_wp2_with fail
    refine (told_any _ _ _ HT.out HC.out).mono ?_
    rintro e w2 ⟨v, rfl, hr, hb2⟩
    have HV := Aside0.mk hr
    have HB2 := Aside0.mk hb2
    clear hr hb2
    go_wp2
    go_ret
    refine ⟨_, rfl, ?_, HB2.out⟩
    unfold firstL
    rw [if_pos HP.out]
    exact HV.out
theorem refFollow_any (w : World) (L : Lay) (hF : FF w L) (s : Nat) (hs : s < 256) :
    Calls Try.prog 27 #[.pointer (some ⟨L.f, 0, none⟩), .int .u8 (Int.ofNat s)] w fun e w' => ∃ v, e = .returned v ∧ Kd.R (Kd.int .u8) 5 w' w.heap.size (fun _ => True) v ((followL s).map Int.ofNat) ∧ Below w.heap.size w w' := by
  have c1 := FoundAt.c1 hF
  have c4 := FoundAt.c4 hF
  have cd := FoundAt.cd hF s hs
  have cp : w.cell? ⟨L.p, s, none⟩ = some (.bool (Gm.part s)) := by rw [blk_cell hF.part, boolRow_at _ _ _ hs, Gm.partsF_bit s hs]
  have hs0 : (0 : Int) ≤ (s : Int) := by omega
  have hs1 : (s : Int) < 256 := by omega
  have HT := Aside0.mk (follow_64 s hs)
  have HF := Aside0.mk hF
  clear hF
  cases hp : Gm.part s with
  | false =>
    rw [hp] at cp
    have HP := Aside0.mk hp
    clear hp
    go_enter Try.func27, Try.ntmps27
    go_wp2
    go_ret
    exact ⟨_, rfl, by unfold followL; rw [HP.out]; exact Kd.R_nil _ _ _ _ _, Below.refl _ _⟩
  | true =>
    have HC : Aside0 (w.heap[L.D s]? = some (.cells (boolRow (fun k => (Gm.follow s).testBit k) 256) 4 (0, 0))) := ⟨by
      rw [FoundAt.drow HF.out s hs, boolRow_congr (fun k hk => Gm.behF_bit hs hk hp)]⟩
    rw [hp] at cp
    have HP := Aside0.mk hp
    clear hp
    go_enter Try.func27, Try.ntmps27
    go_wp2_with fail
    refine (told_any _ _ _ HT.out HC.out).mono ?_
    rintro e w2 ⟨v, rfl, hr, hb2⟩
    have HV := Aside0.mk hr
    have HB2 := Aside0.mk hb2
    clear hr hb2
    go_wp2
    go_ret
    refine ⟨_, rfl, ?_, HB2.out⟩
    unfold followL
    rw [if_pos HP.out]
    exact HV.out
theorem refEmpty_any (w : World) (L : Lay) (hF : FF w L) (s : Nat) (hs : s < 256) :
    Calls Try.prog 21 #[.pointer (some ⟨L.f, 0, none⟩), .int .u8 (Int.ofNat s)] w fun e w' => e = .returned (.bool (Gm.empty s)) ∧ w = w' := by
  have c2 := FoundAt.c2 hF
  have cp : w.cell? ⟨L.n, s, none⟩ = some (.bool (Gm.empty s)) := by rw [blk_cell hF.null, boolRow_at _ _ _ hs, Gm.stF_empty s hs]
  have hs0 : (0 : Int) ≤ (s : Int) := by omega
  have hs1 : (s : Int) < 256 := by omega
  clear hF
  go_enter Try.func21, Try.ntmps21
  go_wp2
  go_ret
  exact ⟨rfl, rfl⟩
theorem in_any (w : World) (A : Option Addr) (c : Nat) (l : List Nat) (k : Nat) (hl : l.length ≤ 100) (hC : Kd.C (Kd.int .u8) w A (l.map Int.ofNat).length (l.map Int.ofNat)) (hc : (l.map Int.ofNat).length ≤ c) :
    Calls Try.prog 38 #[.slice A l.length c, .int .u8 (Int.ofNat k)] w fun e w' => e = .returned (.bool ((l.map Int.ofNat).contains (Int.ofNat k))) ∧ Drawn0 w w' := by
  have := PGrammarTells.glossatorref14_in.calls _ A c _ (Int.ofNat k) _ w hC hc (in_says (l.map Int.ofNat) (Int.ofNat k) (by rw [List.length_map]; omega))
  rw [List.length_map] at this
  exact this
theorem refBegins_any (w : World) (L : Lay) (hF : FF w L) (s k : Nat) (hs : s < 256) :
    Calls Try.prog 19 #[.pointer (some ⟨L.f, 0, none⟩), .int .u8 (Int.ofNat s), .int .u8 (Int.ofNat k)] w fun e w' => e = .returned (.bool (begs s k)) ∧ Below w.heap.size w w' := by
  have HF := Aside0.mk hF
  clear hF
  go_enter Try.func19, Try.ntmps19
  go_wp2_with fail
  refine (refFirst_any _ L HF.out s hs).mono ?_
  rintro e w2 ⟨v, rfl, hr, hb2⟩
  obtain ⟨A1, c1, rfl, hc1, hr1⟩ := Kd.R_reads hr
  have HV := Aside0.mk hr1
  have HC1 := Aside0.mk hc1
  have HB2 := Aside0.mk hb2
  clear hr hb2 hr1 hc1
  go_wp2_with fail
  have hin := in_any w2 A1 c1 (firstL s) k (by have := firstL_len s; omega) HV.out HC1.out
  rw [begs_in s k hs] at hin
  refine hin.mono ?_
  rintro e w3 ⟨rfl, ⟨n3, rfl⟩⟩
  clear hin
  go_wp2
  go_ret
  exact ⟨rfl, pw_below_drewN HB2.out n3⟩
set_option maxHeartbeats 2000000 in
theorem refWould_any (w : World) (L : Lay) (hF : FF w L) (hR : RefRules w L.g) (i k : Nat) (hi : i < 74) (hk : k < 256) :
    Calls Try.prog 39 #[.pointer (some ⟨L.f, 0, none⟩), .int .i64 (i : Int), .int .u8 (Int.ofNat k)] w fun e w' => e = .returned (.bool (wouldRow (nrule i).1 k (nrule i).2)) ∧ Below w.heap.size w w' := by
  have HF := Aside0.mk hF
  have HR := Aside0.mk hR
  have c0 := FoundAt.c0 hF
  obtain ⟨A, hg1, hC⟩ := hR.right i hi
  have hg0 := hR.part i hi
  have hi0 : (0 : Int) ≤ (i : Int) := by omega
  have hi1 : (i : Int) < 74 := by omega
  have hk0 : (0 : Int) ≤ (k : Int) := by omega
  have hk1 : (k : Int) < 256 := by omega
  have hpart := nrule_lt i
  have hsl := sl_len i hi
  have HC := Aside0.mk hC
  clear hF hR hC
  show Calls _ _ #[_, _, .int .u8 (k : Int)] _ _
  go_enter Try.func39, Try.ntmps39
  go_wp2
  generalize hbx : w.heap.size = bx at *
  have hB0 : Below bx w (w.alloc (.cells #[.int .u8 ((nrule i).1 : Int), .slice A (nrule i).2.length (nrule i).2.length] 29)) := (Below.refl _ _).alloc (by omega) _
  have hb1 : Below w.heap.size w (w.alloc (.cells #[.int .u8 ((nrule i).1 : Int), .slice A (nrule i).2.length (nrule i).2.length] 29)) := (Below.refl _ _).alloc (by omega) _
  have HF0 : Aside0 (FF (w.alloc (.cells #[.int .u8 ((nrule i).1 : Int), .slice A (nrule i).2.length (nrule i).2.length] 29)) L) := ⟨FF.below HF.out hb1⟩
  have HC0 : Aside0 (Kd.C (Kd.int .u8) (w.alloc (.cells #[.int .u8 ((nrule i).1 : Int), .slice A (nrule i).2.length (nrule i).2.length] 29)) A (nrule i).2.length ((nrule i).2.map Int.ofNat)) := ⟨Kd.C_below HC.out hb1⟩
  have HX0 : Aside0 ((w.alloc (.cells #[.int .u8 ((nrule i).1 : Int), .slice A (nrule i).2.length (nrule i).2.length] 29)).heap[bx]? = some (.cells #[.int .u8 ((nrule i).1 : Int), .slice A (nrule i).2.length (nrule i).2.length] 29 (0, 0))) := ⟨by rw [← hbx]; exact heap_alloc_new _ _⟩
  have HB0 := Aside0.mk hB0
  clear HF HR HC hg0 hg1 c0 hb1 hB0
  generalize (w.alloc (.cells #[.int .u8 ((nrule i).1 : Int), .slice A (nrule i).2.length (nrule i).2.length] 29)) = wa at *
  go_loopw [8] (fun v8 wr => ∃ j n : Nat, j ≤ (nrule i).2.length ∧ v8 = .int .i64 j ∧ wr = wa.drewN n ∧ Aside0 (wouldRow (nrule i).1 k (nrule i).2 = wouldRow (nrule i).1 k ((nrule i).2.drop j))) (fun v8 _ => (nrule i).2.length - (intOf v8).toNat)
  case atStart => exact ⟨0, 0, by omega, rfl, rfl, ⟨rfl⟩⟩
  case round =>
    obtain ⟨j, n, hj, rfl, rfl, HW⟩ := hrel
    have hx1 := box_cell HX0.out
    have hx0 := box_cell0 HX0.out
    by_cases hlt : j < (nrule i).2.length
    · have hd : decide ((j : Int) < ((nrule i).2.length : Int)) = true := by simp; omega
      have hj0 : (0 : Int) ≤ (j : Int) := by omega
      have hj1 : (j : Int) < ((nrule i).2.length : Int) := by omega
      obtain ⟨ad, eA, hcj⟩ := C_at HC0.out j hlt
      subst eA
      have hy := sym_at hi hlt
      have HDK := Aside0.mk (drop_getD _ j hlt)
      have HGX : Aside0 ((nrule i).2.getD j 0 = (nrule i).2.getD j 0) := ⟨rfl⟩
      generalize hgx : (nrule i).2.getD j 0 = x at *
      have HXK := Aside0.mk hgx
      clear hgx HGX
      have c3 := FoundAt.c3 HF0.out
      have c2 := FoundAt.c2 HF0.out
      have cbx := FoundAt.cb HF0.out x hy
      have cbk : wa.cell? ⟨L.B x, k, none⟩ = some (.bool ((Gm.first x).testBit k)) := by rw [blk_cell (FoundAt.brow HF0.out x hy), boolRow_at _ _ _ hk, Gm.stF_bit hy hk]
      have cz : wa.cell? ⟨L.n, x, none⟩ = some (.bool (Gm.empty x)) := by rw [blk_cell (FoundAt.null HF0.out), boolRow_at _ _ _ hy, Gm.stF_empty x hy]
      have hxx0 : (0 : Int) ≤ (x : Int) := by omega
      have hxx1 : (x : Int) < 256 := by omega
      have HW2 : Aside0 (wouldRow (nrule i).1 k (nrule i).2 = if decide (0 < k) && (Gm.first x).testBit k then true else if Gm.empty x then wouldRow (nrule i).1 k ((nrule i).2.drop (j + 1)) else false) := ⟨by rw [HW.out, HDK.out]; rfl⟩
      generalize (Gm.first x).testBit k = fb at *
      generalize Gm.empty x = eb at *
      clear HW HDK
      rcases (by rcases Nat.eq_zero_or_pos k with h | h; exact Or.inl ⟨h, by simp [h]⟩; exact Or.inr ⟨h, by simp [h]⟩ : (k = 0 ∧ decide (0 < k) = false) ∨ (0 < k ∧ decide (0 < k) = true)) with ⟨hk0', hkd⟩ | ⟨hk0', hkd⟩
      · have hkd2 : decide ((0 : Int) < (k : Int)) = false := by simp; omega
        rw [hkd] at HW2
        have HK0 := Aside0.mk hk0'
        clear hk0'
        have HB1 : Aside0 (∀ m, Below w.heap.size w (wa.drewN m)) := ⟨fun m => pw_below_drewN (hbx ▸ HB0.out) m⟩
        cases eb
        · go_wp2
          go_quiet (fail)
          go_wp2
          go_quiet (fail)
          go_wp2
          go_ret
          exact ⟨by rw [HW2.out]; rfl, by rw [World.drewN_drewN, World.drewN_drewN]; exact HB1.out _⟩
        · go_wp2
          go_quiet (fail)
          go_wp2
          go_quiet (fail)
          go_wp2
          go_roundw
          case rel => exact ⟨j + 1, _, by omega, by go_num, rfl, ⟨by rw [HW2.out]; rfl⟩⟩
          case measure => simp [intOf]; omega
      · have hkd2 : decide ((0 : Int) < (k : Int)) = true := by simp; omega
        rw [hkd] at HW2
        have HB1 : Aside0 (∀ m, Below w.heap.size w (wa.drewN m)) := ⟨fun m => pw_below_drewN (hbx ▸ HB0.out) m⟩
        cases fb
        · cases eb
          · go_wp2
            go_quiet (fail)
            go_wp2
            go_quiet (fail)
            go_wp2
            go_ret
            exact ⟨by rw [HW2.out]; rfl, by rw [World.drewN_drewN, World.drewN_drewN]; exact HB1.out _⟩
          · go_wp2
            go_quiet (fail)
            go_wp2
            go_quiet (fail)
            go_wp2
            go_roundw
            case rel => exact ⟨j + 1, _, by omega, by go_num, rfl, ⟨by rw [HW2.out]; rfl⟩⟩
            case measure => simp [intOf]; omega
        · go_wp2
          go_quiet (fail)
          go_wp2
          go_ret
          exact ⟨by rw [HW2.out]; rfl, by rw [World.drewN_drewN]; exact HB1.out _⟩
    · have hd : decide ((j : Int) < ((nrule i).2.length : Int)) = false := by simp; omega
      have HB1 : Aside0 (∀ m, Below w.heap.size w (wa.drewN m)) := ⟨fun m => pw_below_drewN (hbx ▸ HB0.out) m⟩
      have c4 := FoundAt.c4 HF0.out
      have cd := FoundAt.cd HF0.out (nrule i).1 hpart
      have hpr : Gm.part (nrule i).1 = true := by
        have h74 : Gm.rules.length = 74 := by decide +kernel
        have hm : nrule i ∈ Gm.rules := by
          unfold nrule
          rw [List.getD_eq_getElem?_getD, List.getElem?_eq_getElem (by rw [h74]; exact hi)]
          exact List.getElem_mem _
        exact List.all_eq_true.1 Gm.parts_ruled _ hm
      have cdk : wa.cell? ⟨L.D (nrule i).1, k, none⟩ = some (.bool ((Gm.follow (nrule i).1).testBit k)) := by rw [blk_cell (FoundAt.drow HF0.out _ hpart), boolRow_at _ _ _ hk, Gm.behF_bit hpart hk hpr]
      have HW2 : Aside0 (wouldRow (nrule i).1 k (nrule i).2 = (Gm.follow (nrule i).1).testBit k) := ⟨by rw [HW.out, List.drop_eq_nil_of_le (by omega)]; rfl⟩
      generalize (Gm.follow (nrule i).1).testBit k = fb at *
      have hp0 : (0 : Int) ≤ ((nrule i).1 : Int) := by omega
      have hp1 : ((nrule i).1 : Int) < 256 := by omega
      clear HW hpr
      go_wp2
      go_quiet (fail)
      go_wp2
      go_ret
      exact ⟨by rw [HW2.out]; rfl, by rw [World.drewN_drewN]; exact HB1.out _⟩
theorem rule_small (i : Nat) (hi : i < 74) : ∀ x ∈ (nrule i).2, x < 256 := by
  intro x hx
  obtain ⟨j, hj, e⟩ := List.getElem_of_mem hx
  have := sym_at hi hj
  rw [List.getD_eq_getElem?_getD, List.getElem?_eq_getElem hj] at this
  have e2 : (some (nrule i).2[j]).getD 0 = x := e
  rw [e2] at this
  exact this
theorem would_rule (i k : Nat) (hi : i < 74) : wouldRow (nrule i).1 k (nrule i).2 = Gm.does (nrule i) k := would_does _ _ (nrule_lt i) _ (rule_small i hi)
/-- the rule that is taken, from rule i on -/
def chooseFrom (s k i : Nat) : Option Nat := ((Gm.rules.drop i).findIdx? (fun r => r.1 == s && Gm.does r k)).map (· + i)
theorem choose_zero (s k : Nat) : chooseFrom s k 0 = Gm.choose s k := by
  unfold chooseFrom Gm.choose
  simp
theorem choose_step (s k i : Nat) (hi : i < 74) : chooseFrom s k i = if (nrule i).1 == s && Gm.does (nrule i) k then some i else chooseFrom s k (i + 1) := by
  unfold chooseFrom
  rw [Gm.drop_rule hi, List.findIdx?_cons]
  by_cases h : ((nrule i).1 == s && Gm.does (nrule i) k) = true
  · rw [if_pos h]
    have h' : ((Gm.rules.getD i (0, [])).1 == s && Gm.does (Gm.rules.getD i (0, [])) k) = true := h
    rw [if_pos h']
    simp
  · rw [if_neg h]
    have h' : ¬ ((Gm.rules.getD i (0, [])).1 == s && Gm.does (Gm.rules.getD i (0, [])) k) = true := h
    rw [if_neg h', Option.map_map]
    congr 1
    funext x
    simp; omega
theorem choose_end (s k : Nat) : chooseFrom s k 74 = none := by
  unfold chooseFrom
  rw [List.drop_eq_nil_of_le (by rw [Gm.rules_74]; omega)]
  rfl
set_option maxHeartbeats 2000000 in
theorem refChoose_any (w : World) (L : Lay) (hF : FF w L) (hR : RefRules w L.g) (s k : Nat) (hs : s < 256) (hk : k < 256) :
    Calls Try.prog 23 #[.pointer (some ⟨L.f, 0, none⟩), .int .u8 (Int.ofNat s), .int .u8 (Int.ofNat k)] w fun e w' => e = .returned (.int .i64 (idx (Gm.choose s k))) ∧ Below w.heap.size w w' := by
  have HF := Aside0.mk hF
  have HR := Aside0.mk hR
  clear hF hR
  show Calls _ _ #[_, .int .u8 (s : Int), .int .u8 (k : Int)] _ _
  go_enter Try.func23, Try.ntmps23
  go_wp2
  go_loopw [7] (fun v7 wr => ∃ i : Nat, i ≤ 74 ∧ v7 = .int .i64 i ∧ Aside0 (FF wr L) ∧ Aside0 (RefRules wr L.g) ∧ Aside0 (Below w.heap.size w wr) ∧ Aside0 (Gm.choose s k = chooseFrom s k i)) (fun v7 _ => 74 - (intOf v7).toNat)
  case atStart => exact ⟨0, by omega, rfl, HF, HR, ⟨Below.refl _ _⟩, ⟨(choose_zero s k).symm⟩⟩
  case round =>
    clear HF HR
    obtain ⟨i, hi, rfl, HF, HR, HB, HW⟩ := hrel
    have c0 := FoundAt.c0 HF.out
    by_cases hil : i < 74
    · have hd : decide ((i : Int) < 74) = true := by simp; omega
      have hi0 : (0 : Int) ≤ (i : Int) := by omega
      have hi1 : (i : Int) < 74 := by omega
      have hg0 := HR.out.part i hil
      have HS := Aside0.mk (choose_step s k i hil)
      have HD := Aside0.mk (would_rule i k hil)
      by_cases e : (nrule i).1 = s
      · have he : ((nrule i).1 == s) = true := by simpa using e
        have hei : (((nrule i).1 : Int) == (s : Int)) = true := by simp; omega
        have HE := Aside0.mk he
        clear he e
        cases hdo : Gm.does (nrule i) k with
        | true =>
          have HD2 : Aside0 (wouldRow (nrule i).1 k (nrule i).2 = true) := ⟨by rw [HD.out, hdo]⟩
          have HW2 : Aside0 (Gm.choose s k = some i) := ⟨by rw [HW.out, HS.out, HE.out, hdo]; rfl⟩
          clear hdo HD HS HW
          have hcall := refWould_any wr L HF.out HR.out i k hil hk
          rw [HD2.out] at hcall
          have HCA := Aside0.mk hcall
          clear hcall
          go_wp2_with fail
          refine (HCA.out).mono ?_
          rintro e w3 ⟨rfl, hb3⟩
          have HB3 := Aside0.mk hb3
          clear hb3
          go_wp2
          go_ret
          exact ⟨by rw [HW2.out]; rfl, below_then HB.out HB.out.size HB3.out⟩
        | false =>
          have HD2 : Aside0 (wouldRow (nrule i).1 k (nrule i).2 = false) := ⟨by rw [HD.out, hdo]⟩
          have HW2 : Aside0 (Gm.choose s k = chooseFrom s k (i + 1)) := ⟨by rw [HW.out, HS.out, HE.out, hdo]; rfl⟩
          clear hdo HD HS HW
          have hcall := refWould_any wr L HF.out HR.out i k hil hk
          rw [HD2.out] at hcall
          have HCA := Aside0.mk hcall
          clear hcall
          go_wp2_with fail
          refine (HCA.out).mono ?_
          rintro e w3 ⟨rfl, hb3⟩
          have HB3 := Aside0.mk hb3
          clear hb3
          go_wp2
          go_roundw
          case rel => exact ⟨i + 1, by omega, by go_num, ⟨FF.below HF.out HB3.out⟩, ⟨RefRules.below HR.out HB3.out⟩, ⟨below_then HB.out HB.out.size HB3.out⟩, HW2⟩
          case measure => simp [intOf]; omega
      · have he : ((nrule i).1 == s) = false := by simpa using e
        have hei : (((nrule i).1 : Int) == (s : Int)) = false := by simp; omega
        have HW2 : Aside0 (Gm.choose s k = chooseFrom s k (i + 1)) := ⟨by rw [HW.out, HS.out, he]; rfl⟩
        have HE := Aside0.mk e
        clear he e HD HS HW
        go_wp2
        go_roundw
        case rel => exact ⟨i + 1, by omega, by go_num, HF, HR, HB, HW2⟩
        case measure => simp [intOf]; omega
    · have hd : decide ((i : Int) < 74) = false := by simp; omega
      have HW2 : Aside0 (Gm.choose s k = none) := ⟨by
        rw [HW.out, show i = 74 by omega]
        exact choose_end s k⟩
      clear HW
      go_wp2
      go_ret
      exact ⟨by rw [HW2.out]; rfl, HB.out⟩
end Go.Proofs.Ytlliokmcfmcigaa.GR
