/- The reference's Find, walked. -/
import Derived.Test.YtlliokmcfmcigaaGLaid
import Derived.Test.YtlliokmcfmcigaaGFound2
import Derived.StillTailTactics
namespace Go.Proofs.Ytlliokmcfmcigaa.GR
open Go.RowKit Go.Proofs.YtlliokmcfmcigaaW.PrintWords Go.Proofs.YtlliokmcfmcigaaW.PrintLast Go.Proofs.YtlliokmcfmcigaaW.PrintMore
set_option linter.unusedVariables false
set_option linter.unusedSimpArgs false
theorem infoRow : (Try.prog.info? 58).map (fun i => (i.zero, i.size, i.bytes)) = some (some (.slice none 0 0), 1, 24) := by kernel_rfl
/-- What Find hands back: the tables, found. -/
def FindPost (w : World) (e : Ending) (w' : World) : Prop := ∃ (L : Lay) (a b : Nat), e = .returned (.pointer (some ⟨L.f, 0, none⟩)) ∧ FoundAt w' L Gm.partsF Gm.stF.2 Gm.stF.1 Gm.behF ∧ RefRows w' L.g a b ∧ Below w.heap.size w w'
theorem below_of_kp {S : Nat → Prop} {w w1 w2 : World} (h : Below w.heap.size w w1) (k : Kp S w1 w2) (hS : ∀ k, k < w.heap.size → S k) : Below w.heap.size w w2 :=
  ⟨k.os.trans h.os, k.tape.trans h.tape, k.output.trans h.output, Nat.le_trans h.size k.size, fun j hj => (k.block j (hS j hj)).trans (h.block j hj)⟩
set_option maxHeartbeats 8000000 in
set_option maxRecDepth 100000 in
theorem find_any (w : World) :
    Calls Try.prog 13 #[] w (FindPost w) := by
  have hmk := make_256
  go_enter Try.func13, Try.ntmps13
  go_upto_region 1 with fail
  go_cut [1] from 10 to 14 (fun v1 wx => ∃ (S : Nat → Prop) (w1 : World) (g f p n a b : Nat), v1 = .pointer (some ⟨f, 0, none⟩) ∧ Aside0 (Laying S w1 wx g f p n (.slice none 0 0) (.slice none 0 0) [] [] 0) ∧ Aside0 (RefRows w1 g a b) ∧ Aside0 ((∀ k, k < w.heap.size → S k) ∧ (∀ k, a ≤ k → k < b → S k) ∧ (∀ k, S k → k < w.heap.size ∨ (a ≤ k ∧ k < b))) ∧ Aside0 (Below w.heap.size w w1))
  case first =>
    -- [[
    go_region_with (first | (go_at_call 8; refine (refRows_any _).mono ?_; rintro e w1 ⟨g, rfl, hR, hb1⟩))
    all_goals (go_wp2_with fail)
    all_goals go_meet
    all_goals
      have hsz := hb1.size
      have hbk := hb1.block
      have hbw : Below w.heap.size w w1 := by
        refine Below.trans ?_ (Below.mono hb1 ?_)
        · repeat (first | exact Below.refl _ _ | refine Below.drew ?_ | refine Below.alloc ?_ (by first | exact Nat.le_refl _ | (simp only [World.size_alloc]; omega)) _)
        · simp only [drew_heap, World.size_alloc]; omega
      try simp only [drew_heap, World.size_alloc] at hsz hbk hR
      have hsw := hbw.size
      refine laying_start w _ g _ _ _ _ _ (heap_at (by simp only [World.size_alloc])) ?_ ?_ (hR.move (fun k h1 h2 => ?_)) ?_ ?_ ?_ ?_ ?_
    all_goals first
      | omega
      | (refine ⟨?_, ?_, ?_⟩ <;> omega)
      | (simp only [World.size_alloc]; omega)
      | ((repeat (first | exact hbw | (refine Below.alloc ?_ ?h _; (case h => first | exact hbw.size | (simp only [World.size_alloc]; omega))))); done)
      | ((repeat (first | rfl | (refine (heap_alloc_old _ _ ?h).trans ?_; (case h => first | omega | (simp only [World.size_alloc]; omega))))); done)
      | ((repeat (first | (refine heap_at ?h; (case h => first | rfl | (simp only [World.size_alloc]; done))) | (refine heap_before ?h ?_; (case h => first | omega | (simp only [World.size_alloc]; omega))) | (refine (hbk _ ?h).trans ?_; (case h => omega)))); done)
    -- ]]
  case rest =>
    obtain ⟨S, w1, g, f, p, n, a, b, rfl, HL, HR, HS, HB⟩ := hcut
    go_wp2
    go_loopw [2] (fun v2 wr => ∃ (s : Nat) (v3 v4 : Value) (bl dl : List Nat), s ≤ 256 ∧ v2 = .int .i64 s ∧ Aside0 (bl.length = s ∧ dl.length = s) ∧ Aside0 (Laying S w1 wr g f p n v3 v4 bl dl s)) (fun v2 _ => 256 - (intOf v2).toNat)
    case atStart => exact ⟨0, _, _, [], [], by omega, rfl, ⟨rfl, rfl⟩, HL⟩
    case round =>
      clear HL
      obtain ⟨s, v3, v4, bl, dl, hs, rfl, HN, HL⟩ := hrel
      by_cases hlt : s < 256
      · 
        -- [[
        have hd : decide ((s : Int) < 256) = true := by simp; omega
        have hc3 : wr.cell? ⟨f, 3, none⟩ = some v3 := by rw [blk_cell HL.out.head]; rfl
        obtain ⟨i0, hi0, hz0, hz1, hz2⟩ := info_parts infoRow
        go_wp2
        have hl1 := HN.out.1
        have hf3 : wr.frozen? ⟨f, 3, none⟩ = false := blk_frozen HL.out.head 3
        have hlf := blk_lt HL.out.head
        have ha1 : ∀ o : Obj, (wr.alloc o).cell? ⟨f, 3, none⟩ = some v3 := fun o => by rw [World.cell?_of_block (heap_alloc_old wr o hlf)]; exact hc3
        have ha2 : ∀ o o' : Obj, ((wr.alloc o).alloc o').cell? ⟨f, 3, none⟩ = some v3 := fun o o' => by rw [World.cell?_of_block (heap_alloc_old (wr.alloc o) o' (Nat.lt_of_lt_of_le hlf (by rw [World.size_alloc]; omega)))]; exact ha1 o
        go_cut [] from 19 to 28 (fun wx => ∃ (v3' : Value), Aside0 (Laying S w1 wx g f p n v3' v4 (bl ++ [wr.heap.size]) dl s))
        case first =>
          go_region_law (first | (refine step_append_lies _ (by rfl) _ _ _ (by rfl) 0 58 i0 _ 1 24 Try.underlying57 hi0 hz0 hz1 hz2 rfl (by omega) v3 bl.length (bl.map (fun b => Value.slice (some ⟨b, 0, none⟩) 256 256)) (by rfl) (((HL.out.ob.alloc _).alloc _).drew) ⟨wr.heap.size + 1, 0, none⟩ 1 1 [.slice (some ⟨wr.heap.size, 0, none⟩) 256 256] (by rfl) (by rfl) ?hnews ?h1 (by omega) ?h63 ?hby (by simp) (wr.heap.size + 1 + 1) ?hH ?_; (case hnews => exact World.news_of_block (cs := #[.slice (some ⟨wr.heap.size, 0, none⟩) 256 256]) (t := 58) (fr := (0, 0)) (heap_at (w := wr.alloc _) (World.size_alloc _ _).symm)); (case h1 => simp [Value.oneCell']); (case h63 => (simp only [maxLen]; omega)); (case hby => omega); (case hH => simp only [drew_heap, World.size_alloc]); intro gg cap w5 hown5 hgrow hat hlt5; have hk3 := HL.out.cell3 (grown_undrew hgrow); have hk3f := HL.out.frozen3 (grown_undrew hgrow) 3))
          all_goals
            go_wp2_with fail
            go_meet
            have hL5 := HL.out.app3 (by omega) hown5 (grown_undrew hgrow) hat
            rw [hl1] at hL5
            exact ⟨_, ⟨hL5⟩⟩
        case rest =>
          clear HL ha1 ha2 hc3 hf3 hlf
          obtain ⟨v3', HL⟩ := hcut
          have hl2 := HN.out.2
          have hc4 : wc.cell? ⟨f, 4, none⟩ = some v4 := by rw [blk_cell HL.out.head]; rfl
          have hf4 : wc.frozen? ⟨f, 4, none⟩ = false := blk_frozen HL.out.head 4
          have hlf := blk_lt HL.out.head
          have ha1 : ∀ o : Obj, (wc.alloc o).cell? ⟨f, 4, none⟩ = some v4 := fun o => by rw [World.cell?_of_block (heap_alloc_old wc o hlf)]; exact hc4
          have ha2 : ∀ o o' : Obj, ((wc.alloc o).alloc o').cell? ⟨f, 4, none⟩ = some v4 := fun o o' => by rw [World.cell?_of_block (heap_alloc_old (wc.alloc o) o' (Nat.lt_of_lt_of_le hlf (by rw [World.size_alloc]; omega)))]; exact ha1 o
          go_wp2
          generalize hnb : wr.heap.size = nb at *
          clear hnb
          go_cut [] from 29 to 38 (fun wx => ∃ (v4' : Value) (md : Nat), Aside0 (Laying S w1 wx g f p n v3' v4' (bl ++ [nb]) (dl ++ [md]) s))
          case first =>
            go_region_law (first | (refine step_append_lies _ (by rfl) _ _ _ (by rfl) 0 58 i0 _ 1 24 Try.underlying57 hi0 hz0 hz1 hz2 rfl (by omega) v4 dl.length (dl.map (fun b => Value.slice (some ⟨b, 0, none⟩) 256 256)) (by rfl) (((HL.out.od.alloc _).alloc _).drew) ⟨wc.heap.size + 1, 0, none⟩ 1 1 [.slice (some ⟨wc.heap.size, 0, none⟩) 256 256] (by rfl) (by rfl) ?hnews ?h1 (by omega) ?h63 ?hby (by simp) (wc.heap.size + 1 + 1) ?hH ?_; (case hnews => exact World.news_of_block (cs := #[.slice (some ⟨wc.heap.size, 0, none⟩) 256 256]) (t := 58) (fr := (0, 0)) (heap_at (w := wc.alloc _) (World.size_alloc _ _).symm)); (case h1 => simp [Value.oneCell']); (case h63 => (simp only [maxLen]; omega)); (case hby => omega); (case hH => simp only [drew_heap, World.size_alloc]); intro gg cap w5 hown5 hgrow hat hlt5; have hk3 := HL.out.cell4 (grown_undrew hgrow); have hk3f := HL.out.frozen4 (grown_undrew hgrow) 4))
            all_goals
              go_wp2_with fail
              go_meet
              have hL5 := HL.out.app4 hown5 (grown_undrew hgrow) hat
              rw [hl2] at hL5
              exact ⟨_, _, ⟨hL5⟩⟩
          case rest =>
            clear HL ha1 ha2 hc4 hf4 hlf
            obtain ⟨v4', md, HL⟩ := hcut
            have hbs : (bl ++ [nb])[s]? = some nb := by rw [List.getElem?_append_right (by omega), hl1]; simp
            have hlen : (bl ++ [nb]).length = s + 1 := by simp [hl1]
            obtain ⟨q, cap, rfl, hcq⟩ := own_cell HL.out.ob hbs
            rw [hlen] at HL
            have hc3 : wc.cell? ⟨f, 3, none⟩ = some (.slice (some ⟨q, 0, none⟩) (s + 1) cap) := by rw [blk_cell HL.out.head]; rfl
            have hrow := HL.out.brow s nb hbs
            have hcb : wc.cell? ⟨nb, s, none⟩ = some (.bool false) := by rw [blk_cell hrow, boolRow_at _ _ _ hlt]; simp
            have hfb : wc.frozen? ⟨nb, s, none⟩ = false := blk_frozen hrow s
            have HL2 := Aside0.mk (HL.out.own hlt hbs)
            have hs0 : (0 : Int) ≤ (s : Int) := by omega
            have hs1 : (s : Int) < ((s + 1 : Nat) : Int) := by omega
            have hs2 : (s : Int) < 256 := by omega
            clear HL
            rcases (by omega : s = 0 ∨ (0 < s ∧ s ≤ 40) ∨ (0 < s ∧ 40 < s)) with h0 | ⟨h0, h40⟩ | ⟨h0, h40⟩
            · have d0 : decide ((0 : Int) < (s : Int)) = false := by simp; omega
              have hv : (decide (0 < s) && decide (s ≤ 40)) = false := by simp; omega
              rw [hv] at HL2
              have H0 := Aside0.mk h0
              have d0n : decide (0 < s) = false := by simp; omega
              clear h0 hv
              go_wp2
              go_roundw
              case rel => exact ⟨s + 1, _, _, _, _, by omega, by go_num, ⟨by simp [hl1], by simp [hl2]⟩, HL2⟩
              case measure => simp [intOf]; omega
            · have d0 : decide ((0 : Int) < (s : Int)) = true := by simp; omega
              have d1 : decide ((s : Int) ≤ 40) = true := by simp; omega
              have hv : (decide (0 < s) && decide (s ≤ 40)) = true := by simp; omega
              rw [hv] at HL2
              clear hv
              go_wp2
              go_roundw
              case rel => exact ⟨s + 1, _, _, _, _, by omega, by go_num, ⟨by simp [hl1], by simp [hl2]⟩, HL2⟩
              case measure => simp [intOf]; omega
            · have d0 : decide ((0 : Int) < (s : Int)) = true := by simp; omega
              have d1 : decide ((s : Int) ≤ 40) = false := by simp; omega
              have hv : (decide (0 < s) && decide (s ≤ 40)) = false := by simp; omega
              rw [hv] at HL2
              clear hv
              go_wp2
              go_roundw
              case rel => exact ⟨s + 1, _, _, _, _, by omega, by go_num, ⟨by simp [hl1], by simp [hl2]⟩, HL2⟩
              case measure => simp [intOf]; omega
        -- ]]
      · have hd : decide ((s : Int) < 256) = false := by simp; omega
        have hse : s = 256 := by omega
        rw [hse] at HL HN
        obtain ⟨L, hLf, hLg, hOK, hF⟩ := HL.out.found HN.out.1 HN.out.2
        subst hLf hLg
        have HOK := Aside0.mk hOK
        have HK0 := Aside0.mk HL.out.kp
        have c4 := hF.c4
        have cd51 := hF.cd 51 (by omega)
        have r51 := hF.drow 51 (by omega)
        have cr51 : wr.cell? ⟨L.D 51, 0, none⟩ = some (.bool false) := by rw [blk_cell r51, boolRow_at _ _ _ (by omega), Nat.zero_testBit]
        have fr51 : wr.frozen? ⟨L.D 51, 0, none⟩ = false := blk_frozen r51 0
        have HF : Aside0 (FoundAt (wr.setCell ⟨L.D 51, 0, none⟩ (.bool true)) L 0 0 Gm.begZero Gm.behZero) := ⟨hF.setD hOK⟩
        have HK : Aside0 (Kp S w1 (wr.setCell ⟨L.D 51, 0, none⟩ (.bool true))) := ⟨HK0.out.set (hOK.dm 51 (by omega)) _⟩
        have HSE := Aside0.mk hse
        clear hse hF hOK HL HN HK0 r51
        go_wp2
        generalize (wr.setCell ⟨L.D 51, 0, none⟩ (.bool true)) = wb at *
        go_loopw [3] (fun v3 wr => ∃ t : Nat, t ≤ 74 ∧ v3 = .int .i64 t ∧ Aside0 (FoundAt wr L (Gm.partsAt t) (Gm.turnsOf (Gm.begZero, 0) t).2 (Gm.turnsOf (Gm.begZero, 0) t).1 Gm.behZero) ∧ Aside0 (Kp S w1 wr)) (fun v3 _ => 74 - (intOf v3).toNat)
        case atStart => exact ⟨0, by omega, rfl, HF, HK⟩
        case round =>
          clear HF HK c4 cd51 cr51 fr51
          obtain ⟨t, ht, rfl, HF, HK⟩ := hrel
          have c0 := HF.out.c0
          by_cases htl : t < 74
          · have hd : decide ((t : Int) < 74) = true := by simp; omega
            go_wp2
            go_loopw [4] (fun v4 wr => ∃ i P1 Z1 N1 : Nat, i ≤ 74 ∧ v4 = .int .i64 i ∧ Aside0 (FoundAt wr L P1 Z1 N1 Gm.behZero) ∧ Aside0 (Kp S w1 wr) ∧ Aside0 ((Gm.rules.drop i).foldl Gm.ruleStep (N1, Z1) = Gm.turnsOf (Gm.begZero, 0) (t + 1)) ∧ Aside0 ((Gm.rules.drop i).foldl Gm.partStep P1 = Gm.partsAt (t + 1))) (fun v4 _ => 74 - (intOf v4).toNat)
            case atStart => exact ⟨0, _, _, _, by omega, rfl, HF, HK, ⟨rfl⟩, ⟨rfl⟩⟩
            case round =>
              clear HF HK c0
              obtain ⟨i, P1, Z1, N1, hi, rfl, HF, HK, HR1, HP1⟩ := hrel
              have c0 := HF.out.c0
              by_cases hil : i < 74
              · have hd3 : decide ((i : Int) < 74) = true := by simp; omega
                obtain ⟨A, hA⟩ := HR.out.rule HS.out.2.1 i hil
                have hg0 := (hA _ HK.out).1
                have hg1 := (hA _ HK.out).2.1
                have HC : Aside0 (∀ w2, Kp S w1 w2 → Kd.C (Kd.int .u8) w2 A (nrule i).2.length ((nrule i).2.map Int.ofNat)) := ⟨fun w2 hk => (hA w2 hk).2.2⟩
                clear hA
                have hi0 : (0 : Int) ≤ (i : Int) := by omega
                have hi1 : (i : Int) < 74 := by omega
                have hpart := nrule_lt i
                have hsl := sl_len i hil
                have HDR := Aside0.mk (Gm.drop_rule hil)
                go_wp2
                generalize hbx : wr.heap.size = bx at *
                have hbl : ∀ x o, wr.heap[x]? = some o → x ≠ bx := fun x o hx => by have := blk_lt hx; omega
                have HF0 : Aside0 (FoundAt (wr.alloc (.cells #[.int .u8 ((nrule i).1 : Int), .slice A (nrule i).2.length (nrule i).2.length] 29)) L P1 Z1 N1 Gm.behZero) := ⟨HF.out.below ((Below.refl _ _).alloc (Nat.le_refl _) _)⟩
                have HX0 : Aside0 ((wr.alloc (.cells #[.int .u8 ((nrule i).1 : Int), .slice A (nrule i).2.length (nrule i).2.length] 29)).heap[bx]? = some (.cells #[.int .u8 ((nrule i).1 : Int), .slice A (nrule i).2.length (nrule i).2.length] 29 (0, 0))) := ⟨by rw [← hbx]; exact heap_alloc_new _ _⟩
                have HK0 : Aside0 (Kp S w1 (wr.alloc (.cells #[.int .u8 ((nrule i).1 : Int), .slice A (nrule i).2.length (nrule i).2.length] 29))) := ⟨HK.out.alloc _⟩
                have hpx : L.p ≠ bx := hbl _ _ HF.out.part
                clear HF HK hbx hbl hg0 hg1 c0
                generalize (wr.alloc (.cells #[.int .u8 ((nrule i).1 : Int), .slice A (nrule i).2.length (nrule i).2.length] 29)) = w16 at *
                go_cut [] from 86 to 92 (fun wx => Aside0 (FoundAt wx L (Gm.partStep P1 (nrule i)) Z1 N1 Gm.behZero) ∧ Aside0 (wx.heap[bx]? = some (.cells #[.int .u8 ((nrule i).1 : Int), .slice A (nrule i).2.length (nrule i).2.length] 29 (0, 0))) ∧ Aside0 (Kp S w1 wx))
                case first =>
                  have c1 := HF0.out.c1
                  have cx := box_cell0 HX0.out
                  have cp : w16.cell? ⟨L.p, (nrule i).1, none⟩ = some (.bool (P1.testBit (nrule i).1)) := (blk_cell HF0.out.part (nrule i).1).trans (boolRow_at _ _ _ hpart)
                  have fp : w16.frozen? ⟨L.p, (nrule i).1, none⟩ = false := blk_frozen HF0.out.part _
                  have hp0 : (0 : Int) ≤ ((nrule i).1 : Int) := by omega
                  have hp1 : ((nrule i).1 : Int) < 256 := by omega
                  go_region
                  all_goals
                    go_wp2_with fail
                    go_meet
                    exact ⟨⟨(HF0.out.setP HOK.out hpart).drew⟩, ⟨(Below.heap_setCell _ _ _ _ hpx.symm).trans HX0.out⟩, ⟨(HK0.out.set HOK.out.pm _).drew⟩⟩
                case rest =>
                  clear HF0 HX0 HK0
                  obtain ⟨HF0, HX0, HK0⟩ := hcut
                  go_wp2
                  go_loopw [6, 7] (fun v6 v7 wr => ∃ (e : Bool) (k N2 : Nat), k ≤ (nrule i).2.length ∧ v6 = .bool e ∧ v7 = .int .i64 k ∧ Aside0 (FoundAt wr L (Gm.partStep P1 (nrule i)) Z1 N2 Gm.behZero) ∧ Aside0 (wr.heap[bx]? = some (.cells #[.int .u8 ((nrule i).1 : Int), .slice A (nrule i).2.length (nrule i).2.length] 29 (0, 0))) ∧ Aside0 (Kp S w1 wr) ∧ Aside0 (e = true → Gm.begIn (nrule i).1 Z1 ((nrule i).2.drop k) N2 = Gm.begIn (nrule i).1 Z1 (nrule i).2 N1) ∧ Aside0 (e = false → (N2, false) = Gm.begIn (nrule i).1 Z1 (nrule i).2 N1)) (fun _ v7 _ => (nrule i).2.length - (intOf v7).toNat)
                  case atStart => exact ⟨true, 0, N1, by omega, rfl, rfl, HF0, HX0, HK0, ⟨fun _ => rfl⟩, ⟨fun h => by cases h⟩⟩
                  case round =>
                    clear HF0 HX0 HK0
                    obtain ⟨e, k, N2, hk, rfl, rfl, HF, HX, HK, H1, H2⟩ := hrel
                    have hx1 := box_cell HX.out
                    go_upto_region 19 with fail
                    go_cut [100] from 93 to 99 (fun v100 wx => wx = wr ∧ v100 = .bool (decide (k < (nrule i).2.length) && e))
                    case first =>
                      by_cases hlk : k < (nrule i).2.length
                      · have hd4 : decide ((k : Int) < ((nrule i).2.length : Int)) = true := by simp; omega
                        cases e
                        all_goals
                          go_wp2_with fail
                          go_meet
                          exact ⟨rfl, by simp [hlk]⟩
                      · have hd4 : decide ((k : Int) < ((nrule i).2.length : Int)) = false := by simp; omega
                        cases e
                        all_goals
                          go_wp2_with fail
                          go_meet
                          exact ⟨rfl, by simp [hlk]⟩
                    case rest =>
                      obtain ⟨rfl, rfl⟩ := hcut
                      cases hc : (decide (k < (nrule i).2.length) && e) with
                      | true =>
                        have hlk : k < (nrule i).2.length := by simp at hc; exact hc.1
                        have he : e = true := by simp at hc; exact hc.2
                        clear hc
                        subst he
                        have hk0 : (0 : Int) ≤ (k : Int) := by omega
                        have hk1 : (k : Int) < ((nrule i).2.length : Int) := by omega
                        have hCw := HC.out _ HK.out
                        obtain ⟨ad, eA, hck⟩ := C_at hCw k hlk
                        subst eA
                        clear hCw
                        have hy := sym_at hil hlk
                        have HDK := Aside0.mk (drop_getD _ k hlk)
                        have HGX : Aside0 ((nrule i).2.getD k 0 = (nrule i).2.getD k 0) := ⟨rfl⟩
                        generalize hgx : (nrule i).2.getD k 0 = x at *
                        have HXK := Aside0.mk hgx
                        clear hgx HGX
                        have h1 := H1.out rfl
                        rw [HDK.out] at h1
                        have HT1 := Aside0.mk h1
                        clear h1 H1 H2
                        have c3 := HF.out.c3
                        have cbp := HF.out.cb (nrule i).1 hpart
                        have cbx := HF.out.cb x hy
                        have cx0 := box_cell0 HX.out
                        have hxx0 : (0 : Int) ≤ (x : Int) := by omega
                        have hxx1 : (x : Int) < 256 := by omega
                        have hp0 : (0 : Int) ≤ ((nrule i).1 : Int) := by omega
                        have hp1 : ((nrule i).1 : Int) < 256 := by omega
                        go_wp2
                        go_region_held3 (fun w' => w'.cell? ⟨L.f, 3, none⟩ = some (.slice (some ⟨L.bt, 0, none⟩) 256 L.cb) ∧ w'.cell? ⟨bx, 0, none⟩ = some (.int .u8 ((nrule i).1 : Int)) ∧ w'.cell? ⟨bx, 1, none⟩ = some (.slice (some ad) (nrule i).2.length (nrule i).2.length) ∧ w'.cell? (ad.add k) = some (.int .u8 (x : Int)) ∧ w'.cell? ⟨L.bt, x, none⟩ = some (.slice (some ⟨L.B x, 0, none⟩) 256 256) ∧ w'.cell? ⟨L.bt, (nrule i).1, none⟩ = some (.slice (some ⟨L.B (nrule i).1, 0, none⟩) 256 256)) (first | go_keep | exact ⟨HF3.out.c3, box_cell0 HX3.out, box_cell HX3.out, C_cell (HC.out _ HK3.out) hlk HXK.out, HF3.out.cb x hy, HF3.out.cb (nrule i).1 hpart⟩) ((go_at_call 36; refine (add_both _ (L.B (nrule i).1) (L.B x) 256 (fun k => N2.testBit ((nrule i).1 * 256 + k)) (fun k => N2.testBit (x * 256 + k)) ?hA ?hB (by decide)).mono ?_; (case hA => exact HF.out.brow (nrule i).1 hpart); (case hB => exact HF.out.brow x hy); rintro e w3 ⟨rfl, hr3, ho3⟩; have ho4 := Only.undrew ho3; have HF3 := Aside0.mk (HF.out.addB HOK.out hpart ho4 hr3); have HX3 := Aside0.mk ((ho4.block bx (blk_ne HX.out (HF.out.brow (nrule i).1 hpart) (by decide))).trans HX.out); have HK3 := Aside0.mk (HK.out.only ho4 (HOK.out.bm (nrule i).1 hpart)); clear ho3 ho4 hr3))
                        have n2 := HF3.out.c2
                        have ny : w3.cell? ⟨L.n, x, none⟩ = some (.bool (Z1.testBit x)) := (blk_cell HF3.out.null x).trans (boolRow_at _ _ _ hy)
                        have nb := box_cell HX3.out
                        have nj := C_cell (HC.out _ HK3.out) hlk HXK.out
                        rename_i hHeld
                        clear hHeld c3 cbp cbx cx0 hck hx1 HF HX HK
                        generalize hzy : Z1.testBit x = zy at *
                        have HZY := Aside0.mk hzy
                        clear hzy
                        go_wp2
                        go_quiet (fail)
                        go_wp2
                        go_roundw
                        case rel =>
                          refine ⟨zy, k + 1, Gm.orX N2 N2 (nrule i).1 x, by omega, rfl, by go_num, ⟨HF3.out.below (pw_below_drewN (Below.refl _ _) _)⟩, ⟨HX3.out⟩, ⟨HK3.out.below (pw_below_drewN (Below.refl _ _) _)⟩, ⟨fun h => ?_⟩, ⟨fun h => ?_⟩⟩
                          · rw [← HT1.out, Gm.begIn, HZY.out, h]; rfl
                          · rw [← HT1.out, Gm.begIn, HZY.out, h]; rfl
                        case measure => simp [intOf]; omega
                      | false =>
                        have HE : Aside0 (Gm.begIn (nrule i).1 Z1 (nrule i).2 N1 = (N2, e)) := ⟨by
                          cases e with
                          | false => exact (H2.out rfl).symm
                          | true =>
                            have hkl : k = (nrule i).2.length := by
                              have : ¬ k < (nrule i).2.length := by simpa using hc
                              omega
                            rw [← H1.out rfl, hkl, List.drop_length]
                            rfl⟩
                        clear hc H1 H2
                        have c2 := HF.out.c2
                        have cx0 := box_cell0 HX.out
                        have cz : wc.cell? ⟨L.n, (nrule i).1, none⟩ = some (.bool (Z1.testBit (nrule i).1)) := (blk_cell HF.out.null (nrule i).1).trans (boolRow_at _ _ _ hpart)
                        have fz : wc.frozen? ⟨L.n, (nrule i).1, none⟩ = false := blk_frozen HF.out.null _
                        have hp0 : (0 : Int) ≤ ((nrule i).1 : Int) := by omega
                        have hp1 : ((nrule i).1 : Int) < 256 := by omega
                        have hnx : L.n ≠ bx := blk_ne HF.out.null HX.out (by decide)
                        have hnf : L.n ≠ L.f := blk_ne HF.out.null HF.out.head (by decide)
                        have HV : Aside0 (Z1.testBit (nrule i).1 = true → (Z1.testBit (nrule i).1 || e) = true) := ⟨fun h => by rw [h]; rfl⟩
                        have HF4 := Aside0.mk (HF.out.setZ HOK.out hpart HV.out)
                        generalize hz : Z1.testBit (nrule i).1 = z at *
                        have HZ := Aside0.mk hz
                        clear hz HV
                        go_wp2_with fail
                        have hru : Gm.ruleStep (N1, Z1) (nrule i) = (N2, if z || e then Z1 ||| 2 ^ (nrule i).1 else Z1) := by
                          unfold Gm.ruleStep
                          rw [HE.out, HZ.out]
                        have HR2 : Aside0 ((Gm.rules.drop (i + 1)).foldl Gm.ruleStep (N2, if z || e then Z1 ||| 2 ^ (nrule i).1 else Z1) = Gm.turnsOf (Gm.begZero, 0) (t + 1)) := ⟨by
                          rw [← HR1.out, HDR.out, List.foldl_cons]
                          exact congrArg (fun st => (Gm.rules.drop (i + 1)).foldl Gm.ruleStep st) hru.symm⟩
                        have HP2 : Aside0 ((Gm.rules.drop (i + 1)).foldl Gm.partStep (Gm.partStep P1 (nrule i)) = Gm.partsAt (t + 1)) := ⟨by
                          rw [← HP1.out, HDR.out, List.foldl_cons]; rfl⟩
                        clear hru HR1 HP1 HE HDR
                        cases z
                        all_goals
                          go_still_tail 18, (by kernel_rfl)
                          go_wp2
                          go_roundw
                          case rel => exact ⟨i + 1, _, _, _, by omega, by go_num, ⟨HF4.out.drew⟩, ⟨(HK.out.set HOK.out.nm _).drew⟩, HR2, HP2⟩
                          case measure => simp [intOf]; omega
              · have hd3 : decide ((i : Int) < 74) = false := by simp; omega
                have hie : i = 74 := by omega
                have HRE : Aside0 ((N1, Z1) = Gm.turnsOf (Gm.begZero, 0) (t + 1)) := ⟨by rw [← HR1.out, hie, List.drop_eq_nil_of_le (by rw [Gm.rules_74]; omega)]; rfl⟩
                have HPE : Aside0 (P1 = Gm.partsAt (t + 1)) := ⟨by rw [← HP1.out, hie, List.drop_eq_nil_of_le (by rw [Gm.rules_74]; omega)]; rfl⟩
                clear hie HR1 HP1
                go_wp2
                go_roundw
                case rel => exact ⟨t + 1, by omega, by go_num, ⟨by rw [← HRE.out, ← HPE.out]; exact HF.out⟩, HK⟩
                case measure => simp [intOf]; omega
          · have hd : decide ((t : Int) < 74) = false := by simp; omega
            have hte : t = 74 := by omega
            have HF5 : Aside0 (FoundAt wr L Gm.partsF Gm.stF.2 Gm.stF.1 (Gm.behTurns Gm.stF.2 Gm.stF.1 Gm.behZero 0)) := ⟨by
              have := HF.out
              rw [hte, Gm.parts_74, Gm.stF_74] at this
              exact this⟩
            have HTE := Aside0.mk hte
            clear hte HF
            go_wp2
            go_loopw [8] (fun v8 wr => ∃ q : Nat, q ≤ 74 ∧ v8 = .int .i64 q ∧ Aside0 (FoundAt wr L Gm.partsF Gm.stF.2 Gm.stF.1 (Gm.behTurns Gm.stF.2 Gm.stF.1 Gm.behZero q)) ∧ Aside0 (Kp S w1 wr)) (fun v8 _ => 74 - (intOf v8).toNat)
            case atStart => exact ⟨0, by omega, rfl, HF5, HK⟩
            case round =>
              clear HF5 HK c0
              obtain ⟨q, hq, rfl, HF, HK⟩ := hrel
              have c0 := HF.out.c0
              by_cases hql : q < 74
              · have hd5 : decide ((q : Int) < 74) = true := by simp; omega
                go_wp2
                go_loopw [9] (fun v9 wr => ∃ i D1 : Nat, i ≤ 74 ∧ v9 = .int .i64 i ∧ Aside0 (FoundAt wr L Gm.partsF Gm.stF.2 Gm.stF.1 D1) ∧ Aside0 (Kp S w1 wr) ∧ Aside0 ((Gm.rules.drop i).foldl (Gm.behStep Gm.stF.2 Gm.stF.1) D1 = Gm.behTurns Gm.stF.2 Gm.stF.1 Gm.behZero (q + 1))) (fun v9 _ => 74 - (intOf v9).toNat)
                case atStart => exact ⟨0, _, by omega, rfl, HF, HK, ⟨rfl⟩⟩
                case round =>
                  clear HF HK c0
                  obtain ⟨i, D1, hi, rfl, HF, HK, HR1⟩ := hrel
                  have c0 := HF.out.c0
                  by_cases hil : i < 74
                  · have hd6 : decide ((i : Int) < 74) = true := by simp; omega
                    obtain ⟨A, hA⟩ := HR.out.rule HS.out.2.1 i hil
                    have hg0 := (hA _ HK.out).1
                    have hg1 := (hA _ HK.out).2.1
                    have HC : Aside0 (∀ w2, Kp S w1 w2 → Kd.C (Kd.int .u8) w2 A (nrule i).2.length ((nrule i).2.map Int.ofNat)) := ⟨fun w2 hk => (hA w2 hk).2.2⟩
                    clear hA
                    have hi0 : (0 : Int) ≤ (i : Int) := by omega
                    have hi1 : (i : Int) < 74 := by omega
                    have HDR := Aside0.mk (Gm.drop_rule hil)
                    go_wp2_with ((with_reducible refine (behind_any S w1 _ L _ _ _ _ HF.out HOK.out HK.out i hil A HC.out).mono ?_); rintro e w3 ⟨rfl, hF3, hK3⟩)
                    have HF3 := Aside0.mk hF3
                    have HK3 := Aside0.mk hK3
                    clear hF3 hK3 c0 hg0 hg1
                    go_wp2
                    go_roundw
                    case rel => exact ⟨i + 1, _, by omega, by go_num, HF3, HK3, ⟨by rw [← HR1.out, HDR.out, List.foldl_cons]; rfl⟩⟩
                    case measure => simp [intOf]; omega
                  · have hd6 : decide ((i : Int) < 74) = false := by simp; omega
                    have hie : i = 74 := by omega
                    have HRE : Aside0 (D1 = Gm.behTurns Gm.stF.2 Gm.stF.1 Gm.behZero (q + 1)) := ⟨by rw [← HR1.out, hie, List.drop_eq_nil_of_le (by rw [Gm.rules_74]; omega)]; rfl⟩
                    clear hie HR1
                    go_wp2
                    go_roundw
                    case rel => exact ⟨q + 1, by omega, by go_num, ⟨by rw [← HRE.out]; exact HF.out⟩, HK⟩
                    case measure => simp [intOf]; omega
              · have hd5 : decide ((q : Int) < 74) = false := by simp; omega
                have HQE : Aside0 (q = 74) := ⟨by omega⟩
                go_wp2
                go_ret
                refine ⟨L, a, b, rfl, ?_, HR.out.move (fun k h1 h2 => HK.out.block k (HS.out.2.1 k h1 h2)), below_of_kp HB.out HK.out HS.out.1⟩
                have := HF.out
                rw [HQE.out, Gm.beh_74] at this
                exact this
end Go.Proofs.Ytlliokmcfmcigaa.GR
