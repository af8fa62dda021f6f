/- grammar.ready(), walked. -/
import Derived.Test.YtlliokmcfmcigaaGReady
namespace Go.Proofs.Ytlliokmcfmcigaa.GR
open Go.RowKit Go.Proofs.YtlliokmcfmcigaaW.PrintWords Go.Proofs.YtlliokmcfmcigaaW.PrintLast Go.Proofs.YtlliokmcfmcigaaW.PrintMore
set_option linter.unusedVariables false
set_option linter.unusedSimpArgs false
/-- What is known of the rules lies at block g; its table of rules at block r, row n of it at block B n. -/
structure IsKnown (w : World) (g r : Nat) (B : Nat → Nat) : Prop where
  cells : w.heap[g]? = some (.cells (knownCells ⟨r, 0, none⟩ Gm.empty Gm.part) 53 (0, 0))
  rules : IsRules w 28 r B
theorem IsKnown.below {w w1 : World} {g r : Nat} {B : Nat → Nat} (h : IsKnown w g r B) (hb : Below w.heap.size w w1) : IsKnown w1 g r B :=
  ⟨(hb.block _ (blk_lt h.cells)).trans h.cells, h.rules.below hb⟩
/-- which are parts behind so many rules; which are empty behind so many symbols -/
def partTo (k : Nat) (s : Nat) : Bool := (Gm.rules.take k).any (fun r => r.1 == s)
theorem nrule_lt (k : Nat) : (nrule k).1 < 256 := by
  by_cases h : k < 74
  · have : (List.range 74).all (fun k => decide ((nrule k).1 < 256)) = true := by decide +kernel
    simpa using List.all_eq_true.1 this k (by simpa using h)
  · have : nrule k = (0, []) := by
      unfold nrule
      rw [List.getD_eq_getElem?_getD, List.getElem?_eq_none (by have h74 : Gm.rules.length = 74 := by decide +kernel
                                                                omega)]
      rfl
    rw [this]; decide
theorem or_if (b : Bool) (x i : Nat) {c : Bool} (h : c = (x == i)) : (b || c) = if i = x then true else b := by
  subst h
  by_cases hi : i = x
  · subst hi; simp
  · have : (x == i) = false := by simpa using fun e => hi e.symm
    simp [hi, this]
theorem or_if' (b : Bool) (x i : Nat) {c : Bool} (h : c = (i == x)) : (b || c) = if i = x then true else b := by
  subst h
  by_cases hi : i = x
  · subst hi; simp
  · simp [hi]
theorem partTo_succ (k : Nat) (h : k < 74) : partTo (k + 1) = fun i => if i = (nrule k).1 then true else partTo k i := by
  funext i
  unfold partTo nrule
  have h74 : Gm.rules.length = 74 := by decide +kernel
  rw [List.take_succ_eq_append_getElem (by omega), List.any_append, List.getD_eq_getElem?_getD, List.getElem?_eq_getElem (by omega)]
  simp only [List.any_cons, List.any_nil, Bool.or_false, Option.getD_some]
  exact or_if _ _ _ rfl
theorem IsRules.set {w : World} {T : TypeId} {r g : Nat} {B : Nat → Nat} (h : IsRules w T r B) (hr : r ≠ g) (hB : ∀ n, n < 74 → B n ≠ g) (j : Nat) (v : Value) : IsRules (w.setCell ⟨g, j, none⟩ v) T r B :=
  h.move (Below.heap_setCell w _ v _ hr) (fun n hn => Below.heap_setCell w _ v _ (hB n hn))
def emptyTo (k : Nat) (s : Nat) : Bool := (Gm.emptyL.take k).contains s
theorem emptyL_len : Gm.emptyL.length = 15 := by decide
theorem emptyTo_succ (k : Nat) (h : k < 15) : emptyTo (k + 1) = fun i => if i = Gm.emptyL.getD k 0 then true else emptyTo k i := by
  funext i
  unfold emptyTo
  rw [List.take_succ_eq_append_getElem (by rw [emptyL_len]; exact h), List.getD_eq_getElem?_getD, List.getElem?_eq_getElem (by rw [emptyL_len]; exact h)]
  simp only [List.contains_eq_any_beq, List.any_append, List.any_cons, List.any_nil, Bool.or_false, Option.getD_some]
  exact or_if' _ _ _ rfl
theorem emptyL_lt (k : Nat) (h : k < 15) : Gm.emptyL.getD k 0 < 256 := by
  have : (List.range 15).all (fun k => decide (Gm.emptyL.getD k 0 < 256)) = true := by decide +kernel
  simpa using List.all_eq_true.1 this k (by simpa using h)
theorem known_congr (t : Addr) {e e' p p' : Nat → Bool} (he : ∀ s, s < 256 → e s = e' s) (hp : ∀ s, s < 256 → p s = p' s) : knownCells t e p = knownCells t e' p' := by
  unfold knownCells
  have h1 : (List.range 256).map (fun s => Value.bool (e s)) = (List.range 256).map (fun s => Value.bool (e' s)) := List.map_congr_left (fun s hs => by rw [he s (by simpa using hs)])
  have h2 : (List.range 256).map (fun s => Value.bool (p s)) = (List.range 256).map (fun s => Value.bool (p' s)) := List.map_congr_left (fun s hs => by rw [hp s (by simpa using hs)])
  rw [h1, h2]
theorem known_end (t : Addr) : knownCells t (emptyTo 15) (partTo 74) = knownCells t Gm.empty Gm.part := by
  have h1 : (List.range 256).all (fun s => emptyTo 15 s == Gm.empty s) = true := by decide +kernel
  have h2 : (List.range 256).all (fun s => partTo 74 s == Gm.part s) = true := by decide +kernel
  exact known_congr t (fun s hs => by simpa using List.all_eq_true.1 h1 s (by simpa using hs)) (fun s hs => by simpa using List.all_eq_true.1 h2 s (by simpa using hs))
set_option maxRecDepth 100000 in
set_option maxHeartbeats 1000000 in
theorem ready_any (w : World) :
    Calls Try.prog 33 #[] w fun e w' => ∃ g r B, e = .returned (.pointer (some ⟨g, 0, none⟩)) ∧ w.heap.size ≤ g ∧ IsKnown w' g r B ∧ Below w.heap.size w w' := by
  go_enter Try.func33, Try.ntmps33
  go_wp2_with fail
  refine (rules_any _).mono ?_
  rintro e w1 ⟨rfl, hR, hb1, hs1⟩
  have HR := Aside0.mk hR
  have HB1 := Aside0.mk hb1
  have HS1 := Aside0.mk hs1
  clear hR hb1 hs1
  go_wp2_with fail
  refine (firsts_any _).mono ?_
  rintro e w2 ⟨rfl, hb2⟩
  have HB2 := Aside0.mk hb2
  clear hb2
  generalize hfa : firstsArr = fa
  have HFA := Aside0.mk hfa
  clear hfa
  go_wp2_with fail
  refine (follows_any _).mono ?_
  rintro e w3 ⟨rfl, hb3⟩
  have HB3 := Aside0.mk hb3
  clear hb3
  generalize hfo : tabArr Gm.followT = fo
  have HFO := Aside0.mk hfo
  clear hfo
  have hkn := heap_alloc_new w3 (.cells (knownCells ⟨w.heap.size + 74, 0, none⟩ (fun _ => false) (fun _ => false)) 53)
  have hc0 : (w3.alloc (.cells (knownCells ⟨w.heap.size + 74, 0, none⟩ (fun _ => false) (fun _ => false)) 53)).cell? ⟨w3.heap.size, 0, none⟩ = some (.slice (some ⟨w.heap.size + 74, 0, none⟩) 74 74) := by rw [blk_cell hkn]; rfl
  have HKN := Aside0.mk hkn
  clear hkn
  go_wp2_with (refine wpList_built rfl 53 _ rfl [(0, .slice (some ⟨w.heap.size + 74, 0, none⟩) 74 74), (1, .agg fa), (2, .agg fo)] (by kernel_rfl) (knownCells ⟨w.heap.size + 74, 0, none⟩ (fun _ => false) (fun _ => false)) (by rw [← HFA.out, ← HFO.out]; exact known_built _) ?_)
  clear hc0
  have hsz1 : w.heap.size ≤ w1.heap.size := HB1.out.size
  have hsz2 : w1.heap.size ≤ w2.heap.size := HB2.out.size
  have hsz3 : w2.heap.size ≤ w3.heap.size := HB3.out.size
  have hs1 := HS1.out
  have HB : Below w.heap.size w (w3.alloc (.cells (knownCells ⟨w.heap.size + 74, 0, none⟩ (fun _ => false) (fun _ => false)) 53)) := (below_then (below_then HB1.out HB1.out.size HB2.out) (by omega) HB3.out).alloc (by omega) _
  have HRW : IsRules (w3.alloc (.cells (knownCells ⟨w.heap.size + 74, 0, none⟩ (fun _ => false) (fun _ => false)) 53)) 28 (w.heap.size + 74) (fun n => w.heap.size + n) := ((HR.out.below HB2.out).below HB3.out).below ((Below.refl _ _).alloc (Nat.le_refl _) _)
  have hgr : w.heap.size + 74 < w3.heap.size := by omega
  have hkn := HKN.out
  clear hs1 HKN HB1 HB2 HB3 HR HS1 HFA HFO
  generalize (w3.alloc (.cells (knownCells ⟨w.heap.size + 74, 0, none⟩ (fun _ => false) (fun _ => false)) 53)) = W at *
  generalize w3.heap.size = g at *
  generalize Value.agg fa = fa' at *
  generalize Value.agg fo = fo' at *
  generalize Value.agg (knownCells ⟨w.heap.size + 74, 0, none⟩ (fun _ => false) (fun _ => false)) = kn' at *
  have HK := Aside0.mk hkn
  clear hkn
  have HBA := Aside0.mk HB
  have HRA := Aside0.mk HRW
  clear HB HRW
  go_loopw [16] (fun i wr => ∃ k : Nat, k ≤ 74 ∧ i = .int .i64 k ∧ wr.heap[g]? = some (.cells (knownCells ⟨w.heap.size + 74, 0, none⟩ (fun _ => false) (partTo k)) 53 (0, 0)) ∧ IsRules wr 28 (w.heap.size + 74) (fun n => w.heap.size + n) ∧ Below w.heap.size w wr) (fun i _ => 74 - (intOf i).toNat)
  case atStart => exact ⟨0, by omega, rfl, HK.out, HRA.out, HBA.out⟩
  case round =>
    clear HK HRA HBA
    obtain ⟨k, hk, rfl, hkc, hru, hbe⟩ := hrel
    have HKC := Aside0.mk hkc
    have HRU := Aside0.mk hru
    have HBE := Aside0.mk hbe
    clear hkc hru hbe
    by_cases hlt : k < 74
    · have hp1 := HRU.out.part k hlt
      have hp2 := HRU.out.right k hlt
      have hd : decide ((k : Int) < 74) = true := by simp; omega
      have hs := nrule_lt k
      have hcell := (blk_cell HKC.out (769 + (nrule k).1)).trans (known_part _ _ _ _ hs)
      have hfr := blk_frozen HKC.out (769 + (nrule k).1)
      have hgl := blk_lt HKC.out
      generalize hn : (nrule k).1 = s at *
      have HN := Aside0.mk hn
      clear hn
      go_wp2
      go_region
      all_goals go_wp2
      go_roundw
      case rel =>
        have hset := blk_set HKC.out (769 + s) (.bool true)
        rw [known_setPart _ _ _ s hs] at hset
        refine ⟨k + 1, by omega, by go_num, ?_, ?_, ?_⟩
        · show (World.alloc _ _).heap[g]? = _
          rw [heap_alloc_old _ _ (blk_lt hset), hset, partTo_succ k hlt, HN.out]
        · exact ((HRU.out.set (g := g) (by omega) (fun n hn => by omega) _ _).below ((Below.refl _ _).alloc (Nat.le_refl _) _)).below (below_drew (Below.refl _ _))
        · exact below_drew ((HBE.out.setCell (p := ⟨g, 769 + s, none⟩) (by show w.heap.size ≤ g; omega) _).alloc (by rw [World.size_setCell]; exact HBE.out.size) _)
      case measure => simp [intOf]; omega
    · obtain rfl : k = 74 := by omega
      have hd : decide (((74 : Nat) : Int) < 74) = false := by decide
      go_wp2
      have hkc : (wr.alloc (.cells (u8s Gm.emptyL) 5)).heap[g]? = some (.cells (knownCells ⟨w.heap.size + 74, 0, none⟩ (emptyTo 0) (partTo 74)) 53 (0, 0)) := by rw [heap_alloc_old _ _ (blk_lt HKC.out)]; exact HKC.out
      have hrow : (wr.alloc (.cells (u8s Gm.emptyL) 5)).heap[wr.heap.size]? = some (.cells (u8s Gm.emptyL) 5 (0, 0)) := heap_alloc_new _ _
      have hru := HRU.out.below ((Below.refl _ _).alloc (Nat.le_refl _) (.cells (u8s Gm.emptyL) 5))
      have hbe := HBE.out.alloc HBE.out.size (.cells (u8s Gm.emptyL) 5)
      have hgq : g < wr.heap.size := blk_lt HKC.out
      clear HKC HRU HBE
      change Code.wp _ _ _ _ (wr.alloc (.cells (u8s Gm.emptyL) 5))
      generalize (wr.alloc (.cells (u8s Gm.emptyL) 5)) = W2 at *
      generalize wr.heap.size = q at *
      have HKC := Aside0.mk hkc
      have HROW := Aside0.mk hrow
      have HRU := Aside0.mk hru
      have HBE := Aside0.mk hbe
      clear hkc hrow hru hbe
      go_loopw [29] (fun i wr => ∃ k : Nat, k ≤ 15 ∧ i = .int .i64 k ∧ wr.heap[g]? = some (.cells (knownCells ⟨w.heap.size + 74, 0, none⟩ (emptyTo k) (partTo 74)) 53 (0, 0)) ∧ wr.heap[q]? = some (.cells (u8s Gm.emptyL) 5 (0, 0)) ∧ IsRules wr 28 (w.heap.size + 74) (fun n => w.heap.size + n) ∧ Below w.heap.size w wr) (fun i _ => 15 - (intOf i).toNat)
      case atStart => exact ⟨0, by omega, rfl, HKC.out, HROW.out, HRU.out, HBE.out⟩
      case round =>
        clear HKC HROW HRU HBE
        obtain ⟨k, hk, rfl, hkc, hrow, hru, hbe⟩ := hrel
        have HKC := Aside0.mk hkc
        have HROW := Aside0.mk hrow
        have HRU := Aside0.mk hru
        have HBE := Aside0.mk hbe
        clear hkc hrow hru hbe
        by_cases hlt : k < 15
        · have hs := emptyL_lt k hlt
          have hsym := (blk_cell HROW.out k).trans (u8s_at _ _ (by rw [emptyL_len]; exact hlt))
          generalize hn : Gm.emptyL.getD k 0 = s at *
          have HN := Aside0.mk hn
          clear hn
          have hd : decide ((k : Int) < 15) = true := by simp; omega
          have hcell := (blk_cell HKC.out (513 + s)).trans (known_empty _ _ _ _ hs)
          have hfr := blk_frozen HKC.out (513 + s)
          go_wp2
          go_roundw
          case rel =>
            have hset := blk_set HKC.out (513 + s) (.bool true)
            rw [known_setEmpty _ _ _ s hs] at hset
            refine ⟨k + 1, by omega, by go_num, ?_, blk_far HROW.out (by show q ≠ g; omega) _, HRU.out.set (g := g) (by omega) (fun n hn => by omega) _ _, HBE.out.setCell (p := ⟨g, 513 + s, none⟩) (by show w.heap.size ≤ g; omega) _⟩
            rw [hset, emptyTo_succ k hlt, HN.out]
          case measure => simp [intOf]; omega
        · obtain rfl : k = 15 := by omega
          have hd : decide (((15 : Nat) : Int) < 15) = false := by decide
          go_wp2
          go_ret
          exact ⟨g, w.heap.size + 74, _, rfl, by omega, ⟨by rw [HKC.out, known_end], HRU.out⟩, HBE.out⟩
end Go.Proofs.Ytlliokmcfmcigaa.GR
