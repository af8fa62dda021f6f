/- grammar's known.choose, Choose, Begins, Empty, walked. -/
import Derived.Test.YtlliokmcfmcigaaGBegins
namespace Go.Proofs.Ytlliokmcfmcigaa.GR
open Go.RowKit Go.Proofs.YtlliokmcfmcigaaW.PrintWords Go.Proofs.YtlliokmcfmcigaaW.PrintLast Go.Proofs.YtlliokmcfmcigaaW.PrintMore
set_option linter.unusedVariables false
set_option linter.unusedSimpArgs false
/-- would rule n be taken for a part at a kind? -/
def takes (part kind n : Nat) : Bool := (nrule n).1 == part && Gm.does (nrule n) kind
/-- a variable of its own -/
def Box (w : World) (b : Nat) (T : TypeId) (v : Value) : Prop := w.heap[b]? = some (.cells #[v] T (0, 0))
theorem Box.cell {w : World} {b : Nat} {T : TypeId} {v : Value} (h : Box w b T v) : w.cell? ⟨b, 0, none⟩ = some v := by rw [blk_cell h]; rfl
theorem Box.below {w w1 : World} {b : Nat} {T : TypeId} {v : Value} (h : Box w b T v) (hb : Below w.heap.size w w1) : Box w1 b T v := (hb.block _ (blk_lt h)).trans h
theorem Box.alloc {w : World} {b : Nat} {T : TypeId} {v : Value} (h : Box w b T v) (o : Obj) : Box (w.alloc o) b T v := h.below ((Below.refl _ _).alloc (Nat.le_refl _) _)
theorem Box.lt {w : World} {b : Nat} {T : TypeId} {v : Value} (h : Box w b T v) : b < w.heap.size := blk_lt h
theorem IsKnown.alloc {w : World} {g r : Nat} {B : Nat → Nat} (h : IsKnown w g r B) (o : Obj) : IsKnown (w.alloc o) g r B := h.below ((Below.refl _ _).alloc (Nat.le_refl _) _)
theorem IsKnown.lt {w : World} {g r : Nat} {B : Nat → Nat} (h : IsKnown w g r B) : g < w.heap.size := blk_lt h.cells
theorem beq_cast (a b : Nat) : ((a : Int) == (b : Int)) = (a == b) := by
  by_cases h : a = b
  · subst h; simp
  · have h1 : (a == b) = false := by simpa using h
    rw [h1]; simp; omega
set_option maxHeartbeats 1000000 in
theorem lit_any (w : World) (g r : Nat) (B : Nat → Nat) (h : IsKnown w g r B) (part kind : Nat) (hp : part < 256) (hk : kind < 256) (bp bk bq : Nat) (h1 : Box w bp 5 (.int .u8 (Int.ofNat part))) (h2 : Box w bk 46 (.pointer (some ⟨g, 0, none⟩))) (h3 : Box w bq 5 (.int .u8 (Int.ofNat kind))) (n : Nat) (hn : n < 74) :
    Calls Try.prog 47 #[ruleV B n, .pointer (some ⟨bp, 0, none⟩), .pointer (some ⟨bk, 0, none⟩), .pointer (some ⟨bq, 0, none⟩)] w fun e w' => e = .returned (.bool (takes part kind n)) ∧ Below w.heap.size w w' := by
  have HK := Aside0.mk h
  have c1 := h1.cell
  have c2 := h2.cell
  have c3 := h3.cell
  have l1 := h1.lt
  have l2 := h2.lt
  have l3 := h3.lt
  clear h h1 h2 h3
  have HT : Aside0 (takes part kind n = ((nrule n).1 == part && Gm.does (nrule n) kind)) := ⟨rfl⟩
  by_cases he : (nrule n).1 = part
  · have hb : (((nrule n).1 : Int) == (part : Int)) = true := by rw [beq_cast]; simpa using he
    have HE := Aside0.mk he
    clear he
    unfold ruleV
    go_enter Try.func47, Try.ntmps47
    go_wp2_with fail
    refine (does_any _ g r B (HK.out.alloc _) n hn kind hk).mono ?_
    rintro e w1 ⟨rfl, hb1⟩
    have HB1 := Aside0.mk hb1
    clear hb1
    go_wp2
    go_ret
    refine ⟨?_, ((Below.refl _ _).alloc (Nat.le_refl _) _).trans (HB1.out.mono (by rw [World.size_alloc]; omega))⟩
    rw [HT.out]
    have : ((nrule n).1 == part) = true := by simpa using HE.out
    rw [this]; rfl
  · have hb : (((nrule n).1 : Int) == (part : Int)) = false := by rw [beq_cast]; simpa using he
    have HE := Aside0.mk he
    clear he
    unfold ruleV
    go_enter Try.func47, Try.ntmps47
    go_wp2
    go_ret
    refine ⟨?_, (Below.refl _ _).alloc (Nat.le_refl _) _⟩
    rw [HT.out]
    have : ((nrule n).1 == part) = false := by simpa using HE.out
    rw [this]; rfl
/-- the first rule that is taken, from one on -/
def takenFrom (part kind : Nat) (k : Nat) : Option Nat := ((List.range 74).drop k).find? (takes part kind)
theorem taken_step (part kind k : Nat) (h : k < 74) : takenFrom part kind k = if takes part kind k then some k else takenFrom part kind (k + 1) := by
  unfold takenFrom
  rw [List.drop_eq_getElem_cons (by simpa using h)]
  simp only [List.getElem_range, List.find?_cons]
  cases takes part kind k <;> rfl
theorem taken_end (part kind : Nat) : takenFrom part kind 74 = none := by unfold takenFrom; rw [List.drop_of_length_le (by simp)]; rfl
theorem taken_choose (part kind : Nat) : takenFrom part kind 0 = Gm.choose part kind := by
  unfold takenFrom Gm.choose
  rw [List.drop_zero]
  have key : ∀ (l : List (Nat × List Nat)) (b : Nat), (∀ i, i < l.length → l.getD i (0, []) = nrule (b + i)) → (List.range' b l.length).find? (takes part kind) = (l.findIdx? (fun r => r.1 == part && Gm.does r kind)).map (b + ·) := by
    intro l
    induction l with
    | nil => intro b _; rfl
    | cons x l ih =>
      intro b h
      have h0 : x = nrule b := by have := h 0 (by simp); simpa using this
      rw [List.length_cons, List.range'_succ, List.find?_cons, List.findIdx?_cons]
      have e : takes part kind b = (x.1 == part && Gm.does x kind) := by rw [h0]; rfl
      rw [e]
      cases hc : (x.1 == part && Gm.does x kind) with
      | true => simp
      | false =>
        simp only [Bool.false_eq_true, if_false]
        rw [ih (b + 1) (fun i hi => by have := h (i + 1) (by simp; omega); rw [List.getD_cons_succ] at this; rw [this]; congr 1; omega)]
        cases l.findIdx? (fun r => r.1 == part && Gm.does r kind) with
        | none => rfl
        | some j => simp; omega
  have h74 : Gm.rules.length = 74 := by decide +kernel
  have := key Gm.rules 0 (fun i hi => by rw [Nat.zero_add]; rfl)
  rw [h74] at this
  rw [List.range_eq_range', this]
  cases Gm.rules.findIdx? (fun r => r.1 == part && Gm.does r kind) <;> simp
def idx (o : Option Nat) : Int := match o with | some n => (n : Int) | none => -1
set_option maxHeartbeats 1000000 in
theorem index_any (w : World) (g r : Nat) (B : Nat → Nat) (h : IsKnown w g r B) (part kind : Nat) (hp : part < 256) (hk : kind < 256) (bp bk bq : Nat) (h1 : Box w bp 5 (.int .u8 (Int.ofNat part))) (h2 : Box w bk 46 (.pointer (some ⟨g, 0, none⟩))) (h3 : Box w bq 5 (.int .u8 (Int.ofNat kind))) :
    Calls Try.prog 46 #[.slice (some ⟨r, 0, none⟩) 74 74, .func (.func 47) #[] #[.pointer (some ⟨bp, 0, none⟩), .pointer (some ⟨bk, 0, none⟩), .pointer (some ⟨bq, 0, none⟩)]] w fun e w' => e = .returned (.int .i64 (idx (takenFrom part kind 0))) ∧ Below w.heap.size w w' := by
  have HK := Aside0.mk h
  have H1 := Aside0.mk h1
  have H2 := Aside0.mk h2
  have H3 := Aside0.mk h3
  clear h h1 h2 h3
  go_enter Try.func46, Try.ntmps46
  go_wp2
  go_loopw [8] (fun i wr => ∃ k : Nat, k ≤ 74 ∧ i = .int .i64 k ∧ Aside0 (takenFrom part kind 0 = takenFrom part kind k) ∧ Aside0 (Below w.heap.size w wr)) (fun i _ => 74 - (intOf i).toNat)
  case atStart => exact ⟨0, by omega, rfl, ⟨rfl⟩, ⟨Below.refl _ _⟩⟩
  case round =>
    obtain ⟨k, hk', rfl, HT, HB⟩ := hrel
    by_cases hlt : k < 74
    · have hd : decide ((k : Int) < 74) = true := by simp; omega
      have hp1 := (HK.out.below HB.out).rules.part k hlt
      have hp2 := (HK.out.below HB.out).rules.right k hlt
      go_wp2_with fail
      refine (lit_any _ g r B (HK.out.below HB.out) part kind hp hk bp bk bq (H1.out.below HB.out) (H2.out.below HB.out) (H3.out.below HB.out) k hlt).mono ?_
      rintro e w1 ⟨rfl, hb1⟩
      have HB1 : Aside0 (Below w.heap.size w w1) := ⟨below_then HB.out HB.out.size hb1⟩
      clear hb1
      have HS := Aside0.mk (taken_step part kind k hlt)
      by_cases ht : takes part kind k = true
      · go_wp2
        go_ret
        refine ⟨?_, HB1.out⟩
        rw [HT.out, HS.out, if_pos ht]; rfl
      · have ht' : takes part kind k = false := by simpa using ht
        go_wp2
        go_roundw
        case rel => exact ⟨k + 1, by omega, by go_num, ⟨by rw [HT.out, HS.out, if_neg ht]⟩, HB1⟩
        case measure => simp [intOf]; omega
    · obtain rfl : k = 74 := by omega
      have hd : decide (((74 : Nat) : Int) < 74) = false := by decide
      go_wp2
      go_ret
      refine ⟨?_, HB.out⟩
      rw [HT.out, taken_end]; rfl
set_option maxHeartbeats 1000000 in
theorem choose_any (w : World) (g r : Nat) (B : Nat → Nat) (h : IsKnown w g r B) (part kind : Nat) (hp : part < 256) (hk : kind < 256) :
    Calls Try.prog 34 #[.pointer (some ⟨g, 0, none⟩), .int .u8 (Int.ofNat part), .int .u8 (Int.ofNat kind)] w fun e w' => e = .returned (.int .i64 (idx (Gm.choose part kind))) ∧ Below w.heap.size w w' := by
  have HK := Aside0.mk h
  have ht := h.tab
  have hl := h.lt
  clear h
  go_enter Try.func34, Try.ntmps34
  have b1 : Box (((w.alloc (.cells #[.pointer (some ⟨g, 0, none⟩)] 46)).alloc (.cells #[.int .u8 (Int.ofNat part)] 5)).alloc (.cells #[.int .u8 (Int.ofNat kind)] 5)) w.heap.size 46 (.pointer (some ⟨g, 0, none⟩)) := Box.alloc (Box.alloc (heap_alloc_new _ _) _) _
  have b2 : Box (((w.alloc (.cells #[.pointer (some ⟨g, 0, none⟩)] 46)).alloc (.cells #[.int .u8 (Int.ofNat part)] 5)).alloc (.cells #[.int .u8 (Int.ofNat kind)] 5)) (w.heap.size + 1) 5 (.int .u8 (Int.ofNat part)) := Box.alloc (by have := heap_alloc_new (w.alloc (.cells #[.pointer (some ⟨g, 0, none⟩)] 46)) (.cells #[.int .u8 (Int.ofNat part)] 5); rw [World.size_alloc] at this; exact this) _
  have b3 : Box (((w.alloc (.cells #[.pointer (some ⟨g, 0, none⟩)] 46)).alloc (.cells #[.int .u8 (Int.ofNat part)] 5)).alloc (.cells #[.int .u8 (Int.ofNat kind)] 5)) (w.heap.size + 1 + 1) 5 (.int .u8 (Int.ofNat kind)) := by have := heap_alloc_new ((w.alloc (.cells #[.pointer (some ⟨g, 0, none⟩)] 46)).alloc (.cells #[.int .u8 (Int.ofNat part)] 5)) (.cells #[.int .u8 (Int.ofNat kind)] 5); rw [World.size_alloc, World.size_alloc] at this; exact this
  have B1 := Aside0.mk b1
  have B2 := Aside0.mk b2
  have B3 := Aside0.mk b3
  have hm : ∀ (fn : Fn) (first cap : Array Value) (w : World), (Instr.makeFunc fn first cap).run Try.prog w = .ok (.func fn first cap) w := fun _ _ _ _ => rfl
  clear b1 b2 b3
  have ht3 : (((w.alloc (.cells #[.pointer (some ⟨g, 0, none⟩)] 46)).alloc (.cells #[.int .u8 (part : Int)] 5)).alloc (.cells #[.int .u8 (kind : Int)] 5)).cell? ⟨g, 0, none⟩ = some (.slice (some ⟨r, 0, none⟩) 74 74) := (((HK.out.alloc _).alloc _).alloc _).tab
  go_wp2_with fail
  refine (index_any _ g r B (((HK.out.alloc _).alloc _).alloc _) part kind hp hk _ _ _ B2.out B1.out B3.out).mono ?_
  rintro e w1 ⟨rfl, hb1⟩
  have HB1 := Aside0.mk hb1
  clear hb1
  go_wp2
  go_ret
  refine ⟨by rw [taken_choose]; rfl, ?_⟩
  exact ((((Below.refl _ _).alloc (Nat.le_refl _) _).alloc (by rw [World.size_alloc]; omega) _).alloc (by rw [World.size_alloc, World.size_alloc]; omega) _).trans (HB1.out.mono (by rw [World.size_alloc, World.size_alloc, World.size_alloc]; omega))
end Go.Proofs.Ytlliokmcfmcigaa.GR
