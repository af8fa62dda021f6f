/- The reference's Rules(): a table of the same 74 rows. -/
import Derived.Test.YtlliokmcfmcigaaGChoose
namespace Go.Proofs.Ytlliokmcfmcigaa.GR
open Go.RowKit Go.Proofs.YtlliokmcfmcigaaW.PrintWords Go.Proofs.YtlliokmcfmcigaaW.PrintLast Go.Proofs.YtlliokmcfmcigaaW.PrintMore
set_option linter.unusedVariables false
set_option linter.unusedSimpArgs false
theorem one_any (w : World) (p : Int) (A : Option Addr) (n c : Nat) :
    Calls Try.prog 32 #[.int .u8 p, .slice A n c] w fun e w' => e = .returned (.agg #[.int .u8 p, .slice A n c]) ∧ w.alloc (.cells #[.int .u8 p, .slice A n c] 29) = w' := by
  go_enter Try.func32, Try.ntmps32
  go_wp2
  exact bodyPost_ret (v := .agg #[.int .u8 p, .slice A n c]) (by simp [results, Try.results32, go_sem]) rfl ⟨rfl, rfl⟩
def oneSum (f : FuncId) (args : Array Value) (w : World) : Option (Value × World) :=
  if f = 32 then match args.toList with
    | [.int .u8 p, .slice A n c] => some (.agg #[.int .u8 p, .slice A n c], w.alloc (.cells #[.int .u8 p, .slice A n c] 29))
    | _ => none
  else none
theorem oneSum_calls : ∀ f args w v w2, oneSum f args w = some (v, w2) → Calls Try.prog f args w fun e w' => e = .returned v ∧ w2 = w' := by
  intro f args w v w2 h
  unfold oneSum at h
  split at h
  · rename_i hf
    subst hf
    split at h
    · rename_i p A n c hl
      have ha : args = #[.int .u8 p, .slice A n c] := by rw [← Array.toList_inj, hl]
      subst ha
      simp only [Option.some.injEq, Prod.mk.injEq] at h
      obtain ⟨rfl, rfl⟩ := h
      exact one_any _ _ _ _ _
    · cases h
  · cases h
/-- what one row of the table lays in memory -/
def refStep (w : World) (r : Nat × List Nat) : World :=
  match r.2 with
  | [] => w.alloc (.cells #[.int .u8 (Int.ofNat r.1), .slice none 0 0] 29)
  | l => (w.alloc (.cells (u8s l) 5)).alloc (.cells #[.int .u8 (Int.ofNat r.1), .slice (some ⟨w.heap.size, 0, none⟩) l.length l.length] 29)
def refCell (w : World) (r : Nat × List Nat) : List Value :=
  match r.2 with
  | [] => [.int .u8 (Int.ofNat r.1), .slice none 0 0]
  | l => [.int .u8 (Int.ofNat r.1), .slice (some ⟨w.heap.size, 0, none⟩) l.length l.length]
def refWorld : List (Nat × List Nat) → World → World
  | [], w => w
  | r :: l, w => refWorld l (refStep w r)
def refCells : List (Nat × List Nat) → World → List Value
  | [], _ => []
  | r :: l, w => refCell w r ++ refCells l (refStep w r)
set_option maxRecDepth 100000 in
theorem ref_run (w : World) :
    Calls Try.prog 8 #[] w fun e w' => e = .returned (.slice (some ⟨(refWorld Gm.rules w).heap.size, 0, none⟩) 74 74) ∧ (refWorld Gm.rules w).alloc (.cells (refCells Gm.rules w).toArray 29) = w' := by
  refine calls_of_wp Try.func8 rfl ?_
  refine wp_seq_k (fun K hK => ?_)
  refine wp_region_lit ?_
  refine wpList_of_run _ _ _ (a' := { tmps := (Array.replicate 136 undef).setIfInBounds 0 (.slice none 0 0), defers := [] }) (w' := w) (by kernel_rfl) ?_
  refine hK _ _ ?_
  refine wp_seq_k (fun K2 hK2 => ?_)
  refine wp_region_lit ?_
  refine wpList_of_runC_slot oneSum_calls 0 (v := .slice (some ⟨(refWorld Gm.rules w).heap.size, 0, none⟩) 74 74) (w' := (refWorld Gm.rules w).alloc (.cells (refCells Gm.rules w).toArray 29)) _ _ _ (by kernel_rfl) (fun a' h1 h2 => ?_)
  refine hK2 _ _ (wp_ret ?_)
  exact bodyPost_ret (v := .slice (some ⟨(refWorld Gm.rules w).heap.size, 0, none⟩) 74 74) (by rw [results_tmp rfl, h1]) h2 ⟨rfl, rfl⟩
/-- A table of rules at block g that is read. -/
structure RefRules (w : World) (g : Nat) : Prop where
  lt : g < w.heap.size
  part : ∀ n, n < 74 → w.cell? ⟨g, n * 2, none⟩ = some (.int .u8 ((nrule n).1 : Int))
  right : ∀ n, n < 74 → ∃ A, w.cell? ⟨g, n * 2 + 1, none⟩ = some (.slice A (nrule n).2.length (nrule n).2.length) ∧ Kd.C (Kd.int .u8) w A (nrule n).2.length ((nrule n).2.map Int.ofNat)
theorem RefRules.below {w w1 : World} {g : Nat} (h : RefRules w g) (hb : Below w.heap.size w w1) : RefRules w1 g :=
  ⟨Nat.lt_of_lt_of_le h.lt hb.size, fun n hn => (hb.cell (p := ⟨g, n * 2, none⟩) h.lt).trans (h.part n hn), fun n hn => by
    obtain ⟨A, h1, h2⟩ := h.right n hn
    exact ⟨A, (hb.cell (p := ⟨g, n * 2 + 1, none⟩) h.lt).trans h1, Kd.C_below h2 hb⟩⟩
theorem refStep_below (w : World) (r : Nat × List Nat) : Below w.heap.size w (refStep w r) := by
  unfold refStep
  split
  · exact (Below.refl _ _).alloc (Nat.le_refl _) _
  · exact ((Below.refl _ _).alloc (Nat.le_refl _) _).alloc (by rw [World.size_alloc]; omega) _
theorem refWorld_below : ∀ (l : List (Nat × List Nat)) (w : World), Below w.heap.size w (refWorld l w)
  | [], w => Below.refl _ _
  | r :: l, w => below_then (refStep_below w r) (refStep_below w r).size (refWorld_below l _)
theorem C_u8s (w : World) (b : Nat) (l : List Nat) (hl : l.length ≤ 9223372036854775807) (h : w.heap[b]? = some (.cells (u8s l) 5 (0, 0))) : Kd.C (Kd.int .u8) w (some ⟨b, 0, none⟩) l.length (l.map Int.ofNat) := by
  refine Kd.C_of_reads (enc := Value.int .u8) (d := (0 : Int)) (h1 := fun _ => rfl) ⟨by simp, hl, fun hn => ⟨_, rfl, fun j hj => ?_⟩⟩
  rw [add_plain, blk_cell h, u8s_at _ _ hj]
  simp [List.getD_eq_getElem?_getD, hj]
theorem C_none (w : World) : Kd.C (Kd.int .u8) w none 0 [] := Kd.C_of_reads (enc := Value.int .u8) (d := (0 : Int)) (h1 := fun _ => rfl) ⟨rfl, by omega, fun h => absurd h (by omega)⟩
theorem refStep_cell (w : World) (r : Nat × List Nat) (hr : r.2.length ≤ 100) : ∃ A, refCell w r = [.int .u8 (r.1 : Int), .slice A r.2.length r.2.length] ∧ Kd.C (Kd.int .u8) (refStep w r) A r.2.length (r.2.map Int.ofNat) := by
  obtain ⟨p, l⟩ := r
  cases l with
  | nil => exact ⟨none, rfl, C_none _⟩
  | cons x l =>
    refine ⟨some ⟨w.heap.size, 0, none⟩, rfl, ?_⟩
    refine C_u8s _ _ (x :: l) (by simp at hr ⊢; omega) ?_
    show ((w.alloc (.cells (u8s (x :: l)) 5)).alloc _).heap[w.heap.size]? = _
    rw [heap_alloc_old _ _ (by rw [World.size_alloc]; omega), heap_alloc_new]
theorem refCells_at : ∀ (l : List (Nat × List Nat)) (w : World), (∀ r, r ∈ l → r.2.length ≤ 100) → ∀ j, j < l.length →
    (refCells l w)[j * 2]? = some (.int .u8 ((l.getD j (0, [])).1 : Int)) ∧ ∃ A, (refCells l w)[j * 2 + 1]? = some (.slice A (l.getD j (0, [])).2.length (l.getD j (0, [])).2.length) ∧ Kd.C (Kd.int .u8) (refWorld l w) A (l.getD j (0, [])).2.length ((l.getD j (0, [])).2.map Int.ofNat)
  | [], _, _, _, h => absurd h (by simp)
  | r :: l, w, hr, 0, _ => by
    obtain ⟨A, h1, h2⟩ := refStep_cell w r (hr r List.mem_cons_self)
    refine ⟨by simp [refCells, h1], A, by simp [refCells, h1], ?_⟩
    exact Kd.C_below h2 (refWorld_below l (refStep w r))
  | r :: l, w, hr, j + 1, h => by
    obtain ⟨A, h1, _⟩ := refStep_cell w r (hr r List.mem_cons_self)
    have ih := refCells_at l (refStep w r) (fun x hx => hr x (List.mem_cons_of_mem _ hx)) j (by simpa using h)
    simp only [refCells, h1, List.getD_cons_succ]
    rw [show (j + 1) * 2 = j * 2 + 1 + 1 by omega]
    exact ih
theorem refRules_any (w : World) :
    Calls Try.prog 8 #[] w fun e w' => ∃ g, e = .returned (.slice (some ⟨g, 0, none⟩) 74 74) ∧ RefRules w' g ∧ Below w.heap.size w w' := by
  refine (ref_run w).mono ?_
  rintro e w' ⟨rfl, rfl⟩
  have h74 : Gm.rules.length = 74 := by decide +kernel
  have hsm : ∀ r, r ∈ Gm.rules → r.2.length ≤ 100 := by
    have : Gm.rules.all (fun r => decide (r.2.length ≤ 100)) = true := by decide +kernel
    intro r hr
    simpa using List.all_eq_true.1 this r hr
  have hb := refWorld_below Gm.rules w
  refine ⟨_, rfl, ⟨by rw [World.size_alloc]; omega, fun n hn => ?_, fun n hn => ?_⟩, hb.alloc hb.size _⟩
  · rw [blk_cell (heap_alloc_new _ _), List.getElem?_toArray]
    exact (refCells_at Gm.rules w hsm n (by omega)).1
  · obtain ⟨A, h1, h2⟩ := (refCells_at Gm.rules w hsm n (by omega)).2
    refine ⟨A, ?_, Kd.C_below h2 ((Below.refl _ _).alloc (Nat.le_refl _) _)⟩
    rw [blk_cell (heap_alloc_new _ _), List.getElem?_toArray]
    exact h1
/-- The same, told so that it holds wherever the blocks from a to b read as they did. -/
structure RefRows (w : World) (g a b : Nat) : Prop where
  ga : a ≤ g
  gb : g < b
  tab : ∃ cs, w.heap[g]? = some (.cells cs 29 (0, 0)) ∧ ∀ n, n < 74 → cs[n * 2]? = some (.int .u8 ((nrule n).1 : Int)) ∧ ∃ A, cs[n * 2 + 1]? = some (.slice A (nrule n).2.length (nrule n).2.length) ∧ ((A = none ∧ (nrule n).2 = []) ∨ ∃ q, A = some ⟨q, 0, none⟩ ∧ a ≤ q ∧ q < b ∧ w.heap[q]? = some (.cells (u8s (nrule n).2) 5 (0, 0)))
theorem RefRows.move {w w1 : World} {g a b : Nat} (h : RefRows w g a b) (hb : ∀ k, a ≤ k → k < b → w1.heap[k]? = w.heap[k]?) : RefRows w1 g a b := by
  obtain ⟨cs, h1, h2⟩ := h.tab
  refine ⟨h.ga, h.gb, cs, (hb g h.ga h.gb).trans h1, fun n hn => ?_⟩
  obtain ⟨e1, A, e2, e3⟩ := h2 n hn
  refine ⟨e1, A, e2, ?_⟩
  rcases e3 with e3 | ⟨q, q1, q2, q3, q4⟩
  · exact Or.inl e3
  · exact Or.inr ⟨q, q1, q2, q3, (hb q q2 q3).trans q4⟩
theorem RefRows.rules {w : World} {g a b : Nat} (h : RefRows w g a b) : RefRules w g := by
  obtain ⟨cs, h1, h2⟩ := h.tab
  refine ⟨blk_lt h1, fun n hn => by rw [blk_cell h1]; exact (h2 n hn).1, fun n hn => ?_⟩
  obtain ⟨e1, A, e2, e3⟩ := h2 n hn
  refine ⟨A, by rw [blk_cell h1]; exact e2, ?_⟩
  rcases e3 with ⟨rfl, e3⟩ | ⟨q, rfl, q2, q3, q4⟩
  · rw [e3]; exact C_none _
  · refine C_u8s _ _ _ ?_ q4
    have : Gm.rules.all (fun r => decide (r.2.length ≤ 100)) = true := by decide +kernel
    have h74 : Gm.rules.length = 74 := by decide +kernel
    have hm : nrule n ∈ Gm.rules := by
      unfold nrule
      rw [List.getD_eq_getElem?_getD, List.getElem?_eq_getElem (by rw [h74]; exact hn)]
      exact List.getElem_mem _
    have := List.all_eq_true.1 this _ hm
    have : (nrule n).2.length ≤ 100 := by simpa using this
    omega
theorem refCells_rows : ∀ (l : List (Nat × List Nat)) (w : World), ∀ j, j < l.length →
    (refCells l w)[j * 2]? = some (.int .u8 ((l.getD j (0, [])).1 : Int)) ∧ ∃ A, (refCells l w)[j * 2 + 1]? = some (.slice A (l.getD j (0, [])).2.length (l.getD j (0, [])).2.length) ∧ ((A = none ∧ (l.getD j (0, [])).2 = []) ∨ ∃ q, A = some ⟨q, 0, none⟩ ∧ w.heap.size ≤ q ∧ q < (refWorld l w).heap.size ∧ (refWorld l w).heap[q]? = some (.cells (u8s (l.getD j (0, [])).2) 5 (0, 0)))
  | [], _, _, h => absurd h (by simp)
  | (p, []) :: l, w, 0, _ => ⟨rfl, none, rfl, Or.inl ⟨rfl, rfl⟩⟩
  | (p, x :: xs) :: l, w, 0, _ => by
    refine ⟨rfl, some ⟨w.heap.size, 0, none⟩, rfl, Or.inr ⟨w.heap.size, rfl, Nat.le_refl _, ?_⟩⟩
    have hb := refWorld_below l (refStep w (p, x :: xs))
    have hs : (refStep w (p, x :: xs)).heap.size = w.heap.size + 2 := by
      show ((w.alloc _).alloc _).heap.size = _
      rw [World.size_alloc, World.size_alloc]
    have h0 : (refStep w (p, x :: xs)).heap[w.heap.size]? = some (.cells (u8s (x :: xs)) 5 (0, 0)) := by
      show ((w.alloc (.cells (u8s (x :: xs)) 5)).alloc _).heap[w.heap.size]? = _
      rw [heap_alloc_old _ _ (by rw [World.size_alloc]; omega), heap_alloc_new]
    refine ⟨?_, (hb.block _ (by omega)).trans h0⟩
    show w.heap.size < (refWorld l (refStep w (p, x :: xs))).heap.size
    have := hb.size
    omega
  | r :: l, w, j + 1, h => by
    obtain ⟨a1, A, a2, a3⟩ := refCells_rows l (refStep w r) j (by simpa using h)
    have hc : ∃ u v, refCell w r = [u, v] := by
      obtain ⟨p, l⟩ := r
      cases l <;> exact ⟨_, _, rfl⟩
    obtain ⟨u, v, hc⟩ := hc
    simp only [refCells, hc, List.getD_cons_succ]
    rw [show (j + 1) * 2 = j * 2 + 1 + 1 by omega]
    refine ⟨a1, A, a2, ?_⟩
    rcases a3 with a3 | ⟨q, q1, q2, q3⟩
    · exact Or.inl a3
    · exact Or.inr ⟨q, q1, Nat.le_trans (refStep_below w r).size q2, q3⟩
theorem refRows_any (w : World) :
    Calls Try.prog 8 #[] w fun e w' => ∃ g, e = .returned (.slice (some ⟨g, 0, none⟩) 74 74) ∧ RefRows w' g w.heap.size w'.heap.size ∧ Below w.heap.size w w' := by
  refine (ref_run w).mono ?_
  rintro e w' ⟨rfl, rfl⟩
  have h74 : Gm.rules.length = 74 := by decide +kernel
  have hb := refWorld_below Gm.rules w
  refine ⟨_, rfl, ⟨hb.size, by rw [World.size_alloc]; omega, _, heap_alloc_new _ _, fun n hn => ?_⟩, hb.alloc hb.size _⟩
  obtain ⟨a1, A, a2, a3⟩ := refCells_rows Gm.rules w n (by omega)
  refine ⟨by rw [List.getElem?_toArray]; exact a1, A, by rw [List.getElem?_toArray]; exact a2, ?_⟩
  rcases a3 with a3 | ⟨q, q1, q2, q3, q4⟩
  · exact Or.inl a3
  · exact Or.inr ⟨q, q1, q2, by rw [World.size_alloc]; omega, by rw [heap_alloc_old _ _ q3]; exact q4⟩
end Go.Proofs.Ytlliokmcfmcigaa.GR
