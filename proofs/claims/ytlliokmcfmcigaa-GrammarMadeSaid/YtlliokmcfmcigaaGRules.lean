/- grammar.Rules(): a table of 74 rows of new memory, each with a row of its own. -/
import Derived.Test.YtlliokmcfmcigaaRunList
import Derived.Test.YtlliokmcfmcigaaPGrammarTellsx0
import Derived.Test.YtlliokmcfmcigaaGm
namespace Go.Proofs.Ytlliokmcfmcigaa.GR
open Go.RowKit Go.Proofs.YtlliokmcfmcigaaW.PrintWords Go.Proofs.YtlliokmcfmcigaaW.PrintLast Go.Proofs.YtlliokmcfmcigaaW.PrintMore
set_option linter.unusedVariables false
set_option linter.unusedSimpArgs false
def u8s (l : List Nat) : Array Value := (l.map (fun (n : Nat) => Value.int .u8 (Int.ofNat n))).toArray
/-- new blocks, one behind the other -/
def allocs (w : World) (l : List Obj) : World := l.foldl World.alloc w
theorem heap_allocs : ∀ (l : List Obj) (w : World), (allocs w l).heap = w.heap ++ l.toArray
  | [], w => by simp [allocs]
  | o :: l, w => by
    show (allocs (w.alloc o) l).heap = _
    rw [heap_allocs l]
    show w.heap.push o ++ l.toArray = _
    rw [← Array.toList_inj]; simp
theorem size_allocs (l : List Obj) (w : World) : (allocs w l).heap.size = w.heap.size + l.length := by rw [heap_allocs]; simp
theorem allocs_at (l : List Obj) (w : World) (i : Nat) (h : i < l.length) : (allocs w l).heap[w.heap.size + i]? = l[i]? := by
  rw [heap_allocs, Array.getElem?_append_right (by omega)]; simp
theorem allocs_below : ∀ (l : List Obj) (w w0 : World) (B : Nat), Below B w0 w → B ≤ w.heap.size → Below B w0 (allocs w l)
  | [], _, _, _, h, _ => h
  | o :: l, w, w0, B, h, hB => allocs_below l (w.alloc o) w0 B (h.alloc hB o) (by rw [World.size_alloc]; omega)
def nrule (n : Nat) : Nat × List Nat := Gm.rules.getD n (0, [])
/-- the cells of a table of rules: row n lies in block B n -/
def tabCells (B : Nat → Nat) : Nat → Nat → List Value
  | _, 0 => []
  | k, m + 1 => Value.int .u8 (Int.ofNat (nrule k).1) :: .slice (some ⟨B k, 0, none⟩) (nrule k).2.length (nrule k).2.length :: tabCells B (k + 1) m
theorem tabCells_at (B : Nat → Nat) : ∀ (m k n : Nat), n < m → (tabCells B k m)[n * 2]? = some (.int .u8 (Int.ofNat (nrule (k + n)).1)) ∧ (tabCells B k m)[n * 2 + 1]? = some (.slice (some ⟨B (k + n), 0, none⟩) (nrule (k + n)).2.length (nrule (k + n)).2.length)
  | 0, _, _, h => absurd h (by omega)
  | m + 1, k, 0, _ => ⟨rfl, rfl⟩
  | m + 1, k, n + 1, h => by
    have ih := tabCells_at B m (k + 1) n (by omega)
    rw [show k + (n + 1) = k + 1 + n by omega, show (n + 1) * 2 = n * 2 + 1 + 1 by omega]
    exact ih
theorem tabCells_congr {B B' : Nat → Nat} : ∀ (m k : Nat), (∀ n, k ≤ n → n < k + m → B n = B' n) → tabCells B k m = tabCells B' k m
  | 0, _, _ => rfl
  | m + 1, k, h => by
    simp only [tabCells]
    rw [h k (by omega) (by omega), tabCells_congr m (k + 1) (fun n h1 h2 => h n (by omega) (by omega))]
/-- A table of the rules at block g, of element type T; row n at block B n. -/
structure IsRules (w : World) (T : TypeId) (g : Nat) (B : Nat → Nat) : Prop where
  tab : w.heap[g]? = some (.cells (tabCells B 0 74).toArray T (0, 0))
  row : ∀ n, n < 74 → w.heap[B n]? = some (.cells (u8s (nrule n).2) 5 (0, 0))
theorem IsRules.move {w w1 : World} {T : TypeId} {g : Nat} {B : Nat → Nat} (h : IsRules w T g B) (hg : w1.heap[g]? = w.heap[g]?) (hr : ∀ n, n < 74 → w1.heap[B n]? = w.heap[B n]?) : IsRules w1 T g B :=
  ⟨hg.trans h.tab, fun n hn => (hr n hn).trans (h.row n hn)⟩
theorem IsRules.below {w w1 : World} {T : TypeId} {g : Nat} {B : Nat → Nat} (h : IsRules w T g B) (hb : Below w.heap.size w w1) : IsRules w1 T g B :=
  h.move (hb.block _ (blk_lt h.tab)) (fun n hn => hb.block _ (blk_lt (h.row n hn)))
theorem IsRules.part {w : World} {T : TypeId} {g : Nat} {B : Nat → Nat} (h : IsRules w T g B) (n : Nat) (hn : n < 74) : w.cell? ⟨g, n * 2, none⟩ = some (.int .u8 (Int.ofNat (nrule n).1)) := by
  rw [blk_cell h.tab]
  have := (tabCells_at B 74 0 n hn).1
  rw [Nat.zero_add] at this
  simpa using this
theorem IsRules.right {w : World} {T : TypeId} {g : Nat} {B : Nat → Nat} (h : IsRules w T g B) (n : Nat) (hn : n < 74) : w.cell? ⟨g, n * 2 + 1, none⟩ = some (.slice (some ⟨B n, 0, none⟩) (nrule n).2.length (nrule n).2.length) := by
  rw [blk_cell h.tab]
  have := (tabCells_at B 74 0 n hn).2
  rw [Nat.zero_add] at this
  simpa using this
theorem u8s_at (l : List Nat) (j : Nat) (h : j < l.length) : (u8s l)[j]? = some (.int .u8 (Int.ofNat (l.getD j 0))) := by
  unfold u8s
  simp [List.getElem?_eq_getElem h]
theorem IsRules.sym {w : World} {T : TypeId} {g : Nat} {B : Nat → Nat} (h : IsRules w T g B) (n : Nat) (hn : n < 74) (j : Nat) (hj : j < (nrule n).2.length) : w.cell? ⟨B n, j, none⟩ = some (.int .u8 (Int.ofNat ((nrule n).2.getD j 0))) := by
  rw [blk_cell (h.row n hn), u8s_at _ _ hj]

def rowObjs : List Obj := (List.range 74).map (fun n => .cells (u8s (nrule n).2) 5)
theorem rowObjs_length : rowObjs.length = 74 := by unfold rowObjs; simp
def tabObj (w : World) : Obj := .cells (tabCells (fun n => (allocs w (rowObjs.take n)).heap.size) 0 74).toArray 28
set_option maxRecDepth 100000 in
theorem rules_run (w : World) :
    Calls Try.prog 9 #[] w fun e w' => e = .returned (.slice (some ⟨(allocs w rowObjs).heap.size, 0, none⟩) 74 74) ∧ w' = (allocs w rowObjs).alloc (tabObj w) := by
  refine calls_of_wp Try.func9 rfl ?_
  refine wp_seq_k (fun K hK => ?_)
  refine wp_region_lit ?_
  refine wpList_of_run _ _ _ (a' := { tmps := (Array.replicate 150 undef).setIfInBounds 0 (.slice none 0 0), defers := [] }) (w' := w) (by kernel_rfl) ?_
  refine hK _ _ ?_
  refine wp_seq_k (fun K2 hK2 => ?_)
  refine wp_region_lit ?_
  refine wpList_of_run_slot 0 (v := .slice (some ⟨(allocs w rowObjs).heap.size, 0, none⟩) 74 74) (w' := (allocs w rowObjs).alloc (tabObj w)) _ _ _ (by kernel_rfl) (fun a' h1 h2 => ?_)
  refine hK2 _ _ (wp_ret ?_)
  exact bodyPost_ret (v := .slice (some ⟨(allocs w rowObjs).heap.size, 0, none⟩) 74 74) (by rw [results_tmp rfl, h1]) h2 ⟨rfl, rfl⟩
theorem rules_any (w : World) :
    Calls Try.prog 9 #[] w fun e w' => e = .returned (.slice (some ⟨w.heap.size + 74, 0, none⟩) 74 74) ∧ IsRules w' 28 (w.heap.size + 74) (fun n => w.heap.size + n) ∧ Below w.heap.size w w' ∧ w'.heap.size = w.heap.size + 75 := by
  refine (rules_run w).mono ?_
  rintro e w' ⟨rfl, rfl⟩
  have hs : (allocs w rowObjs).heap.size = w.heap.size + 74 := by rw [size_allocs, rowObjs_length]
  have hb := allocs_below rowObjs w w w.heap.size (Below.refl _ _) (Nat.le_refl _)
  refine ⟨by rw [hs], ⟨?_, fun n hn => ?_⟩, hb.alloc (by omega) _, by rw [World.size_alloc, hs]⟩
  · rw [← hs, heap_alloc_new]
    unfold tabObj
    rw [tabCells_congr 74 0 (B' := fun n => w.heap.size + n)]
    intro n _ hn
    rw [size_allocs, List.length_take, rowObjs_length]
    omega
  · rw [heap_alloc_old (allocs w rowObjs) (tabObj w) (show w.heap.size + n < (allocs w rowObjs).heap.size by omega), allocs_at _ _ _ (by rw [rowObjs_length]; exact hn)]
    unfold rowObjs
    simp [hn]
end Go.Proofs.Ytlliokmcfmcigaa.GR
