/- What firsts() hands back: an array of 256 numbers. -/
import Derived.Test.YtlliokmcfmcigaaRunList
import Derived.Laws.CopyOwn
import Derived.Test.YtlliokmcfmcigaaPGrammarTellsx0
import Derived.Test.YtlliokmcfmcigaaGRules
namespace Go.Proofs.Ytlliokmcfmcigaa.GR
open Go.RowKit Go.Proofs.YtlliokmcfmcigaaW.PrintWords Go.Proofs.YtlliokmcfmcigaaW.PrintLast Go.Proofs.YtlliokmcfmcigaaW.PrintMore
set_option linter.unusedVariables false
set_option linter.unusedSimpArgs false
/-- A table of numbers as cells. -/
def tabArr (t : List (Nat × Nat)) : Array Value := ((List.range 256).map (fun s => Value.int .u64 (Int.ofNat (Gm.look t s)))).toArray
def zeros64 : Array Value := Array.replicate 256 (Value.int .u64 0)
def fcells : Nat → Array Value
  | 0 => tabArr Gm.firstT
  | k + 1 => (fcells k).setIfInBounds (k + 1) (.int .u64 (Int.ofNat (2 ^ (k + 1))))
def firstsArr : Array Value := ((List.range 256).map (fun s => Value.int .u64 (Int.ofNat (Gm.first s)))).toArray
theorem fcells_size : ∀ k, (fcells k).size = 256
  | 0 => by decide +kernel
  | k + 1 => by rw [fcells, Array.size_setIfInBounds, fcells_size k]
theorem fcells_get (k : Nat) (h : k < 40) : (fcells k)[k + 1]? = some (.int .u64 0) := by
  have : (List.range 40).all (fun k => match (fcells k)[k + 1]? with | some (.int .u64 0) => true | _ => false) = true := by decide +kernel
  have := List.all_eq_true.1 this k (by simpa using h)
  split at this
  · assumption
  · cases this
theorem shl_wrap (k : Nat) (h : k < 40) : IntKind.u64.wrap ((2 : Int) ^ (k + 1)) = Int.ofNat (2 ^ (k + 1)) := by
  have : ∀ k, k < 40 → IntKind.u64.wrap ((2 : Int) ^ (k + 1)) = Int.ofNat (2 ^ (k + 1)) := by decide +kernel
  exact this k h
theorem fcells_end : fcells 40 = firstsArr := by kernel_rfl
theorem zeros_new (w : World) (t : TypeId) : (w.alloc (.cells zeros64 t)).heap[w.heap.size]? = some (.cells zeros64 t (0, 0)) := heap_alloc_new _ _
set_option maxRecDepth 100000 in
theorem follows_any (w : World) :
    Calls Try.prog 45 #[] w fun e w' => e = .returned (.agg (tabArr Gm.followT)) ∧ Below w.heap.size w w' := by
  refine calls_of_wp Try.func45 rfl ?_
  refine wp_seq_k (fun K hK => ?_)
  refine wp_region_lit ?_
  refine wpList_of_run _ _ _ (a' := { tmps := #[.pointer (some ⟨w.heap.size, 0, none⟩), undef], defers := [] }) (w' := w.alloc (.cells zeros64 50)) (by kernel_rfl) ?_
  refine hK _ _ ?_
  clear hK K
  refine wp_seq_k (fun K hK => ?_)
  refine wp_region_lit ?_
  refine wpList_run1 (a' := { tmps := #[.pointer (some ⟨w.heap.size, 0, none⟩), .agg (tabArr Gm.followT)], defers := [] }) (w' := w.alloc (.cells zeros64 50)) (by kernel_rfl) ?_
  refine wpList_plain rfl (fun K2 hK2 => wp_store_row _ _ _ rfl w.heap.size (tabArr Gm.followT) rfl rfl 50 zeros64 (zeros_new w _) (by kernel_rfl) (by kernel_rfl) (by kernel_rfl) (hK2 _ _ (wpList_nil ?_)))
  clear hK2 K2
  refine hK _ _ (wp_ret ?_)
  clear hK K
  refine bodyPost_ret (v := .agg (tabArr Gm.followT)) (results_cell_row rfl _ _ w.heap.size 50 (tabArr Gm.followT) (0, 0) (.array 256 49) rfl (setRow_heap _ _ _ _ _ _ (zeros_new w _)) (by kernel_rfl) rfl (by kernel_rfl)) rfl ⟨rfl, ?_⟩
  exact below_setRow ((Below.refl _ _).alloc (Nat.le_refl _) _) (Nat.le_refl _) _
set_option maxRecDepth 100000 in
set_option maxHeartbeats 1000000 in
theorem firsts_any (w : World) :
    Calls Try.prog 44 #[] w fun e w' => e = .returned (.agg firstsArr) ∧ Below w.heap.size w w' := by
  refine calls_of_wp Try.func44 rfl ?_
  refine wp_seq_k (fun K hK => ?_)
  refine wp_region_lit ?_
  refine wpList_of_run _ _ _ (a' := { tmps := (Array.replicate 12 undef).setIfInBounds 0 (.pointer (some ⟨w.heap.size, 0, none⟩)), defers := [] }) (w' := w.alloc (.cells zeros64 50)) (by kernel_rfl) ?_
  refine hK _ _ ?_
  clear hK K
  refine wp_seq_k (fun K hK => ?_)
  refine wp_region_lit ?_
  refine wpList_run1 (a' := { tmps := #[.pointer (some ⟨w.heap.size, 0, none⟩), undef, .agg (fcells 0), undef, undef, undef, undef, undef, undef, undef, undef, undef], defers := [] }) (w' := w.alloc (.cells zeros64 50)) (by kernel_rfl) ?_
  refine wpList_plain rfl (fun K2 hK2 => wp_store_row _ _ _ rfl w.heap.size (fcells 0) rfl rfl 50 zeros64 (zeros_new w _) (by kernel_rfl) (by kernel_rfl) (by kernel_rfl) (hK2 _ _ (wpList_nil ?_)))
  clear hK2 K2
  refine hK _ _ ?_
  clear hK K
  have HB : Below w.heap.size w ((w.alloc (.cells zeros64 50)).setRow w.heap.size (fcells 0)) := below_setRow ((Below.refl _ _).alloc (Nat.le_refl _) _) (Nat.le_refl _) _
  have HH := setRow_heap _ _ _ (fcells 0) _ _ (zeros_new w 50)
  generalize ((w.alloc (.cells zeros64 50)).setRow w.heap.size (fcells 0)) = W at *
  generalize w.heap.size = g at *
  show Code.wp _ _ _ { tmps := #[.pointer (some ⟨g, 0, none⟩), undef, .agg (fcells 0), undef, undef, undef, undef, undef, undef, undef, undef, undef], defers := [] } W
  generalize Value.agg (fcells 0) = f0
  go_wp2
  go_loopw [1] (fun i wr => ∃ k : Nat, k ≤ 40 ∧ i = .int .u8 (k + 1 : Nat) ∧ wr.heap[g]? = some (.cells (fcells k) 50 (0, 0)) ∧ Below g w wr) (fun i _ => 41 - (intOf i).toNat)
  case atStart => exact ⟨0, by omega, rfl, HH, HB⟩
  case round =>
    obtain ⟨k, hk, rfl, hc, hb⟩ := hrel
    by_cases hlt : k < 40
    · have hcell := blk_cell hc (k + 1)
      rw [fcells_get k hlt] at hcell
      have hfr := blk_frozen hc (k + 1)
      have hset := blk_set hc (k + 1) (.int .u64 (IntKind.u64.wrap ((2 : Int) ^ (k + 1))))
      go_wp2
      go_roundw
      case rel => exact ⟨k + 1, by omega, by go_num, by rw [hset, shl_wrap k hlt]; rfl, hb.setCell (p := ⟨g, k + 1, none⟩) (Nat.le_refl _) _⟩
      case measure => simp [intOf]; omega
    · obtain rfl : k = 40 := by omega
      go_wp2_with (first | (refine wpList_load_row rfl 50 (.tmp 0) rfl g rfl 50 (fcells 40) (0, 0) (.array 256 49) hc rfl rfl (by kernel_rfl) ?_) | (refine wpList_plain rfl (fun K2 hK2 => wp_store_row 50 (.tmp 0) (.tmp 11) rfl g (fcells 40) rfl rfl 50 (fcells 40) hc (by kernel_rfl) (by kernel_rfl) (by kernel_rfl) (hK2 _ _ (wpList_nil ?_)))))
      refine bodyPost_ret (v := .agg firstsArr) ?_ rfl ⟨rfl, below_setRow hb (Nat.le_refl _) _⟩
      rw [← fcells_end]
      exact results_cell_row rfl _ _ g 50 (fcells 40) (0, 0) (.array 256 49) rfl (setRow_heap _ _ _ _ _ _ hc) (by kernel_rfl) rfl (by kernel_rfl)
end Go.Proofs.Ytlliokmcfmcigaa.GR
