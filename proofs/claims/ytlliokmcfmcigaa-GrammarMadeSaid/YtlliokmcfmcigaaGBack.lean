/- slices.Backward over a row of symbols: what it hands to a loop's body. -/
import Derived.Test.YtlliokmcfmcigaaGChoose
import Derived.RangeFuncNested
import Derived.RangeFuncBound
import Derived.RangeFuncCalls
import Derived.RangeFuncLeaves
import Derived.RangeFuncFrom
import Derived.RangeFuncBox
import Derived.Shelf.Abstract
import Derived.Shelf.RegionOpen
import Derived.OwnWalkIn
import Derived.TacticsInMore
import Derived.LoopNIn
import Derived.LoopIn
namespace Go.Proofs.Ytlliokmcfmcigaa.GR
open Go.RowKit Go.Shelf Go.Proofs.YtlliokmcfmcigaaW.PrintWords Go.Proofs.YtlliokmcfmcigaaW.PrintLast Go.Proofs.YtlliokmcfmcigaaW.PrintMore
attribute [local go_sem] Oper.semAt_some
set_option linter.unusedVariables false
set_option linter.unusedSimpArgs false
def upto {β : Type} (f : Nat → β) (k : Nat) : List β := (List.range k).map f
theorem upto_succ {β : Type} (f : Nat → β) (k : Nat) : upto f (k + 1) = upto f k ++ [f k] := by simp [upto, List.range_succ]
theorem upto_length {β : Type} (f : Nat → β) (k : Nat) : (upto f k).length = k := by simp [upto]
/-- what comes, from the last symbol on -/
def backAt (l : List Nat) (i : Nat) : Nat × Nat := (l.length - 1 - i, l.getD (l.length - 1 - i) 0)
/-- Two blocks lie as they lay. -/
def Two (x y : Nat) (W W' : World) : Prop := W'.heap[x]? = W.heap[x]? ∧ W'.heap[y]? = W.heap[y]?
theorem Two.refl (x y : Nat) (W : World) : Two x y W W := ⟨rfl, rfl⟩
theorem Two.t {x y : Nat} {A B C : World} (h : Two x y A B) (k : Two x y B C) : Two x y A C := ⟨k.1.trans h.1, k.2.trans h.2⟩
theorem Two.b {x y : Nat} {w : World} (hx : x < w.heap.size) (hy : y < w.heap.size) (W : World) (l : Nat) (o o' : Obj) (hl : w.heap.size ≤ l) (_ : W.heap[l]? = some o) (_ : o.isCells = false) (_ : o.isWalk = false) : Two x y W (W.putObj l o') :=
  ⟨World.putObj_heap_other (by omega), World.putObj_heap_other (by omega)⟩
theorem Two.cx {x y : Nat} {W W' : World} (h : Two x y W W') (j : Nat) : W'.cell? ⟨x, j, none⟩ = W.cell? ⟨x, j, none⟩ := by simp only [World.cell?, h.1]
theorem Two.cy {x y : Nat} {W W' : World} (h : Two x y W W') (j : Nat) : W'.cell? ⟨y, j, none⟩ = W.cell? ⟨y, j, none⟩ := by simp only [World.cell?, h.2]
set_option maxRecDepth 100000 in
set_option maxHeartbeats 2000000 in
theorem back1_in (F : Fence) (n : Nat) (hf : F.fn 48) (hro : F.round = none) (hn : 1 ≤ n) (lp Bs b : Nat) (l : List Nat) (hlen : l.length ≤ 100000) (J Jx : List (Nat × Nat) → World → Prop)
    (hY : ∀ pre x W, J pre W → pre.length < l.length → YieldAt F (n - 1) Try.prog lp #[.int .i64 (x.1 : Int), .int .u8 (x.2 : Int)] W fun e W' =>
      (e = .returned (.bool true) ∧ J (pre ++ [x]) W' ∧ Two Bs b W W') ∨ (e = .returned (.bool false) ∧ Jx (pre ++ [x]) W'))
    (W : World) (hB : W.cell? ⟨Bs, 0, none⟩ = some (.slice (some ⟨b, 0, none⟩) l.length l.length)) (hc : ∀ j, j < l.length → W.cell? ⟨b, j, none⟩ = some (.int .u8 ((l.getD j 0 : Nat) : Int))) (h0 : J [] W) :
    CallsIn F n Try.prog 48 #[.func (.yield lp) #[] #[], .pointer (some ⟨Bs, 0, none⟩)] W fun e W' => (∃ v, e = .returned v) ∧
      ((∃ ys, ys = upto (backAt l) l.length ∧ J ys W') ∨ (∃ pre, (∃ k, k ≤ l.length ∧ pre = upto (backAt l) k) ∧ Jx pre W')) := by
  refine callsIn_of_wp Try.func48 rfl hf ?_ hro
  simp only [Try.ntmps48, List.size_toArray, List.length_cons, List.length_nil, Nat.reduceAdd, Nat.reduceSub, Array.replicate_succ, Array.replicate_zero, List.push_toArray, List.append_toArray, List.nil_append, List.cons_append]
  gi_wp2
  gi_loopw [3] (fun i wr => ∃ k : Nat, k ≤ l.length ∧ i = .int .i64 ((l.length : Int) - 1 - k) ∧ J (upto (backAt l) k) wr ∧ Two Bs b W wr) (fun i _ => (intOf i + 1).toNat)
  case atStart => exact ⟨0, Nat.zero_le _, by simp, h0, Two.refl _ _ _⟩
  case round =>
    obtain ⟨k, hk, rfl, hJs, hnx⟩ := hrel
    have hBx : wr.cell? ⟨Bs, 0, none⟩ = some (.slice (some ⟨b, 0, none⟩) l.length l.length) := (hnx.cx 0).trans hB
    by_cases hlt : k < l.length
    · have hcx : wr.cell? ⟨b, l.length - 1 - k, none⟩ = some (.int .u8 (((backAt l k).2 : Nat) : Int)) := (hnx.cy _).trans (hc _ (by omega))
      obtain ⟨fn, tmps, assign, body, hy, hR⟩ := hY _ (backAt l k) wr hJs (by rw [upto_length]; exact hlt)
      have he : (((backAt l k).1 : Nat) : Int) = (l.length : Int) - 1 - k := by unfold backAt; dsimp only; omega
      rw [he] at hy
      have ht : ((l.length : Int) - 1 - (k : Int)).toNat = l.length - 1 - k := by omega
      have HE := Aside0.mk he
      clear he
      gi_wp2
      refine hR.mono ?_
      rintro e W3 (⟨rfl, hJ3, hk3⟩ | ⟨rfl, hJx3⟩)
      · gi_wp2
        go_roundw
        case rel => exact ⟨k + 1, by omega, by go_num, by rw [upto_succ]; exact hJ3, hnx.t hk3⟩
        case measure => simp [intOf]; omega
      · gi_wp2
        refine bodyPost_ret (results_none rfl _ _ _) rfl ?_
        exact ⟨⟨_, rfl⟩, .inr ⟨_, ⟨k + 1, by omega, (upto_succ _ _).symm⟩, hJx3⟩⟩
    · obtain rfl : k = l.length := by omega
      gi_wp2
      go_end0
      exact ⟨⟨_, rfl⟩, .inl ⟨_, rfl, hJs⟩⟩
theorem back_stops (F : Fence) (n : Nat) (hf : F.fn 48) (hro : F.round = none) (hn : 1 ≤ n) (Bs b : Nat) (l : List Nat) (hlen : l.length ≤ 100000) (w : World) (hBs : Bs < w.heap.size) (hb : b < w.heap.size)
    (hB : w.cell? ⟨Bs, 0, none⟩ = some (.slice (some ⟨b, 0, none⟩) l.length l.length)) (hc : ∀ j, j < l.length → w.cell? ⟨b, j, none⟩ = some (.int .u8 ((l.getD j 0 : Nat) : Int))) :
    SeqStopsK F n Try.prog 48 #[.pointer (some ⟨Bs, 0, none⟩)] (fun x : Nat × Nat => #[.int .i64 (x.1 : Int), .int .u8 (x.2 : Int)]) (Two Bs b) (fun ys => ys = upto (backAt l) l.length) (fun pre => ∃ k, k ≤ l.length ∧ pre = upto (backAt l) k) l.length w := fun lp J Jx W hW _ _ hY h0 =>
  back1_in F n hf hro hn lp Bs b l hlen J Jx hY W ((hW.cell (p := ⟨Bs, 0, none⟩) hBs).trans hB) (fun j hj => (hW.cell (p := ⟨b, j, none⟩) hb).trans (hc j hj)) h0
end Go.Proofs.Ytlliokmcfmcigaa.GR
