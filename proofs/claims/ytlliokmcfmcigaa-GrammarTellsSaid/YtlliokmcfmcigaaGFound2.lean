/- What is stored into the reference's tables. -/
import Derived.Test.YtlliokmcfmcigaaGBehind
import Derived.Test.YtlliokmcfmcigaaGmParts
namespace Go.Proofs.Ytlliokmcfmcigaa.GR
open Go.RowKit Go.Proofs.YtlliokmcfmcigaaW.PrintWords Go.Proofs.YtlliokmcfmcigaaW.PrintLast Go.Proofs.YtlliokmcfmcigaaW.PrintMore
set_option linter.unusedVariables false
set_option linter.unusedSimpArgs false
theorem row_put {f k : Nat → Bool} {n b i : Nat} {t : TypeId} {v : Bool} {w : World} (hx : w.heap[b]? = some (.cells (boolRow f n) t (0, 0))) (h : ∀ j, j < n → (if j = i then v else f j) = k j) : (w.setCell ⟨b, i, none⟩ (.bool v)).heap[b]? = some (.cells (boolRow k n) t (0, 0)) := by
  rw [blk_set hx, boolRow_set, boolRow_congr h]
theorem RefRows.rule {S : Nat → Prop} {w1 : World} {g a b : Nat} (h : RefRows w1 g a b) (hS : ∀ k, a ≤ k → k < b → S k) (i : Nat) (hi : i < 74) :
    ∃ A, ∀ w2, Kp S w1 w2 → w2.cell? ⟨g, i * 2, none⟩ = some (.int .u8 ((nrule i).1 : Int)) ∧ w2.cell? ⟨g, i * 2 + 1, none⟩ = some (.slice A (nrule i).2.length (nrule i).2.length) ∧ Kd.C (Kd.int .u8) w2 A (nrule i).2.length ((nrule i).2.map Int.ofNat) := by
  obtain ⟨A, h1, h2⟩ := h.rules.right i hi
  refine ⟨A, fun w2 hk => ?_⟩
  have h3 := (h.move (w1 := w2) (fun k k1 k2 => hk.block k (hS k k1 k2))).rules
  obtain ⟨A2, h4, h5⟩ := h3.right i hi
  have e : w2.cell? ⟨g, i * 2 + 1, none⟩ = w1.cell? ⟨g, i * 2 + 1, none⟩ := World.cell?_of_block (hk.block g (hS g h.ga h.gb))
  rw [h4, h1] at e
  have e : A2 = A := by injection e with e; injection e
  subst e
  exact ⟨h3.part i hi, h4, h5⟩
section
variable {w w' : World} {L : Lay} {P Z N D : Nat}
theorem FoundAt.drew (h : FoundAt w L P Z N D) : FoundAt w.drew L P Z N D := ⟨h.head, h.part, h.null, h.btab, h.dtab, h.brow, h.drow⟩
theorem Kp.drew {S : Nat → Prop} (h : Kp S w w') : Kp S w w'.drew := ⟨h.os, h.tape, h.output, h.size, h.lt, h.block⟩
theorem Kp.set {S : Nat → Prop} (h : Kp S w w') {b j : Nat} (hb : ¬ S b) (v : Value) : Kp S w (w'.setCell ⟨b, j, none⟩ v) :=
  ⟨h.os, h.tape, h.output, by rw [World.size_setCell]; exact h.size, h.lt, fun k hk => (Below.heap_setCell _ _ _ _ (fun e => hb (by have e : k = b := e; rw [← e]; exact hk))).trans (h.block k hk)⟩
theorem FoundAt.setP {S : Nat → Prop} {s : Nat} (h : FoundAt w L P Z N D) (hL : L.Ok S) (hs : s < 256) : FoundAt (w.setCell ⟨L.p, s, none⟩ (.bool true)) L (P ||| 2 ^ s) Z N D := by
  have far : ∀ x : Nat, x ≠ L.p → (w.setCell ⟨L.p, s, none⟩ (.bool true)).heap[x]? = w.heap[x]? := fun x hx => Below.heap_setCell _ _ _ _ hx
  obtain ⟨bs, b1, b2⟩ := h.btab
  obtain ⟨ds, d1, d2⟩ := h.dtab
  refine ⟨(far _ (blk_ne h.head h.part (by decide))).trans h.head, ?_, (far _ hL.pn.symm).trans h.null, ⟨bs, (far _ (blk_ne b1 h.part (by decide))).trans b1, b2⟩, ⟨ds, (far _ (blk_ne d1 h.part (by decide))).trans d1, d2⟩, fun i hi => (far _ (hL.pb i hi).symm).trans (h.brow i hi), fun i hi => (far _ (hL.pd i hi).symm).trans (h.drow i hi)⟩
  refine row_put h.part (fun j hj => ?_)
  rw [Gm.or_bit]
  by_cases e : j = s
  · subst e; simp
  · have e' : ¬ s = j := fun x => e x.symm
    simp [e, e']
theorem FoundAt.setZ {S : Nat → Prop} {s : Nat} {v : Bool} (h : FoundAt w L P Z N D) (hL : L.Ok S) (hs : s < 256) (hv : Z.testBit s = true → v = true) : FoundAt (w.setCell ⟨L.n, s, none⟩ (.bool v)) L P (if v then Z ||| 2 ^ s else Z) N D := by
  have far : ∀ x : Nat, x ≠ L.n → (w.setCell ⟨L.n, s, none⟩ (.bool v)).heap[x]? = w.heap[x]? := fun x hx => Below.heap_setCell _ _ _ _ hx
  obtain ⟨bs, b1, b2⟩ := h.btab
  obtain ⟨ds, d1, d2⟩ := h.dtab
  refine ⟨(far _ (blk_ne h.head h.null (by decide))).trans h.head, (far _ hL.pn).trans h.part, ?_, ⟨bs, (far _ (blk_ne b1 h.null (by decide))).trans b1, b2⟩, ⟨ds, (far _ (blk_ne d1 h.null (by decide))).trans d1, d2⟩, fun i hi => (far _ (hL.nb i hi).symm).trans (h.brow i hi), fun i hi => (far _ (hL.nd i hi).symm).trans (h.drow i hi)⟩
  refine row_put h.null (fun j hj => ?_)
  cases v with
  | true =>
    rw [if_pos rfl, Gm.or_bit]
    by_cases e : j = s
    · subst e; simp
    · have e' : ¬ s = j := fun x => e x.symm
      simp [e, e']
  | false =>
    rw [if_neg Bool.false_ne_true]
    by_cases e : j = s
    · subst e
      cases hz : Z.testBit j with
      | false => simp [hz]
      | true => exact absurd (hv hz) (by simp)
    · simp [e]
theorem FoundAt.setD {S : Nat → Prop} (h : FoundAt w L P Z N 0) (hL : L.Ok S) : FoundAt (w.setCell ⟨L.D 51, 0, none⟩ (.bool true)) L P Z N Gm.behZero := by
  have far : ∀ x : Nat, x ≠ L.D 51 → (w.setCell ⟨L.D 51, 0, none⟩ (.bool true)).heap[x]? = w.heap[x]? := fun x hx => Below.heap_setCell _ _ _ _ hx
  have h51 := h.drow 51 (by omega)
  obtain ⟨bs, b1, b2⟩ := h.btab
  obtain ⟨ds, d1, d2⟩ := h.dtab
  refine ⟨(far _ (blk_ne h.head h51 (by decide))).trans h.head, (far _ (hL.pd 51 (by omega))).trans h.part, (far _ (hL.nd 51 (by omega))).trans h.null, ⟨bs, (far _ (blk_ne b1 h51 (by decide))).trans b1, b2⟩, ⟨ds, (far _ (blk_ne d1 h51 (by decide))).trans d1, d2⟩, fun i hi => (far _ (hL.bd i 51 hi (by omega))).trans (h.brow i hi), fun i hi => ?_⟩
  have hb : ∀ j, j < 256 → Gm.behZero.testBit (i * 256 + j) = (decide (i = 51) && decide (j = 0)) := fun j hj => by
    unfold Gm.behZero
    rw [Gm.bitAt_bit, Bool.eq_iff_iff]
    simp only [decide_eq_true_eq, Bool.and_eq_true]
    omega
  by_cases e : i = 51
  · subst e
    refine row_put h51 (fun j hj => ?_)
    rw [hb j hj, Nat.zero_testBit]
    by_cases e0 : j = 0 <;> simp [e0]
  · rw [far _ (fun e2 => e (hL.dinj i 51 hi (by omega) e2))]
    rw [h.drow i hi, boolRow_congr (fun j hj => ?_)]
    rw [hb j hj, Nat.zero_testBit]
    simp [e]
end
end Go.Proofs.Ytlliokmcfmcigaa.GR
