/- The reference's Found in memory, and its behind. -/
import Derived.Test.YtlliokmcfmcigaaGMat
import Derived.Test.YtlliokmcfmcigaaGmFind
import Derived.Deep.RegionHeld3
import Derived.Deep.QuietTactic
import Derived.BigQuiet
namespace Go.Proofs.Ytlliokmcfmcigaa.GR
open Go.RowKit Go.Proofs.YtlliokmcfmcigaaW.PrintWords Go.Proofs.YtlliokmcfmcigaaW.PrintLast Go.Proofs.YtlliokmcfmcigaaW.PrintMore
set_option linter.unusedVariables false
set_option linter.unusedSimpArgs false
/-- where it all lies -/
structure Lay where
  (f g p n bt dt cb cd : Nat)
  (B D : Nat → Nat)
/-- What is kept: the blocks of S read as they did; nothing else is told of the memory but that it did not shrink. -/
structure Kp (S : Nat → Prop) (w w' : World) : Prop where
  os : w'.os = w.os
  tape : w'.tape = w.tape
  output : w'.output = w.output
  size : w.heap.size ≤ w'.heap.size
  lt : ∀ k, S k → k < w.heap.size
  block : ∀ k, S k → w'.heap[k]? = w.heap[k]?
theorem Kp.refl {S : Nat → Prop} {w : World} (h : ∀ k, S k → k < w.heap.size) : Kp S w w := ⟨rfl, rfl, rfl, Nat.le_refl _, h, fun _ _ => rfl⟩
theorem Kp.below {S : Nat → Prop} {w w' w2 : World} (h : Kp S w w') (hb : Below w'.heap.size w' w2) : Kp S w w2 :=
  ⟨hb.os.trans h.os, hb.tape.trans h.tape, hb.output.trans h.output, Nat.le_trans h.size hb.size, h.lt, fun k hk => (hb.block k (Nat.lt_of_lt_of_le (h.lt k hk) h.size)).trans (h.block k hk)⟩
theorem Kp.alloc {S : Nat → Prop} {w w' : World} (h : Kp S w w') (o : Obj) : Kp S w (w'.alloc o) := h.below ((Below.refl _ _).alloc (Nat.le_refl _) o)
theorem Kp.only {S : Nat → Prop} {A : Nat} {w w' w2 : World} (h : Kp S w w') (ho : Only A w' w2) (hA : ¬ S A) : Kp S w w2 :=
  ⟨ho.os.trans h.os, ho.tape.trans h.tape, ho.output.trans h.output, by rw [ho.size]; exact h.size, h.lt, fun k hk => (ho.block k (fun e => hA (e ▸ hk))).trans (h.block k hk)⟩
theorem Kp.trans {S : Nat → Prop} {w w' w2 : World} (h : Kp S w w') (k : Kp S w' w2) : Kp S w w2 :=
  ⟨k.os.trans h.os, k.tape.trans h.tape, k.output.trans h.output, Nat.le_trans h.size k.size, h.lt, fun j hj => (k.block j hj).trans (h.block j hj)⟩
/-- all apart, none of the blocks that are kept -/
structure Lay.Ok (L : Lay) (S : Nat → Prop) : Prop where
  fm : ¬ S L.f
  pm : ¬ S L.p
  nm : ¬ S L.n
  bm : ∀ i, i < 256 → ¬ S (L.B i)
  dm : ∀ i, i < 256 → ¬ S (L.D i)
  binj : ∀ i j, i < 256 → j < 256 → L.B i = L.B j → i = j
  dinj : ∀ i j, i < 256 → j < 256 → L.D i = L.D j → i = j
  bd : ∀ i j, i < 256 → j < 256 → L.B i ≠ L.D j
  pn : L.p ≠ L.n
  pb : ∀ i, i < 256 → L.p ≠ L.B i
  pd : ∀ i, i < 256 → L.p ≠ L.D i
  nb : ∀ i, i < 256 → L.n ≠ L.B i
  nd : ∀ i, i < 256 → L.n ≠ L.D i
def headCells (L : Lay) : Array Value := #[.slice (some ⟨L.g, 0, none⟩) 74 74, .slice (some ⟨L.p, 0, none⟩) 256 256, .slice (some ⟨L.n, 0, none⟩) 256 256, .slice (some ⟨L.bt, 0, none⟩) 256 L.cb, .slice (some ⟨L.dt, 0, none⟩) 256 L.cd]
structure FoundAt (w : World) (L : Lay) (P Z N D : Nat) : Prop where
  head : w.heap[L.f]? = some (.cells (headCells L) 61 (0, 0))
  part : w.heap[L.p]? = some (.cells (boolRow (fun k => P.testBit k) 256) 4 (0, 0))
  null : w.heap[L.n]? = some (.cells (boolRow (fun k => Z.testBit k) 256) 4 (0, 0))
  btab : ∃ cs, w.heap[L.bt]? = some (.cells cs 58 (0, 0)) ∧ ∀ i, i < 256 → cs[i]? = some (.slice (some ⟨L.B i, 0, none⟩) 256 256)
  dtab : ∃ cs, w.heap[L.dt]? = some (.cells cs 58 (0, 0)) ∧ ∀ i, i < 256 → cs[i]? = some (.slice (some ⟨L.D i, 0, none⟩) 256 256)
  brow : ∀ i, i < 256 → w.heap[L.B i]? = some (.cells (boolRow (fun k => N.testBit (i * 256 + k)) 256) 4 (0, 0))
  drow : ∀ i, i < 256 → w.heap[L.D i]? = some (.cells (boolRow (fun k => D.testBit (i * 256 + k)) 256) 4 (0, 0))
section
variable {w w' : World} {L : Lay} {P Z N D : Nat}
theorem FoundAt.c0 (h : FoundAt w L P Z N D) : w.cell? ⟨L.f, 0, none⟩ = some (.slice (some ⟨L.g, 0, none⟩) 74 74) := by rw [blk_cell h.head]; rfl
theorem FoundAt.c1 (h : FoundAt w L P Z N D) : w.cell? ⟨L.f, 1, none⟩ = some (.slice (some ⟨L.p, 0, none⟩) 256 256) := by rw [blk_cell h.head]; rfl
theorem FoundAt.c2 (h : FoundAt w L P Z N D) : w.cell? ⟨L.f, 2, none⟩ = some (.slice (some ⟨L.n, 0, none⟩) 256 256) := by rw [blk_cell h.head]; rfl
theorem FoundAt.c3 (h : FoundAt w L P Z N D) : w.cell? ⟨L.f, 3, none⟩ = some (.slice (some ⟨L.bt, 0, none⟩) 256 L.cb) := by rw [blk_cell h.head]; rfl
theorem FoundAt.c4 (h : FoundAt w L P Z N D) : w.cell? ⟨L.f, 4, none⟩ = some (.slice (some ⟨L.dt, 0, none⟩) 256 L.cd) := by rw [blk_cell h.head]; rfl
theorem FoundAt.cb (h : FoundAt w L P Z N D) (i : Nat) (hi : i < 256) : w.cell? ⟨L.bt, i, none⟩ = some (.slice (some ⟨L.B i, 0, none⟩) 256 256) := by
  obtain ⟨cs, h1, h2⟩ := h.btab
  rw [blk_cell h1, h2 i hi]
theorem FoundAt.cd (h : FoundAt w L P Z N D) (i : Nat) (hi : i < 256) : w.cell? ⟨L.dt, i, none⟩ = some (.slice (some ⟨L.D i, 0, none⟩) 256 256) := by
  obtain ⟨cs, h1, h2⟩ := h.dtab
  rw [blk_cell h1, h2 i hi]
theorem FoundAt.below (h : FoundAt w L P Z N D) (hb : Below w.heap.size w w') : FoundAt w' L P Z N D := by
  obtain ⟨cs, h1, h2⟩ := h.btab
  obtain ⟨ds, h3, h4⟩ := h.dtab
  exact ⟨blk_below h.head hb, blk_below h.part hb, blk_below h.null hb, ⟨cs, blk_below h1 hb, h2⟩, ⟨ds, blk_below h3 hb, h4⟩, fun i hi => blk_below (h.brow i hi) hb, fun i hi => blk_below (h.drow i hi) hb⟩
theorem FoundAt.only {A : Nat} {t : TypeId} {cs : Array Value} (h : FoundAt w L P Z N D) (ho : Only A w w') (hA : w.heap[A]? = some (.cells cs t (0, 0))) (ht : t = 4) (h1 : L.p ≠ A) (h2 : L.n ≠ A) (h3 : ∀ i, i < 256 → L.B i ≠ A) (h4 : ∀ i, i < 256 → L.D i ≠ A) : FoundAt w' L P Z N D := by
  subst ht
  obtain ⟨bs, b1, b2⟩ := h.btab
  obtain ⟨ds, d1, d2⟩ := h.dtab
  exact ⟨(ho.block _ (blk_ne h.head hA (by decide))).trans h.head, (ho.block _ h1).trans h.part, (ho.block _ h2).trans h.null, ⟨bs, (ho.block _ (blk_ne b1 hA (by decide))).trans b1, b2⟩, ⟨ds, (ho.block _ (blk_ne d1 hA (by decide))).trans d1, d2⟩,
    fun i hi => (ho.block _ (h3 i hi)).trans (h.brow i hi), fun i hi => (ho.block _ (h4 i hi)).trans (h.drow i hi)⟩
/-- a row of what follows takes another row -/
theorem FoundAt.addD {S : Nat → Prop} {M x y : Nat} (h : FoundAt w L P Z N D) (hL : L.Ok S) (hx : x < 256) (ho : Only (L.D x) w w') (hr : w'.heap[L.D x]? = some (.cells (boolRow (fun k => D.testBit (x * 256 + k) || M.testBit (y * 256 + k)) 256) 4 (0, 0))) : FoundAt w' L P Z N (Gm.orX D M x y) := by
  obtain ⟨bs, b1, b2⟩ := h.btab
  obtain ⟨ds, d1, d2⟩ := h.dtab
  have hA := h.drow x hx
  refine ⟨(ho.block _ (blk_ne h.head hA (by decide))).trans h.head, (ho.block _ (hL.pd x hx)).trans h.part, (ho.block _ (hL.nd x hx)).trans h.null, ⟨bs, (ho.block _ (blk_ne b1 hA (by decide))).trans b1, b2⟩, ⟨ds, (ho.block _ (blk_ne d1 hA (by decide))).trans d1, d2⟩,
    fun i hi => (ho.block _ (hL.bd i x hi hx)).trans (h.brow i hi), fun i hi => ?_⟩
  by_cases e : i = x
  · subst e
    rw [hr]
    congr 2
    exact boolRow_congr (fun k hk => by rw [Gm.orX_bit D M hk]; simp)
  · rw [ho.block _ (fun e2 => e (hL.dinj i x hi hx e2)), h.drow i hi]
    congr 2
    exact boolRow_congr (fun k hk => by rw [Gm.orX_bit D M hk]; simp [e])
/-- a row of what begins takes another row -/
theorem FoundAt.addB {S : Nat → Prop} {x y : Nat} (h : FoundAt w L P Z N D) (hL : L.Ok S) (hx : x < 256) (ho : Only (L.B x) w w') (hr : w'.heap[L.B x]? = some (.cells (boolRow (fun k => N.testBit (x * 256 + k) || N.testBit (y * 256 + k)) 256) 4 (0, 0))) : FoundAt w' L P Z (Gm.orX N N x y) D := by
  obtain ⟨bs, b1, b2⟩ := h.btab
  obtain ⟨ds, d1, d2⟩ := h.dtab
  have hA := h.brow x hx
  refine ⟨(ho.block _ (blk_ne h.head hA (by decide))).trans h.head, (ho.block _ (hL.pb x hx)).trans h.part, (ho.block _ (hL.nb x hx)).trans h.null, ⟨bs, (ho.block _ (blk_ne b1 hA (by decide))).trans b1, b2⟩, ⟨ds, (ho.block _ (blk_ne d1 hA (by decide))).trans d1, d2⟩, fun i hi => ?_,
    fun i hi => (ho.block _ (fun e => hL.bd x i hx hi e.symm)).trans (h.drow i hi)⟩
  by_cases e : i = x
  · subst e
    rw [hr]
    congr 2
    exact boolRow_congr (fun k hk => by rw [Gm.orX_bit N N hk]; simp)
  · rw [ho.block _ (fun e2 => e (hL.binj i x hi hx e2)), h.brow i hi]
    congr 2
    exact boolRow_congr (fun k hk => by rw [Gm.orX_bit N N hk]; simp [e])
end
end Go.Proofs.Ytlliokmcfmcigaa.GR
