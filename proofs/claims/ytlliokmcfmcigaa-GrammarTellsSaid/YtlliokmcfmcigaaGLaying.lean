/- The tables of the reference's Find while their rows are laid. -/
import Derived.Test.YtlliokmcfmcigaaGBehind
import Derived.Deep.AppendLies
import Derived.Deep.RegionWith
namespace Go.Proofs.Ytlliokmcfmcigaa.GR
open Go.RowKit Go.Proofs.YtlliokmcfmcigaaW.PrintWords Go.Proofs.YtlliokmcfmcigaaW.PrintLast Go.Proofs.YtlliokmcfmcigaaW.PrintMore
set_option linter.unusedVariables false
set_option linter.unusedSimpArgs false
theorem make_256 (W : World) : (Instr.makeSlice 58 (.int .i64 256) (.int .i64 256)).run Try.prog W = .ok (.slice (some ⟨W.heap.size, 0, none⟩) 256 256) (W.alloc (.cells (boolRow (fun _ => false) 256) 4)) := by
  have h := print_make_of (P := Try.prog) 58 4 (.bool false) 1 Try.underlying58 (by kernel_rfl) rfl (by decide) 256 (by omega) W
  rw [made_row, boolRow_new] at h
  exact h
/-- The tables while their rows are laid. bl, dl: the rows' blocks so far; c of them have their own bit. -/
structure Laying (S : Nat → Prop) (w1 wr : World) (g f p n : Nat) (v3 v4 : Value) (bl dl : List Nat) (c : Nat) : Prop where
  head : wr.heap[f]? = some (.cells #[.slice (some ⟨g, 0, none⟩) 74 74, .slice (some ⟨p, 0, none⟩) 256 256, .slice (some ⟨n, 0, none⟩) 256 256, v3, v4] 61 (0, 0))
  part : wr.heap[p]? = some (.cells (boolRow (fun _ => false) 256) 4 (0, 0))
  null : wr.heap[n]? = some (.cells (boolRow (fun _ => false) 256) 4 (0, 0))
  ob : wr.ownsRow 0 58 1 v3 bl.length (bl.map (fun b => Value.slice (some ⟨b, 0, none⟩) 256 256))
  od : wr.ownsRow 0 58 1 v4 dl.length (dl.map (fun b => Value.slice (some ⟨b, 0, none⟩) 256 256))
  apart : ∀ b, v3.ownBlock = some b → v4.ownBlock ≠ some b
  brow : ∀ (i b : Nat), bl[i]? = some b → wr.heap[b]? = some (.cells (boolRow (fun k => decide (i < c) && Gm.begZero.testBit (i * 256 + k)) 256) 4 (0, 0))
  drow : ∀ (i b : Nat), dl[i]? = some b → wr.heap[b]? = some (.cells (boolRow (fun _ => false) 256) 4 (0, 0))
  nd : (f :: p :: n :: (bl ++ dl)).Nodup
  ns : ∀ b, b ∈ f :: p :: n :: (bl ++ dl) → ¬ S b
  os3 : ∀ b, v3.ownBlock = some b → ¬ S b
  os4 : ∀ b, v4.ownBlock = some b → ¬ S b
  kp : Kp S w1 wr
theorem drew_heap (w : World) : w.drew.heap = w.heap := rfl
theorem heap_at {w : World} {cs : Array Value} {t : TypeId} {k : Nat} (h : k = w.heap.size) : (w.alloc (.cells cs t)).heap[k]? = some (.cells cs t (0, 0)) := by
  rw [h]; exact heap_alloc_new _ _
theorem heap_before {w : World} {o o' : Obj} {k : Nat} (h : k < w.heap.size) (h2 : w.heap[k]? = some o') : (w.alloc o).heap[k]? = some o' := by
  rw [heap_alloc_old _ _ h]; exact h2
theorem own_far {w w' : World} {base n size : Nat} {e : TypeId} {v : Value} {xs : List Value} (h : w.ownsRow base e size v n xs) (hf : ∀ b, v.ownBlock = some b → w'.heap[b]? = w.heap[b]?) : w'.ownsRow base e size v n xs := by
  refine ⟨h.1, ?_⟩
  rcases h.2 with h2 | ⟨g, cap, cur, rfl, h3, h4, h5⟩
  · exact Or.inl h2
  · exact Or.inr ⟨g, cap, cur, rfl, h3, (hf g rfl).trans h4, h5⟩
theorem own_block_lt {w : World} {base n size b : Nat} {e : TypeId} {v : Value} {xs : List Value} (h : w.ownsRow base e size v n xs) (hb : v.ownBlock = some b) : b < w.heap.size := by
  rcases h.2 with ⟨rfl, _⟩ | ⟨g, cap, cur, rfl, _, h4, _⟩
  · simp [Value.ownBlock] at hb
  · have : g = b := by simpa [Value.ownBlock] using hb
    subst this
    exact blk_lt h4
/-- A block that lay there, of another type than the table's rows, lies there behind the append and the store. -/
theorem still_block {wr w' : World} {o1 o2 o : Obj} {row : Option Nat} {f x : Nat} {u : Value} (hg : ((wr.alloc o1).alloc o2).grownBy w' row) (hx : wr.heap[x]? = some o) (hr : some x ≠ row) (hf : x ≠ f) (j : Nat) : (w'.setCell ⟨f, j, none⟩ u).heap[x]? = some o := by
  rw [Below.heap_setCell _ _ _ _ hf]
  have hl := blk_lt hx
  exact (hg.block x (by rw [World.size_alloc, World.size_alloc]; omega) hr).trans ((heap_alloc_old _ _ (by rw [World.size_alloc]; omega)).trans ((heap_alloc_old _ _ hl).trans hx))
theorem Laying.app3 {S : Nat → Prop} {w1 wr w' : World} {g f p n c gg cap : Nat} {v3 v4 : Value} {bl dl : List Nat} {cs : Array Value} {T2 : TypeId} (h : Laying S w1 wr g f p n v3 v4 bl dl c) (hc : c ≤ bl.length)
    (hown : w'.ownsRow 0 58 1 (.slice (some ⟨gg, 0, none⟩) (bl.length + 1) cap) (bl.length + 1) (bl.map (fun b => Value.slice (some ⟨b, 0, none⟩) 256 256) ++ [.slice (some ⟨wr.heap.size, 0, none⟩) 256 256]))
    (hg : ((wr.alloc (.cells (boolRow (fun _ => false) 256) 4)).alloc (.cells cs T2)).grownBy w' v3.ownBlock) (hat : v3.ownBlock = some gg ∨ gg = wr.heap.size + 1 + 1) :
    Laying S w1 (w'.setCell ⟨f, 3, none⟩ (.slice (some ⟨gg, 0, none⟩) (bl.length + 1) cap)) g f p n (.slice (some ⟨gg, 0, none⟩) (bl.length + 1) cap) v4 (bl ++ [wr.heap.size]) dl c := by
  have hnew : ∀ x, x < wr.heap.size → gg = x → v3.ownBlock = some x := fun x hx e => by
    rcases hat with h1 | h1
    · rw [h1, e]
    · omega
  have hf3 := own_ne h.ob h.head (by decide)
  have hp3 := own_ne h.ob h.part (by decide)
  have hn3 := own_ne h.ob h.null (by decide)
  have hmem : ∀ b, b ∈ f :: p :: n :: (bl ++ dl) → b < wr.heap.size := by
    intro b hb
    simp only [List.mem_cons, List.mem_append] at hb
    rcases hb with rfl | rfl | rfl | hb | hb
    · exact blk_lt h.head
    · exact blk_lt h.part
    · exact blk_lt h.null
    · obtain ⟨i, hi⟩ := List.getElem?_of_mem hb
      exact blk_lt (h.brow i b hi)
    · obtain ⟨i, hi⟩ := List.getElem?_of_mem hb
      exact blk_lt (h.drow i b hi)
  have hgf : gg ≠ f := fun e => hf3 ((hnew f (blk_lt h.head) e).symm)
  have hnd := h.nd
  simp only [List.nodup_cons, List.mem_cons, List.mem_append, not_or] at hnd
  obtain ⟨⟨hfp, hfn, hfb, hfd⟩, ⟨hpn, hpb, hpd⟩, ⟨hnb, hnd'⟩, hbd⟩ := hnd
  have hhead : w'.heap[f]? = some (.cells #[.slice (some ⟨g, 0, none⟩) 74 74, .slice (some ⟨p, 0, none⟩) 256 256, .slice (some ⟨n, 0, none⟩) 256 256, v3, v4] 61 (0, 0)) :=
    (hg.block f (by rw [World.size_alloc, World.size_alloc]; have := blk_lt h.head; omega) hf3).trans ((heap_alloc_old _ _ (by rw [World.size_alloc]; have := blk_lt h.head; omega)).trans ((heap_alloc_old _ _ (blk_lt h.head)).trans h.head))
  refine ⟨?_, still_block hg h.part hp3 (fun e => hfp e.symm) 3, still_block hg h.null hn3 (fun e => hfn e.symm) 3, ?_, ?_, ?_, ?_, ?_, ?_, ?_, ?_, h.os4, ?_⟩
  · rw [blk_set hhead]; rfl
  · have hl : (bl ++ [wr.heap.size]).length = bl.length + 1 := by simp
    rw [hl, List.map_append]
    refine own_far hown (fun b hb => Below.heap_setCell _ _ _ _ ?_)
    have hb : gg = b := by simpa [Value.ownBlock] using hb
    exact fun e => hgf (hb.trans e)
  · refine own_far (w := wr) h.od (fun b hb => ?_)
    have h4 := own_block_lt h.od hb
    have hbf : b ≠ f := fun e => own_ne h.od h.head (by decide) (by rw [hb, e])
    rw [Below.heap_setCell _ _ _ _ hbf, hg.block b (by rw [World.size_alloc, World.size_alloc]; omega) (fun e => h.apart b e.symm hb)]
    rw [heap_alloc_old _ _ (by rw [World.size_alloc]; omega), heap_alloc_old _ _ h4]
  · intro b hb hb4
    have hb : gg = b := by simpa [Value.ownBlock] using hb
    have h4 := own_block_lt h.od hb4
    exact h.apart b (hnew b h4 hb) hb4
  · intro i b hi
    by_cases hil : i < bl.length
    · rw [List.getElem?_append_left hil] at hi
      refine still_block hg (h.brow i b hi) ?_ ?_ 3
      · exact own_ne h.ob (h.brow i b hi) (by decide)
      · exact fun e => hfb (by rw [← e]; exact List.mem_of_getElem? hi)
    · rw [List.getElem?_append_right (by omega)] at hi
      have hi0 : i - bl.length = 0 := by
        cases hq : i - bl.length with
        | zero => rfl
        | succ q => rw [hq] at hi; simp at hi
      rw [hi0] at hi
      have hb : wr.heap.size = b := by simpa using hi
      subst hb
      have hic : decide (i < c) = false := by simp; omega
      rw [Below.heap_setCell _ _ _ _ (by show wr.heap.size ≠ f; have := blk_lt h.head; omega), hg.block _ (by rw [World.size_alloc, World.size_alloc]; omega) (fun e => by have := own_block_lt h.ob e.symm; omega)]
      rw [heap_alloc_old _ _ (by rw [World.size_alloc]; omega), heap_alloc_new, hic]
      rfl
  · intro i b hi
    refine still_block hg (h.drow i b hi) (own_ne h.ob (h.drow i b hi) (by decide)) (fun e => hfd (by rw [← e]; exact List.mem_of_getElem? hi)) 3
  · have hx : ∀ b, b ∈ f :: p :: n :: (bl ++ dl) → b ≠ wr.heap.size := fun b hb e => by have := hmem b hb; omega
    have hperm : (f :: p :: n :: (bl ++ [wr.heap.size] ++ dl)).Perm (wr.heap.size :: (f :: p :: n :: (bl ++ dl))) := by
      have : (bl ++ [wr.heap.size] ++ dl).Perm (wr.heap.size :: (bl ++ dl)) := by
        rw [List.append_assoc]
        exact List.perm_middle
      refine (((this.cons n).cons p).cons f).trans ?_
      refine (((List.Perm.swap _ _ _).cons p).cons f).trans ?_
      refine ((List.Perm.swap _ _ _).cons f).trans ?_
      exact List.Perm.swap _ _ _
    refine hperm.nodup_iff.2 (List.nodup_cons.2 ⟨fun hm => hx _ hm rfl, h.nd⟩)
  · intro b hb
    have : b = wr.heap.size ∨ b ∈ f :: p :: n :: (bl ++ dl) := by
      simp only [List.mem_cons, List.mem_append, List.not_mem_nil, or_false] at hb ⊢
      rcases hb with h | h | h | (h | h) | h <;> simp [h]
    rcases this with rfl | hb
    · intro hS
      have := h.kp.lt _ hS
      have := h.kp.size
      omega
    · exact h.ns b hb
  · intro b hb
    have hb : gg = b := by simpa [Value.ownBlock] using hb
    rcases hat with h1 | h1
    · exact h.os3 b (by rw [h1, hb])
    · intro hS
      have := h.kp.lt _ hS
      have := h.kp.size
      omega
  · have hgs : wr.heap.size ≤ w'.heap.size := by
      have := hg.size
      rw [World.size_alloc, World.size_alloc] at this
      omega
    refine ⟨hg.os.trans h.kp.os, hg.tape.trans h.kp.tape, hg.output.trans h.kp.output, ?_, h.kp.lt, fun k hk => ?_⟩
    · rw [World.size_setCell]
      have := h.kp.size
      omega
    · have hkl : k < wr.heap.size := Nat.lt_of_lt_of_le (h.kp.lt k hk) h.kp.size
      rw [Below.heap_setCell _ _ _ _ (fun e => h.ns f List.mem_cons_self (by have e : k = f := e; rw [← e]; exact hk)), hg.block k (by rw [World.size_alloc, World.size_alloc]; omega) (fun e => h.os3 k e.symm hk)]
      rw [heap_alloc_old _ _ (by rw [World.size_alloc]; omega), heap_alloc_old _ _ hkl]
      exact h.kp.block k hk
theorem Laying.app4 {S : Nat → Prop} {w1 wr w' : World} {g f p n c gg cap : Nat} {v3 v4 : Value} {bl dl : List Nat} {cs : Array Value} {T2 : TypeId} (h : Laying S w1 wr g f p n v3 v4 bl dl c)
    (hown : w'.ownsRow 0 58 1 (.slice (some ⟨gg, 0, none⟩) (dl.length + 1) cap) (dl.length + 1) (dl.map (fun b => Value.slice (some ⟨b, 0, none⟩) 256 256) ++ [.slice (some ⟨wr.heap.size, 0, none⟩) 256 256]))
    (hg : ((wr.alloc (.cells (boolRow (fun _ => false) 256) 4)).alloc (.cells cs T2)).grownBy w' v4.ownBlock) (hat : v4.ownBlock = some gg ∨ gg = wr.heap.size + 1 + 1) :
    Laying S w1 (w'.setCell ⟨f, 4, none⟩ (.slice (some ⟨gg, 0, none⟩) (dl.length + 1) cap)) g f p n v3 (.slice (some ⟨gg, 0, none⟩) (dl.length + 1) cap) bl (dl ++ [wr.heap.size]) c := by
  have hnew : ∀ x, x < wr.heap.size → gg = x → v4.ownBlock = some x := fun x hx e => by
    rcases hat with h1 | h1
    · rw [h1, e]
    · omega
  have hf3 := own_ne h.od h.head (by decide)
  have hp3 := own_ne h.od h.part (by decide)
  have hn3 := own_ne h.od h.null (by decide)
  have hmem : ∀ b, b ∈ f :: p :: n :: (bl ++ dl) → b < wr.heap.size := by
    intro b hb
    simp only [List.mem_cons, List.mem_append] at hb
    rcases hb with rfl | rfl | rfl | hb | hb
    · exact blk_lt h.head
    · exact blk_lt h.part
    · exact blk_lt h.null
    · obtain ⟨i, hi⟩ := List.getElem?_of_mem hb
      exact blk_lt (h.brow i b hi)
    · obtain ⟨i, hi⟩ := List.getElem?_of_mem hb
      exact blk_lt (h.drow i b hi)
  have hgf : gg ≠ f := fun e => hf3 ((hnew f (blk_lt h.head) e).symm)
  have hnd := h.nd
  simp only [List.nodup_cons, List.mem_cons, List.mem_append, not_or] at hnd
  obtain ⟨⟨hfp, hfn, hfb, hfd⟩, ⟨hpn, hpb, hpd⟩, ⟨hnb, hnd'⟩, hbd⟩ := hnd
  have hhead : w'.heap[f]? = some (.cells #[.slice (some ⟨g, 0, none⟩) 74 74, .slice (some ⟨p, 0, none⟩) 256 256, .slice (some ⟨n, 0, none⟩) 256 256, v3, v4] 61 (0, 0)) :=
    (hg.block f (by rw [World.size_alloc, World.size_alloc]; have := blk_lt h.head; omega) hf3).trans ((heap_alloc_old _ _ (by rw [World.size_alloc]; have := blk_lt h.head; omega)).trans ((heap_alloc_old _ _ (blk_lt h.head)).trans h.head))
  refine ⟨?_, still_block hg h.part hp3 (fun e => hfp e.symm) 4, still_block hg h.null hn3 (fun e => hfn e.symm) 4, ?_, ?_, ?_, ?_, ?_, ?_, ?_, h.os3, ?_, ?_⟩
  · rw [blk_set hhead]; rfl
  · refine own_far (w := wr) h.ob (fun b hb => ?_)
    have h4 := own_block_lt h.ob hb
    have hbf : b ≠ f := fun e => own_ne h.ob h.head (by decide) (by rw [hb, e])
    rw [Below.heap_setCell _ _ _ _ hbf, hg.block b (by rw [World.size_alloc, World.size_alloc]; omega) (fun e => h.apart b hb e.symm)]
    rw [heap_alloc_old _ _ (by rw [World.size_alloc]; omega), heap_alloc_old _ _ h4]
  · have hl : (dl ++ [wr.heap.size]).length = dl.length + 1 := by simp
    rw [hl, List.map_append]
    refine own_far hown (fun b hb => Below.heap_setCell _ _ _ _ ?_)
    have hb : gg = b := by simpa [Value.ownBlock] using hb
    exact fun e => hgf (hb.trans e)
  · intro b hb3 hb
    have hb : gg = b := by simpa [Value.ownBlock] using hb
    have h4 := own_block_lt h.ob hb3
    exact h.apart b hb3 (hnew b h4 hb)
  · intro i b hi
    refine still_block hg (h.brow i b hi) (own_ne h.od (h.brow i b hi) (by decide)) (fun e => hfb (by rw [← e]; exact List.mem_of_getElem? hi)) 4
  · intro i b hi
    by_cases hil : i < dl.length
    · rw [List.getElem?_append_left hil] at hi
      refine still_block hg (h.drow i b hi) ?_ ?_ 4
      · exact own_ne h.od (h.drow i b hi) (by decide)
      · exact fun e => hfd (by rw [← e]; exact List.mem_of_getElem? hi)
    · rw [List.getElem?_append_right (by omega)] at hi
      have hi0 : i - dl.length = 0 := by
        cases hq : i - dl.length with
        | zero => rfl
        | succ q => rw [hq] at hi; simp at hi
      rw [hi0] at hi
      have hb : wr.heap.size = b := by simpa using hi
      subst hb
      rw [Below.heap_setCell _ _ _ _ (by show wr.heap.size ≠ f; have := blk_lt h.head; omega), hg.block _ (by rw [World.size_alloc, World.size_alloc]; omega) (fun e => by have := own_block_lt h.od e.symm; omega)]
      rw [heap_alloc_old _ _ (by rw [World.size_alloc]; omega), heap_alloc_new]
  · have hx : ∀ b, b ∈ f :: p :: n :: (bl ++ dl) → b ≠ wr.heap.size := fun b hb e => by have := hmem b hb; omega
    have hperm : (f :: p :: n :: (bl ++ (dl ++ [wr.heap.size]))).Perm (wr.heap.size :: (f :: p :: n :: (bl ++ dl))) := by
      have : (bl ++ (dl ++ [wr.heap.size])).Perm (wr.heap.size :: (bl ++ dl)) := by
        rw [← List.append_assoc]
        exact List.perm_append_singleton _ _
      refine (((this.cons n).cons p).cons f).trans ?_
      refine (((List.Perm.swap _ _ _).cons p).cons f).trans ?_
      refine ((List.Perm.swap _ _ _).cons f).trans ?_
      exact List.Perm.swap _ _ _
    refine hperm.nodup_iff.2 (List.nodup_cons.2 ⟨fun hm => hx _ hm rfl, h.nd⟩)
  · intro b hb
    have : b = wr.heap.size ∨ b ∈ f :: p :: n :: (bl ++ dl) := by
      simp only [List.mem_cons, List.mem_append, List.not_mem_nil, or_false] at hb ⊢
      rcases hb with h | h | h | h | (h | h) <;> simp [h]
    rcases this with rfl | hb
    · intro hS
      have := h.kp.lt _ hS
      have := h.kp.size
      omega
    · exact h.ns b hb
  · intro b hb
    have hb : gg = b := by simpa [Value.ownBlock] using hb
    rcases hat with h1 | h1
    · exact h.os4 b (by rw [h1, hb])
    · intro hS
      have := h.kp.lt _ hS
      have := h.kp.size
      omega
  · have hgs : wr.heap.size ≤ w'.heap.size := by
      have := hg.size
      rw [World.size_alloc, World.size_alloc] at this
      omega
    refine ⟨hg.os.trans h.kp.os, hg.tape.trans h.kp.tape, hg.output.trans h.kp.output, ?_, h.kp.lt, fun k hk => ?_⟩
    · rw [World.size_setCell]
      have := h.kp.size
      omega
    · have hkl : k < wr.heap.size := Nat.lt_of_lt_of_le (h.kp.lt k hk) h.kp.size
      rw [Below.heap_setCell _ _ _ _ (fun e => h.ns f List.mem_cons_self (by have e : k = f := e; rw [← e]; exact hk)), hg.block k (by rw [World.size_alloc, World.size_alloc]; omega) (fun e => h.os4 k e.symm hk)]
      rw [heap_alloc_old _ _ (by rw [World.size_alloc]; omega), heap_alloc_old _ _ hkl]
      exact h.kp.block k hk
theorem grown_undrew {w w' : World} {row : Option Nat} (h : w.drew.grownBy w' row) : w.grownBy w' row := ⟨h.os, h.tape, h.output, h.size, h.block⟩
theorem Laying.cell3 {S : Nat → Prop} {w1 wr w' : World} {g f p n c : Nat} {v3 v4 : Value} {bl dl : List Nat} {o1 o2 : Obj} (h : Laying S w1 wr g f p n v3 v4 bl dl c) (hg : ((wr.alloc o1).alloc o2).grownBy w' v3.ownBlock) : w'.cell? ⟨f, 3, none⟩ = some v3 := by
  rw [World.cell?_of_block (w := wr) (hg.block f (by rw [World.size_alloc, World.size_alloc]; have := blk_lt h.head; omega) (own_ne h.ob h.head (by decide)) |>.trans ((heap_alloc_old _ _ (by rw [World.size_alloc]; have := blk_lt h.head; omega)).trans (heap_alloc_old _ _ (blk_lt h.head)))), blk_cell h.head]; rfl
theorem Laying.cell4 {S : Nat → Prop} {w1 wr w' : World} {g f p n c : Nat} {v3 v4 : Value} {bl dl : List Nat} {o1 o2 : Obj} (h : Laying S w1 wr g f p n v3 v4 bl dl c) (hg : ((wr.alloc o1).alloc o2).grownBy w' v4.ownBlock) : w'.cell? ⟨f, 4, none⟩ = some v4 := by
  rw [World.cell?_of_block (w := wr) (hg.block f (by rw [World.size_alloc, World.size_alloc]; have := blk_lt h.head; omega) (own_ne h.od h.head (by decide)) |>.trans ((heap_alloc_old _ _ (by rw [World.size_alloc]; have := blk_lt h.head; omega)).trans (heap_alloc_old _ _ (blk_lt h.head)))), blk_cell h.head]; rfl
theorem Laying.frozen3 {S : Nat → Prop} {w1 wr w' : World} {g f p n c : Nat} {v3 v4 : Value} {bl dl : List Nat} {o1 o2 : Obj} (h : Laying S w1 wr g f p n v3 v4 bl dl c) (hg : ((wr.alloc o1).alloc o2).grownBy w' v3.ownBlock) (j : Nat) : w'.frozen? ⟨f, j, none⟩ = false :=
  blk_frozen ((hg.block f (by rw [World.size_alloc, World.size_alloc]; have := blk_lt h.head; omega) (own_ne h.ob h.head (by decide))).trans ((heap_alloc_old _ _ (by rw [World.size_alloc]; have := blk_lt h.head; omega)).trans ((heap_alloc_old _ _ (blk_lt h.head)).trans h.head))) j
theorem Laying.frozen4 {S : Nat → Prop} {w1 wr w' : World} {g f p n c : Nat} {v3 v4 : Value} {bl dl : List Nat} {o1 o2 : Obj} (h : Laying S w1 wr g f p n v3 v4 bl dl c) (hg : ((wr.alloc o1).alloc o2).grownBy w' v4.ownBlock) (j : Nat) : w'.frozen? ⟨f, j, none⟩ = false :=
  blk_frozen ((hg.block f (by rw [World.size_alloc, World.size_alloc]; have := blk_lt h.head; omega) (own_ne h.od h.head (by decide))).trans ((heap_alloc_old _ _ (by rw [World.size_alloc]; have := blk_lt h.head; omega)).trans ((heap_alloc_old _ _ (blk_lt h.head)).trans h.head))) j
theorem drew_ok {X : World} {a b : Addr} {v : Option Value} (h : X.cell? a = v ∧ X.frozen? b = false) : X.drew.cell? a = v ∧ X.drew.frozen? b = false := h
theorem laying_start (w wx : World) (g f p n a b : Nat) (hf : wx.heap[f]? = some (.cells #[.slice (some ⟨g, 0, none⟩) 74 74, .slice (some ⟨p, 0, none⟩) 256 256, .slice (some ⟨n, 0, none⟩) 256 256, .slice none 0 0, .slice none 0 0] 61 (0, 0)))
    (hp : wx.heap[p]? = some (.cells (boolRow (fun _ => false) 256) 4 (0, 0))) (hn : wx.heap[n]? = some (.cells (boolRow (fun _ => false) 256) 4 (0, 0))) (hR : RefRows wx g a b) (hb : Below w.heap.size w wx) (hbs : b ≤ wx.heap.size)
    (h1 : w.heap.size ≤ f ∧ w.heap.size ≤ p ∧ w.heap.size ≤ n) (h2 : (f < a ∨ b ≤ f) ∧ (p < a ∨ b ≤ p) ∧ (n < a ∨ b ≤ n)) (h3 : f ≠ p ∧ f ≠ n ∧ p ≠ n) :
    ∃ (S : Nat → Prop) (w1 : World) (g' f' p n a b : Nat), Value.pointer (some ⟨f, 0, none⟩) = .pointer (some ⟨f', 0, none⟩) ∧ Aside0 (Laying S w1 wx g' f' p n (.slice none 0 0) (.slice none 0 0) [] [] 0) ∧ Aside0 (RefRows w1 g' a b) ∧ Aside0 ((∀ k, k < w.heap.size → S k) ∧ (∀ k, a ≤ k → k < b → S k) ∧ (∀ k, S k → k < w.heap.size ∨ (a ≤ k ∧ k < b))) ∧ Aside0 (Below w.heap.size w w1) := by
  refine ⟨fun k => k < w.heap.size ∨ (a ≤ k ∧ k < b), wx, g, f, p, n, a, b, rfl, ⟨⟨hf, hp, hn, ⟨rfl, Or.inl ⟨rfl, rfl⟩⟩, ⟨rfl, Or.inl ⟨rfl, rfl⟩⟩, fun b h => by simp [Value.ownBlock] at h, fun i b h => by simp at h, fun i b h => by simp at h, ?_, ?_, fun b h => by simp [Value.ownBlock] at h, fun b h => by simp [Value.ownBlock] at h, Kp.refl (fun k hk => ?_)⟩⟩, ⟨hR⟩, ⟨fun k hk => Or.inl hk, fun k h1 h2 => Or.inr ⟨h1, h2⟩, fun k h => h⟩, ⟨hb⟩⟩
  · simp [h3]
  · intro x hx
    simp at hx
    rcases hx with rfl | rfl | rfl <;> omega
  · have := hb.size
    omega
end Go.Proofs.Ytlliokmcfmcigaa.GR
