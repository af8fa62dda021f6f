/- The stack and the row that made keeps. -/
import Derived.Test.YtlliokmcfmcigaaGShort
import Derived.Deep.AppendLies
namespace Go.Proofs.Ytlliokmcfmcigaa.GR
open Go.RowKit Go.Proofs.YtlliokmcfmcigaaW.PrintWords Go.Proofs.YtlliokmcfmcigaaW.PrintLast Go.Proofs.YtlliokmcfmcigaaW.PrintMore
set_option linter.unusedVariables false
set_option linter.unusedSimpArgs false
structure MadeSt (D : Nat) (w2 wr : World) (v5 v6 : Value) (st out : List Nat) : Prop where
  row5 : wr.ownsRow D 5 1 v5 st.length (u8n st.reverse)
  row6 : wr.ownsRow D 5 1 v6 out.length (u8n out)
  apart : ∀ b, v5.ownBlock = some b → v6.ownBlock ≠ some b
  below : Below D w2 wr
  size : D ≤ wr.heap.size
theorem MadeSt.later {D : Nat} {w2 wr w3 : World} {v5 v6 : Value} {st out : List Nat} (h : MadeSt D w2 wr v5 v6 st out) (hb : Below wr.heap.size wr w3) : MadeSt D w2 w3 v5 v6 st out :=
  ⟨pw_own_below h.row5 hb, pw_own_below h.row6 hb, h.apart, h.below.trans (hb.mono h.size), Nat.le_trans h.size hb.size⟩
theorem MadeSt.pop {D q cap s : Nat} {w2 wr : World} {v6 : Value} {st out : List Nat} (h : MadeSt D w2 wr (.slice (some ⟨q, 0, none⟩) (st.length + 1) cap) v6 (s :: st) out) : MadeSt D w2 wr (.slice (some ⟨q, 0, none⟩) st.length cap) v6 st out :=
  ⟨ownsRow_pop (last := [.int .u8 (s : Int)]) (by simp [u8n, nums]) (by have := h.row5; rwa [List.reverse_cons, u8n_snoc] at this), h.row6, h.apart, h.below, h.size⟩
theorem below_grown {D : Nat} {w w1 : World} {row : Option Nat} (hg : w.grownBy w1 row) (hr : ∀ b, row = some b → D ≤ b) (hs : D ≤ w.heap.size) : Below D w w1 :=
  ⟨hg.os, hg.tape, hg.output, hg.size, fun k hk => hg.block k (by omega) (fun e => by have := hr k e.symm; omega)⟩
/-- the row of what is made takes one more -/
theorem MadeSt.out {D g cap s : Nat} {w2 wr w3 : World} {cs : Array Value} {T : TypeId} {v5 v6 : Value} {st out : List Nat} (h : MadeSt D w2 wr v5 v6 st out)
    (hown : w3.ownsRow D 5 1 (.slice (some ⟨g, 0, none⟩) (out.length + 1) cap) (out.length + 1) (u8n out ++ [.int .u8 (s : Int)]))
    (hg : (wr.alloc (.cells cs T)).grownBy w3 v6.ownBlock) (hat : v6.ownBlock = some g ∨ g = wr.heap.size + 1) : MadeSt D w2 w3 v5 (.slice (some ⟨g, 0, none⟩) (out.length + 1) cap) st (out ++ [s]) := by
  refine ⟨(h.row5.alloc _).kept hg ?_, ?_, ?_, ?_, ?_⟩
  · cases hv : v5.ownBlock with
    | none => exact Or.inl rfl
    | some b => exact Or.inr (fun e => h.apart b hv e.symm)
  · rw [List.length_append, u8n_snoc]
    exact hown
  · intro b hb e
    have e : g = b := by simpa [Value.ownBlock] using e
    subst e
    rcases hat with h1 | h1
    · exact h.apart g hb h1
    · have := (h.row5.lt g hb).2
      omega
  · refine h.below.trans (Below.trans ((Below.refl _ _).alloc h.size _) (below_grown hg (fun b e => (h.row6.lt b e).1) (by rw [World.size_alloc]; have := h.size; omega)))
  · have := hg.size
    rw [World.size_alloc] at this
    have := h.size
    omega
/-- the stack takes one more -/
theorem MadeSt.push {D g cap s : Nat} {w2 wr w3 : World} {cs : Array Value} {T : TypeId} {v5 v6 : Value} {st out : List Nat} (h : MadeSt D w2 wr v5 v6 st out)
    (hown : w3.ownsRow D 5 1 (.slice (some ⟨g, 0, none⟩) (st.length + 1) cap) (st.length + 1) (u8n st.reverse ++ [.int .u8 (s : Int)]))
    (hg : (wr.alloc (.cells cs T)).grownBy w3 v5.ownBlock) (hat : v5.ownBlock = some g ∨ g = wr.heap.size + 1) : MadeSt D w2 w3 (.slice (some ⟨g, 0, none⟩) (st.length + 1) cap) v6 (s :: st) out := by
  refine ⟨?_, (h.row6.alloc _).kept hg ?_, ?_, ?_, ?_⟩
  · rw [List.length_cons, List.reverse_cons, u8n_snoc]
    exact hown
  · cases hv : v6.ownBlock with
    | none => exact Or.inl rfl
    | some b => exact Or.inr (fun e => h.apart b e.symm hv)
  · intro b hb e
    have hb : g = b := by simpa [Value.ownBlock] using hb
    subst hb
    rcases hat with h1 | h1
    · exact h.apart g h1 e
    · have := (h.row6.lt g e).2
      omega
  · refine h.below.trans (Below.trans ((Below.refl _ _).alloc h.size _) (below_grown hg (fun b e => (h.row5.lt b e).1) (by rw [World.size_alloc]; have := h.size; omega)))
  · have := hg.size
    rw [World.size_alloc] at this
    have := h.size
    omega
/-- the stack, as it is read out of the memory -/
def stk (w : World) (v : Value) : List Nat := match v with
  | .slice (some a) n _ => ((List.range n).map (fun j => match w.cell? (a.add j) with | some (.int _ x) => x.toNat | _ => 0)).reverse
  | _ => []
theorem u8n_at (l : List Nat) (j : Nat) (h : j < l.length) : (u8n l)[j]? = some (.int .u8 ((l[j] : Nat) : Int)) := by
  unfold u8n nums
  rw [List.getElem?_map, List.getElem?_map, List.getElem?_eq_getElem h]; rfl
theorem stk_of {w : World} {D : Nat} {v : Value} {st : List Nat} {e : TypeId} (h : w.ownsRow D e 1 v st.length (u8n st.reverse)) : stk w v = st := by
  rcases h.2 with ⟨rfl, h0⟩ | ⟨q, cap, cur, rfl, _⟩
  · have : st = [] := List.length_eq_zero_iff.1 h0
    subst this; rfl
  · unfold stk
    show List.reverse _ = st
    have hm : (List.range st.length).map (fun j => match w.cell? ((⟨q, 0, none⟩ : Addr).add j) with | some (.int _ x) => x.toNat | _ => 0) = st.reverse := by
      apply List.ext_getElem
      · simp
      · intro j h1 h2
        have hj : j < st.reverse.length := by simpa using h1
        have hc := h.cells (g := q) rfl j (.int .u8 ((st.reverse[j] : Nat) : Int)) (u8n_at _ j hj)
        simp only [List.getElem_map, List.getElem_range]
        rw [hc]
        simp
    rw [hm, List.reverse_reverse]
theorem len_goes (st : List Nat) : st.length ≤ Gm.goesL st := by
  induction st with
  | nil => simp
  | cons s st ih =>
    have := Gm.goes_pos s
    simp only [List.length_cons, Gm.goesL]
    omega
def i64n (l : List Nat) : List Value := nums .i64 (l.map Int.ofNat)
theorem i64n_snoc (l : List Nat) (x : Nat) : i64n (l ++ [x]) = i64n l ++ [.int .i64 (x : Int)] := by simp [i64n, nums]
theorem infoInt : (Try.prog.info? 3).map (fun i => (i.zero, i.size, i.bytes)) = some (some (.int .i64 0), 1, 8) := by kernel_rfl
/-- a row of the call's own takes one more, and nothing of before is touched -/
theorem row_snoc {m : Nat} {w0 wr w3 : World} {cs : Array Value} {T e : TypeId} {v : Value} {n : Nat} {xs : List Value} (h : wr.ownsRow m e 1 v n xs) (hb : Below m w0 wr) (hm : m ≤ wr.heap.size)
    (hg : (wr.alloc (.cells cs T)).grownBy w3 v.ownBlock) : Below m w0 w3 ∧ m ≤ w3.heap.size := by
  refine ⟨hb.trans (Below.trans ((Below.refl _ _).alloc hm _) (below_grown hg (fun b e => (h.lt b e).1) (by rw [World.size_alloc]; omega))), ?_⟩
  have := hg.size
  rw [World.size_alloc] at this
  omega
end Go.Proofs.Ytlliokmcfmcigaa.GR
