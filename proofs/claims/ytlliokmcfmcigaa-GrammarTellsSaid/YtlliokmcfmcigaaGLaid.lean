/- The tables of the reference's Find when all their rows are laid. -/
import Derived.Test.YtlliokmcfmcigaaGLaying
namespace Go.Proofs.Ytlliokmcfmcigaa.GR
open Go.RowKit Go.Proofs.YtlliokmcfmcigaaW.PrintWords Go.Proofs.YtlliokmcfmcigaaW.PrintLast Go.Proofs.YtlliokmcfmcigaaW.PrintMore
set_option linter.unusedVariables false
set_option linter.unusedSimpArgs false
theorem row_some {f k : Nat → Bool} {n : Nat} {t : TypeId} {x : Option Obj} (hx : x = some (.cells (boolRow f n) t (0, 0))) (h : ∀ j, j < n → f j = k j) : x = some (.cells (boolRow k n) t (0, 0)) := by
  rw [hx, boolRow_congr h]
theorem Laying.bOf {S : Nat → Prop} {w1 wr : World} {g f p n : Nat} {v3 v4 : Value} {bl dl : List Nat} {c i b : Nat} (h : Laying S w1 wr g f p n v3 v4 bl dl c) (hb : bl[i]? = some b) :
    b ≠ f ∧ b ≠ p ∧ b ≠ n ∧ (∀ j b' : Nat, bl[j]? = some b' → j ≠ i → b' ≠ b) ∧ (∀ j d : Nat, dl[j]? = some d → d ≠ b) ∧ ¬ S b := by
  have hnd := h.nd
  simp only [List.nodup_cons, List.mem_cons, List.mem_append, not_or, List.nodup_append] at hnd
  obtain ⟨⟨hfp, hfn, hfb, hfd⟩, ⟨hpn, hpb, hpd⟩, ⟨hnb, hnd'⟩, hb1, hb2, hb3⟩ := hnd
  have hm := List.mem_of_getElem? hb
  refine ⟨fun e => hfb (e ▸ hm), fun e => hpb (e ▸ hm), fun e => hnb (e ▸ hm), fun j b' hj hji e => ?_, fun j d hj e => ?_, h.ns b (by simp [hm])⟩
  · subst e
    exact hji ((List.getElem?_inj (List.getElem?_eq_some_iff.1 hj).1 hb1).1 (hj.trans hb.symm))
  · exact hb3 b hm d (List.mem_of_getElem? hj) e.symm
theorem Laying.dOf {S : Nat → Prop} {w1 wr : World} {g f p n : Nat} {v3 v4 : Value} {bl dl : List Nat} {c i b : Nat} (h : Laying S w1 wr g f p n v3 v4 bl dl c) (hb : dl[i]? = some b) :
    b ≠ f ∧ b ≠ p ∧ b ≠ n ∧ (∀ j b' : Nat, dl[j]? = some b' → j ≠ i → b' ≠ b) ∧ ¬ S b := by
  have hnd := h.nd
  simp only [List.nodup_cons, List.mem_cons, List.mem_append, not_or, List.nodup_append] at hnd
  obtain ⟨⟨hfp, hfn, hfb, hfd⟩, ⟨hpn, hpb, hpd⟩, ⟨hnb, hnd'⟩, hb1, hb2, hb3⟩ := hnd
  have hm := List.mem_of_getElem? hb
  refine ⟨fun e => hfd (e ▸ hm), fun e => hpd (e ▸ hm), fun e => hnd' (e ▸ hm), fun j b' hj hji e => ?_, h.ns b (by simp [hm])⟩
  subst e
  exact hji ((List.getElem?_inj (List.getElem?_eq_some_iff.1 hj).1 hb2).1 (hj.trans hb.symm))
theorem Laying.own {S : Nat → Prop} {w1 wr : World} {g f p n : Nat} {v3 v4 : Value} {bl dl : List Nat} {c b : Nat} (h : Laying S w1 wr g f p n v3 v4 bl dl c) (hc : c < 256) (hb : bl[c]? = some b) :
    Laying S w1 (wr.setCell ⟨b, c, none⟩ (.bool (decide (0 < c) && decide (c ≤ 40)))) g f p n v3 v4 bl dl (c + 1) := by
  have hrow := h.brow c b hb
  obtain ⟨h1, h2, h3, h4, h5, h6⟩ := h.bOf hb
  have far : ∀ x : Nat, x ≠ b → (wr.setCell ⟨b, c, none⟩ (.bool (decide (0 < c) && decide (c ≤ 40)))).heap[x]? = wr.heap[x]? := fun x hx => Below.heap_setCell _ _ _ _ hx
  refine ⟨(far f h1.symm).trans h.head, (far p h2.symm).trans h.part, (far n h3.symm).trans h.null, own_far h.ob (fun x hx => far x fun e => ?_), own_far h.od (fun x hx => far x fun e => ?_), h.apart, fun i x hx => ?_, fun i x hx => (far x (h5 i x hx)).trans (h.drow i x hx), h.nd, h.ns, h.os3, h.os4, ?_⟩
  · exact own_ne h.ob hrow (by decide) (by rw [hx, e])
  · exact own_ne h.od hrow (by decide) (by rw [hx, e])
  · by_cases e : i = c
    · subst e
      have hxb : x = b := by rw [hb] at hx; exact (Option.some.inj hx).symm
      subst hxb
      rw [blk_set hrow, boolRow_set]
      refine row_some rfl (fun k hk => ?_)
      rw [Gm.begZero_bit hc hk]
      by_cases hki : k = i
      · subst hki; simp
      · have hki' : ¬ i = k := fun e => hki e.symm
        simp [hki, hki']
    · rw [far x (h4 i x hx e)]
      refine row_some (h.brow i x hx) (fun k hk => ?_)
      congr 1
      rw [decide_eq_decide]
      omega
  · refine ⟨h.kp.os, h.kp.tape, h.kp.output, by rw [World.size_setCell]; exact h.kp.size, h.kp.lt, fun k hk => ?_⟩
    rw [far k (fun e => h6 (e ▸ hk))]
    exact h.kp.block k hk
/-- a row's slice, as it lies in the table -/
theorem own_cell {w : World} {e : TypeId} {v : Value} {l : List Nat} {i b : Nat} (h : w.ownsRow 0 e 1 v l.length (l.map (fun b => Value.slice (some ⟨b, 0, none⟩) 256 256))) (hb : l[i]? = some b) :
    ∃ q cap, v = .slice (some ⟨q, 0, none⟩) l.length cap ∧ w.cell? ⟨q, i, none⟩ = some (.slice (some ⟨b, 0, none⟩) 256 256) := by
  obtain ⟨hi, hb2⟩ := List.getElem?_eq_some_iff.1 hb
  rcases h.2 with ⟨_, h0⟩ | ⟨q, cap, cur, hv, _, hq, hcap, _, hsz, hcur⟩
  · omega
  · refine ⟨q, cap, hv, ?_⟩
    rw [blk_cell hq]
    have e : cur[i]? = (cur.toList.take (l.length * 1))[i]? := by
      rw [List.getElem?_take_of_lt (by omega), Array.getElem?_toList]
    rw [e, hcur, List.getElem?_map, hb]
    rfl
theorem row_table {w : World} {e : TypeId} {v : Value} {l : List Nat} (hl : l.length = 256) (h : w.ownsRow 0 e 1 v l.length (l.map (fun b => Value.slice (some ⟨b, 0, none⟩) 256 256))) :
    ∃ q cap, v = .slice (some ⟨q, 0, none⟩) 256 cap ∧ ∃ cs, w.heap[q]? = some (.cells cs e (0, 0)) ∧ ∀ i, i < 256 → cs[i]? = some (.slice (some ⟨l.getD i 0, 0, none⟩) 256 256) := by
  rcases h.2 with ⟨_, h0⟩ | ⟨q, cap, cur, hv, _, hq, hcap, _, hsz, hcur⟩
  · omega
  · refine ⟨q, cap, by rw [hv, hl], cur, hq, fun i hi => ?_⟩
    have hil : i < l.length := by omega
    have e : cur[i]? = (cur.toList.take (l.length * 1))[i]? := by
      rw [List.getElem?_take_of_lt (by omega), Array.getElem?_toList]
    rw [e, hcur, List.getElem?_map, List.getElem?_eq_getElem hil, List.getD_eq_getElem?_getD, List.getElem?_eq_getElem hil]
    rfl
theorem Laying.found {S : Nat → Prop} {w1 wr : World} {g f p n : Nat} {v3 v4 : Value} {bl dl : List Nat} (h : Laying S w1 wr g f p n v3 v4 bl dl 256) (hl1 : bl.length = 256) (hl2 : dl.length = 256) :
    ∃ L : Lay, L.f = f ∧ L.g = g ∧ L.Ok S ∧ FoundAt wr L 0 0 Gm.begZero 0 := by
  obtain ⟨q3, c3, e3, cs3, t3, r3⟩ := row_table hl1 h.ob
  obtain ⟨q4, c4, e4, cs4, t4, r4⟩ := row_table hl2 h.od
  have gb : ∀ i, i < 256 → bl[i]? = some (bl.getD i 0) := fun i hi => by rw [List.getD_eq_getElem?_getD, List.getElem?_eq_getElem (by omega)]; rfl
  have gd : ∀ i, i < 256 → dl[i]? = some (dl.getD i 0) := fun i hi => by rw [List.getD_eq_getElem?_getD, List.getElem?_eq_getElem (by omega)]; rfl
  have hnd := h.nd
  simp only [List.nodup_cons, List.mem_cons, List.mem_append, not_or, List.nodup_append] at hnd
  obtain ⟨⟨hfp, hfn, hfb, hfd⟩, ⟨hpn, hpb, hpd⟩, ⟨hnb, hnd'⟩, hb1, hb2, hb3⟩ := hnd
  refine ⟨⟨f, g, p, n, q3, q4, c3, c4, fun i => bl.getD i 0, fun i => dl.getD i 0⟩, rfl, rfl, ?_, ?_⟩
  · refine ⟨h.ns f (by simp), h.ns p (by simp), h.ns n (by simp), fun i hi => (h.bOf (gb i hi)).2.2.2.2.2, fun i hi => (h.dOf (gd i hi)).2.2.2.2, fun i j hi hj e => ?_, fun i j hi hj e => ?_, fun i j hi hj e => (h.bOf (gb i hi)).2.2.2.2.1 j _ (gd j hj) e.symm, hpn, fun i hi e => (h.bOf (gb i hi)).2.1 e.symm, fun i hi e => (h.dOf (gd i hi)).2.1 e.symm, fun i hi e => (h.bOf (gb i hi)).2.2.1 e.symm, fun i hi e => (h.dOf (gd i hi)).2.2.1 e.symm⟩
    · rcases Nat.decEq i j with hne | he
      · exact absurd e.symm ((h.bOf (gb i hi)).2.2.2.1 j _ (gb j hj) (fun e => hne e.symm))
      · exact he
    · rcases Nat.decEq i j with hne | he
      · exact absurd e.symm ((h.dOf (gd i hi)).2.2.2.1 j _ (gd j hj) (fun e => hne e.symm))
      · exact he
  · refine ⟨?_, ?_, ?_, ⟨cs3, t3, r3⟩, ⟨cs4, t4, r4⟩, fun i hi => ?_, fun i hi => ?_⟩
    · have := h.head
      rw [e3, e4] at this
      exact this
    · exact row_some h.part (fun k hk => (Nat.zero_testBit k).symm)
    · exact row_some h.null (fun k hk => (Nat.zero_testBit k).symm)
    · exact row_some (h.brow i _ (gb i hi)) (fun k hk => by rw [decide_eq_true hi, Bool.true_and])
    · exact row_some (h.drow i _ (gd i hi)) (fun k hk => (Nat.zero_testBit _).symm)
end Go.Proofs.Ytlliokmcfmcigaa.GR
