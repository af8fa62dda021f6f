/- Part 4 of the texts of this proof, in build order. -/
import Derived.Test.YtalnicdpcigocaaPk3
import Derived.Test.YtalnicdpcigocaaPk2
import Derived.Test.YtalnicdpcigocaaPk1
import Derived.Test.YtalnicdpcigocaaWSized
import Derived.WalkKit
import Derived.ProofKit
import Derived.OpenShut
import Derived.Deep.Slices
import Derived.SizedLaws
namespace Go.Proofs.Ytalnicdpcigocaa.PQ
open Go.ChangeShapes Go.WideShapes Go.ChangeAt Go.RowKit Go.Proofs.YtalnicdpcigocaaW.PrintWords Go.Proofs.Ytalnicdpcigocaa.PParseTrees
set_option linter.unusedVariables false
instance : Inhabited S38 := ⟨z38⟩
theorem tok_cells : Try.prog.cellsOf 38 = 3 := by kernel_rfl
theorem tok_bytes : Try.prog.bytesOf 38 = 24 := by kernel_rfl
theorem u8_cells : Try.prog.cellsOf 5 = 1 := by kernel_rfl
theorem int_cells : Try.prog.cellsOf 3 = 1 := by kernel_rfl
theorem open_toks {H : Type} {enc : TypeId × Value → H} {W : World} {base : Nat} {spare : Nat → Bool} {held : Bool} {a : Option Addr} {len cap : Nat} {d : DataW H} {ps : List MemPlace} {ts : List TypeId} {ds : List (DataW H)} {j : Nat}
    (hsz : (DataW.weightsEach Try.prog ts ds).all (· ≤ reachBytes) = true) (ht : ts[j]? = some 22) (hd : ds[j]? = some d)
    (h : DataW.Trod enc Try.prog W base spare held 22 (.slice a len cap) d ps) :
    ∃ l : List S38, l.length = len ∧ Kd.C k38 W a len l ∧ len ≤ cap ∧ (∀ x ∈ l, 0 ≤ x.f0 ∧ x.f0 < 256) ∧ len * 24 ≤ 140737488351232 := by
  obtain ⟨fuel, hf⟩ := h
  rcases Go.Deep.open_slice Try.underlying22 hf with ⟨hcs, _⟩ | ⟨x, l, c, m, n, D, Pl, hcs, _, hl, hm, hmm, hxx, hx⟩
  · simp [Value.cells] at hcs
    obtain ⟨rfl, rfl, rfl⟩ := hcs
    exact ⟨[], rfl, ⟨rfl, by omega, fun h => absurd h (by omega)⟩, Nat.le_refl _, fun x hx => (by cases hx), by omega⟩
  · simp [Value.cells] at hcs
    obtain ⟨rfl, rfl, rfl⟩ := hcs
    have hlm : len ≤ m := by rw [hmm]; split <;> omega
    have each : ∀ i, i < len → ∃ q : S38, W.cell? (x.add (i * 3)) = some (.int .u8 q.f0) ∧ W.cell? (x.add (i * 3 + 1)) = some (.int .i64 q.f1) ∧ W.cell? (x.add (i * 3 + 2)) = some (.int .i64 q.f2) ∧ 0 ≤ q.f0 ∧ q.f0 < 256 := by
      intro i hi
      obtain ⟨cs', h1, h2⟩ := hx i (by omega)
      rw [tok_cells] at h1
      obtain ⟨_, hlen, hcell⟩ := World.cells?_some h1
      obtain ⟨xs, k, hk, hxy, _, hxl, hfs⟩ := DataW.trod_struct Try.underlying38 h2
      match xs, hxl, cs', hlen with
      | [y0, y1, y2], _, [v0, v1, v2], _ =>
        have g0 := hfs 0 _ rfl
        have g1 := hfs 1 _ rfl
        have g2 := hfs 2 _ rfl
        simp [u8_cells, int_cells] at g0 g1 g2
        obtain ⟨n0, e0, _, w0⟩ := DataW.trod_int Try.underlying5 g0
        obtain ⟨n1, e1, _, w1⟩ := DataW.trod_int Try.underlying3 g1
        obtain ⟨n2, e2, _, w2⟩ := DataW.trod_int Try.underlying3 g2
        injection e0 with e0
        injection e1 with e1
        injection e2 with e2
        subst e0 e1 e2
        have c0 := hcell 0 (by omega)
        have c1 := hcell 1 (by omega)
        have c2 := hcell 2 (by omega)
        rw [Addr.add_add] at c0 c1 c2
        have hb := bounds_u8 w0
        exact ⟨⟨n0, n1, n2⟩, by simpa using c0, by simpa using c1, by simpa using c2, hb.1, Int.lt_add_one_of_le hb.2⟩
    obtain ⟨q, hq⟩ := Go.Deep.choose_lt each
    refine ⟨(List.range len).map q, by simp, ⟨by simp, by have : maxLen = 9223372036854775807 := rfl; omega, fun _ => ⟨x, rfl, fun j p hp => ?_⟩⟩, hl, fun p hp => ?_, ?_⟩
    · rw [List.getElem?_map] at hp
      obtain ⟨i, hi, rfl⟩ := Option.map_eq_some_iff.1 hp
      obtain ⟨hi1, hi2⟩ := List.getElem?_eq_some_iff.1 hi
      have hji : j = i := by simpa using hi2
      subst hji
      have hjl : j < len := by simpa using hi1
      obtain ⟨c0, c1, c2, _, _⟩ := hq j hjl
      refine ⟨_, rfl, k38_mk W (q j), fun i u hu => ?_⟩
      show W.cell? (x.add (j * 3 + i)) = some u
      match i, hu with
      | 0, hu => rw [← Option.some.inj hu]; exact c0
      | 1, hu => rw [← Option.some.inj hu]; exact c1
      | 2, hu => rw [← Option.some.inj hu]; exact c2
      | i + 3, hu => simp at hu
    · obtain ⟨i, hi, rfl⟩ := List.mem_map.1 hp
      obtain ⟨_, _, _, b0, b1⟩ := hq i (by simpa using hi)
      exact ⟨b0, b1⟩
    · obtain ⟨hx1, _⟩ := Prod.mk.inj hxx
      subst hx1
      have z := sized_slice hsz ht hd Try.underlying22
      rw [tok_bytes] at z
      simp only [List.length_map, List.length_range] at z
      have hr : reachBytes = 140737488351232 := rfl
      omega
end Go.Proofs.Ytalnicdpcigocaa.PQ
