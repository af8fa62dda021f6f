/- grammar.ready(): what is known of the rules, in a block of its own. -/
import Derived.Test.YtlliokmcfmcigaaGFirsts
namespace Go.Proofs.Ytlliokmcfmcigaa.GR
open Go.RowKit Go.Proofs.YtlliokmcfmcigaaW.PrintWords Go.Proofs.YtlliokmcfmcigaaW.PrintLast Go.Proofs.YtlliokmcfmcigaaW.PrintMore
set_option linter.unusedVariables false
set_option linter.unusedSimpArgs false
/-- The cells of what is known: the rules, what begins, what follows, which are empty, which are parts. -/
def knownCells (t : Addr) (e p : Nat → Bool) : Array Value :=
  (Value.slice (some t) 74 74 :: ((List.range 256).map (fun s => Value.int .u64 (Int.ofNat (Gm.first s))) ++ ((List.range 256).map (fun s => Value.int .u64 (Int.ofNat (Gm.follow s))) ++ ((List.range 256).map (fun s => Value.bool (e s)) ++ (List.range 256).map (fun s => Value.bool (p s)))))).toArray
theorem known_built (t : Addr) : (Try.prog.built 53 [(0, .slice (some t) 74 74), (1, .agg firstsArr), (2, .agg (tabArr Gm.followT))]) = some (knownCells t (fun _ => false) (fun _ => false)) := by kernel_rfl
theorem app_at {α : Type} {a b : List α} {n : Nat} {v : α} (h : b[n]? = some v) : (a ++ b)[a.length + n]? = some v := by rw [List.getElem?_append_right (by omega)]; simpa using h
theorem map_at {α : Type} (f : Nat → α) (n : Nat) (h : n < 256) : ((List.range 256).map f)[n]? = some (f n) := by simp [h]
theorem map_len {α : Type} (f : Nat → α) : ((List.range 256).map f).length = 256 := by simp
variable (t : Addr) (e p : Nat → Bool)
theorem known_first (s : Nat) (h : s < 256) : (knownCells t e p)[1 + s]? = some (.int .u64 (Int.ofNat (Gm.first s))) := by
  unfold knownCells
  rw [List.getElem?_toArray, Nat.add_comm 1 s, List.getElem?_cons_succ, List.getElem?_append_left (by rw [map_len]; exact h), map_at _ _ h]
theorem known_follow (s : Nat) (h : s < 256) : (knownCells t e p)[257 + s]? = some (.int .u64 (Int.ofNat (Gm.follow s))) := by
  unfold knownCells
  rw [List.getElem?_toArray, show 257 + s = (256 + s) + 1 by omega, List.getElem?_cons_succ]
  have := app_at (a := (List.range 256).map (fun s => Value.int .u64 (Int.ofNat (Gm.first s)))) (b := ((List.range 256).map (fun s => Value.int .u64 (Int.ofNat (Gm.follow s))) ++ ((List.range 256).map (fun s => Value.bool (e s)) ++ (List.range 256).map (fun s => Value.bool (p s))))) (n := s) (v := .int .u64 (Int.ofNat (Gm.follow s))) (by rw [List.getElem?_append_left (by rw [map_len]; exact h), map_at _ _ h])
  rwa [map_len] at this
theorem known_empty (s : Nat) (h : s < 256) : (knownCells t e p)[513 + s]? = some (.bool (e s)) := by
  unfold knownCells
  rw [List.getElem?_toArray, show 513 + s = (256 + (256 + s)) + 1 by omega, List.getElem?_cons_succ]
  have := app_at (a := (List.range 256).map (fun s => Value.int .u64 (Int.ofNat (Gm.first s)))) (n := 256 + s) (v := .bool (e s)) (app_at (a := (List.range 256).map (fun s => Value.int .u64 (Int.ofNat (Gm.follow s)))) (b := (List.range 256).map (fun s => Value.bool (e s)) ++ (List.range 256).map (fun s => Value.bool (p s))) (n := s) (v := .bool (e s)) (by rw [List.getElem?_append_left (by rw [map_len]; exact h), map_at _ _ h]) |> fun q => by rwa [map_len] at q)
  rwa [map_len] at this
theorem known_part (s : Nat) (h : s < 256) : (knownCells t e p)[769 + s]? = some (.bool (p s)) := by
  unfold knownCells
  rw [List.getElem?_toArray, show 769 + s = (256 + (256 + (256 + s))) + 1 by omega, List.getElem?_cons_succ]
  have h1 := app_at (a := (List.range 256).map (fun s => Value.bool (e s))) (n := s) (v := .bool (p s)) (map_at (fun s => Value.bool (p s)) s h)
  rw [map_len] at h1
  have h2 := app_at (a := (List.range 256).map (fun s => Value.int .u64 (Int.ofNat (Gm.follow s)))) h1
  rw [map_len] at h2
  have h3 := app_at (a := (List.range 256).map (fun s => Value.int .u64 (Int.ofNat (Gm.first s)))) h2
  rwa [map_len] at h3
theorem map_set {α : Type} (f : Nat → α) (n : Nat) (v : α) (h : n < 256) : ((List.range 256).map f).set n v = (List.range 256).map (fun s => if s = n then v else f s) := by
  apply List.ext_getElem
  · simp
  · intro i h1 h2
    simp only [List.getElem_set, List.getElem_map, List.getElem_range]
    by_cases hi : n = i
    · simp [hi]
    · have : ¬ i = n := fun e => hi e.symm
      simp [hi, this]
theorem app_set {α : Type} (a b : List α) (n : Nat) (v : α) : (a ++ b).set (a.length + n) v = a ++ b.set n v := by
  rw [List.set_append_right _ _ (by omega)]; simp
theorem map_bool (f : Nat → Bool) (s : Nat) : (fun i => if i = s then Value.bool true else Value.bool (f i)) = (fun i => Value.bool (if i = s then true else f i)) := by
  funext i; split <;> rfl
theorem known_setPart (s : Nat) (h : s < 256) : (knownCells t e p).setIfInBounds (769 + s) (.bool true) = knownCells t e (fun i => if i = s then true else p i) := by
  unfold knownCells
  rw [List.setIfInBounds_toArray, show 769 + s = (256 + (256 + (256 + s))) + 1 by omega, List.set_cons_succ]
  have h1 := app_set ((List.range 256).map (fun s => Value.bool (e s))) ((List.range 256).map (fun s => Value.bool (p s))) s (.bool true)
  rw [map_len, map_set _ _ _ h, map_bool] at h1
  have h2 := app_set ((List.range 256).map (fun s => Value.int .u64 (Int.ofNat (Gm.follow s)))) ((List.range 256).map (fun s => Value.bool (e s)) ++ (List.range 256).map (fun s => Value.bool (p s))) (256 + s) (.bool true)
  rw [map_len, h1] at h2
  have h3 := app_set ((List.range 256).map (fun s => Value.int .u64 (Int.ofNat (Gm.first s)))) ((List.range 256).map (fun s => Value.int .u64 (Int.ofNat (Gm.follow s))) ++ ((List.range 256).map (fun s => Value.bool (e s)) ++ (List.range 256).map (fun s => Value.bool (p s)))) (256 + (256 + s)) (.bool true)
  rw [map_len, h2] at h3
  rw [h3]
theorem known_setEmpty (s : Nat) (h : s < 256) : (knownCells t e p).setIfInBounds (513 + s) (.bool true) = knownCells t (fun i => if i = s then true else e i) p := by
  unfold knownCells
  rw [List.setIfInBounds_toArray, show 513 + s = (256 + (256 + s)) + 1 by omega, List.set_cons_succ]
  have h1 : ((List.range 256).map (fun s => Value.bool (e s)) ++ (List.range 256).map (fun s => Value.bool (p s))).set s (.bool true) = (List.range 256).map (fun i => Value.bool (if i = s then true else e i)) ++ (List.range 256).map (fun s => Value.bool (p s)) := by
    rw [List.set_append_left _ _ (by rw [map_len]; exact h), map_set _ _ _ h, map_bool]
  have h2 := app_set ((List.range 256).map (fun s => Value.int .u64 (Int.ofNat (Gm.follow s)))) ((List.range 256).map (fun s => Value.bool (e s)) ++ (List.range 256).map (fun s => Value.bool (p s))) s (.bool true)
  rw [map_len, h1] at h2
  have h3 := app_set ((List.range 256).map (fun s => Value.int .u64 (Int.ofNat (Gm.first s)))) ((List.range 256).map (fun s => Value.int .u64 (Int.ofNat (Gm.follow s))) ++ ((List.range 256).map (fun s => Value.bool (e s)) ++ (List.range 256).map (fun s => Value.bool (p s)))) (256 + s) (.bool true)
  rw [map_len, h2] at h3
  rw [h3]
end Go.Proofs.Ytlliokmcfmcigaa.GR
