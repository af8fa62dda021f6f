/- The reference's table of ends: when nothing more is found, it says just what is derived. No program, no memory. -/
import Derived.Test.YtlliokmcfmcigaaGm
namespace Go.Proofs.Ytlliokmcfmcigaa.Gm

/-- From a place a row of symbols comes to another one, by a table of ends. -/
def Path (E : Nat → Nat → Nat → Bool) : List Nat → Nat → Nat → Prop
  | [], f, p => f = p
  | s :: l, f, p => ∃ q, E s f q = true ∧ Path E l q p
theorem Path.snoc {E : Nat → Nat → Nat → Bool} {s : Nat} : ∀ {l : List Nat} {f p : Nat}, Path E (l ++ [s]) f p ↔ ∃ q, Path E l f q ∧ E s q p = true
  | [], f, p => by
    simp only [List.nil_append, Path]
    exact ⟨fun ⟨q, h, e⟩ => ⟨f, rfl, e ▸ h⟩, fun ⟨q, e, h⟩ => ⟨p, e ▸ h, rfl⟩⟩
  | x :: l, f, p => by
    simp only [List.cons_append, Path]
    constructor
    · rintro ⟨q, h, h'⟩
      obtain ⟨q', h1, h2⟩ := Path.snoc.1 h'
      exact ⟨q', ⟨q, h, h1⟩, h2⟩
    · rintro ⟨q', ⟨q, h, h1⟩, h2⟩
      exact ⟨q, h, Path.snoc.2 ⟨q', h1, h2⟩⟩
theorem Path.mono {E E' : Nat → Nat → Nat → Bool} (h : ∀ s f p, E s f p = true → E' s f p = true) : ∀ {l : List Nat} {f p : Nat}, Path E l f p → Path E' l f p
  | [], _, _, k => k
  | _ :: _, _, _, ⟨q, k1, k2⟩ => ⟨q, h _ _ _ k1, Path.mono h k2⟩

/-- The kinds from a place to another one. -/
def cut (ks : List Nat) (f p : Nat) : List Nat := (ks.drop f).take (p - f)
theorem cut_self (ks : List Nat) (f : Nat) : cut ks f f = [] := by simp [cut]
theorem cut_append (ks : List Nat) {f q p : Nat} (h1 : f ≤ q) (h2 : q ≤ p) : cut ks f p = cut ks f q ++ cut ks q p := by
  unfold cut
  have e : ks.drop q = (ks.drop f).drop (q - f) := by rw [List.drop_drop]; congr 1; omega
  rw [e, show p - f = (q - f) + (p - q) by omega, List.take_add]
theorem cut_cons (ks : List Nat) {f p : Nat} (h : f < ks.length) (h2 : f < p) : cut ks f p = ks[f] :: cut ks (f + 1) p := by
  unfold cut
  rw [List.drop_eq_getElem_cons h, show p - f = (p - (f + 1)) + 1 by omega, List.take_succ_cons]
theorem cut_all (ks : List Nat) : cut ks 0 ks.length = ks := by simp [cut]

def SoundE (E : Nat → Nat → Nat → Bool) (ks : List Nat) : Prop := ∀ s f p, E s f p = true → f ≤ p ∧ p ≤ ks.length ∧ Der [s] (cut ks f p)
theorem SoundE.path {E : Nat → Nat → Nat → Bool} {ks : List Nat} (h : SoundE E ks) : ∀ {l : List Nat} {f p : Nat}, f ≤ ks.length → Path E l f p → f ≤ p ∧ p ≤ ks.length ∧ Der l (cut ks f p)
  | [], f, p, hf, k => by
    have k : f = p := k
    subst k
    exact ⟨Nat.le_refl _, hf, by rw [cut_self]; exact .nil⟩
  | s :: l, f, p, hf, ⟨q, k1, k2⟩ => by
    obtain ⟨a1, a2, a3⟩ := h s f q k1
    obtain ⟨b1, b2, b3⟩ := h.path a2 k2
    refine ⟨by omega, b2, ?_⟩
    rw [cut_append ks a1 b1]
    exact Der.append (a := [s]) a3 b3

/-- All rules have been tried, nothing more is found. -/
def ClosedE (E : Nat → Nat → Nat → Bool) (ks : List Nat) : Prop :=
  (∀ f (h : f < ks.length), 1 ≤ ks[f] → ks[f] ≤ 40 → E ks[f] f (f + 1) = true) ∧
  (∀ (n s : Nat) (r : List Nat), rules[n]? = some (s, r) → ∀ f p, f ≤ ks.length → p ≤ ks.length → Path E r f p → E s f p = true)
theorem Path.append {E : Nat → Nat → Nat → Bool} {b : List Nat} : ∀ {a : List Nat} {f p : Nat}, Path E (a ++ b) f p → ∃ q, Path E a f q ∧ Path E b q p
  | [], f, _, k => ⟨f, rfl, k⟩
  | _ :: _, _, _, ⟨q, k1, k2⟩ => by
    obtain ⟨q', h1, h2⟩ := Path.append k2
    exact ⟨q', ⟨q, k1, h1⟩, h2⟩
theorem ClosedE.path {E : Nat → Nat → Nat → Bool} {ks : List Nat} (h : ClosedE E ks) (hs : SoundE E ks) {l u : List Nat} (hd : Der l u) : ∀ f, f + u.length ≤ ks.length → cut ks f (f + u.length) = u → Path E l f (f + u.length) := by
  induction hd with
  | nil => intro f _ _; rfl
  | @tok s st ts h1 h2 h3 _ ih =>
    intro f hf hc
    rw [List.length_cons] at hf hc ⊢
    rw [cut_cons ks (by omega) (by omega)] at hc
    simp only [List.cons.injEq] at hc
    obtain ⟨e, hc⟩ := hc
    rw [show f + (ts.length + 1) = f + 1 + ts.length by omega] at hc ⊢
    refine ⟨f + 1, ?_, ih (f + 1) (by omega) hc⟩
    have := h.1 f (by omega) (by rw [e]; exact h2) (by rw [e]; exact h3)
    rwa [e] at this
  | @rule n s r st ts hr _ ih =>
    intro f hf hc
    obtain ⟨q, h1, h2⟩ := (ih f hf hc).append
    obtain ⟨a1, a2, _⟩ := hs.path (by omega) h1
    exact ⟨q, h.2 n s r hr f q (by omega) a2 h1, h2⟩
/-- The table's answer. -/
theorem ends_say {E : Nat → Nat → Nat → Bool} {ks : List Nat} (h : ClosedE E ks) (hs : SoundE E ks) : E 51 0 ks.length = true ↔ Der [51] ks := by
  constructor
  · intro k
    have := (hs _ _ _ k).2.2
    rwa [cut_all] at this
  · intro k
    obtain ⟨q, h1, h2⟩ := h.path hs k 0 (by omega) (by rw [Nat.zero_add]; exact cut_all ks)
    have h2 : q = 0 + ks.length := h2
    rw [h2, Nat.zero_add] at h1
    exact h1
end Go.Proofs.Ytlliokmcfmcigaa.Gm
