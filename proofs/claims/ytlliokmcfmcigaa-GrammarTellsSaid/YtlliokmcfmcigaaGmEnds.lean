/- The reference's table as a matrix of truths: how it grows, and when it is done. No program, no memory. -/
import Derived.Test.YtlliokmcfmcigaaGmRef
namespace Go.Proofs.Ytlliokmcfmcigaa.Gm
set_option linter.unusedVariables false
def ofM (n : Nat) (M : Nat → Nat → Bool) (s f p : Nat) : Bool := decide (s < 256) && (decide (f ≤ n) && (decide (p ≤ n) && M (s * (n + 1) + f) p))
theorem ofM_true {n : Nat} {M : Nat → Nat → Bool} {s f p : Nat} : ofM n M s f p = true ↔ s < 256 ∧ f ≤ n ∧ p ≤ n ∧ M (s * (n + 1) + f) p = true := by
  simp [ofM]
theorem idx_inj {n s f s' f' : Nat} (hf : f ≤ n) (hf' : f' ≤ n) (h : s * (n + 1) + f = s' * (n + 1) + f') : s = s' ∧ f = f' := by
  have h1 : (s * (n + 1) + f) / (n + 1) = s := by rw [Nat.mul_comm, Nat.mul_add_div (by omega), Nat.div_eq_of_lt (by omega)]; omega
  have h2 : (s' * (n + 1) + f') / (n + 1) = s' := by rw [Nat.mul_comm, Nat.mul_add_div (by omega), Nat.div_eq_of_lt (by omega)]; omega
  have e : s = s' := by rw [← h1, ← h2, h]
  subst e
  exact ⟨rfl, by omega⟩
theorem idx_lt {n s f : Nat} (hs : s < 256) (hf : f ≤ n) : s * (n + 1) + f < 256 * (n + 1) := by
  have : (s + 1) * (n + 1) ≤ 256 * (n + 1) := Nat.mul_le_mul_right _ (by omega)
  rw [Nat.add_mul] at this
  omega
/-- how many are false -/
def falses (n : Nat) (M : Nat → Nat → Bool) : Nat := (List.range (256 * (n + 1) * (n + 1))).countP (fun x => !M (x / (n + 1)) (x % (n + 1)))
theorem countP_lt {p q : Nat → Bool} : ∀ {l : List Nat}, (∀ x, x ∈ l → p x = true → q x = true) → ∀ x, x ∈ l → q x = true → p x = false → l.countP p < l.countP q
  | [], _, _, h, _, _ => by cases h
  | y :: l, hpq, x, h, hq, hp => by
    have hle : l.countP p ≤ l.countP q := List.countP_mono_left (fun x hx => hpq x (List.mem_cons_of_mem _ hx))
    rw [List.countP_cons, List.countP_cons]
    by_cases e : x = y
    · subst e
      rw [hq, hp]
      simp; omega
    · have hx : x ∈ l := by
        rcases List.mem_cons.1 h with h | h
        · exact absurd h e
        · exact h
      have := countP_lt (p := p) (q := q) (fun x hx => hpq x (List.mem_cons_of_mem _ hx)) x hx hq hp
      have h2 := hpq y List.mem_cons_self
      cases hpy : p y with
      | true => rw [h2 hpy]; simp; omega
      | false => simp; omega
theorem falses_lt {n : Nat} {M M' : Nat → Nat → Bool} (h : ∀ a b, M a b = true → M' a b = true) {i j : Nat} (hi : i < 256 * (n + 1)) (hj : j ≤ n) (h0 : M i j = false) (h1 : M' i j = true) : falses n M' < falses n M := by
  unfold falses
  have e1 : (i * (n + 1) + j) / (n + 1) = i := by rw [Nat.mul_comm, Nat.mul_add_div (by omega), Nat.div_eq_of_lt (by omega)]; omega
  have e2 : (i * (n + 1) + j) % (n + 1) = j := by rw [Nat.mul_comm, Nat.mul_add_mod, Nat.mod_eq_of_lt (by omega)]
  refine countP_lt (fun x _ hx => ?_) (i * (n + 1) + j) ?_ ?_ ?_
  · cases hm : M (x / (n + 1)) (x % (n + 1)) with
    | true => rw [h _ _ hm] at hx; cases hx
    | false => rfl
  · rw [List.mem_range]
    have : (i + 1) * (n + 1) ≤ 256 * (n + 1) * (n + 1) := Nat.mul_le_mul_right _ (by omega)
    rw [Nat.add_mul] at this
    omega
  · rw [e1, e2, h0]; rfl
  · rw [e1, e2, h1]; rfl
/-- The kinds before place f are in. -/
structure TokSt (ks : List Nat) (M : Nat → Nat → Bool) (f : Nat) : Prop where
  sound : SoundE (ofM ks.length M) ks
  kinds : ∀ j (h : j < ks.length), j < f → 1 ≤ ks[j] → ks[j] ≤ 40 → M (ks[j] * (ks.length + 1) + j) (j + 1) = true
theorem TokSt.nil (ks : List Nat) : TokSt ks (fun _ _ => false) 0 := ⟨fun s f p h => by simp [ofM] at h, fun _ _ h => absurd h (by omega)⟩
theorem part_small {s : Nat} (h : s ≤ 40) : part s = false := by
  have : (List.range 41).all (fun s => !part s) = true := by decide +kernel
  simpa using List.all_eq_true.1 this s (by simp; omega)
theorem TokSt.skip {ks : List Nat} {M : Nat → Nat → Bool} {f : Nat} (h : TokSt ks M f) (hf : f < ks.length) (hn : ¬ (1 ≤ ks[f] ∧ ks[f] ≤ 40)) : TokSt ks M (f + 1) :=
  ⟨h.sound, fun j hj hjf h1 h2 => by
    by_cases e : j = f
    · subst e; exact absurd ⟨h1, h2⟩ hn
    · exact h.kinds j hj (by omega) h1 h2⟩
theorem TokSt.put {ks : List Nat} {M : Nat → Nat → Bool} {f : Nat} (h : TokSt ks M f) (hf : f < ks.length) (h1 : 1 ≤ ks[f]) (h2 : ks[f] ≤ 40) : TokSt ks (fun a b => if a = ks[f] * (ks.length + 1) + f ∧ b = f + 1 then true else M a b) (f + 1) := by
  refine ⟨fun s f' p he => ?_, fun j hj hjf k1 k2 => ?_⟩
  · obtain ⟨e1, e2, e3, e4⟩ := ofM_true.1 he
    by_cases hc : s * (ks.length + 1) + f' = ks[f] * (ks.length + 1) + f ∧ p = f + 1
    · obtain ⟨hc1, rfl⟩ := hc
      obtain ⟨rfl, rfl⟩ := idx_inj e2 (by omega) hc1
      refine ⟨by omega, by omega, ?_⟩
      rw [cut_cons ks hf (by omega), cut_self]
      exact .tok (part_small h2) h1 h2 .nil
    · rw [if_neg hc] at e4
      exact h.sound _ _ _ (ofM_true.2 ⟨e1, e2, e3, e4⟩)
  · by_cases e : j = f
    · subst e; simp
    · have := h.kinds j hj (by omega) k1 k2
      split
      · rfl
      · exact this
/-- What stands in the middle of a round: all is sound, the kinds are in, and where nothing was found so far, the rules so far find nothing. -/
structure Round (ks : List Nat) (lim : Nat) (M : Nat → Nat → Bool) (more : Bool) (i from_ : Nat) : Prop where
  sound : SoundE (ofM ks.length M) ks
  kinds : ∀ f (h : f < ks.length), 1 ≤ ks[f] → ks[f] ≤ 40 → M (ks[f] * (ks.length + 1) + f) (f + 1) = true
  done : more = false → ∀ j f, (j < i ∨ (j = i ∧ f < from_)) → f ≤ ks.length → ∀ s r, rules[j]? = some (s, r) → ∀ p, p ≤ ks.length → Path (ofM ks.length M) r f p → M (s * (ks.length + 1) + f) p = true
  few : falses ks.length M + (if more then 1 else 0) ≤ lim
theorem Round.next {ks : List Nat} {lim : Nat} {M : Nat → Nat → Bool} {more : Bool} {i : Nat} (h : Round ks lim M more i (ks.length + 1)) : Round ks lim M more (i + 1) 0 :=
  ⟨h.sound, h.kinds, fun hm j f hj hf => h.done hm j f (by rcases hj with hj | ⟨hj, hf2⟩ <;> omega) hf, h.few⟩
theorem Round.start {ks : List Nat} {lim lim' : Nat} {M : Nat → Nat → Bool} {more : Bool} {i f : Nat} (h : Round ks lim M more i f) (hl : falses ks.length M ≤ lim') : Round ks lim' M false 0 0 :=
  ⟨h.sound, h.kinds, fun hm j f hj hf => by rcases hj with hj | ⟨_, hj⟩ <;> omega, by simpa using hl⟩
theorem Round.closed {ks : List Nat} {lim : Nat} {M : Nat → Nat → Bool} (h : Round ks lim M false 74 0) (hk : ∀ k, k ∈ ks → k < 256) : ClosedE (ofM ks.length M) ks := by
  have h74 : rules.length = 74 := by decide +kernel
  have hp : rules.all (fun r => decide (r.1 < 256)) = true := by decide +kernel
  refine ⟨fun f hf h1 h2 => ofM_true.2 ⟨hk _ (List.getElem_mem hf), by omega, by omega, h.kinds f hf h1 h2⟩, fun n s r hr f p hf hpl hpath => ?_⟩
  have hn : n < 74 := by rw [← h74]; exact (List.getElem?_eq_some_iff.1 hr).1
  have hs : s < 256 := by simpa using List.all_eq_true.1 hp _ (List.mem_of_getElem? hr)
  exact ofM_true.2 ⟨hs, hf, hpl, h.done rfl n f (Or.inl hn) hf s r hr p hpl hpath⟩
theorem TokSt.round {ks : List Nat} {M : Nat → Nat → Bool} (h : TokSt ks M ks.length) : SoundE (ofM ks.length M) ks ∧ ∀ f (h : f < ks.length), 1 ≤ ks[f] → ks[f] ≤ 40 → M (ks[f] * (ks.length + 1) + f) (f + 1) = true :=
  ⟨h.sound, fun f hf h1 h2 => h.kinds f hf hf h1 h2⟩
/-- A place was tried: what was found goes in. -/
theorem Round.step {ks : List Nat} {lim : Nat} {M M' : Nat → Nat → Bool} {more more' : Bool} {i from_ s : Nat} {r : List Nat} {at_ : Nat → Bool} (h : Round ks lim M more i from_) (hi : rules[i]? = some (s, r)) (hf : from_ ≤ ks.length)
    (hat : ∀ p, p ≤ ks.length → (at_ p = true ↔ Path (ofM ks.length M) r from_ p)) (hM : ∀ a b, M' a b = (M a b || (a == s * (ks.length + 1) + from_ && (decide (b ≤ ks.length) && at_ b))))
    (hm : more' = true ↔ more = true ∨ ∃ b, b ≤ ks.length ∧ at_ b = true ∧ M (s * (ks.length + 1) + from_) b = false) : Round ks lim M' more' i (from_ + 1) := by
  have hp : rules.all (fun r => decide (r.1 < 256)) = true := by decide +kernel
  have hs : s < 256 := by simpa using List.all_eq_true.1 hp _ (List.mem_of_getElem? hi)
  have hmono : ∀ a b, M a b = true → M' a b = true := fun a b hab => by rw [hM, hab]; rfl
  refine ⟨?_, fun f hf h1 h2 => hmono _ _ (h.kinds f hf h1 h2), ?_, ?_⟩
  · intro s2 f2 p2 he
    obtain ⟨e1, e2, e3, e4⟩ := ofM_true.1 he
    cases hc : M (s2 * (ks.length + 1) + f2) p2 with
    | true => exact h.sound _ _ _ (ofM_true.2 ⟨e1, e2, e3, hc⟩)
    | false =>
      rw [hM, hc, Bool.false_or, Bool.and_eq_true, Bool.and_eq_true, beq_iff_eq] at e4
      obtain ⟨he2, _, hat2⟩ := e4
      obtain ⟨rfl, rfl⟩ := idx_inj e2 hf he2
      obtain ⟨a1, a2, a3⟩ := h.sound.path hf ((hat _ e3).1 hat2)
      refine ⟨a1, a2, ?_⟩
      have := Der.rule hi (Der.append a3 Der.nil)
      simpa using this
  · intro hmf
    have hmo : more = false := by
      cases hb : more with
      | false => rfl
      | true => rw [hm.2 (Or.inl hb)] at hmf; cases hmf
    have hno : ∀ b, b ≤ ks.length → at_ b = true → M (s * (ks.length + 1) + from_) b = true := fun b hb hab => by
      cases hc : M (s * (ks.length + 1) + from_) b with
      | true => rfl
      | false => rw [hm.2 (Or.inr ⟨b, hb, hab, hc⟩)] at hmf; cases hmf
    have heq : M' = M := by
      funext a b
      rw [hM]
      cases hc : M a b with
      | true => rfl
      | false =>
        rw [Bool.false_or, Bool.and_eq_false_iff, Bool.and_eq_false_iff]
        by_cases ha : a = s * (ks.length + 1) + from_
        · by_cases hb : b ≤ ks.length
          · right; right
            cases hab : at_ b with
            | false => rfl
            | true => rw [ha, hno b hb hab] at hc; cases hc
          · right; left; simpa using hb
        · left; simpa using ha
    subst heq
    intro j f hj hfl s2 r2 hr2 p hpl hpath
    by_cases hold : j < i ∨ (j = i ∧ f < from_)
    · exact h.done hmo j f hold hfl s2 r2 hr2 p hpl hpath
    · have hji : j = i := by omega
      have hff : f = from_ := by omega
      subst hji; subst hff
      rw [hi, Option.some.injEq, Prod.mk.injEq] at hr2
      obtain ⟨rfl, rfl⟩ := hr2
      exact hno p hpl ((hat p hpl).2 hpath)
  · have hfew := h.few
    by_cases hnew : ∃ b, b ≤ ks.length ∧ at_ b = true ∧ M (s * (ks.length + 1) + from_) b = false
    · obtain ⟨b, hb, hab, hmb⟩ := hnew
      have := falses_lt (n := ks.length) hmono (idx_lt hs hf) hb hmb (by rw [hM, hmb, hab]; simp [hb])
      split <;> split at hfew <;> omega
    · have hle : falses ks.length M' ≤ falses ks.length M := by
        unfold falses
        refine List.countP_mono_left (fun x _ hx => ?_)
        cases hc : M (x / (ks.length + 1)) (x % (ks.length + 1)) with
        | true => rw [hmono _ _ hc] at hx; cases hx
        | false => rfl
      have hmm : more' = more := by
        cases hb : more with
        | true => exact hm.2 (Or.inl hb)
        | false =>
          cases hb' : more' with
          | false => rfl
          | true => rcases hm.1 hb' with h | h
                    · rw [hb] at h; cases h
                    · exact absurd h hnew
      rw [hmm]
      omega
theorem Path.take_snoc {E : Nat → Nat → Nat → Bool} {r : List Nat} {k f p : Nat} (hk : k < r.length) : Path E (r.take (k + 1)) f p ↔ ∃ q, Path E (r.take k) f q ∧ E (r.getD k 0) q p = true := by
  rw [List.take_succ_eq_append_getElem hk, Path.snoc]
  have : r.getD k 0 = r[k] := by simp [List.getD_eq_getElem?_getD, hk]
  rw [this]
end Go.Proofs.Ytlliokmcfmcigaa.Gm
