/- The grammar's rules as plain lists of numbers; what a row of symbols derives; that the predictive parser accepts just what is derived. No program, no memory. -/
namespace Go.Proofs.Ytlliokmcfmcigaa.Gm

/-- The 74 rules: the part, the right-hand side. -/
def rules : List (Nat × List Nat) := [(51, [101]), (101, [102, 101]), (101, []), (102, [53]), (102, [54]), (102, [56]), (102, [57]), (102, [58]), (102, [52]), (102, [59]), (53, [10, 6, 26, 60, 25]), (54, [11, 6, 55, 52]), (55, [20, 103, 21]), (103, [6, 104]), (103, []), (104, [24, 6, 104]), (104, []), (56, [12, 60, 52, 105]), (105, [13, 106]), (105, []), (106, [56]), (106, [52]), (57, [14, 60, 52]), (58, [15, 107, 25]), (107, [60]), (107, []), (52, [22, 101, 23]), (59, [60, 108, 25]), (108, [26, 60]), (108, []), (60, [111]), (111, [112, 121]), (121, [40, 112, 121]), (121, []), (112, [113, 122]), (122, [39, 113, 122]), (122, []), (113, [114, 123]), (123, [27, 114, 123]), (123, [28, 114, 123]), (123, [29, 114, 123]), (123, [30, 114, 123]), (123, [31, 114, 123]), (123, [32, 114, 123]), (123, []), (114, [115, 124]), (124, [33, 115, 124]), (124, [34, 115, 124]), (124, []), (115, [116, 125]), (125, [35, 116, 125]), (125, [36, 116, 125]), (125, [37, 116, 125]), (125, []), (116, [34, 116]), (116, [38, 116]), (116, [117]), (117, [119, 118]), (118, [64, 118]), (118, []), (64, [20, 109, 21]), (109, [60, 110]), (109, []), (110, [24, 60, 110]), (110, []), (119, [66]), (119, [67]), (119, [65]), (66, [6]), (67, [7]), (67, [8]), (67, [16]), (67, [17]), (65, [20, 60, 21])]
def partL : List Nat := [51, 52, 53, 54, 55, 56, 57, 58, 59, 60, 64, 65, 66, 67, 101, 102, 103, 104, 105, 106, 107, 108, 109, 110, 111, 112, 113, 114, 115, 116, 117, 118, 119, 121, 122, 123, 124, 125]
def part (s : Nat) : Bool := partL.contains s
def emptyL : List Nat := [51, 101, 103, 104, 105, 107, 108, 121, 122, 123, 124, 125, 118, 109, 110]
def empty (s : Nat) : Bool := emptyL.contains s
/-- What begins each part, a bit a kind. -/
def firstT : List (Nat × Nat) := [(51, 0x440053ddc0), (52, 0x400000), (53, 0x400), (54, 0x800), (55, 0x100000), (56, 0x1000), (57, 0x4000), (58, 0x8000), (59, 0x44001301c0), (60, 0x44001301c0), (64, 0x100000), (65, 0x100000), (66, 0x40), (67, 0x30180), (101, 0x440053ddc0), (102, 0x440053ddc0), (103, 0x40), (104, 0x1000000), (105, 0x2000), (106, 0x401000), (107, 0x44001301c0), (108, 0x4000000), (109, 0x44001301c0), (110, 0x1000000), (111, 0x44001301c0), (112, 0x44001301c0), (113, 0x44001301c0), (114, 0x44001301c0), (115, 0x44001301c0), (116, 0x44001301c0), (117, 0x1301c0), (118, 0x100000), (119, 0x1301c0), (121, 0x10000000000), (122, 0x8000000000), (123, 0x1f8000000), (124, 0x600000000), (125, 0x3800000000)]
def followT : List (Nat × Nat) := [(6, 0x1bfff700000), (7, 0x1bfff700000), (8, 0x1bfff700000), (10, 0x40), (11, 0x40), (12, 0x44001301c0), (13, 0x401000), (14, 0x44001301c0), (15, 0x44021301c0), (16, 0x1bfff700000), (17, 0x1bfff700000), (20, 0x44003301c0), (21, 0x1bfff700000), (22, 0x4400d3ddc0), (23, 0x4400d3fdc1), (24, 0x44001301c0), (25, 0x4400d3ddc1), (26, 0x44001301c0), (27, 0x44001301c0), (28, 0x44001301c0), (29, 0x44001301c0), (30, 0x44001301c0), (31, 0x44001301c0), (32, 0x44001301c0), (33, 0x44001301c0), (34, 0x44001301c0), (35, 0x44001301c0), (36, 0x44001301c0), (37, 0x44001301c0), (38, 0x44001301c0), (39, 0x44001301c0), (40, 0x44001301c0), (51, 0x1), (52, 0x4400d3fdc1), (53, 0x4400d3ddc1), (54, 0x4400d3ddc1), (55, 0x400000), (56, 0x4400d3ddc1), (57, 0x4400d3ddc1), (58, 0x4400d3ddc1), (59, 0x4400d3ddc1), (60, 0x7600000), (64, 0x1bfff700000), (65, 0x1bfff700000), (66, 0x1bfff700000), (67, 0x1bfff700000), (101, 0x800001), (102, 0x4400d3ddc1), (103, 0x200000), (104, 0x200000), (105, 0x4400d3ddc1), (106, 0x4400d3ddc1), (107, 0x2000000), (108, 0x2000000), (109, 0x200000), (110, 0x200000), (111, 0x7600000), (112, 0x10007600000), (113, 0x18007600000), (114, 0x181ff600000), (115, 0x187ff600000), (116, 0x1bfff600000), (117, 0x1bfff600000), (118, 0x1bfff600000), (119, 0x1bfff700000), (121, 0x7600000), (122, 0x10007600000), (123, 0x18007600000), (124, 0x181ff600000), (125, 0x187ff600000)]
def look (t : List (Nat × Nat)) (s : Nat) : Nat := match t.find? (fun p => p.1 == s) with | some p => p.2 | none => 0
/-- What begins a symbol: a token begins with itself. -/
def first (s : Nat) : Nat := if 1 ≤ s ∧ s ≤ 40 then 2 ^ s else look firstT s
def follow (s : Nat) : Nat := look followT s
/-- What a row of symbols begins with; may it be empty? -/
def begins : List Nat → Nat × Bool
  | [] => (0, true)
  | s :: l => if empty s then ((first s) ||| (begins l).1, (begins l).2) else (first s, false)
def does (r : Nat × List Nat) (kind : Nat) : Bool :=
  decide (kind < 64) && ((decide (0 < kind) && (begins r.2).1.testBit kind) || ((begins r.2).2 && (follow r.1).testBit kind))
def choose (s kind : Nat) : Option Nat := rules.findIdx? (fun r => r.1 == s && does r kind)
def right (n : Nat) : List Nat := (rules.getD n (0, [])).2

/-- A row of symbols derives a row of kinds. -/
inductive Der : List Nat → List Nat → Prop
  | nil : Der [] []
  | tok {s : Nat} {st ts : List Nat} : part s = false → 1 ≤ s → s ≤ 40 → Der st ts → Der (s :: st) (s :: ts)
  | rule {n s : Nat} {r : List Nat} {st ts : List Nat} : rules[n]? = some (s, r) → Der (r ++ st) ts → Der (s :: st) ts

theorem Der.append {a b u v : List Nat} (h : Der a u) (k : Der b v) : Der (a ++ b) (u ++ v) := by
  induction h with
  | nil => exact k
  | tok h1 h2 h3 _ ih => exact .tok h1 h2 h3 ih
  | rule hr _ ih => exact .rule hr (by rw [List.append_assoc] at ih; exact ih)

theorem Der.split {a b ts : List Nat} (h : Der (a ++ b) ts) : ∃ u v, ts = u ++ v ∧ Der a u ∧ Der b v := by
  generalize hc : a ++ b = c at h
  induction h generalizing a with
  | nil =>
    obtain ⟨rfl, rfl⟩ := List.append_eq_nil_iff.1 hc
    exact ⟨[], [], rfl, .nil, .nil⟩
  | @tok s st ts h1 h2 h3 h4 ih =>
    cases a with
    | nil => exact ⟨[], s :: ts, rfl, .nil, by simp only [List.nil_append] at hc; rw [hc]; exact .tok h1 h2 h3 h4⟩
    | cons x a =>
      simp only [List.cons_append, List.cons.injEq] at hc
      obtain ⟨rfl, hc⟩ := hc
      obtain ⟨u, v, rfl, hu, hv⟩ := ih hc
      exact ⟨x :: u, v, rfl, .tok h1 h2 h3 hu, hv⟩
  | @rule n s r st ts hr h4 ih =>
    cases a with
    | nil => exact ⟨[], ts, rfl, .nil, by simp only [List.nil_append] at hc; rw [hc]; exact .rule hr h4⟩
    | cons x a =>
      simp only [List.cons_append, List.cons.injEq] at hc
      obtain ⟨rfl, hc⟩ := hc
      obtain ⟨u, v, rfl, hu, hv⟩ := ih (a := r ++ a) (by rw [List.append_assoc, hc])
      exact ⟨u, v, rfl, .rule hr hu, hv⟩

/-! closed facts on the tables -/
/-- a is among b's bits. -/
def sub (a b : Nat) : Bool := a ||| b == b
theorem sub_bit {a b k : Nat} (h : sub a b = true) (hk : a.testBit k = true) : b.testBit k = true := by
  have : a ||| b = b := by simpa [sub] using h
  rw [← this, Nat.testBit_or, hk]; rfl
theorem first_closed : rules.all (fun r => sub (begins r.2).1 (first r.1)) = true := by decide +kernel
theorem empty_closed : rules.all (fun r => !(begins r.2).2 || empty r.1) = true := by decide +kernel
/-- What stands behind each symbol of a rule's right-hand side follows it. -/
def tails (p : Nat) : List Nat → Bool
  | [] => true
  | s :: l => sub (begins l).1 (follow s) && (!(begins l).2 || sub (follow p) (follow s)) && tails p l
theorem follow_closed : rules.all (fun r => tails r.1 r.2) = true := by decide +kernel
theorem one_does : (List.range 41).all (fun k => (List.range 74).all (fun n => match rules[n]? with | some r => !does r k || choose r.1 k == some n | none => true)) = true := by decide +kernel
theorem parts_ruled : rules.all (fun r => part r.1) = true := by decide +kernel
theorem toks_small : rules.all (fun r => r.2.all (fun s => part s || (decide (1 ≤ s) && decide (s ≤ 40)))) = true := by decide +kernel

theorem rule_mem {n s : Nat} {r : List Nat} (h : rules[n]? = some (s, r)) : (s, r) ∈ rules := List.mem_of_getElem? h
theorem rule_lt {n s : Nat} {r : List Nat} (h : rules[n]? = some (s, r)) : n < 74 := by
  have := (List.getElem?_eq_some_iff.1 h).1
  have h74 : rules.length = 74 := by decide +kernel
  omega

theorem begins_append (a b : List Nat) : begins (a ++ b) = if (begins a).2 then ((begins a).1 ||| (begins b).1, (begins b).2) else ((begins a).1, false) := by
  induction a with
  | nil => simp [begins]
  | cons s a ih =>
    simp only [List.cons_append, begins, ih]
    by_cases hs : empty s = true <;> by_cases ha : (begins a).2 = true <;> simp [hs, ha, Nat.or_assoc]

/-- What a row derives begins with one of its kinds, or it may be empty. -/
theorem Der.begin {a u : List Nat} (h : Der a u) : (u = [] → (begins a).2 = true) ∧ ∀ k v, u = k :: v → (begins a).1.testBit k = true ∧ 1 ≤ k ∧ k ≤ 40 := by
  induction h with
  | nil => exact ⟨fun _ => rfl, fun k v h => (by cases h)⟩
  | @tok s st ts h1 h2 h3 _ ih =>
    refine ⟨fun h => (by cases h), fun k v h => ?_⟩
    simp only [List.cons.injEq] at h
    obtain ⟨rfl, rfl⟩ := h
    have hf : (first s).testBit s = true := by
      unfold first
      rw [if_pos ⟨h2, h3⟩, Nat.testBit_two_pow]; simp
    refine ⟨?_, h2, h3⟩
    simp only [begins]
    split
    · rw [Nat.testBit_or, hf]; rfl
    · exact hf
  | @rule n s r st ts hr _ ih =>
    have hm := rule_mem hr
    have f1 := List.all_eq_true.1 first_closed _ hm
    have f2 := List.all_eq_true.1 empty_closed _ hm
    dsimp only at f1 f2
    rw [begins_append] at ih
    simp only [begins]
    refine ⟨fun h => ?_, fun k v h => ?_⟩
    · have h1 := ih.1 h
      split at h1
      · rename_i h2
        rw [h2] at f2
        have : empty s = true := by simpa using f2
        rw [this]; simpa using h1
      · cases h1
    · obtain ⟨h1, hb⟩ := ih.2 k v h
      refine ⟨?_, hb⟩
      split at h1
      · rename_i h2
        rw [h2] at f2
        have : empty s = true := by simpa using f2
        rw [this]
        simp only [if_true]
        rw [Nat.testBit_or] at h1 ⊢
        cases hx : (begins r).1.testBit k with
        | true => rw [sub_bit f1 hx]; rfl
        | false =>
          rw [hx, Bool.false_or] at h1
          rw [h1]; simp
      · have := sub_bit f1 h1
        split
        · rw [Nat.testBit_or, this]; rfl
        · exact this

/-- The kind at hand of what is left: 0 at the end. -/
def hd : List Nat → Nat
  | [] => 0
  | k :: _ => k

/-- Behind each symbol of a stack only what may follow it comes. -/
inductive Valid : List Nat → Prop
  | nil : Valid []
  | cons {s : Nat} {st : List Nat} : (∀ ts, Der st ts → (follow s).testBit (hd ts) = true) → Valid st → Valid (s :: st)

theorem valid_file : Valid [51] := .cons (fun ts h => by
  cases h
  decide +kernel) .nil

theorem tails_valid {p : Nat} {st : List Nat} (hp : ∀ ts, Der st ts → (follow p).testBit (hd ts) = true) (hst : Valid st) : ∀ l, tails p l = true → Valid (l ++ st)
  | [], _ => hst
  | s :: l, h => by
    simp only [tails, Bool.and_eq_true] at h
    obtain ⟨⟨h1, h2⟩, h3⟩ := h
    refine .cons (fun ts hd' => ?_) (tails_valid hp hst l h3)
    obtain ⟨u, v, rfl, hu, hv⟩ := hd'.split
    cases u with
    | nil =>
      have he := hu.begin.1 rfl
      rw [he] at h2
      exact sub_bit (by simpa using h2) (hp v hv)
    | cons k u => exact sub_bit h1 (hu.begin.2 k u rfl).1

theorem Valid.rule {n s : Nat} {r st : List Nat} (h : Valid (s :: st)) (hr : rules[n]? = some (s, r)) : Valid (r ++ st) := by
  cases h with
  | cons h1 h2 => exact tails_valid h1 h2 r (List.all_eq_true.1 follow_closed _ (rule_mem hr))

/-- What is derived by a rule is chosen by it. -/
theorem chosen {n s : Nat} {r st ts : List Nat} (hv : Valid (s :: st)) (hr : rules[n]? = some (s, r)) (h : Der (r ++ st) ts) : choose s (hd ts) = some n := by
  have hkd : hd ts ≤ 40 ∧ does (s, r) (hd ts) = true := by
    obtain ⟨u, v, rfl, hu, hv'⟩ := h.split
    cases u with
    | cons k u =>
      obtain ⟨h1, h2, h3⟩ := hu.begin.2 k u rfl
      refine ⟨h3, ?_⟩
      have e : hd (k :: u ++ v) = k := rfl
      simp only [does, e, h1]
      have a1 : decide (k < 64) = true := by simp; omega
      have a2 : decide (0 < k) = true := by simp; omega
      rw [a1, a2]; rfl
    | nil =>
      have he := hu.begin.1 rfl
      cases hv with
      | cons hf _ =>
        have hb := hf v hv'
        have hk : hd v ≤ 40 := by
          cases v with
          | nil => simp [hd]
          | cons k v => exact ((hv'.begin).2 k v rfl).2.2
        refine ⟨hk, ?_⟩
        have e : hd ([] ++ v) = hd v := rfl
        simp only [does, e, he, hb]
        have a1 : decide (hd v < 64) = true := by simp; omega
        rw [a1]; simp
  have h1 := List.all_eq_true.1 one_does (hd ts) (by simp; omega)
  have h2 := List.all_eq_true.1 h1 n (by simp; exact rule_lt hr)
  rw [hr] at h2
  simp only [hkd.2] at h2
  simpa using h2

/-- The predictive parser: a stack of symbols, what is left. -/
def run : Nat → List Nat → List Nat → Option Bool
  | 0, _, _ => none
  | k + 1, st, ts =>
    if !ts.isEmpty && hd ts == 0 then some false else
    match st with
    | [] => some ts.isEmpty
    | s :: st => if part s then (match choose s (hd ts) with | none => some false | some n => run k (right n ++ st) ts) else if s == hd ts then run k st ts.tail else some false

theorem choose_rule {s kind n : Nat} (h : choose s kind = some n) : rules[n]? = some (s, right n) ∧ n < 74 := by
  unfold choose at h
  obtain ⟨h1, h2, _⟩ := List.findIdx?_eq_some_iff_getElem.1 h
  have e : rules[n]? = some rules[n] := List.getElem?_eq_getElem h1
  have h3 : rules[n].1 = s := by
    simp only [Bool.and_eq_true] at h2
    exact by simpa using h2.1
  refine ⟨?_, by have h74 : rules.length = 74 := by decide +kernel
                 omega⟩
  unfold right
  rw [e, List.getD_eq_getElem?_getD, e]
  simp only [Option.getD_some]
  rw [← h3]

theorem run_sound : ∀ (k : Nat) (st ts : List Nat), (∀ s, s ∈ st → part s = true ∨ (1 ≤ s ∧ s ≤ 40)) → run k st ts = some true → Der st ts
  | 0, _, _, _, h => by simp [run] at h
  | k + 1, st, ts, hs, h => by
    simp only [run] at h
    split at h
    · cases h
    · cases st with
      | nil =>
        simp only [Option.some.injEq] at h
        have : ts = [] := by simpa using h
        rw [this]; exact .nil
      | cons s st =>
        dsimp only at h
        split at h
        · split at h
          · cases h
          · rename_i n hn
            obtain ⟨hr, hn74⟩ := choose_rule hn
            refine .rule hr (run_sound k _ _ ?_ h)
            intro x hx
            rcases List.mem_append.1 hx with hx | hx
            · have := List.all_eq_true.1 (List.all_eq_true.1 toks_small _ (rule_mem hr)) x hx
              simpa using this
            · exact hs x (List.mem_cons_of_mem _ hx)
        · rename_i hp
          split at h
          · rename_i he
            have he' : s = hd ts := by simpa using he
            rcases hs s List.mem_cons_self with hp' | ⟨h1, h2⟩
            · exact absurd hp' hp
            · cases ts with
              | nil => simp [hd] at he'; omega
              | cons t ts =>
                have e : t = s := by simpa [hd] using he'.symm
                subst e
                exact .tok (by simpa using hp) h1 h2 (run_sound k _ _ (fun x hx => hs x (List.mem_cons_of_mem _ hx)) h)
          · cases h

theorem run_complete {st ts : List Nat} (h : Der st ts) : Valid st → ∃ k, run k st ts = some true := by
  induction h with
  | nil => exact fun _ => ⟨1, rfl⟩
  | @tok s st ts h1 h2 h3 _ ih =>
    intro hv
    cases hv with
    | cons _ hv =>
      obtain ⟨k, hk⟩ := ih hv
      refine ⟨k + 1, ?_⟩
      simp only [run]
      have e1 : (!(s :: ts).isEmpty && hd (s :: ts) == 0) = false := by
        simp only [hd]
        have : (s == 0) = false := by simp; omega
        rw [this]; simp
      rw [e1, h1]
      simpa [hd] using hk
  | @rule n s r st ts hr hd' ih =>
    intro hv
    have hc := chosen hv hr hd'
    obtain ⟨k, hk⟩ := ih (hv.rule hr)
    refine ⟨k + 1, ?_⟩
    have hp : part s = true := List.all_eq_true.1 parts_ruled _ (rule_mem hr)
    have hrr : right n = r := by unfold right; rw [List.getD_eq_getElem?_getD, hr]; rfl
    simp only [run, hp, hc, hrr, if_true, hk]
    cases k with
    | zero => simp [run] at hk
    | succ k =>
      simp only [run] at hk
      split at hk
      · cases hk
      · rename_i h0
        rw [if_neg h0]

theorem run_succ (k : Nat) (st ts : List Nat) : run (k + 1) st ts = if !ts.isEmpty && hd ts == 0 then some false else
    match st with
    | [] => some ts.isEmpty
    | s :: st => if part s then (match choose s (hd ts) with | none => some false | some n => run k (right n ++ st) ts) else if s == hd ts then run k st ts.tail else some false := rfl
theorem run_mono : ∀ (k : Nat) (st ts : List Nat) (b : Bool), run k st ts = some b → run (k + 1) st ts = some b
  | 0, _, _, _, h => by simp [run] at h
  | k + 1, st, ts, b, h => by
    rw [run_succ] at h ⊢
    split
    · rename_i h0; rwa [if_pos h0] at h
    · rename_i h0
      rw [if_neg h0] at h
      cases st with
      | nil => exact h
      | cons s st =>
        dsimp only at h ⊢
        split
        · rename_i hp
          rw [if_pos hp] at h
          cases hc : choose s (hd ts) with
          | none => rw [hc] at h; exact h
          | some n => rw [hc] at h; exact run_mono k _ _ b h
        · rename_i hp
          rw [if_neg hp] at h
          split
          · rename_i he; rw [if_pos he] at h; exact run_mono k _ _ b h
          · rename_i he; rw [if_neg he] at h; exact h
theorem run_le {k k' : Nat} {st ts : List Nat} {b : Bool} (hk : k ≤ k') (h : run k st ts = some b) : run k' st ts = some b := by
  induction hk with
  | refl => exact h
  | step _ ih => exact run_mono _ _ _ _ ih

/-! it ends -/
def costT : List (Nat × Nat) := [(66, 2), (67, 2), (65, 2), (119, 3), (64, 2), (118, 5), (117, 10), (116, 12), (125, 3), (115, 20), (124, 3), (114, 30), (123, 3), (113, 40), (122, 3), (112, 50), (121, 3), (111, 60), (60, 70), (59, 72), (108, 3), (107, 75), (58, 2), (57, 2), (52, 2), (56, 2), (105, 3), (106, 4), (110, 3), (109, 75), (104, 3), (103, 5), (55, 2), (54, 2), (53, 2), (102, 80), (101, 90), (51, 100)]
def cost (s : Nat) : Nat := if part s then look costT s else 1
/-- What may be put on the stack ahead of the next token. -/
def weight : List Nat → Nat
  | [] => 0
  | s :: l => cost s + if empty s then weight l else 0
theorem cost_closed : rules.all (fun r => decide (weight r.2 < cost r.1) && ((begins r.2).2 == (r.2.all empty))) = true := by decide +kernel
theorem weight_append (a b : List Nat) : weight (a ++ b) = weight a + if a.all empty then weight b else 0 := by
  induction a with
  | nil => simp [weight]
  | cons s a ih =>
    simp only [List.cons_append, weight, ih, List.all_cons]
    by_cases hs : empty s = true <;> simp [hs, Nat.add_assoc]
theorem begins_all (a : List Nat) : (begins a).2 = a.all empty := by
  induction a with
  | nil => rfl
  | cons s a ih =>
    simp only [begins, List.all_cons]
    by_cases hs : empty s = true <;> simp [hs, ih]
theorem weight_rule {n s : Nat} {r : List Nat} (st : List Nat) (hr : rules[n]? = some (s, r)) : weight (r ++ st) < weight (s :: st) := by
  have h := List.all_eq_true.1 cost_closed _ (rule_mem hr)
  have f2 := List.all_eq_true.1 empty_closed _ (rule_mem hr)
  simp only [Bool.and_eq_true, decide_eq_true_eq] at h
  dsimp only at f2
  rw [begins_all] at f2
  rw [weight_append]
  simp only [weight]
  cases ha : r.all empty with
  | false => simp only [Bool.false_eq_true, if_false]; omega
  | true =>
    rw [ha] at f2
    have : empty s = true := by simpa using f2
    simp only [this, if_true]; omega
def OkSt (st : List Nat) : Prop := ∀ s, s ∈ st → part s = true ∨ (1 ≤ s ∧ s ≤ 40)
theorem OkSt.rule {n s : Nat} {r st : List Nat} (h : OkSt (s :: st)) (hr : rules[n]? = some (s, r)) : OkSt (r ++ st) := by
  intro x hx
  rcases List.mem_append.1 hx with hx | hx
  · have := List.all_eq_true.1 (List.all_eq_true.1 toks_small _ (rule_mem hr)) x hx
    simpa using this
  · exact h x (List.mem_cons_of_mem _ hx)
theorem run_ends : ∀ (m : Nat) (ts : List Nat), ts.length = m → ∀ (g : Nat) (st : List Nat), OkSt st → weight st ≤ g → ∃ k b, run k st ts = some b := by
  intro m
  induction m using Nat.strongRecOn with
  | _ m ihm =>
    intro ts hm g
    induction g using Nat.strongRecOn with
    | _ g ihg =>
      intro st hok hg
      by_cases h0 : (!ts.isEmpty && hd ts == 0) = true
      · exact ⟨1, false, by simp only [run]; rw [if_pos h0]⟩
      · cases st with
        | nil => exact ⟨1, ts.isEmpty, by simp only [run]; rw [if_neg h0]⟩
        | cons s st =>
          by_cases hp : part s = true
          · cases hc : choose s (hd ts) with
            | none => exact ⟨1, false, by simp only [run]; rw [if_neg h0, if_pos hp, hc]⟩
            | some n =>
              have hr := (choose_rule hc).1
              have hw := weight_rule st hr
              obtain ⟨k, b, hk⟩ := ihg (weight (right n ++ st)) (by omega) (right n ++ st) (hok.rule hr) (Nat.le_refl _)
              exact ⟨k + 1, b, by simp only [run]; rw [if_neg h0, if_pos hp, hc]; exact hk⟩
          · by_cases he : (s == hd ts) = true
            · cases ts with
              | nil =>
                have hs0 : s = 0 := by simpa [hd] using he
                rcases hok s List.mem_cons_self with h1 | h1
                · exact absurd h1 hp
                · omega
              | cons t ts =>
                obtain ⟨k, b, hk⟩ := ihm ts.length (by simp at hm; omega) ts rfl (weight st) st (fun x hx => hok x (List.mem_cons_of_mem _ hx)) (Nat.le_refl _)
                exact ⟨k + 1, b, by simp only [run]; rw [if_neg h0, if_neg hp, if_pos he]; exact hk⟩
            · exact ⟨1, false, by simp only [run]; rw [if_neg h0, if_neg hp, if_neg he]⟩

/-- The predictive parser accepts just what is derived. -/
theorem ok_file : OkSt [51] := fun s hs => .inl (by rw [List.mem_singleton.1 hs]; decide +kernel)
theorem run_file (ts : List Nat) : (∃ k, run k [51] ts = some true) ∨ ((∃ k, run k [51] ts = some false) ∧ ¬ Der [51] ts) := by
  obtain ⟨k, b, h⟩ := run_ends _ ts rfl _ [51] ok_file (Nat.le_refl _)
  cases b with
  | true => exact .inl ⟨k, h⟩
  | false =>
    refine .inr ⟨⟨k, h⟩, fun hd => ?_⟩
    obtain ⟨k', h'⟩ := run_complete hd valid_file
    have h1 := run_le (Nat.le_max_left k k') h
    have h2 := run_le (Nat.le_max_right k k') h'
    rw [h1] at h2
    cases h2
theorem run_true {ts : List Nat} {k : Nat} (h : run k [51] ts = some true) : Der [51] ts := run_sound k _ _ ok_file h

/-! .. within so many steps -/
def phi (s : Nat) : Nat := if s = 51 then 2 else 1
def Phi : List Nat → Nat
  | [] => 0
  | s :: l => phi s + Phi l
theorem Phi_append (a b : List Nat) : Phi (a ++ b) = Phi a + Phi b := by
  induction a with
  | nil => simp [Phi]
  | cons s a ih => simp only [List.cons_append, Phi, ih]; omega
theorem phi_closed : rules.all (fun r => decide (Phi r.2 ≤ 5) && (!(r.2.all empty) || decide (Phi r.2 < phi r.1)) && decide (cost r.1 ≤ 100) && decide (r.2.length ≤ 5)) = true := by decide +kernel
theorem run_steps : ∀ (mu : Nat) (st ts : List Nat) (m : Nat), OkSt st → (m = 100 ∨ weight st ≤ m) → 1101 * ts.length + 11 * m + Phi st ≤ mu → ∃ b, run (mu + 1) st ts = some b := by
  intro mu
  induction mu using Nat.strongRecOn with
  | _ mu ih =>
    intro st ts m hok hm hmu
    have more : ∀ (mu' : Nat) (st' ts' : List Nat) (b : Bool), mu' < mu → run (mu' + 1) st' ts' = some b → run mu st' ts' = some b := fun mu' st' ts' b h h' => run_le (by omega) h'
    by_cases h0 : (!ts.isEmpty && hd ts == 0) = true
    · exact ⟨false, by simp only [run]; rw [if_pos h0]⟩
    · cases st with
      | nil => exact ⟨ts.isEmpty, by simp only [run]; rw [if_neg h0]⟩
      | cons s st =>
        by_cases hp : part s = true
        · cases hc : choose s (hd ts) with
          | none => exact ⟨false, by simp only [run]; rw [if_neg h0, if_pos hp, hc]⟩
          | some n =>
            have hr := (choose_rule hc).1
            have hcl := List.all_eq_true.1 phi_closed _ (rule_mem hr)
            simp only [Bool.and_eq_true, decide_eq_true_eq, Bool.or_eq_true, Bool.not_eq_true'] at hcl
            obtain ⟨⟨⟨c1, c2⟩, c3⟩, _⟩ := hcl
            have hw := weight_rule st hr
            have hwr := List.all_eq_true.1 cost_closed _ (rule_mem hr)
            simp only [Bool.and_eq_true, decide_eq_true_eq] at hwr
            have hok' : OkSt (right n ++ st) := hok.rule hr
            have hph : Phi (right n ++ st) = Phi (right n) + Phi st := Phi_append _ _
            have hs : Phi (s :: st) = phi s + Phi st := rfl
            have hs1 : 1 ≤ phi s := by unfold phi; split <;> omega
            have go : ∀ m', (m' = 100 ∨ weight (right n ++ st) ≤ m') → 1101 * ts.length + 11 * m' + Phi (right n ++ st) < mu → ∃ b, run (mu + 1) (s :: st) ts = some b := by
              intro m' h1 h2
              obtain ⟨b, hb⟩ := ih (1101 * ts.length + 11 * m' + Phi (right n ++ st)) h2 (right n ++ st) ts m' hok' h1 (Nat.le_refl _)
              exact ⟨b, by simp only [run]; rw [if_neg h0, if_pos hp, hc]; exact more _ _ _ _ h2 hb⟩
            by_cases hall : (right n).all empty = true
            · have hlt : Phi (right n) < phi s := by
                rcases c2 with c2 | c2
                · rw [hall] at c2; cases c2
                · exact c2
              rcases hm with rfl | hm
              · exact go 100 (.inl rfl) (by omega)
              · exact go m (.inr (by omega)) (by omega)
            · rcases hm with rfl | hm
              · have hw2 : weight (right n ++ st) = weight (right n) := by rw [weight_append, if_neg hall]; rfl
                exact go 99 (.inr (by omega)) (by omega)
              · exact go (m - 1) (.inr (by omega)) (by omega)
        · by_cases he : (s == hd ts) = true
          · cases ts with
            | nil =>
              have hs0 : s = 0 := by simpa [hd] using he
              rcases hok s List.mem_cons_self with h1 | h1
              · exact absurd h1 hp
              · omega
            | cons t ts =>
              have hs : Phi (s :: st) = phi s + Phi st := rfl
              have hl : (t :: ts).length = ts.length + 1 := rfl
              have h2 : 1101 * ts.length + 11 * 100 + Phi st < mu := by omega
              obtain ⟨b, hb⟩ := ih _ h2 st ts 100 (fun x hx => hok x (List.mem_cons_of_mem _ hx)) (.inl rfl) (Nat.le_refl _)
              exact ⟨b, by simp only [run]; rw [if_neg h0, if_neg hp, if_pos he]; exact more _ _ _ _ h2 hb⟩
          · exact ⟨false, by simp only [run]; rw [if_neg h0, if_neg hp, if_neg he]⟩
/-- The parser ends within so many steps, and says what is so. -/
def steps (ts : List Nat) : Nat := 1101 * ts.length + 1103
theorem run_says (ts : List Nat) : (run (steps ts) [51] ts = some true ∧ Der [51] ts) ∨ (run (steps ts) [51] ts = some false ∧ ¬ Der [51] ts) := by
  obtain ⟨b, hb⟩ := run_steps (1101 * ts.length + 11 * 100 + Phi [51]) [51] ts 100 ok_file (.inl rfl) (Nat.le_refl _)
  have he : 1101 * ts.length + 11 * 100 + Phi [51] + 1 = steps ts := by unfold steps; simp [Phi, phi]
  rw [he] at hb
  cases b with
  | true => exact .inl ⟨hb, run_true hb⟩
  | false =>
    refine .inr ⟨hb, fun hd' => ?_⟩
    obtain ⟨k', h'⟩ := run_complete hd' valid_file
    have h1 := run_le (Nat.le_max_left (steps ts) k') hb
    have h2 := run_le (Nat.le_max_right (steps ts) k') h'
    rw [h1] at h2
    cases h2

/-! what no file's row is -/
def elseLast : List Nat → Bool
  | [] => false
  | s :: l => (s == 13 && l.all empty) || elseLast l
theorem no_else_last : rules.all (fun r => !elseLast r.2) = true := by decide +kernel
theorem elseLast_append (a b : List Nat) (h : elseLast (a ++ b) = true) : elseLast a = true ∨ elseLast b = true := by
  induction a with
  | nil => exact .inr h
  | cons s a ih =>
    simp only [List.cons_append, elseLast, Bool.or_eq_true, Bool.and_eq_true, List.all_append] at h ⊢
    rcases h with ⟨h1, h2, h3⟩ | h
    · exact .inl (.inl ⟨h1, h2⟩)
    · rcases ih h with h | h
      · exact .inl (.inr h)
      · exact .inr h
theorem Der.last {st ts : List Nat} (h : Der st ts) : ts.getLast? = some 13 → elseLast st = true := by
  induction h with
  | nil => intro h; simp at h
  | @tok s st ts h1 h2 h3 h4 ih =>
    intro hl
    simp only [elseLast]
    cases ts with
    | nil =>
      have hs : s = 13 := by simpa using hl
      have he := h4.begin.1 rfl
      rw [begins_all] at he
      rw [hs, he]; rfl
    | cons t ts =>
      have : elseLast st = true := ih (by simpa using hl)
      rw [this]; simp
  | @rule n s r st ts hr h4 ih =>
    intro hl
    rcases elseLast_append _ _ (ih hl) with h | h
    · have := List.all_eq_true.1 no_else_last _ (rule_mem hr)
      dsimp only at this
      rw [h] at this
      cases this
    · simp [elseLast, h]
theorem not_else (x : List Nat) : ¬ Der [51] (x ++ [13]) := fun h => by
  have := h.last (by simp)
  exact absurd this (by decide +kernel)
theorem not_end (y : List Nat) : ¬ Der [51] (23 :: y) := fun h => by
  have := (h.begin.2 23 y rfl).1
  exact absurd this (by decide +kernel)
/-- Two rows of a file behind one another are of one. -/
theorem file_stmts {x : List Nat} (h : Der [51] x) : Der [101] x := by
  cases h with
  | tok h1 h2 h3 _ => omega
  | @rule n s r st ts hr h =>
    have hn := rule_lt hr
    have : r = [101] := by
      have hall : (List.range 74).all (fun n => match rules[n]? with | some (51, r) => r == [101] | _ => true) = true := by decide +kernel
      have h1 := List.all_eq_true.1 hall n (by simp; exact hn)
      rw [hr] at h1
      simpa using h1
    rw [this] at h
    exact h
theorem stmts_file {x : List Nat} (h : Der [101] x) : Der [51] x := .rule (n := 0) (r := [101]) (by decide +kernel) h
theorem stmts_cases {x : List Nat} (h : Der [101] x) : x = [] ∨ ∃ u v, x = u ++ v ∧ Der [102] u ∧ Der [101] v ∧ u ≠ [] := by
  cases h with
  | tok h1 h2 h3 _ => omega
  | @rule n s r st ts hr h =>
    have hn := rule_lt hr
    have hall : (List.range 74).all (fun n => match rules[n]? with | some (101, r) => r == [102, 101] || r == [] | _ => true) = true := by decide +kernel
    have h1 := List.all_eq_true.1 hall n (by simp; exact hn)
    rw [hr] at h1
    have h2 : r = [102, 101] ∨ r = [] := by simpa using h1
    rcases h2 with rfl | rfl
    · obtain ⟨u, v, rfl, hu, hv⟩ := Der.split (a := [102]) (b := [101]) h
      refine .inr ⟨u, v, rfl, hu, hv, fun he => ?_⟩
      subst he
      exact absurd (hu.begin.1 rfl) (by decide +kernel)
    · cases h
      exact .inl rfl
theorem stmts_append : ∀ (n : Nat) {x y : List Nat}, x.length ≤ n → Der [101] x → Der [101] y → Der [101] (x ++ y)
  | n, x, y, hn, hx, hy => by
    rcases stmts_cases hx with rfl | ⟨u, v, rfl, hu, hv, hne⟩
    · exact hy
    · have hul : 0 < u.length := List.length_pos_iff.2 hne
      cases n with
      | zero => rw [List.length_append] at hn; omega
      | succ n =>
        have := stmts_append n (by rw [List.length_append] at hn; omega) hv hy
        rw [List.append_assoc]
        exact .rule (n := 1) (s := 101) (r := [102, 101]) (by decide +kernel) (Der.append (a := [102]) (b := [101]) hu this)
theorem file_append {x y : List Nat} (hx : Der [51] x) (hy : Der [51] y) : Der [51] (x ++ y) :=
  stmts_file (stmts_append _ (Nat.le_refl _) (file_stmts hx) (file_stmts hy))

end Go.Proofs.Ytlliokmcfmcigaa.Gm
