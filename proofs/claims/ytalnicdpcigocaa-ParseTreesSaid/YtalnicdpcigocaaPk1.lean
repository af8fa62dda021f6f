/- Part 1 of the texts of this proof, in build order. -/
import Derived.RowKit
import Derived.WalkKit
import Derived.Below
import Derived.Deep.AppendLies
import Derived.Deep.Onto
import Derived.Test.YtalnicdpcigocaaProg
import Derived.Test.YtalnicdpcigocaaWWords
import Derived.Test.YtalnicdpcigocaaWLast
import Derived.Test.YtalnicdpcigocaaWMore
import Derived.StillTactics
import Derived.BigQuiet
import Derived.KernelRfl
import Derived.Test.YtalnicdpcigocaaPParseTreesx0
import Derived.Laws.CopyOwn
import Derived.Test.YtalnicdpcigocaaPParseTreesx2
import Derived.StillTailTactics
import Derived.OneCell
import Derived.Deep.QuietTactic
import Derived.Laws.BitsAllLaws
import Derived.Defers
namespace Go.Proofs.Ytalnicdpcigocaa.Ps
open Go.RowKit
set_option linter.unusedVariables false
/-- a node: its kind, what is wanted, its width, its kids -/
inductive Tr where
  | mk (kind want width : Int) (kids : List Tr)
def Tr.kind : Tr → Int | .mk k _ _ _ => k
def Tr.want : Tr → Int | .mk _ w _ _ => w
def Tr.width : Tr → Int | .mk _ _ w _ => w
def Tr.kids : Tr → List Tr | .mk _ _ _ l => l
structure Tok where
  kind : Int
  width : Int
  look : Int
instance : Inhabited Tok := ⟨⟨0, 0, 0⟩⟩
/-- does a kind count? -/
def counts (k : Int) : Bool := (decide (6 ≤ k) && decide (k ≤ 8)) || (decide (10 ≤ k) && decide (k ≤ 17)) || (decide (20 ≤ k) && decide (k ≤ 40))
/-- is it a token's kind? -/
def isTok (k : Int) : Bool := (decide (1 ≤ k) && decide (k ≤ 17)) || (decide (20 ≤ k) && decide (k ≤ 40))
/-- may an expression begin with it? -/
def begins (k : Int) : Bool := k == 6 || k == 7 || k == 8 || k == 16 || k == 17 || k == 20 || k == 34 || k == 38
/-- the statement that begins with it -/
def stat (k : Int) : Int := if k = 10 then 53 else if k = 11 then 54 else if k = 12 then 56 else if k = 14 then 57 else if k = 15 then 58 else if k = 22 then 52 else if begins k then 59 else 0
/-- an operator's level -/
def lvl (k : Int) : Int := if k = 40 then 1 else if k = 39 then 2 else if 27 ≤ k ∧ k ≤ 32 then 3 else if k = 33 ∨ k = 34 then 4 else if k = 35 ∨ k = 36 ∨ k = 37 then 5 else 0
def wsum : List Tr → Int → Int
  | [], a => a
  | k :: l, a => wsum l (wrap64 (a + k.width))
theorem wsum_append (l m : List Tr) (a : Int) : wsum (l ++ m) a = wsum m (wsum l a) := by
  induction l generalizing a with
  | nil => rfl
  | cons x l ih => simp only [List.cons_append, wsum, ih]
def leaf (t : Tok) : Tr := .mk t.kind 0 t.width []
def missing (k : Int) : Tr := .mk 50 k 0 []
def node (k : Int) (l : List Tr) : Tr := .mk k 0 (wsum l 0) l
/-- the first token from there on that counts, or the end -/
def nx (L : List Tok) (i : Nat) : Nat := i + (L.drop i).findIdx (fun t => counts t.kind)
def kindAt (L : List Tok) (i : Nat) : Int := if i < L.length then (L.getD i default).kind else 0
theorem nx_ge (L : List Tok) (i : Nat) : i ≤ nx L i := Nat.le_add_right _ _
theorem nx_le (L : List Tok) (i : Nat) (h : i ≤ L.length) : nx L i ≤ L.length := by
  have := List.findIdx_le_length (xs := L.drop i) (p := fun t => counts t.kind)
  rw [List.length_drop] at this
  unfold nx
  omega
theorem nx_end (L : List Tok) (i : Nat) (h : L.length ≤ i) : nx L i = i := by
  unfold nx
  rw [List.drop_eq_nil_of_le h]
  rfl
theorem drop_cons (L : List Tok) (i : Nat) (h : i < L.length) : L.drop i = L.getD i default :: L.drop (i + 1) := by
  rw [List.drop_eq_getElem_cons h]
  congr 1
  rw [List.getD_eq_getElem?_getD, List.getElem?_eq_getElem h]; rfl
theorem nx_yes (L : List Tok) (i : Nat) (h : i < L.length) (hc : counts (L.getD i default).kind = true) : nx L i = i := by
  unfold nx
  rw [drop_cons L i h, List.findIdx_cons, hc]
  rfl
theorem nx_no (L : List Tok) (i : Nat) (h : i < L.length) (hc : counts (L.getD i default).kind = false) : nx L i = nx L (i + 1) := by
  unfold nx
  rw [drop_cons L i h, List.findIdx_cons, hc]
  simp only [cond_false]
  omega
theorem nx_counts (L : List Tok) : ∀ (d i : Nat), i + d = L.length → nx L i < L.length → counts (L.getD (nx L i) default).kind = true
  | 0, i, h, hl => by
    rw [nx_end L i (by omega)] at hl
    omega
  | d + 1, i, h, hl => by
    cases hc : counts (L.getD i default).kind with
    | true => rw [nx_yes L i (by omega) hc]; exact hc
    | false =>
      rw [nx_no L i (by omega) hc] at hl ⊢
      exact nx_counts L d (i + 1) (by omega) hl
theorem nx_nx (L : List Tok) (i : Nat) (h : i ≤ L.length) : nx L (nx L i) = nx L i := by
  by_cases hl : nx L i < L.length
  · exact nx_yes L _ hl (nx_counts L (L.length - i) i (by omega) hl)
  · exact nx_end L _ (by omega)
/-- where it stands; what the one that is asked remembers -/
structure St (σ : Type) where
  at_ : Nat
  s : σ
section
variable {σ : Type} (L : List Tok) (orc : σ → Int → Nat → Option (Tr × Int) × σ)
def St.hand (st : St σ) : Nat := nx L st.at_
def St.kd (st : St σ) : Int := kindAt L (nx L st.at_)
def St.to (st : St σ) : St σ := ⟨nx L st.at_, st.s⟩
def gapL (st : St σ) : List Tr := ((L.drop st.at_).take (nx L st.at_ - st.at_)).map leaf
def nextL (st : St σ) : List Tr × St σ := (gapL L st ++ [leaf (L.getD (nx L st.at_) default)], ⟨nx L st.at_ + 1, st.s⟩)
def wantL (k : Int) (st : St σ) : List Tr × St σ := if st.kd L = k then nextL L st else ([missing k], st)
def putL (kind : Int) (part : St σ → Option (Tr × St σ)) (st : St σ) : Option (List Tr × St σ) :=
  match orc st.s kind (nx L st.at_) with
  | (some (t, c), s') =>
    if 1 ≤ c ∧ c ≤ (L.length : Int) - (nx L st.at_ : Int) then some (gapL L st ++ [t], ⟨nx L st.at_ + c.toNat, s'⟩)
    else (part ⟨nx L st.at_, s'⟩).map (fun r => (gapL L st ++ [r.1], r.2))
  | (none, s') => (part ⟨nx L st.at_, s'⟩).map (fun r => (gapL L st ++ [r.1], r.2))
/-- what part makes, if an expression may begin -/
def operandL (part : St σ → Option (Tr × St σ)) (st : St σ) : Option (List Tr × St σ) :=
  if begins (st.kd L) then (part (st.to L)).map (fun r => (gapL L st ++ [r.1], r.2)) else some ([missing 60], st)
def wrongLoop : Nat → List Tr → St σ → Option (List Tr × St σ)
  | 0, _, _ => none
  | n + 1, acc, st =>
    if st.kd L = 23 ∨ st.kd L = 25 ∨ (nextL L st).2.kd L = 0 ∨ (nextL L st).2.kd L = 23 ∨ stat ((nextL L st).2.kd L) ≠ 0 then some (acc ++ (nextL L st).1, (nextL L st).2)
    else wrongLoop n (acc ++ (nextL L st).1) (nextL L st).2
def namesLoop : Nat → List Tr → St σ → Option (List Tr × St σ)
  | 0, _, _ => none
  | n + 1, acc, st =>
    if st.kd L = 24 then namesLoop n (acc ++ (nextL L st).1 ++ (wantL L 6 (nextL L st).2).1) (wantL L 6 (nextL L st).2).2
    else some (acc, st)
/-- the params -/
def params (n : Nat) (st : St σ) : Option (Tr × St σ) :=
  if (wantL L 20 st).2.kd L = 6 then
    (namesLoop L n ((wantL L 20 st).1 ++ (nextL L (wantL L 20 st).2).1) (nextL L (wantL L 20 st).2).2).map (fun r => (node 55 (r.1 ++ (wantL L 21 r.2).1), (wantL L 21 r.2).2))
  else some (node 55 ((wantL L 20 st).1 ++ (wantL L 21 (wantL L 20 st).2).1), (wantL L 21 (wantL L 20 st).2).2)
mutual
def statement : Nat → St σ → Option (Tr × St σ)
  | 0, _ => none
  | n + 1, st =>
    if stat (st.kd L) = 53 then
      let a := nextL L st
      let b := wantL L 6 a.2
      let c := wantL L 26 b.2
      (expr n c.2).bind fun d =>
        let e := wantL L 25 d.2
        some (node 53 (a.1 ++ b.1 ++ c.1 ++ d.1 ++ e.1), e.2)
    else if stat (st.kd L) = 54 then
      let a := nextL L st
      let b := wantL L 6 a.2
      (params L n (b.2.to L)).bind fun p =>
        (block n p.2).bind fun c => some (node 54 (a.1 ++ b.1 ++ gapL L b.2 ++ [p.1] ++ c.1), c.2)
    else if stat (st.kd L) = 56 then
      let a := nextL L st
      (expr n a.2).bind fun b =>
        (block n b.2).bind fun c =>
          if c.2.kd L = 13 then
            let d := nextL L c.2
            if d.2.kd L = 12 then (putL L orc 59 (statement n) d.2).bind fun e => some (node 56 (a.1 ++ b.1 ++ c.1 ++ d.1 ++ e.1), e.2)
            else (block n d.2).bind fun e => some (node 56 (a.1 ++ b.1 ++ c.1 ++ d.1 ++ e.1), e.2)
          else some (node 56 (a.1 ++ b.1 ++ c.1), c.2)
    else if stat (st.kd L) = 57 then
      let a := nextL L st
      (expr n a.2).bind fun b => (block n b.2).bind fun c => some (node 57 (a.1 ++ b.1 ++ c.1), c.2)
    else if stat (st.kd L) = 58 then
      let a := nextL L st
      if begins (a.2.kd L) then (expr n a.2).bind fun b =>
        let c := wantL L 25 b.2
        some (node 58 (a.1 ++ b.1 ++ c.1), c.2)
      else
        let c := wantL L 25 a.2
        some (node 58 (a.1 ++ c.1), c.2)
    else if stat (st.kd L) = 52 then
      (block n st).bind fun b => match b.1 with
        | x :: _ => some (x, b.2)
        | [] => none
    else
      (expr n st).bind fun a =>
        if a.2.kd L = 26 then
          let b := nextL L a.2
          (expr n b.2).bind fun c =>
            let d := wantL L 25 c.2
            some (node 59 (a.1 ++ b.1 ++ c.1 ++ d.1), d.2)
        else
          let d := wantL L 25 a.2
          some (node 59 (a.1 ++ d.1), d.2)
/-- a statement, or an error -/
def inner : Nat → St σ → Option (List Tr × St σ)
  | 0, _ => none
  | n + 1, st =>
    if stat (st.kd L) ≠ 0 then putL L orc 59 (statement n) st
    else (wrongLoop L n [] (st.to L)).map (fun r => (gapL L st ++ [node 68 r.1], r.2))
def bodyLoop : Nat → List Tr → St σ → Option (List Tr × St σ)
  | 0, _, _ => none
  | n + 1, acc, st =>
    if st.kd L ≠ 23 ∧ st.kd L ≠ 0 then (inner n st).bind fun r => bodyLoop n (acc ++ r.1) r.2
    else some (acc, st)
/-- the block that begins with the token at hand -/
def begun : Nat → St σ → Option (Tr × St σ)
  | 0, _ => none
  | n + 1, st => (bodyLoop n (nextL L st).1 (nextL L st).2).map (fun r => (node 52 (r.1 ++ (wantL L 23 r.2).1), (wantL L 23 r.2).2))
def block : Nat → St σ → Option (List Tr × St σ)
  | 0, _ => none
  | n + 1, st => if st.kd L = 22 then putL L orc 52 (begun n) st else some ([missing 52], st)
def expr : Nat → St σ → Option (List Tr × St σ)
  | 0, _ => none
  | n + 1, st => if begins (st.kd L) then putL L orc 60 (fun st' => (level n 1 st').map (fun r => (node 60 [r.1], r.2))) st else some ([missing 60], st)
def level : Nat → Nat → St σ → Option (Tr × St σ)
  | 0, _, _ => none
  | n + 1, k, st => if 5 < k then unary n st else (level n (k + 1) st).bind fun r => levelLoop n k r.1 r.2
def levelLoop : Nat → Nat → Tr → St σ → Option (Tr × St σ)
  | 0, _, _, _ => none
  | n + 1, k, left, st =>
    if lvl (st.kd L) = (k : Int) then (operandL L (level n (k + 1)) (nextL L st).2).bind fun o => levelLoop n k (node 61 ([left] ++ (nextL L st).1 ++ o.1)) o.2
    else some (left, st)
def unary : Nat → St σ → Option (Tr × St σ)
  | 0, _ => none
  | n + 1, st =>
    if st.kd L = 34 ∨ st.kd L = 38 then (operandL L (unary n) (nextL L st).2).map (fun o => (node 62 ((nextL L st).1 ++ o.1), o.2))
    else (primary n st).bind fun r => callLoop n r.1 r.2
def callLoop : Nat → Tr → St σ → Option (Tr × St σ)
  | 0, _, _ => none
  | n + 1, left, st =>
    if st.kd L = 20 then (args n (st.to L)).bind fun r => callLoop n (node 63 ([left] ++ gapL L st ++ [r.1])) r.2
    else some (left, st)
def args : Nat → St σ → Option (Tr × St σ)
  | 0, _ => none
  | n + 1, st =>
    let a := nextL L st
    if begins (a.2.kd L) then (expr n a.2).bind fun b => (argsLoop n (a.1 ++ b.1) b.2).map (fun r => (node 64 (r.1 ++ (wantL L 21 r.2).1), (wantL L 21 r.2).2))
    else
      let c := wantL L 21 a.2
      some (node 64 (a.1 ++ c.1), c.2)
def argsLoop : Nat → List Tr → St σ → Option (List Tr × St σ)
  | 0, _, _ => none
  | n + 1, acc, st => if st.kd L = 24 then (expr n (nextL L st).2).bind fun r => argsLoop n (acc ++ (nextL L st).1 ++ r.1) r.2 else some (acc, st)
def primary : Nat → St σ → Option (Tr × St σ)
  | 0, _ => none
  | n + 1, st =>
    if st.kd L = 6 then some (node 66 (nextL L st).1, (nextL L st).2)
    else if st.kd L = 20 then
      let a := nextL L st
      (expr n a.2).bind fun b =>
        let c := wantL L 21 b.2
        some (node 65 (a.1 ++ b.1 ++ c.1), c.2)
    else some (node 67 (nextL L st).1, (nextL L st).2)
end
def fileLoop : Nat → List Tr → St σ → Option (List Tr × St σ)
  | 0, _, _ => none
  | n + 1, acc, st => if st.kd L ≠ 0 then (inner L orc n st).bind fun r => fileLoop n (acc ++ r.1) r.2 else some (acc, st)
def file (n : Nat) (s : σ) : Option (Tr × St σ) :=
  (fileLoop L orc n [] ⟨0, s⟩).map (fun r => (node 51 (r.1 ++ gapL L r.2), r.2.to L))
end
end Go.Proofs.Ytalnicdpcigocaa.Ps
namespace Go.Proofs.Ytalnicdpcigocaa.Ps
open Go.RowKit
set_option linter.unusedVariables false
section
variable {σ : Type} {L : List Tok} {orc : σ → Int → Nat → Option (Tr × Int) × σ}
theorem kd_lt {st : St σ} (h : st.kd L ≠ 0) : nx L st.at_ < L.length := by
  unfold St.kd kindAt at h
  split at h
  · assumption
  · exact absurd rfl h
theorem stat_zero : stat 0 = 0 := by decide
theorem begins_zero : begins 0 = false := by decide
theorem lvl_zero : lvl 0 = 0 := by decide
theorem of_begins {st : St σ} (h : begins (st.kd L) = true) : st.kd L ≠ 0 := fun e => by rw [e, begins_zero] at h; cases h
theorem of_stat {st : St σ} (h : stat (st.kd L) ≠ 0) : st.kd L ≠ 0 := fun e => h (by rw [e, stat_zero])
theorem to_kd {st : St σ} (h : st.at_ ≤ L.length) : (st.to L).kd L = st.kd L := by
  unfold St.kd St.to
  show kindAt L (nx L (nx L st.at_)) = _
  rw [nx_nx L _ h]
theorem kd_same {st st' : St σ} (h : st.at_ ≤ L.length) (e : st'.at_ = nx L st.at_) : st'.kd L = st.kd L := by
  unfold St.kd
  rw [e, nx_nx L _ h]
theorem next_ok {st : St σ} (h : st.kd L ≠ 0) : st.at_ < (nextL L st).2.at_ ∧ (nextL L st).2.at_ ≤ L.length := by
  have := kd_lt h
  have := nx_ge L st.at_
  show st.at_ < nx L st.at_ + 1 ∧ nx L st.at_ + 1 ≤ L.length
  omega
theorem want_ok {st : St σ} {k : Int} (hk : k ≠ 0) (h : st.at_ ≤ L.length) : st.at_ ≤ (wantL L k st).2.at_ ∧ (wantL L k st).2.at_ ≤ L.length := by
  unfold wantL
  split
  · rename_i e
    have := next_ok (L := L) (st := st) (by rw [e]; exact hk)
    omega
  · exact ⟨Nat.le_refl _, h⟩
/-- what a part that is put in does to the place -/
theorem put_ok {kind : Int} {part : St σ → Option (Tr × St σ)} {st : St σ} (h : st.at_ ≤ L.length)
    (hp : ∀ st' : St σ, st'.at_ = nx L st.at_ → ∃ r, part st' = some r ∧ st'.at_ < r.2.at_ ∧ r.2.at_ ≤ L.length) :
    ∃ r, putL L orc kind part st = some r ∧ st.at_ < r.2.at_ ∧ r.2.at_ ≤ L.length := by
  have hg := nx_ge L st.at_
  unfold putL
  cases ho : orc st.s kind (nx L st.at_) with
  | mk a s' =>
    cases a with
    | none =>
      obtain ⟨r, h1, h2, h3⟩ := hp ⟨nx L st.at_, s'⟩ rfl
      refine ⟨(gapL L st ++ [r.1], r.2), by dsimp only; rw [h1]; rfl, ?_, h3⟩
      have : nx L st.at_ < r.2.at_ := h2
      show st.at_ < r.2.at_
      omega
    | some tc =>
      obtain ⟨t, c⟩ := tc
      dsimp only
      split
      · rename_i hc
        refine ⟨_, rfl, ?_, ?_⟩
        · show st.at_ < nx L st.at_ + c.toNat
          omega
        · show nx L st.at_ + c.toNat ≤ L.length
          omega
      · obtain ⟨r, h1, h2, h3⟩ := hp ⟨nx L st.at_, s'⟩ rfl
        refine ⟨(gapL L st ++ [r.1], r.2), by rw [h1]; rfl, ?_, h3⟩
        have : nx L st.at_ < r.2.at_ := h2
        show st.at_ < r.2.at_
        omega
theorem operand_ok {part : St σ → Option (Tr × St σ)} {st : St σ} (h : st.at_ ≤ L.length)
    (hp : begins (st.kd L) = true → ∃ r, part (st.to L) = some r ∧ (st.to L).at_ < r.2.at_ ∧ r.2.at_ ≤ L.length) :
    ∃ r, operandL L part st = some r ∧ st.at_ ≤ r.2.at_ ∧ r.2.at_ ≤ L.length := by
  have hg := nx_ge L st.at_
  unfold operandL
  split
  · rename_i hb
    obtain ⟨r, h1, h2, h3⟩ := hp hb
    refine ⟨(gapL L st ++ [r.1], r.2), by rw [h1]; rfl, ?_, h3⟩
    have : nx L st.at_ < r.2.at_ := h2
    show st.at_ ≤ r.2.at_
    omega
  · exact ⟨_, rfl, Nat.le_refl _, h⟩
theorem wrong_ok : ∀ (n : Nat) (acc : List Tr) (st : St σ), st.at_ ≤ L.length → st.kd L ≠ 0 → 13 * (L.length - st.at_) + 1 ≤ n → ∃ r, wrongLoop L n acc st = some r ∧ st.at_ < r.2.at_ ∧ r.2.at_ ≤ L.length
  | 0, acc, st, _, _, h => by omega
  | n + 1, acc, st, ha, hk, h => by
    have hn := next_ok hk
    unfold wrongLoop
    split
    · exact ⟨_, rfl, hn.1, hn.2⟩
    · rename_i hc
      have h0 : (nextL L st).2.kd L ≠ 0 := fun e => hc (Or.inr (Or.inr (Or.inl e)))
      obtain ⟨r, h1, h2, h3⟩ := wrong_ok n (acc ++ (nextL L st).1) (nextL L st).2 hn.2 h0 (by omega)
      exact ⟨r, h1, by omega, h3⟩
theorem names_ok : ∀ (n : Nat) (acc : List Tr) (st : St σ), st.at_ ≤ L.length → 13 * (L.length - st.at_) + 1 ≤ n → ∃ r, namesLoop L n acc st = some r ∧ st.at_ ≤ r.2.at_ ∧ r.2.at_ ≤ L.length
  | 0, acc, st, _, h => by omega
  | n + 1, acc, st, ha, h => by
    unfold namesLoop
    split
    · rename_i e
      have hn := next_ok (L := L) (st := st) (by rw [e]; decide)
      have hw := want_ok (L := L) (st := (nextL L st).2) (k := 6) (by decide) hn.2
      obtain ⟨r, h1, h2, h3⟩ := names_ok n (acc ++ (nextL L st).1 ++ (wantL L 6 (nextL L st).2).1) (wantL L 6 (nextL L st).2).2 hw.2 (by omega)
      exact ⟨r, h1, by omega, h3⟩
    · exact ⟨_, rfl, Nat.le_refl _, ha⟩
theorem params_ok (n : Nat) (st : St σ) (ha : st.at_ ≤ L.length) (h : 13 * (L.length - st.at_) + 1 ≤ n) : ∃ r, params L n st = some r ∧ st.at_ ≤ r.2.at_ ∧ r.2.at_ ≤ L.length := by
  have hw := want_ok (L := L) (st := st) (k := 20) (by decide) ha
  unfold params
  split
  · rename_i e
    have hn := next_ok (L := L) (st := (wantL L 20 st).2) (by rw [e]; decide)
    obtain ⟨r, h1, h2, h3⟩ := names_ok n ((wantL L 20 st).1 ++ (nextL L (wantL L 20 st).2).1) (nextL L (wantL L 20 st).2).2 hn.2 (by omega)
    have hw2 := want_ok (L := L) (st := r.2) (k := 21) (by decide) h3
    refine ⟨_, by rw [h1]; rfl, ?_, hw2.2⟩
    show st.at_ ≤ (wantL L 21 r.2).2.at_
    omega
  · have hw2 := want_ok (L := L) (st := (wantL L 20 st).2) (k := 21) (by decide) hw.2
    refine ⟨_, rfl, ?_, hw2.2⟩
    show st.at_ ≤ (wantL L 21 (wantL L 20 st).2).2.at_
    omega
variable (L) (orc)
/-- with fuel n each of the parts ends -/
structure Tot (n : Nat) : Prop where
  statement : ∀ st : St σ, st.at_ ≤ L.length → stat (st.kd L) ≠ 0 → 13 * (L.length - st.at_) + 10 ≤ n → ∃ r, statement L orc n st = some r ∧ st.at_ < r.2.at_ ∧ r.2.at_ ≤ L.length
  inner : ∀ st : St σ, st.at_ ≤ L.length → st.kd L ≠ 0 → 13 * (L.length - st.at_) + 11 ≤ n → ∃ r, inner L orc n st = some r ∧ st.at_ < r.2.at_ ∧ r.2.at_ ≤ L.length
  bodyLoop : ∀ (acc : List Tr) (st : St σ), st.at_ ≤ L.length → 13 * (L.length - st.at_) + 12 ≤ n → ∃ r, bodyLoop L orc n acc st = some r ∧ st.at_ ≤ r.2.at_ ∧ r.2.at_ ≤ L.length
  begun : ∀ st : St σ, st.at_ ≤ L.length → st.kd L = 22 → 13 * (L.length - st.at_) + 1 ≤ n → ∃ r, begun L orc n st = some r ∧ st.at_ < r.2.at_ ∧ r.2.at_ ≤ L.length
  block : ∀ st : St σ, st.at_ ≤ L.length → 13 * (L.length - st.at_) + 2 ≤ n → ∃ r, block L orc n st = some r ∧ st.at_ ≤ r.2.at_ ∧ r.2.at_ ≤ L.length ∧ r.1 ≠ [] ∧ (st.kd L = 22 → st.at_ < r.2.at_)
  expr : ∀ st : St σ, st.at_ ≤ L.length → 13 * (L.length - st.at_) + 9 ≤ n → ∃ r, expr L orc n st = some r ∧ st.at_ ≤ r.2.at_ ∧ r.2.at_ ≤ L.length ∧ (begins (st.kd L) = true → st.at_ < r.2.at_)
  level : ∀ (k : Nat) (st : St σ), 1 ≤ k → k ≤ 6 → st.at_ ≤ L.length → begins (st.kd L) = true → 13 * (L.length - st.at_) + (9 - k) ≤ n → ∃ r, level L orc n k st = some r ∧ st.at_ < r.2.at_ ∧ r.2.at_ ≤ L.length
  levelLoop : ∀ (k : Nat) (left : Tr) (st : St σ), 1 ≤ k → k ≤ 5 → st.at_ ≤ L.length → 13 * (L.length - st.at_) + 1 ≤ n → ∃ r, levelLoop L orc n k left st = some r ∧ st.at_ ≤ r.2.at_ ∧ r.2.at_ ≤ L.length
  unary : ∀ st : St σ, st.at_ ≤ L.length → begins (st.kd L) = true → 13 * (L.length - st.at_) + 2 ≤ n → ∃ r, unary L orc n st = some r ∧ st.at_ < r.2.at_ ∧ r.2.at_ ≤ L.length
  callLoop : ∀ (left : Tr) (st : St σ), st.at_ ≤ L.length → 13 * (L.length - st.at_) + 2 ≤ n → ∃ r, callLoop L orc n left st = some r ∧ st.at_ ≤ r.2.at_ ∧ r.2.at_ ≤ L.length
  args : ∀ st : St σ, st.at_ ≤ L.length → st.kd L = 20 → 13 * (L.length - st.at_) + 1 ≤ n → ∃ r, args L orc n st = some r ∧ st.at_ < r.2.at_ ∧ r.2.at_ ≤ L.length
  argsLoop : ∀ (acc : List Tr) (st : St σ), st.at_ ≤ L.length → 13 * (L.length - st.at_) + 1 ≤ n → ∃ r, argsLoop L orc n acc st = some r ∧ st.at_ ≤ r.2.at_ ∧ r.2.at_ ≤ L.length
  primary : ∀ st : St σ, st.at_ ≤ L.length → begins (st.kd L) = true → 13 * (L.length - st.at_) + 1 ≤ n → ∃ r, primary L orc n st = some r ∧ st.at_ < r.2.at_ ∧ r.2.at_ ≤ L.length
theorem tot_zero : Tot L orc 0 :=
  ⟨fun _ _ _ h => by omega, fun _ _ _ h => by omega, fun _ _ _ h => by omega, fun _ _ _ h => by omega, fun _ _ h => by omega, fun _ _ h => by omega, fun _ _ _ _ _ _ h => by omega, fun _ _ _ _ _ _ h => by omega, fun _ _ _ h => by omega, fun _ _ _ h => by omega, fun _ _ _ h => by omega, fun _ _ _ h => by omega, fun _ _ _ h => by omega⟩
variable {L} {orc}
theorem begins_stat {k : Int} (h : begins k = true) : stat k ≠ 0 := by
  unfold stat
  rw [if_pos h]
  repeat' split
  all_goals omega
theorem stat_do {k : Int} (h0 : stat k ≠ 0) (h1 : stat k ≠ 53) (h2 : stat k ≠ 54) (h3 : stat k ≠ 56) (h4 : stat k ≠ 57) (h5 : stat k ≠ 58) (h6 : stat k ≠ 52) : begins k = true := by
  cases hb : begins k with
  | true => rfl
  | false =>
    exfalso
    unfold stat at h0 h1 h2 h3 h4 h5 h6
    rw [hb] at h0 h1 h2 h3 h4 h5 h6
    by_cases e1 : k = 10
    · simp [e1] at h1
    by_cases e2 : k = 11
    · simp [e2] at h2
    by_cases e3 : k = 12
    · simp [e3] at h3
    by_cases e4 : k = 14
    · simp [e4] at h4
    by_cases e5 : k = 15
    · simp [e5] at h5
    by_cases e6 : k = 22
    · simp [e6] at h6
    simp [e1, e2, e3, e4, e5, e6] at h0
theorem stat_block {k : Int} (h : stat k = 52) : k = 22 := by
  unfold stat at h
  by_cases e1 : k = 10
  · rw [if_pos e1] at h; omega
  rw [if_neg e1] at h
  by_cases e2 : k = 11
  · rw [if_pos e2] at h; omega
  rw [if_neg e2] at h
  by_cases e3 : k = 12
  · rw [if_pos e3] at h; omega
  rw [if_neg e3] at h
  by_cases e4 : k = 14
  · rw [if_pos e4] at h; omega
  rw [if_neg e4] at h
  by_cases e5 : k = 15
  · rw [if_pos e5] at h; omega
  rw [if_neg e5] at h
  by_cases e6 : k = 22
  · exact e6
  rw [if_neg e6] at h
  split at h <;> omega
theorem tot_succ {n : Nat} (ih : Tot L orc n) : Tot L orc (n + 1) := by
  refine ⟨?_, ?_, ?_, ?_, ?_, ?_, ?_, ?_, ?_, ?_, ?_, ?_, ?_⟩
  · -- statement
    intro st ha hs hn
    have hk := of_stat hs
    have h1 := next_ok hk
    unfold statement
    by_cases c53 : stat (st.kd L) = 53
    · rw [if_pos c53]
      have h2 := want_ok (L := L) (st := (nextL L st).2) (k := 6) (by decide) h1.2
      have h3 := want_ok (L := L) (st := (wantL L 6 (nextL L st).2).2) (k := 26) (by decide) h2.2
      obtain ⟨d, e1, e2, e3, _⟩ := ih.expr _ h3.2 (by omega)
      have h4 := want_ok (L := L) (st := d.2) (k := 25) (by decide) e3
      dsimp only
      rw [e1]
      exact ⟨_, rfl, by show st.at_ < (wantL L 25 d.2).2.at_; omega, h4.2⟩
    rw [if_neg c53]
    by_cases c54 : stat (st.kd L) = 54
    · rw [if_pos c54]
      have h2 := want_ok (L := L) (st := (nextL L st).2) (k := 6) (by decide) h1.2
      have h2' := nx_le L _ h2.2
      have h2'' := nx_ge L (wantL L 6 (nextL L st).2).2.at_
      obtain ⟨p, p1, p2, p3⟩ := params_ok (L := L) n ((wantL L 6 (nextL L st).2).2.to L) h2' (by show 13 * (L.length - nx L _) + 1 ≤ n; omega)
      have p2 : nx L (wantL L 6 (nextL L st).2).2.at_ ≤ p.2.at_ := p2
      obtain ⟨c, c1, c2, c3, _⟩ := ih.block p.2 p3 (by omega)
      dsimp only
      rw [p1]
      simp only [Option.bind_some]
      rw [c1]
      exact ⟨_, rfl, by show st.at_ < c.2.at_; omega, c3⟩
    rw [if_neg c54]
    by_cases c56 : stat (st.kd L) = 56
    · rw [if_pos c56]
      obtain ⟨b, b1, b2, b3, _⟩ := ih.expr _ h1.2 (by omega)
      obtain ⟨c, c1, c2, c3, _⟩ := ih.block b.2 b3 (by omega)
      dsimp only
      rw [b1]
      simp only [Option.bind_some]
      rw [c1]
      simp only [Option.bind_some]
      by_cases h13 : c.2.kd L = 13
      · rw [if_pos h13]
        have d1 := next_ok (L := L) (st := c.2) (by rw [h13]; decide)
        by_cases h12 : (nextL L c.2).2.kd L = 12
        · rw [if_pos h12]
          obtain ⟨e, e1, e2, e3⟩ := put_ok (orc := orc) (kind := 59) (part := statement L orc n) d1.2 (fun st' he => by
            have hkd := kd_same (L := L) d1.2 he
            have hst : stat (st'.kd L) ≠ 0 := by rw [hkd, h12]; decide
            have hle := nx_le L _ d1.2
            have hge := nx_ge L (nextL L c.2).2.at_
            exact ih.statement st' (by omega) hst (by omega))
          rw [e1]
          exact ⟨_, rfl, by show st.at_ < e.2.at_; omega, e3⟩
        · rw [if_neg h12]
          obtain ⟨e, e1, e2, e3, _⟩ := ih.block _ d1.2 (by omega)
          rw [e1]
          exact ⟨_, rfl, by show st.at_ < e.2.at_; omega, e3⟩
      · rw [if_neg h13]
        exact ⟨_, rfl, by show st.at_ < c.2.at_; omega, c3⟩
    rw [if_neg c56]
    by_cases c57 : stat (st.kd L) = 57
    · rw [if_pos c57]
      obtain ⟨b, b1, b2, b3, _⟩ := ih.expr _ h1.2 (by omega)
      obtain ⟨c, c1, c2, c3, _⟩ := ih.block b.2 b3 (by omega)
      dsimp only
      rw [b1]
      simp only [Option.bind_some]
      rw [c1]
      exact ⟨_, rfl, by show st.at_ < c.2.at_; omega, c3⟩
    rw [if_neg c57]
    by_cases c58 : stat (st.kd L) = 58
    · rw [if_pos c58]
      dsimp only
      split
      · obtain ⟨b, b1, b2, b3, _⟩ := ih.expr _ h1.2 (by omega)
        have h4 := want_ok (L := L) (st := b.2) (k := 25) (by decide) b3
        rw [b1]
        exact ⟨_, rfl, by show st.at_ < (wantL L 25 b.2).2.at_; omega, h4.2⟩
      · have h4 := want_ok (L := L) (st := (nextL L st).2) (k := 25) (by decide) h1.2
        exact ⟨_, rfl, by show st.at_ < (wantL L 25 (nextL L st).2).2.at_; omega, h4.2⟩
    rw [if_neg c58]
    by_cases c52 : stat (st.kd L) = 52
    · rw [if_pos c52]
      obtain ⟨b, b1, b2, b3, b4, b5⟩ := ih.block st ha (by omega)
      rw [b1]
      simp only [Option.bind_some]
      cases hb : b.1 with
      | nil => exact absurd hb b4
      | cons x l => exact ⟨_, rfl, b5 (stat_block c52), b3⟩
    rw [if_neg c52]
    have hbg := stat_do hs c53 c54 c56 c57 c58 c52
    obtain ⟨a, a1, a2, a3, a4⟩ := ih.expr st ha (by omega)
    have a4 := a4 hbg
    rw [a1]
    simp only [Option.bind_some]
    by_cases h26 : a.2.kd L = 26
    · rw [if_pos h26]
      have b1 := next_ok (L := L) (st := a.2) (by rw [h26]; decide)
      obtain ⟨c, c1, c2, c3, _⟩ := ih.expr _ b1.2 (by omega)
      have h4 := want_ok (L := L) (st := c.2) (k := 25) (by decide) c3
      try dsimp only
      rw [c1]
      exact ⟨_, rfl, by show st.at_ < (wantL L 25 c.2).2.at_; omega, h4.2⟩
    · rw [if_neg h26]
      have h4 := want_ok (L := L) (st := a.2) (k := 25) (by decide) a3
      exact ⟨_, rfl, by show st.at_ < (wantL L 25 a.2).2.at_; omega, h4.2⟩
  · -- inner
    intro st ha hk hn
    unfold inner
    by_cases hs : stat (st.kd L) ≠ 0
    · rw [if_pos hs]
      exact put_ok ha (fun st' he => by
        have hkd := kd_same (L := L) ha he
        have hle := nx_le L _ ha
        have hge := nx_ge L st.at_
        exact ih.statement st' (by omega) (by rw [hkd]; exact hs) (by omega))
    · rw [if_neg hs]
      have hle := nx_le L _ ha
      have hge := nx_ge L st.at_
      obtain ⟨r, h1, h2, h3⟩ := wrong_ok (L := L) n [] (st.to L) hle (by rw [to_kd ha]; exact hk) (by show 13 * (L.length - nx L st.at_) + 1 ≤ n; omega)
      have h2 : nx L st.at_ < r.2.at_ := h2
      rw [h1]
      exact ⟨_, rfl, by show st.at_ < r.2.at_; omega, h3⟩
  · -- bodyLoop
    intro acc st ha hn
    unfold bodyLoop
    by_cases h : st.kd L ≠ 23 ∧ st.kd L ≠ 0
    · rw [if_pos h]
      obtain ⟨r, h1, h2, h3⟩ := ih.inner st ha h.2 (by omega)
      rw [h1]
      obtain ⟨r', h4, h5, h6⟩ := ih.bodyLoop (acc ++ r.1) r.2 h3 (by omega)
      exact ⟨r', h4, by omega, h6⟩
    · rw [if_neg h]
      exact ⟨_, rfl, Nat.le_refl _, ha⟩
  · -- begun
    intro st ha hk hn
    have h1 := next_ok (L := L) (st := st) (by rw [hk]; decide)
    unfold begun
    obtain ⟨r, e1, e2, e3⟩ := ih.bodyLoop (nextL L st).1 (nextL L st).2 h1.2 (by omega)
    have h4 := want_ok (L := L) (st := r.2) (k := 23) (by decide) e3
    rw [e1]
    exact ⟨_, rfl, by show st.at_ < (wantL L 23 r.2).2.at_; omega, h4.2⟩
  · -- block
    intro st ha hn
    unfold block
    by_cases h : st.kd L = 22
    · rw [if_pos h]
      obtain ⟨r, h1, h2, h3⟩ := put_ok (orc := orc) (kind := 52) (part := begun L orc n) ha (fun st' he => by
        have hkd := kd_same (L := L) ha he
        have hle := nx_le L _ ha
        have hge := nx_ge L st.at_
        exact ih.begun st' (by omega) (by rw [hkd]; exact h) (by omega))
      refine ⟨r, h1, by omega, h3, ?_, fun _ => h2⟩
      intro e
      unfold putL at h1
      cases ho : orc st.s 52 (nx L st.at_) with
      | mk a s' =>
        rw [ho] at h1
        cases a with
        | none =>
          simp only [Option.map_eq_some_iff] at h1
          obtain ⟨q, _, hq⟩ := h1
          rw [← hq] at e
          simp at e
        | some tc =>
          obtain ⟨t, c⟩ := tc
          dsimp only at h1
          split at h1
          · have := Option.some.inj h1
            rw [← this] at e
            simp at e
          · simp only [Option.map_eq_some_iff] at h1
            obtain ⟨q, _, hq⟩ := h1
            rw [← hq] at e
            simp at e
    · rw [if_neg h]
      exact ⟨_, rfl, Nat.le_refl _, ha, by simp, fun e => absurd e h⟩
  · -- expr
    intro st ha hn
    unfold expr
    by_cases h : begins (st.kd L) = true
    · rw [if_pos h]
      obtain ⟨r, h1, h2, h3⟩ := put_ok (orc := orc) (kind := 60) (part := fun st' => (level L orc n 1 st').map (fun r => (node 60 [r.1], r.2))) ha (fun st' he => by
        have hkd := kd_same (L := L) ha he
        have hle := nx_le L _ ha
        have hge := nx_ge L st.at_
        obtain ⟨r, h1, h2, h3⟩ := ih.level 1 st' (by omega) (by omega) (by omega) (by rw [hkd]; exact h) (by omega)
        exact ⟨(node 60 [r.1], r.2), by show (level L orc n 1 st').map _ = _; rw [h1]; rfl, h2, h3⟩)
      exact ⟨r, h1, by omega, h3, fun _ => h2⟩
    · rw [if_neg h]
      exact ⟨_, rfl, Nat.le_refl _, ha, fun e => absurd e h⟩
  · -- level
    intro k st hk1 hk6 ha hb hn
    unfold level
    by_cases h : 5 < k
    · rw [if_pos h]
      exact ih.unary st ha hb (by omega)
    · rw [if_neg h]
      obtain ⟨r, h1, h2, h3⟩ := ih.level (k + 1) st (by omega) (by omega) ha hb (by omega)
      rw [h1]
      obtain ⟨r', h4, h5, h6⟩ := ih.levelLoop k r.1 r.2 hk1 (by omega) h3 (by omega)
      exact ⟨r', h4, by omega, h6⟩
  · -- levelLoop
    intro k left st hk1 hk5 ha hn
    unfold levelLoop
    by_cases h : lvl (st.kd L) = (k : Int)
    · rw [if_pos h]
      have hk0 : st.kd L ≠ 0 := fun e => by rw [e, lvl_zero] at h; omega
      have h1 := next_ok hk0
      obtain ⟨o, o1, o2, o3⟩ := operand_ok (L := L) (part := level L orc n (k + 1)) h1.2 (fun hb => by
        have hle := nx_le L _ h1.2
        have hge := nx_ge L (nextL L st).2.at_
        exact ih.level (k + 1) ((nextL L st).2.to L) (by omega) (by omega) hle (by rw [to_kd h1.2]; exact hb) (by show 13 * (L.length - nx L _) + (9 - (k + 1)) ≤ n; omega))
      rw [o1]
      obtain ⟨r', h4, h5, h6⟩ := ih.levelLoop k (node 61 ([left] ++ (nextL L st).1 ++ o.1)) o.2 hk1 hk5 o3 (by omega)
      exact ⟨r', h4, by omega, h6⟩
    · rw [if_neg h]
      exact ⟨_, rfl, Nat.le_refl _, ha⟩
  · -- unary
    intro st ha hb hn
    unfold unary
    by_cases h : st.kd L = 34 ∨ st.kd L = 38
    · rw [if_pos h]
      have h1 := next_ok (of_begins hb)
      obtain ⟨o, o1, o2, o3⟩ := operand_ok (L := L) (part := unary L orc n) h1.2 (fun hb2 => by
        have hle := nx_le L _ h1.2
        have hge := nx_ge L (nextL L st).2.at_
        exact ih.unary ((nextL L st).2.to L) hle (by rw [to_kd h1.2]; exact hb2) (by show 13 * (L.length - nx L _) + 2 ≤ n; omega))
      rw [o1]
      exact ⟨_, rfl, by show st.at_ < o.2.at_; omega, o3⟩
    · rw [if_neg h]
      obtain ⟨r, h1, h2, h3⟩ := ih.primary st ha hb (by omega)
      rw [h1]
      obtain ⟨r', h4, h5, h6⟩ := ih.callLoop r.1 r.2 h3 (by omega)
      exact ⟨r', h4, by omega, h6⟩
  · -- callLoop
    intro left st ha hn
    unfold callLoop
    by_cases h : st.kd L = 20
    · rw [if_pos h]
      have hle := nx_le L _ ha
      have hge := nx_ge L st.at_
      obtain ⟨r, h1, h2, h3⟩ := ih.args (st.to L) hle (by rw [to_kd ha]; exact h) (by show 13 * (L.length - nx L st.at_) + 1 ≤ n; omega)
      have h2 : nx L st.at_ < r.2.at_ := h2
      rw [h1]
      obtain ⟨r', h4, h5, h6⟩ := ih.callLoop (node 63 ([left] ++ gapL L st ++ [r.1])) r.2 h3 (by omega)
      exact ⟨r', h4, by omega, h6⟩
    · rw [if_neg h]
      exact ⟨_, rfl, Nat.le_refl _, ha⟩
  · -- args
    intro st ha hk hn
    have h1 := next_ok (L := L) (st := st) (by rw [hk]; decide)
    unfold args
    dsimp only
    split
    · obtain ⟨b, b1, b2, b3, _⟩ := ih.expr _ h1.2 (by omega)
      obtain ⟨r, r1, r2, r3⟩ := ih.argsLoop ((nextL L st).1 ++ b.1) b.2 b3 (by omega)
      have h4 := want_ok (L := L) (st := r.2) (k := 21) (by decide) r3
      rw [b1]
      simp only [Option.bind_some]
      rw [r1]
      exact ⟨_, rfl, by show st.at_ < (wantL L 21 r.2).2.at_; omega, h4.2⟩
    · have h4 := want_ok (L := L) (st := (nextL L st).2) (k := 21) (by decide) h1.2
      exact ⟨_, rfl, by show st.at_ < (wantL L 21 (nextL L st).2).2.at_; omega, h4.2⟩
  · -- argsLoop
    intro acc st ha hn
    unfold argsLoop
    by_cases h : st.kd L = 24
    · rw [if_pos h]
      have h1 := next_ok (L := L) (st := st) (by rw [h]; decide)
      obtain ⟨b, b1, b2, b3, _⟩ := ih.expr _ h1.2 (by omega)
      rw [b1]
      obtain ⟨r, r1, r2, r3⟩ := ih.argsLoop (acc ++ (nextL L st).1 ++ b.1) b.2 b3 (by omega)
      exact ⟨r, r1, by omega, r3⟩
    · rw [if_neg h]
      exact ⟨_, rfl, Nat.le_refl _, ha⟩
  · -- primary
    intro st ha hb hn
    have h1 := next_ok (of_begins hb)
    unfold primary
    by_cases h6 : st.kd L = 6
    · rw [if_pos h6]
      exact ⟨_, rfl, h1.1, h1.2⟩
    rw [if_neg h6]
    by_cases h20 : st.kd L = 20
    · rw [if_pos h20]
      obtain ⟨b, b1, b2, b3, _⟩ := ih.expr _ h1.2 (by omega)
      have h4 := want_ok (L := L) (st := b.2) (k := 21) (by decide) b3
      dsimp only
      rw [b1]
      exact ⟨_, rfl, by show st.at_ < (wantL L 21 b.2).2.at_; omega, h4.2⟩
    · rw [if_neg h20]
      exact ⟨_, rfl, h1.1, h1.2⟩
theorem tot (n : Nat) : Tot L orc n := by
  induction n with
  | zero => exact tot_zero L orc
  | succ n ih => exact tot_succ ih
theorem file_loop_ok : ∀ (n : Nat) (acc : List Tr) (st : St σ), st.at_ ≤ L.length → 13 * (L.length - st.at_) + 12 ≤ n → ∃ r, fileLoop L orc n acc st = some r ∧ r.2.at_ ≤ L.length
  | 0, acc, st, _, h => by omega
  | n + 1, acc, st, ha, h => by
    unfold fileLoop
    by_cases hk : st.kd L ≠ 0
    · rw [if_pos hk]
      obtain ⟨r, h1, h2, h3⟩ := (tot (L := L) (orc := orc) n).inner st ha hk (by omega)
      rw [h1]
      exact file_loop_ok n (acc ++ r.1) r.2 h3 (by omega)
    · rw [if_neg hk]
      exact ⟨_, rfl, ha⟩
theorem file_ok (n : Nat) (s : σ) (h : 13 * L.length + 12 ≤ n) : ∃ r, file L orc n s = some r := by
  obtain ⟨r, h1, _⟩ := file_loop_ok (L := L) (orc := orc) n [] ⟨0, s⟩ (Nat.zero_le _) (by simpa using h)
  unfold file
  rw [h1]
  exact ⟨_, rfl⟩
end
end Go.Proofs.Ytalnicdpcigocaa.Ps
namespace Go.Proofs.Ytalnicdpcigocaa.Ps
open Go.RowKit
set_option linter.unusedVariables false
section
variable {σ : Type} {L : List Tok} {orc : σ → Int → Nat → Option (Tr × Int) × σ}
theorem gap_len (st : St σ) : (gapL L st).length ≤ nx L st.at_ - st.at_ := by
  unfold gapL
  rw [List.length_map, List.length_take]
  omega
/-- so much further on, and so much put in -/
def Goes (L : List Tok) (st : St σ) (r : List Tr × St σ) (c : Nat) : Prop := st.at_ ≤ r.2.at_ ∧ r.2.at_ ≤ L.length ∧ r.1.length ≤ 2 * (r.2.at_ - st.at_) + c
theorem next_goes {st : St σ} (h : st.kd L ≠ 0) : st.at_ < (nextL L st).2.at_ ∧ Goes L st (nextL L st) 0 := by
  have h1 := next_ok h
  have h2 := gap_len (L := L) st
  have h3 := nx_ge L st.at_
  refine ⟨h1.1, by omega, h1.2, ?_⟩
  show (gapL L st ++ [leaf _]).length ≤ 2 * (nx L st.at_ + 1 - st.at_) + 0
  rw [List.length_append, List.length_singleton]
  omega
theorem next_len (st : St σ) : (nextL L st).1.length ≤ (nextL L st).2.at_ - st.at_ := by
  have h2 := gap_len (L := L) st
  have h3 := nx_ge L st.at_
  show (gapL L st ++ [leaf _]).length ≤ nx L st.at_ + 1 - st.at_
  rw [List.length_append, List.length_singleton]
  omega
theorem want_goes {st : St σ} {k : Int} (hk : k ≠ 0) (h : st.at_ ≤ L.length) : Goes L st (wantL L k st) 1 := by
  unfold wantL
  split
  · rename_i e
    have := (next_goes (L := L) (st := st) (by rw [e]; exact hk)).2
    exact ⟨this.1, this.2.1, by have := this.2.2; omega⟩
  · exact ⟨Nat.le_refl _, h, by simp⟩
theorem put_goes {kind : Int} {part : St σ → Option (Tr × St σ)} {st : St σ} {r : List Tr × St σ} (h : st.at_ ≤ L.length) (hr : putL L orc kind part st = some r)
    (hp : ∀ (st' : St σ) (q : Tr × St σ), st'.at_ = nx L st.at_ → part st' = some q → st'.at_ < q.2.at_ ∧ q.2.at_ ≤ L.length) : st.at_ < r.2.at_ ∧ Goes L st r 0 := by
  have hg := nx_ge L st.at_
  have h2 := gap_len (L := L) st
  have key : ∀ (t : Tr) (s2 : St σ), nx L st.at_ < s2.at_ → s2.at_ ≤ L.length → st.at_ < s2.at_ ∧ Goes L st (gapL L st ++ [t], s2) 0 := fun t s2 h4 h5 => by
    refine ⟨by omega, by show st.at_ ≤ s2.at_; omega, h5, ?_⟩
    show (gapL L st ++ [t]).length ≤ 2 * (s2.at_ - st.at_) + 0
    rw [List.length_append, List.length_singleton]
    omega
  unfold putL at hr
  cases ho : orc st.s kind (nx L st.at_) with
  | mk a s' =>
    rw [ho] at hr
    cases a with
    | none =>
      obtain ⟨q, hq, rfl⟩ := Option.map_eq_some_iff.1 hr
      have := hp ⟨nx L st.at_, s'⟩ q rfl hq
      exact key _ _ this.1 this.2
    | some tc =>
      obtain ⟨t, c⟩ := tc
      dsimp only at hr
      split at hr
      · rename_i hc
        have := Option.some.inj hr
        subst this
        exact key _ _ (by show nx L st.at_ < nx L st.at_ + c.toNat; omega) (by show nx L st.at_ + c.toNat ≤ L.length; omega)
      · obtain ⟨q, hq, rfl⟩ := Option.map_eq_some_iff.1 hr
        have := hp ⟨nx L st.at_, s'⟩ q rfl hq
        exact key _ _ this.1 this.2
theorem operand_goes {part : St σ → Option (Tr × St σ)} {st : St σ} {r : List Tr × St σ} (h : st.at_ ≤ L.length) (hr : operandL L part st = some r)
    (hp : ∀ q : Tr × St σ, begins (st.kd L) = true → part (st.to L) = some q → nx L st.at_ < q.2.at_ ∧ q.2.at_ ≤ L.length) : Goes L st r 1 := by
  have hg := nx_ge L st.at_
  have h2 := gap_len (L := L) st
  unfold operandL at hr
  split at hr
  · rename_i hb
    obtain ⟨q, hq, rfl⟩ := Option.map_eq_some_iff.1 hr
    have := hp q hb hq
    refine ⟨by show st.at_ ≤ q.2.at_; omega, this.2, ?_⟩
    show (gapL L st ++ [q.1]).length ≤ 2 * (q.2.at_ - st.at_) + 1
    rw [List.length_append, List.length_singleton]
    omega
  · have := Option.some.inj hr
    subst this
    exact ⟨Nat.le_refl _, h, by simp⟩
/-- a loop that puts in: so much further on -/
def Loops (L : List Tok) (st : St σ) (acc : List Tr) (r : List Tr × St σ) : Prop := st.at_ ≤ r.2.at_ ∧ r.2.at_ ≤ L.length ∧ r.1.length ≤ acc.length + 2 * (r.2.at_ - st.at_)
theorem wrong_goes : ∀ (n : Nat) (acc : List Tr) (st : St σ) (r : List Tr × St σ), st.kd L ≠ 0 → wrongLoop L n acc st = some r → st.at_ < r.2.at_ ∧ Loops L st acc r
  | 0, acc, st, r, _, h => by cases h
  | n + 1, acc, st, r, hk, h => by
    have hn := next_goes hk
    unfold wrongLoop at h
    split at h
    · have := Option.some.inj h
      subst this
      refine ⟨hn.1, by have := hn.1; show st.at_ ≤ (nextL L st).2.at_; omega, hn.2.2.1, ?_⟩
      have := hn.2.2.2
      show (acc ++ (nextL L st).1).length ≤ acc.length + 2 * ((nextL L st).2.at_ - st.at_)
      rw [List.length_append]
      omega
    · rename_i hc
      have h0 : (nextL L st).2.kd L ≠ 0 := fun e => hc (Or.inr (Or.inr (Or.inl e)))
      have ih := wrong_goes n (acc ++ (nextL L st).1) (nextL L st).2 r h0 h
      have h1 := hn.2.2.2
      have h2 := ih.2.2.2
      rw [List.length_append] at h2
      have h3 := hn.1
      have h4 := ih.1
      exact ⟨by omega, by omega, ih.2.2.1, by omega⟩
theorem names_goes : ∀ (n : Nat) (acc : List Tr) (st : St σ) (r : List Tr × St σ), st.at_ ≤ L.length → namesLoop L n acc st = some r → Loops L st acc r
  | 0, acc, st, r, _, h => by cases h
  | n + 1, acc, st, r, ha, h => by
    unfold namesLoop at h
    split at h
    · rename_i e
      have hn := next_goes (L := L) (st := st) (by rw [e]; decide)
      have hw := want_goes (L := L) (st := (nextL L st).2) (k := 6) (by decide) hn.2.2.1
      have ih := names_goes n _ _ r hw.2.1 h
      have h1 := next_len (L := L) st
      have h2 := hw.2.2
      have h3 := ih.2.2
      rw [List.length_append, List.length_append] at h3
      have h4 := hn.1
      have h5 := hw.1
      have h6 := ih.1
      exact ⟨by omega, ih.2.1, by omega⟩
    · have := Option.some.inj h
      subst this
      exact ⟨Nat.le_refl _, ha, by simp⟩
theorem params_goes (n : Nat) (st : St σ) (r : Tr × St σ) (ha : st.at_ ≤ L.length) (h : params L n st = some r) : st.at_ ≤ r.2.at_ ∧ r.2.at_ ≤ L.length := by
  have hw := want_ok (L := L) (st := st) (k := 20) (by decide) ha
  unfold params at h
  split at h
  · rename_i e
    have hn := next_ok (L := L) (st := (wantL L 20 st).2) (by rw [e]; decide)
    obtain ⟨q, hq, rfl⟩ := Option.map_eq_some_iff.1 h
    have h1 := names_goes n _ _ q hn.2 hq
    have hw2 := want_ok (L := L) (st := q.2) (k := 21) (by decide) h1.2.1
    have h3 := h1.1
    refine ⟨?_, hw2.2⟩
    show st.at_ ≤ (wantL L 21 q.2).2.at_
    omega
  · have := Option.some.inj h
    subst this
    have hw2 := want_ok (L := L) (st := (wantL L 20 st).2) (k := 21) (by decide) hw.2
    refine ⟨?_, hw2.2⟩
    show st.at_ ≤ (wantL L 21 (wantL L 20 st).2).2.at_
    omega
variable (L) (orc)
/-- whatever comes with fuel n -/
structure Mon (n : Nat) : Prop where
  statement : ∀ (st : St σ) r, st.at_ ≤ L.length → stat (st.kd L) ≠ 0 → statement L orc n st = some r → st.at_ < r.2.at_ ∧ r.2.at_ ≤ L.length
  inner : ∀ (st : St σ) r, st.at_ ≤ L.length → st.kd L ≠ 0 → inner L orc n st = some r → st.at_ < r.2.at_ ∧ Goes L st r 0
  bodyLoop : ∀ (acc : List Tr) (st : St σ) r, st.at_ ≤ L.length → bodyLoop L orc n acc st = some r → Loops L st acc r
  begun : ∀ (st : St σ) r, st.at_ ≤ L.length → st.kd L = 22 → begun L orc n st = some r → st.at_ < r.2.at_ ∧ r.2.at_ ≤ L.length
  block : ∀ (st : St σ) r, st.at_ ≤ L.length → block L orc n st = some r → Goes L st r 1 ∧ (st.kd L = 22 → st.at_ < r.2.at_)
  expr : ∀ (st : St σ) r, st.at_ ≤ L.length → expr L orc n st = some r → Goes L st r 1 ∧ (begins (st.kd L) = true → st.at_ < r.2.at_)
  level : ∀ (k : Nat) (st : St σ) r, 1 ≤ k → st.at_ ≤ L.length → begins (st.kd L) = true → level L orc n k st = some r → st.at_ < r.2.at_ ∧ r.2.at_ ≤ L.length
  levelLoop : ∀ (k : Nat) (left : Tr) (st : St σ) r, 1 ≤ k → st.at_ ≤ L.length → levelLoop L orc n k left st = some r → st.at_ ≤ r.2.at_ ∧ r.2.at_ ≤ L.length
  unary : ∀ (st : St σ) r, st.at_ ≤ L.length → begins (st.kd L) = true → unary L orc n st = some r → st.at_ < r.2.at_ ∧ r.2.at_ ≤ L.length
  callLoop : ∀ (left : Tr) (st : St σ) r, st.at_ ≤ L.length → callLoop L orc n left st = some r → st.at_ ≤ r.2.at_ ∧ r.2.at_ ≤ L.length
  args : ∀ (st : St σ) r, st.at_ ≤ L.length → st.kd L = 20 → args L orc n st = some r → st.at_ < r.2.at_ ∧ r.2.at_ ≤ L.length
  argsLoop : ∀ (acc : List Tr) (st : St σ) r, st.at_ ≤ L.length → argsLoop L orc n acc st = some r → Loops L st acc r
  primary : ∀ (st : St σ) r, st.at_ ≤ L.length → begins (st.kd L) = true → primary L orc n st = some r → st.at_ < r.2.at_ ∧ r.2.at_ ≤ L.length
theorem mon_zero : Mon L orc 0 :=
  ⟨fun _ _ _ _ h => by simp [statement] at h, fun _ _ _ _ h => by simp [inner] at h, fun _ _ _ _ h => by simp [bodyLoop] at h, fun _ _ _ _ h => by simp [begun] at h, fun _ _ _ h => by simp [block] at h, fun _ _ _ h => by simp [expr] at h, fun _ _ _ _ _ _ h => by simp [level] at h, fun _ _ _ _ _ _ h => by simp [levelLoop] at h, fun _ _ _ _ h => by simp [unary] at h, fun _ _ _ _ h => by simp [callLoop] at h, fun _ _ _ _ h => by simp [args] at h, fun _ _ _ _ h => by simp [argsLoop] at h, fun _ _ _ _ h => by simp [primary] at h⟩
variable {L} {orc}
theorem mon_succ {n : Nat} (ih : Mon L orc n) : Mon L orc (n + 1) := by
  refine ⟨?_, ?_, ?_, ?_, ?_, ?_, ?_, ?_, ?_, ?_, ?_, ?_, ?_⟩
  · -- statement
    intro st r ha hs h
    have hk := of_stat hs
    have h1 := next_ok hk
    unfold statement at h
    by_cases c53 : stat (st.kd L) = 53
    · rw [if_pos c53] at h
      obtain ⟨d, hd, h⟩ := Option.bind_eq_some_iff.1 h
      have := Option.some.inj h
      subst this
      have h2 := want_ok (L := L) (st := (nextL L st).2) (k := 6) (by decide) h1.2
      have h3 := want_ok (L := L) (st := (wantL L 6 (nextL L st).2).2) (k := 26) (by decide) h2.2
      have e := (ih.expr _ _ h3.2 hd).1
      have h4 := want_ok (L := L) (st := d.2) (k := 25) (by decide) e.2.1
      have e1 := e.1
      exact ⟨by show st.at_ < (wantL L 25 d.2).2.at_; omega, h4.2⟩
    rw [if_neg c53] at h
    by_cases c54 : stat (st.kd L) = 54
    · rw [if_pos c54] at h
      obtain ⟨p, hp, h⟩ := Option.bind_eq_some_iff.1 h
      obtain ⟨c, hc, h⟩ := Option.bind_eq_some_iff.1 h
      have := Option.some.inj h
      subst this
      have h2 := want_ok (L := L) (st := (nextL L st).2) (k := 6) (by decide) h1.2
      have h2' := nx_le L _ h2.2
      have h2'' := nx_ge L (wantL L 6 (nextL L st).2).2.at_
      have p1 := params_goes (L := L) n ((wantL L 6 (nextL L st).2).2.to L) p h2' hp
      have p2 : nx L (wantL L 6 (nextL L st).2).2.at_ ≤ p.2.at_ := p1.1
      have c1 := (ih.block _ _ p1.2 hc).1
      have c2 := c1.1
      exact ⟨by show st.at_ < c.2.at_; omega, c1.2.1⟩
    rw [if_neg c54] at h
    by_cases c56 : stat (st.kd L) = 56
    · rw [if_pos c56] at h
      obtain ⟨b, hb, h⟩ := Option.bind_eq_some_iff.1 h
      obtain ⟨c, hc, h⟩ := Option.bind_eq_some_iff.1 h
      have b1 := (ih.expr _ _ h1.2 hb).1
      have c1 := (ih.block _ _ b1.2.1 hc).1
      have b2 := b1.1
      have c2 := c1.1
      by_cases h13 : c.2.kd L = 13
      · rw [if_pos h13] at h
        have d1 := next_ok (L := L) (st := c.2) (by rw [h13]; decide)
        by_cases h12 : (nextL L c.2).2.kd L = 12
        · rw [if_pos h12] at h
          obtain ⟨e, he, h⟩ := Option.bind_eq_some_iff.1 h
          have := Option.some.inj h
          subst this
          have e1 := put_goes (orc := orc) (kind := 59) (part := statement L orc n) d1.2 he (fun st' q hq hs' => by
            have hkd := kd_same (L := L) d1.2 hq
            have hst : stat (st'.kd L) ≠ 0 := by rw [hkd, h12]; decide
            have hle := nx_le L _ d1.2
            exact ih.statement st' q (by omega) hst hs')
          have e2 := e1.1
          exact ⟨by show st.at_ < e.2.at_; omega, e1.2.2.1⟩
        · rw [if_neg h12] at h
          obtain ⟨e, he, h⟩ := Option.bind_eq_some_iff.1 h
          have := Option.some.inj h
          subst this
          have e1 := (ih.block _ _ d1.2 he).1
          have e2 := e1.1
          exact ⟨by show st.at_ < e.2.at_; omega, e1.2.1⟩
      · rw [if_neg h13] at h
        have := Option.some.inj h
        subst this
        exact ⟨by show st.at_ < c.2.at_; omega, c1.2.1⟩
    rw [if_neg c56] at h
    by_cases c57 : stat (st.kd L) = 57
    · rw [if_pos c57] at h
      obtain ⟨b, hb, h⟩ := Option.bind_eq_some_iff.1 h
      obtain ⟨c, hc, h⟩ := Option.bind_eq_some_iff.1 h
      have := Option.some.inj h
      subst this
      have b1 := (ih.expr _ _ h1.2 hb).1
      have c1 := (ih.block _ _ b1.2.1 hc).1
      have b2 := b1.1
      have c2 := c1.1
      exact ⟨by show st.at_ < c.2.at_; omega, c1.2.1⟩
    rw [if_neg c57] at h
    by_cases c58 : stat (st.kd L) = 58
    · rw [if_pos c58] at h
      dsimp only at h
      split at h
      · obtain ⟨b, hb, h⟩ := Option.bind_eq_some_iff.1 h
        have := Option.some.inj h
        subst this
        have b1 := (ih.expr _ _ h1.2 hb).1
        have b2 := b1.1
        have h4 := want_ok (L := L) (st := b.2) (k := 25) (by decide) b1.2.1
        exact ⟨by show st.at_ < (wantL L 25 b.2).2.at_; omega, h4.2⟩
      · have := Option.some.inj h
        subst this
        have h4 := want_ok (L := L) (st := (nextL L st).2) (k := 25) (by decide) h1.2
        exact ⟨by show st.at_ < (wantL L 25 (nextL L st).2).2.at_; omega, h4.2⟩
    rw [if_neg c58] at h
    by_cases c52 : stat (st.kd L) = 52
    · rw [if_pos c52] at h
      obtain ⟨b, hb, h⟩ := Option.bind_eq_some_iff.1 h
      have b1 := ih.block st b ha hb
      split at h
      · have := Option.some.inj h
        subst this
        exact ⟨b1.2 (stat_block c52), b1.1.2.1⟩
      · cases h
    rw [if_neg c52] at h
    have hbg := stat_do hs c53 c54 c56 c57 c58 c52
    obtain ⟨a, hA, h⟩ := Option.bind_eq_some_iff.1 h
    have a1 := ih.expr st a ha hA
    have a2 := a1.2 hbg
    by_cases h26 : a.2.kd L = 26
    · rw [if_pos h26] at h
      obtain ⟨c, hc, h⟩ := Option.bind_eq_some_iff.1 h
      have := Option.some.inj h
      subst this
      have b1 := next_ok (L := L) (st := a.2) (by rw [h26]; decide)
      have c1 := (ih.expr _ _ b1.2 hc).1
      have c2 := c1.1
      have h4 := want_ok (L := L) (st := c.2) (k := 25) (by decide) c1.2.1
      exact ⟨by show st.at_ < (wantL L 25 c.2).2.at_; omega, h4.2⟩
    · rw [if_neg h26] at h
      have := Option.some.inj h
      subst this
      have h4 := want_ok (L := L) (st := a.2) (k := 25) (by decide) a1.1.2.1
      exact ⟨by show st.at_ < (wantL L 25 a.2).2.at_; omega, h4.2⟩
  · -- inner
    intro st r ha hk h
    unfold inner at h
    by_cases hs : stat (st.kd L) ≠ 0
    · rw [if_pos hs] at h
      exact put_goes ha h (fun st' q hq hs' => by
        have hkd := kd_same (L := L) ha hq
        have hle := nx_le L _ ha
        exact ih.statement st' q (by omega) (by rw [hkd]; exact hs) hs')
    · rw [if_neg hs] at h
      obtain ⟨q, hq, rfl⟩ := Option.map_eq_some_iff.1 h
      have hle := nx_le L _ ha
      have hge := nx_ge L st.at_
      have w1 := wrong_goes (L := L) n [] (st.to L) q (by rw [to_kd ha]; exact hk) hq
      have w2 : nx L st.at_ < q.2.at_ := w1.1
      have hgl := gap_len (L := L) st
      refine ⟨by show st.at_ < q.2.at_; omega, by show st.at_ ≤ q.2.at_; omega, w1.2.2.1, ?_⟩
      show (gapL L st ++ [node 68 q.1]).length ≤ 2 * (q.2.at_ - st.at_) + 0
      rw [List.length_append, List.length_singleton]
      omega
  · -- bodyLoop
    intro acc st r ha h
    unfold bodyLoop at h
    by_cases hc : st.kd L ≠ 23 ∧ st.kd L ≠ 0
    · rw [if_pos hc] at h
      obtain ⟨q, hq, h⟩ := Option.bind_eq_some_iff.1 h
      have q1 := (ih.inner st q ha hc.2 hq).2
      have q2 := ih.bodyLoop _ q.2 r q1.2.1 h
      have q3 := q1.1
      have q4 := q1.2.2
      have q5 := q2.1
      have q6 := q2.2.2
      rw [List.length_append] at q6
      exact ⟨by omega, q2.2.1, by omega⟩
    · rw [if_neg hc] at h
      have := Option.some.inj h
      subst this
      exact ⟨Nat.le_refl _, ha, by simp⟩
  · -- begun
    intro st r ha hk h
    have h1 := next_ok (L := L) (st := st) (by rw [hk]; decide)
    unfold begun at h
    obtain ⟨q, hq, rfl⟩ := Option.map_eq_some_iff.1 h
    have q1 := ih.bodyLoop _ _ q h1.2 hq
    have h4 := want_ok (L := L) (st := q.2) (k := 23) (by decide) q1.2.1
    have q2 := q1.1
    exact ⟨by show st.at_ < (wantL L 23 q.2).2.at_; omega, h4.2⟩
  · -- block
    intro st r ha h
    unfold block at h
    by_cases hb : st.kd L = 22
    · rw [if_pos hb] at h
      have p := put_goes ha h (fun st' q hq hs' => by
        have hkd := kd_same (L := L) ha hq
        have hle := nx_le L _ ha
        exact ih.begun st' q (by omega) (by rw [hkd]; exact hb) hs')
      exact ⟨⟨p.2.1, p.2.2.1, by have := p.2.2.2; omega⟩, fun _ => p.1⟩
    · rw [if_neg hb] at h
      have := Option.some.inj h
      subst this
      exact ⟨⟨Nat.le_refl _, ha, by simp⟩, fun e => absurd e hb⟩
  · -- expr
    intro st r ha h
    unfold expr at h
    by_cases hb : begins (st.kd L) = true
    · rw [if_pos hb] at h
      have p := put_goes ha h (fun st' q hq hs' => by
        have hkd := kd_same (L := L) ha hq
        have hle := nx_le L _ ha
        obtain ⟨q', hq', rfl⟩ := Option.map_eq_some_iff.1 hs'
        exact ih.level 1 st' q' (by omega) (by omega) (by rw [hkd]; exact hb) hq')
      exact ⟨⟨p.2.1, p.2.2.1, by have := p.2.2.2; omega⟩, fun _ => p.1⟩
    · rw [if_neg hb] at h
      have := Option.some.inj h
      subst this
      exact ⟨⟨Nat.le_refl _, ha, by simp⟩, fun e => absurd e hb⟩
  · -- level
    intro k st r hk1 ha hb h
    unfold level at h
    by_cases h5 : 5 < k
    · rw [if_pos h5] at h
      exact ih.unary st r ha hb h
    · rw [if_neg h5] at h
      obtain ⟨q, hq, h⟩ := Option.bind_eq_some_iff.1 h
      have q1 := ih.level (k + 1) st q (by omega) ha hb hq
      have q2 := ih.levelLoop k q.1 q.2 r hk1 q1.2 h
      have q3 := q2.1
      exact ⟨by omega, q2.2⟩
  · -- levelLoop
    intro k left st r hk1 ha h
    unfold levelLoop at h
    by_cases hc : lvl (st.kd L) = (k : Int)
    · rw [if_pos hc] at h
      obtain ⟨o, ho, h⟩ := Option.bind_eq_some_iff.1 h
      have hk0 : st.kd L ≠ 0 := fun e => by rw [e, lvl_zero] at hc; omega
      have h1 := next_ok hk0
      have o1 := operand_goes (L := L) h1.2 ho (fun q hb hq => by
        have hle := nx_le L _ h1.2
        exact ih.level (k + 1) ((nextL L st).2.to L) q (by omega) hle (by rw [to_kd h1.2]; exact hb) hq)
      have l1 := ih.levelLoop k _ o.2 r hk1 o1.2.1 h
      have o2 := o1.1
      have l2 := l1.1
      exact ⟨by omega, l1.2⟩
    · rw [if_neg hc] at h
      have := Option.some.inj h
      subst this
      exact ⟨Nat.le_refl _, ha⟩
  · -- unary
    intro st r ha hb h
    unfold unary at h
    by_cases hc : st.kd L = 34 ∨ st.kd L = 38
    · rw [if_pos hc] at h
      obtain ⟨o, ho, rfl⟩ := Option.map_eq_some_iff.1 h
      have h1 := next_ok (of_begins hb)
      have o1 := operand_goes (L := L) h1.2 ho (fun q hb2 hq => by
        have hle := nx_le L _ h1.2
        exact ih.unary ((nextL L st).2.to L) q hle (by rw [to_kd h1.2]; exact hb2) hq)
      have o2 := o1.1
      exact ⟨by show st.at_ < o.2.at_; omega, o1.2.1⟩
    · rw [if_neg hc] at h
      obtain ⟨q, hq, h⟩ := Option.bind_eq_some_iff.1 h
      have q1 := ih.primary st q ha hb hq
      have q2 := ih.callLoop q.1 q.2 r q1.2 h
      have q3 := q2.1
      exact ⟨by omega, q2.2⟩
  · -- callLoop
    intro left st r ha h
    unfold callLoop at h
    by_cases hc : st.kd L = 20
    · rw [if_pos hc] at h
      obtain ⟨q, hq, h⟩ := Option.bind_eq_some_iff.1 h
      have hle := nx_le L _ ha
      have hge := nx_ge L st.at_
      have q1 := ih.args (st.to L) q hle (by rw [to_kd ha]; exact hc) hq
      have q0 : nx L st.at_ < q.2.at_ := q1.1
      have q2 := ih.callLoop _ q.2 r q1.2 h
      have q3 := q2.1
      exact ⟨by omega, q2.2⟩
    · rw [if_neg hc] at h
      have := Option.some.inj h
      subst this
      exact ⟨Nat.le_refl _, ha⟩
  · -- args
    intro st r ha hk h
    have h1 := next_ok (L := L) (st := st) (by rw [hk]; decide)
    unfold args at h
    dsimp only at h
    split at h
    · obtain ⟨b, hb, h⟩ := Option.bind_eq_some_iff.1 h
      obtain ⟨q, hq, rfl⟩ := Option.map_eq_some_iff.1 h
      have b1 := (ih.expr _ _ h1.2 hb).1
      have q1 := ih.argsLoop _ b.2 q b1.2.1 hq
      have b2 := b1.1
      have q2 := q1.1
      have h4 := want_ok (L := L) (st := q.2) (k := 21) (by decide) q1.2.1
      exact ⟨by show st.at_ < (wantL L 21 q.2).2.at_; omega, h4.2⟩
    · have := Option.some.inj h
      subst this
      have h4 := want_ok (L := L) (st := (nextL L st).2) (k := 21) (by decide) h1.2
      exact ⟨by show st.at_ < (wantL L 21 (nextL L st).2).2.at_; omega, h4.2⟩
  · -- argsLoop
    intro acc st r ha h
    unfold argsLoop at h
    by_cases hc : st.kd L = 24
    · rw [if_pos hc] at h
      obtain ⟨b, hb, h⟩ := Option.bind_eq_some_iff.1 h
      have h1 := next_ok (L := L) (st := st) (by rw [hc]; decide)
      have b1 := (ih.expr _ _ h1.2 hb).1
      have q1 := ih.argsLoop _ b.2 r b1.2.1 h
      have n1 := next_len (L := L) st
      have b2 := b1.1
      have b3 := b1.2.2
      have q2 := q1.1
      have q3 := q1.2.2
      rw [List.length_append, List.length_append] at q3
      exact ⟨by omega, q1.2.1, by omega⟩
    · rw [if_neg hc] at h
      have := Option.some.inj h
      subst this
      exact ⟨Nat.le_refl _, ha, by simp⟩
  · -- primary
    intro st r ha hb h
    have h1 := next_ok (of_begins hb)
    unfold primary at h
    by_cases h6 : st.kd L = 6
    · rw [if_pos h6] at h
      have := Option.some.inj h
      subst this
      exact ⟨h1.1, h1.2⟩
    rw [if_neg h6] at h
    by_cases h20 : st.kd L = 20
    · rw [if_pos h20] at h
      obtain ⟨b, hb', h⟩ := Option.bind_eq_some_iff.1 h
      have := Option.some.inj h
      subst this
      have b1 := (ih.expr _ _ h1.2 hb').1
      have b2 := b1.1
      have h4 := want_ok (L := L) (st := b.2) (k := 21) (by decide) b1.2.1
      exact ⟨by show st.at_ < (wantL L 21 b.2).2.at_; omega, h4.2⟩
    · rw [if_neg h20] at h
      have := Option.some.inj h
      subst this
      exact ⟨h1.1, h1.2⟩
theorem mon (n : Nat) : Mon L orc n := by
  induction n with
  | zero => exact mon_zero L orc
  | succ n ih => exact mon_succ ih
end
end Go.Proofs.Ytalnicdpcigocaa.Ps
namespace Go.Proofs.Ytalnicdpcigocaa.PM
open Go.RowKit Ps
set_option linter.unusedVariables false
theorem cell_lt {w : World} {a : Addr} {u : Value} (h : w.cell? a = some u) : a.block < w.heap.size := by
  rcases Nat.lt_or_ge a.block w.heap.size with hlt | hge
  · exact hlt
  · unfold World.cell? at h
    rw [Array.getElem?_eq_none hge] at h
    simp at h
mutual
/-- these four cells are that node, its kids in rows of the blocks S -/
def NodeC (S : Nat → Prop) (w : World) : Tr → List Value → Prop
  | .mk k wt wd kids, cs => ∃ (A : Option Addr) (n c : Nat), cs = [.int .u8 k, .int .u8 wt, .int .i64 wd, .slice A n c] ∧ kids.length = n ∧ n ≤ c ∧ n ≤ 1000000000000 ∧ RowC S w A 0 kids
def RowC (S : Nat → Prop) (w : World) (A : Option Addr) : Nat → List Tr → Prop
  | _, [] => True
  | i, t :: l => (∃ (b off : Nat) (cs : List Value), A = some ⟨b, off, none⟩ ∧ S b ∧ NodeC S w t cs ∧ ∀ j u, cs[j]? = some u → w.cell? ⟨b, off + i * 4 + j, none⟩ = some u) ∧ RowC S w A (i + 1) l
end
mutual
theorem NodeC.move {S S' : Nat → Prop} {w w' : World} (hS : ∀ k, S k → k < w.heap.size → S' k ∧ w'.heap[k]? = w.heap[k]?) : ∀ (t : Tr) (cs : List Value), NodeC S w t cs → NodeC S' w' t cs
  | .mk k wt wd kids, cs, h => by
    unfold NodeC at h ⊢
    obtain ⟨A, n, c, h1, h2, h3, h4, h5⟩ := h
    exact ⟨A, n, c, h1, h2, h3, h4, RowC.move hS A 0 kids h5⟩
theorem RowC.move {S S' : Nat → Prop} {w w' : World} (hS : ∀ k, S k → k < w.heap.size → S' k ∧ w'.heap[k]? = w.heap[k]?) (A : Option Addr) : ∀ (i : Nat) (l : List Tr), RowC S w A i l → RowC S' w' A i l
  | _, [], _ => by unfold RowC; trivial
  | i, t :: l, h => by
    unfold RowC at h ⊢
    obtain ⟨⟨b, off, cs, h1, h2, h3, h4⟩, h5⟩ := h
    have hlt : b < w.heap.size := by
      have h0 : ∃ u, cs[0]? = some u := by
        cases t with
        | mk k wt wd kids =>
          unfold NodeC at h3
          obtain ⟨A, n, c, rfl, _⟩ := h3
          exact ⟨_, rfl⟩
      obtain ⟨u, hu⟩ := h0
      exact cell_lt (h4 0 u hu)
    refine ⟨⟨b, off, cs, h1, (hS b h2 hlt).1, NodeC.move hS t cs h3, fun j u hu => ?_⟩, RowC.move hS A (i + 1) l h5⟩
    rw [World.cell?_of_block (w := w) (hS b h2 hlt).2]
    exact h4 j u hu
end
theorem NodeC.four {S : Nat → Prop} {w : World} {t : Tr} {cs : List Value} (h : NodeC S w t cs) : ∃ (A : Option Addr) (n c : Nat), cs = [.int .u8 t.kind, .int .u8 t.want, .int .i64 t.width, .slice A n c] ∧ t.kids.length = n ∧ n ≤ c ∧ n ≤ 1000000000000 ∧ RowC S w A 0 t.kids := by
  cases t with
  | mk k wt wd kids =>
    unfold NodeC at h
    exact h
theorem NodeC.len {S : Nat → Prop} {w : World} {t : Tr} {cs : List Value} (h : NodeC S w t cs) : cs.length = 4 := by
  obtain ⟨A, n, c, rfl, _⟩ := h.four
  rfl
theorem RowC.at_ {S : Nat → Prop} {w : World} {A : Option Addr} : ∀ (l : List Tr) (i : Nat), RowC S w A i l → ∀ (j : Nat) (t : Tr), l[j]? = some t → ∃ (b off : Nat) (cs : List Value), A = some ⟨b, off, none⟩ ∧ S b ∧ NodeC S w t cs ∧ ∀ q u, cs[q]? = some u → w.cell? ⟨b, off + (i + j) * 4 + q, none⟩ = some u
  | [], _, _, j, t, h => by simp at h
  | x :: l, i, hr, 0, t, h => by
    unfold RowC at hr
    have h : x = t := by simpa using h
    subst h
    exact hr.1
  | x :: l, i, hr, j + 1, t, h => by
    unfold RowC at hr
    obtain ⟨b, off, cs, h1, h2, h3, h4⟩ := RowC.at_ l (i + 1) hr.2 j t (by simpa using h)
    refine ⟨b, off, cs, h1, h2, h3, fun q u hu => ?_⟩
    have := h4 q u hu
    rwa [show i + 1 + j = i + (j + 1) by omega] at this
theorem RowC.mk_ {S : Nat → Prop} {w : World} {b off : Nat} (hS : S b) : ∀ (l : List Tr) (i : Nat), (∀ (j : Nat) (t : Tr), l[j]? = some t → ∃ cs : List Value, NodeC S w t cs ∧ ∀ q u, cs[q]? = some u → w.cell? ⟨b, off + (i + j) * 4 + q, none⟩ = some u) → RowC S w (some ⟨b, off, none⟩) i l
  | [], _, _ => by unfold RowC; trivial
  | x :: l, i, h => by
    unfold RowC
    obtain ⟨cs, h1, h2⟩ := h 0 x rfl
    refine ⟨⟨b, off, cs, rfl, hS, h1, h2⟩, RowC.mk_ hS l (i + 1) (fun j t ht => ?_)⟩
    obtain ⟨cs, h1, h2⟩ := h (j + 1) t (by simpa using ht)
    refine ⟨cs, h1, fun q u hu => ?_⟩
    have := h2 q u hu
    rwa [show i + (j + 1) = i + 1 + j by omega] at this
/-- the blocks of before are as they were, those of X apart -/
structure FrX (X : Nat → Prop) (w w' : World) : Prop where
  os : w'.os = w.os
  tape : w'.tape = w.tape
  output : w'.output = w.output
  size : w.heap.size ≤ w'.heap.size
  block : ∀ k, k < w.heap.size → ¬ X k → w'.heap[k]? = w.heap[k]?
theorem FrX.refl (X : Nat → Prop) (w : World) : FrX X w w := ⟨rfl, rfl, rfl, Nat.le_refl _, fun _ _ _ => rfl⟩
theorem FrX.trans {X Y Z : Nat → Prop} {w w1 w2 : World} (h : FrX X w w1) (k : FrX Y w1 w2) (hX : ∀ b, X b → Z b) (hY : ∀ b, b < w.heap.size → Y b → Z b) : FrX Z w w2 :=
  ⟨k.os.trans h.os, k.tape.trans h.tape, k.output.trans h.output, Nat.le_trans h.size k.size, fun b hb hz => (k.block b (Nat.lt_of_lt_of_le hb h.size) (fun e => hz (hY b hb e))).trans (h.block b hb (fun e => hz (hX b e)))⟩
theorem FrX.mono {X Y : Nat → Prop} {w w1 : World} (h : FrX X w w1) (hX : ∀ b, b < w.heap.size → X b → Y b) : FrX Y w w1 :=
  ⟨h.os, h.tape, h.output, h.size, fun b hb hy => h.block b hb (fun e => hy (hX b hb e))⟩
theorem FrX.below {X : Nat → Prop} {w w1 : World} (h : Below w.heap.size w w1) : FrX X w w1 := ⟨h.os, h.tape, h.output, h.size, fun b hb _ => h.block b hb⟩
theorem FrX.to_below {X : Nat → Prop} {w w1 : World} (h : FrX X w w1) (hX : ∀ b, X b → w.heap.size ≤ b) : Below w.heap.size w w1 := ⟨h.os, h.tape, h.output, h.size, fun b hb => h.block b hb (fun e => by have := hX b e; omega)⟩
theorem FrX.set {X : Nat → Prop} {w w1 : World} (h : FrX X w w1) {b j : Nat} (hb : X b ∨ w.heap.size ≤ b) (v : Value) : FrX X w (w1.setCell ⟨b, j, none⟩ v) :=
  ⟨h.os, h.tape, h.output, by rw [World.size_setCell]; exact h.size, fun k hk hx => (Below.heap_setCell _ _ _ _ (fun e => by
    have e : k = b := e
    rcases hb with hb | hb
    · exact hx (e ▸ hb)
    · omega)).trans (h.block k hk hx)⟩
theorem FrX.alloc {X : Nat → Prop} {w w1 : World} (h : FrX X w w1) (o : Obj) : FrX X w (w1.alloc o) :=
  h.trans (FrX.below (X := X) ((Below.refl _ _).alloc (Nat.le_refl _) o)) (fun _ h => h) (fun _ _ h => h)
theorem FrX.drew {X : Nat → Prop} {w w1 : World} (h : FrX X w w1) : FrX X w w1.drew := ⟨h.os, h.tape, h.output, h.size, h.block⟩
end Go.Proofs.Ytalnicdpcigocaa.PM
namespace Go.Proofs.Ytalnicdpcigocaa.PL
open Go.RowKit Ps PM Go.Proofs.YtalnicdpcigocaaW.PrintWords Go.Proofs.YtalnicdpcigocaaW.PrintLast Go.Proofs.YtalnicdpcigocaaW.PrintMore
attribute [local go_sem] max2_int min2_int max_two min_two
set_option linter.unusedVariables false
set_option linter.unusedSimpArgs false
theorem nb {k a : Int} (h : k ≠ a) : (k == a) = false := beq_eq_false_iff_ne.mpr h
set_option maxHeartbeats 4000000 in
set_option maxRecDepth 100000 in
theorem stat_any (k : Int) (w : World) :
    Calls Try.prog 33 #[.int .u8 k] w fun e w' => e = .returned (.int .u8 (stat k)) ∧ w' = w := by
  have key : k = 10 ∨ k = 11 ∨ k = 12 ∨ k = 14 ∨ k = 15 ∨ k = 22 ∨ k = 6 ∨ k = 7 ∨ k = 8 ∨ k = 16 ∨ k = 17 ∨ k = 20 ∨ k = 34 ∨ k = 38 ∨
      (k ≠ 10 ∧ k ≠ 11 ∧ k ≠ 12 ∧ k ≠ 14 ∧ k ≠ 15 ∧ k ≠ 22 ∧ k ≠ 6 ∧ k ≠ 7 ∧ k ≠ 8 ∧ k ≠ 16 ∧ k ≠ 17 ∧ k ≠ 20 ∧ k ≠ 34 ∧ k ≠ 38) := by omega
  rcases key with rfl | rfl | rfl | rfl | rfl | rfl | rfl | rfl | rfl | rfl | rfl | rfl | rfl | rfl | ⟨h1, h2, h3, h4, h5, h6, h7, h8, h9, h10, h11, h12, h13, h14⟩
  case inr.inr.inr.inr.inr.inr.inr.inr.inr.inr.inr.inr.inr.inr =>
    have hs : stat k = 0 := by simp [stat, begins, nb h7, nb h8, nb h9, nb h10, nb h11, nb h12, nb h13, nb h14, h1, h2, h3, h4, h5, h6]
    rw [hs]
    have b1 := nb h1; have b2 := nb h2; have b3 := nb h3; have b4 := nb h4; have b5 := nb h5; have b6 := nb h6; have b7 := nb h7; have b8 := nb h8; have b9 := nb h9; have b10 := nb h10; have b11 := nb h11; have b12 := nb h12; have b13 := nb h13; have b14 := nb h14
    clear h1 h2 h3 h4 h5 h6 h7 h8 h9 h10 h11 h12 h13 h14
    go_enter Try.func33, Try.ntmps33
    go_wp2
    go_ret
    exact ⟨rfl, rfl⟩
  all_goals
    go_enter Try.func33, Try.ntmps33
    go_wp2
    go_ret
    exact ⟨rfl, rfl⟩
set_option maxHeartbeats 4000000 in
set_option maxRecDepth 100000 in
theorem lvl_any (k : Int) (w : World) :
    Calls Try.prog 77 #[.int .u8 k] w fun e w' => e = .returned (.int .i64 (lvl k)) ∧ w' = w := by
  have key : k = 40 ∨ k = 39 ∨ k = 33 ∨ k = 34 ∨ k = 35 ∨ k = 36 ∨ k = 37 ∨ (k ≠ 40 ∧ k ≠ 39 ∧ k ≠ 33 ∧ k ≠ 34 ∧ k ≠ 35 ∧ k ≠ 36 ∧ k ≠ 37) := by omega
  rcases key with rfl | rfl | rfl | rfl | rfl | rfl | rfl | ⟨h1, h2, h3, h4, h5, h6, h7⟩
  case inr.inr.inr.inr.inr.inr.inr =>
    have hs : lvl k = if 27 ≤ k ∧ k ≤ 32 then 3 else 0 := by simp [lvl, h1, h2, h3, h4, h5, h6, h7]
    rw [hs]
    have b1 := nb h1; have b2 := nb h2; have b3 := nb h3; have b4 := nb h4; have b5 := nb h5; have b6 := nb h6; have b7 := nb h7
    clear h1 h2 h3 h4 h5 h6 h7
    by_cases h : 27 ≤ k
    · have d1 : decide (27 ≤ k) = true := decide_eq_true h
      by_cases h' : k ≤ 32
      · have d2 : decide (k ≤ 32) = true := decide_eq_true h'
        rw [if_pos ⟨h, h'⟩]
        clear h h' hs
        go_enter Try.func77, Try.ntmps77
        go_wp2
        go_ret
        exact ⟨rfl, rfl⟩
      · have d2 : decide (k ≤ 32) = false := decide_eq_false h'
        rw [if_neg (fun e => h' e.2)]
        clear h h' hs
        go_enter Try.func77, Try.ntmps77
        go_wp2
        go_ret
        exact ⟨rfl, rfl⟩
    · have d1 : decide (27 ≤ k) = false := decide_eq_false h
      rw [if_neg (fun e => h e.1)]
      clear h hs
      go_enter Try.func77, Try.ntmps77
      go_wp2
      go_ret
      exact ⟨rfl, rfl⟩
  all_goals
    go_enter Try.func77, Try.ntmps77
    go_wp2
    go_ret
    exact ⟨rfl, rfl⟩
end Go.Proofs.Ytalnicdpcigocaa.PL
namespace Go.Proofs.Ytalnicdpcigocaa
/-- Operations that come to a value each, one behind the other. -/
def runList (P : Program) : List Oper → Act → World → Option (Act × World)
  | [], a, w => some (a, w)
  | o :: rest, a, w =>
    match o.guard with
    | some _ => none
    | none =>
      match (execOp a.eval o).run P w with
      | .ok (.value v) w' => runList P rest (a.put o.dst v) w'
      | .ok .skip w' => runList P rest (a.put o.dst undef) w'
      | _ => none
theorem wpList_of_run {P : Program} {ops : Array Oper} {Q : Exit → Act → World → Prop} {a' : Act} {w' : World} : ∀ (l : List Oper) (a : Act) (w : World), runList P l a w = some (a', w') → Q .normal a' w' → wpList P ops Q l a w
  | [], a, w, h, hq => by
    simp only [runList, Option.some.injEq, Prod.mk.injEq] at h
    obtain ⟨rfl, rfl⟩ := h
    exact wpList_nil hq
  | o :: rest, a, w, h, hq => by
    simp only [runList] at h
    split at h
    · cases h
    · rename_i hg
      refine wpList_plain hg (fun K hK => ?_)
      unfold Oper.wp
      split at h
      · rename_i v w1 he
        rw [he]
        exact hK _ _ (wpList_of_run rest _ _ h hq)
      · rename_i w1 he
        rw [he]
        exact hK _ _ (wpList_of_run rest _ _ h hq)
      · cases h
/-- One operation. -/
theorem wpList_run1 {P : Program} {ops : Array Oper} {Q : Exit → Act → World → Prop} {a' : Act} {w' : World} {o : Oper} {rest : List Oper} {a : Act} {w : World} (h : runList P [o] a w = some (a', w')) (hq : wpList P ops Q rest a' w') : wpList P ops Q (o :: rest) a w := by
  simp only [runList] at h
  split at h
  · cases h
  · rename_i hg
    refine wpList_plain hg (fun K hK => ?_)
    unfold Oper.wp
    split at h
    · rename_i v w1 he
      rw [he]
      simp only [Option.some.injEq, Prod.mk.injEq] at h
      obtain ⟨rfl, rfl⟩ := h
      exact hK _ _ hq
    · rename_i w1 he
      rw [he]
      simp only [Option.some.injEq, Prod.mk.injEq] at h
      obtain ⟨rfl, rfl⟩ := h
      exact hK _ _ hq
    · cases h
/-- The same where one slot alone is asked for behind it. -/
theorem wpList_of_run_slot {P : Program} {ops : Array Oper} {Q : Exit → Act → World → Prop} (t : Tmp) {v : Value} {w' : World} (l : List Oper) (a : Act) (w : World)
    (h : (runList P l a w).map (fun r => (r.1.tmps.getD t undef, r.1.defers, r.2)) = some (v, [], w')) (hq : ∀ a' : Act, a'.tmps.getD t undef = v → a'.defers = [] → Q .normal a' w') : wpList P ops Q l a w := by
  cases hr : runList P l a w with
  | none => rw [hr] at h; cases h
  | some r =>
    rw [hr] at h
    simp only [Option.map_some, Option.some.injEq, Prod.mk.injEq] at h
    obtain ⟨h1, h2, h3⟩ := h
    refine wpList_of_run (a' := r.1) (w' := r.2) l a w hr ?_
    rw [h3]
    exact hq _ h1 h2
/-- The same row where calls of functions stand in it that hand back one value each, as 'sum' tells. -/
def runListC (P : Program) (sum : FuncId → Array Value → World → Option (Value × World)) : List Oper → Act → World → Option (Act × World)
  | [], a, w => some (a, w)
  | o :: rest, a, w =>
    match o.guard with
    | some _ => none
    | none =>
      match (execOp a.eval o).run P w with
      | .ok (.value v) w' => runListC P sum rest (a.put o.dst v) w'
      | .ok .skip w' => runListC P sum rest (a.put o.dst undef) w'
      | .ok (.enter f args) w' => match sum f args w' with
        | some (v, w2) => runListC P sum rest (a.put o.dst v) w2
        | none => none
      | _ => none
theorem wpList_of_runC {P : Program} {sum : FuncId → Array Value → World → Option (Value × World)} (hsum : ∀ f args w v w2, sum f args w = some (v, w2) → Calls P f args w fun e w' => e = .returned v ∧ w2 = w')
    {ops : Array Oper} {Q : Exit → Act → World → Prop} {a' : Act} {w' : World} : ∀ (l : List Oper) (a : Act) (w : World), runListC P sum l a w = some (a', w') → Q .normal a' w' → wpList P ops Q l a w
  | [], a, w, h, hq => by
    simp only [runListC, Option.some.injEq, Prod.mk.injEq] at h
    obtain ⟨rfl, rfl⟩ := h
    exact wpList_nil hq
  | o :: rest, a, w, h, hq => by
    simp only [runListC] at h
    split at h
    · cases h
    · rename_i hg
      refine wpList_plain hg (fun K hK => ?_)
      unfold Oper.wp
      split at h
      · rename_i v w1 he
        rw [he]
        exact hK _ _ (wpList_of_runC hsum rest _ _ h hq)
      · rename_i w1 he
        rw [he]
        exact hK _ _ (wpList_of_runC hsum rest _ _ h hq)
      · rename_i f args w1 he
        rw [he]
        split at h
        · rename_i v w2 hs
          refine (hsum f args w1 v w2 hs).mono ?_
          rintro e w3 ⟨rfl, rfl⟩
          exact hK _ _ (wpList_of_runC hsum rest _ _ h hq)
        · cases h
      · cases h
theorem wpList_of_runC_slot {P : Program} {sum : FuncId → Array Value → World → Option (Value × World)} (hsum : ∀ f args w v w2, sum f args w = some (v, w2) → Calls P f args w fun e w' => e = .returned v ∧ w2 = w')
    {ops : Array Oper} {Q : Exit → Act → World → Prop} (t : Tmp) {v : Value} {w' : World} (l : List Oper) (a : Act) (w : World)
    (h : (runListC P sum l a w).map (fun r => (r.1.tmps.getD t undef, r.1.defers, r.2)) = some (v, [], w')) (hq : ∀ a' : Act, a'.tmps.getD t undef = v → a'.defers = [] → Q .normal a' w') : wpList P ops Q l a w := by
  cases hr : runListC P sum l a w with
  | none => rw [hr] at h; cases h
  | some r =>
    rw [hr] at h
    simp only [Option.map_some, Option.some.injEq, Prod.mk.injEq] at h
    obtain ⟨h1, h2, h3⟩ := h
    refine wpList_of_runC hsum (a' := r.1) (w' := r.2) l a w hr ?_
    rw [h3]
    exact hq _ h1 h2
/-- A literal whose cells are known. -/
theorem wpList_built {P : Program} {ops : Array Oper} {rest : List Oper} {o : Oper} {a : Act} {w : World} {Q : Exit → Act → World → Prop} (hg : o.guard = none) (t : TypeId) (parts : Array (Nat × Operand)) (ho : o.op = .build t parts)
    (l : List (Nat × Value)) (hl : (parts.map fun (i, x) => (i, a.eval x)).toList = l) (cs : Array Value) (hb : P.built t l = some cs) (h : wpList P ops Q rest (a.put o.dst (.agg cs)) w) : wpList P ops Q (o :: rest) a w := by
  subst hl
  exact wpList_build hg t parts ho (by rw [hb]; rfl) (by rw [hb]; exact h)
end Go.Proofs.Ytalnicdpcigocaa
namespace Go.Proofs.Ytalnicdpcigocaa.Gm

/-- The 74 rules: the part, the right-hand side. -/
def rules : List (Nat × List Nat) := [(51, [101]), (101, [102, 101]), (101, []), (102, [53]), (102, [54]), (102, [56]), (102, [57]), (102, [58]), (102, [52]), (102, [59]), (53, [10, 6, 26, 60, 25]), (54, [11, 6, 55, 52]), (55, [20, 103, 21]), (103, [6, 104]), (103, []), (104, [24, 6, 104]), (104, []), (56, [12, 60, 52, 105]), (105, [13, 106]), (105, []), (106, [56]), (106, [52]), (57, [14, 60, 52]), (58, [15, 107, 25]), (107, [60]), (107, []), (52, [22, 101, 23]), (59, [60, 108, 25]), (108, [26, 60]), (108, []), (60, [111]), (111, [112, 121]), (121, [40, 112, 121]), (121, []), (112, [113, 122]), (122, [39, 113, 122]), (122, []), (113, [114, 123]), (123, [27, 114, 123]), (123, [28, 114, 123]), (123, [29, 114, 123]), (123, [30, 114, 123]), (123, [31, 114, 123]), (123, [32, 114, 123]), (123, []), (114, [115, 124]), (124, [33, 115, 124]), (124, [34, 115, 124]), (124, []), (115, [116, 125]), (125, [35, 116, 125]), (125, [36, 116, 125]), (125, [37, 116, 125]), (125, []), (116, [34, 116]), (116, [38, 116]), (116, [117]), (117, [119, 118]), (118, [64, 118]), (118, []), (64, [20, 109, 21]), (109, [60, 110]), (109, []), (110, [24, 60, 110]), (110, []), (119, [66]), (119, [67]), (119, [65]), (66, [6]), (67, [7]), (67, [8]), (67, [16]), (67, [17]), (65, [20, 60, 21])]
def partL : List Nat := [51, 52, 53, 54, 55, 56, 57, 58, 59, 60, 64, 65, 66, 67, 101, 102, 103, 104, 105, 106, 107, 108, 109, 110, 111, 112, 113, 114, 115, 116, 117, 118, 119, 121, 122, 123, 124, 125]
def part (s : Nat) : Bool := partL.contains s
def emptyL : List Nat := [51, 101, 103, 104, 105, 107, 108, 121, 122, 123, 124, 125, 118, 109, 110]
def empty (s : Nat) : Bool := emptyL.contains s
/-- What begins each part, a bit a kind. -/
def firstT : List (Nat × Nat) := [(51, 0x440053ddc0), (52, 0x400000), (53, 0x400), (54, 0x800), (55, 0x100000), (56, 0x1000), (57, 0x4000), (58, 0x8000), (59, 0x44001301c0), (60, 0x44001301c0), (64, 0x100000), (65, 0x100000), (66, 0x40), (67, 0x30180), (101, 0x440053ddc0), (102, 0x440053ddc0), (103, 0x40), (104, 0x1000000), (105, 0x2000), (106, 0x401000), (107, 0x44001301c0), (108, 0x4000000), (109, 0x44001301c0), (110, 0x1000000), (111, 0x44001301c0), (112, 0x44001301c0), (113, 0x44001301c0), (114, 0x44001301c0), (115, 0x44001301c0), (116, 0x44001301c0), (117, 0x1301c0), (118, 0x100000), (119, 0x1301c0), (121, 0x10000000000), (122, 0x8000000000), (123, 0x1f8000000), (124, 0x600000000), (125, 0x3800000000)]
def followT : List (Nat × Nat) := [(6, 0x1bfff700000), (7, 0x1bfff700000), (8, 0x1bfff700000), (10, 0x40), (11, 0x40), (12, 0x44001301c0), (13, 0x401000), (14, 0x44001301c0), (15, 0x44021301c0), (16, 0x1bfff700000), (17, 0x1bfff700000), (20, 0x44003301c0), (21, 0x1bfff700000), (22, 0x4400d3ddc0), (23, 0x4400d3fdc1), (24, 0x44001301c0), (25, 0x4400d3ddc1), (26, 0x44001301c0), (27, 0x44001301c0), (28, 0x44001301c0), (29, 0x44001301c0), (30, 0x44001301c0), (31, 0x44001301c0), (32, 0x44001301c0), (33, 0x44001301c0), (34, 0x44001301c0), (35, 0x44001301c0), (36, 0x44001301c0), (37, 0x44001301c0), (38, 0x44001301c0), (39, 0x44001301c0), (40, 0x44001301c0), (51, 0x1), (52, 0x4400d3fdc1), (53, 0x4400d3ddc1), (54, 0x4400d3ddc1), (55, 0x400000), (56, 0x4400d3ddc1), (57, 0x4400d3ddc1), (58, 0x4400d3ddc1), (59, 0x4400d3ddc1), (60, 0x7600000), (64, 0x1bfff700000), (65, 0x1bfff700000), (66, 0x1bfff700000), (67, 0x1bfff700000), (101, 0x800001), (102, 0x4400d3ddc1), (103, 0x200000), (104, 0x200000), (105, 0x4400d3ddc1), (106, 0x4400d3ddc1), (107, 0x2000000), (108, 0x2000000), (109, 0x200000), (110, 0x200000), (111, 0x7600000), (112, 0x10007600000), (113, 0x18007600000), (114, 0x181ff600000), (115, 0x187ff600000), (116, 0x1bfff600000), (117, 0x1bfff600000), (118, 0x1bfff600000), (119, 0x1bfff700000), (121, 0x7600000), (122, 0x10007600000), (123, 0x18007600000), (124, 0x181ff600000), (125, 0x187ff600000)]
def look (t : List (Nat × Nat)) (s : Nat) : Nat := match t.find? (fun p => p.1 == s) with | some p => p.2 | none => 0
/-- What begins a symbol: a token begins with itself. -/
def first (s : Nat) : Nat := if 1 ≤ s ∧ s ≤ 40 then 2 ^ s else look firstT s
def follow (s : Nat) : Nat := look followT s
/-- What a row of symbols begins with; may it be empty? -/
def begins : List Nat → Nat × Bool
  | [] => (0, true)
  | s :: l => if empty s then ((first s) ||| (begins l).1, (begins l).2) else (first s, false)
def does (r : Nat × List Nat) (kind : Nat) : Bool :=
  decide (kind < 64) && ((decide (0 < kind) && (begins r.2).1.testBit kind) || ((begins r.2).2 && (follow r.1).testBit kind))
def choose (s kind : Nat) : Option Nat := rules.findIdx? (fun r => r.1 == s && does r kind)
def right (n : Nat) : List Nat := (rules.getD n (0, [])).2
end Go.Proofs.Ytalnicdpcigocaa.Gm
namespace Go.Proofs.Ytalnicdpcigocaa.GR
open Go.RowKit Go.Proofs.YtalnicdpcigocaaW.PrintWords Go.Proofs.YtalnicdpcigocaaW.PrintLast Go.Proofs.YtalnicdpcigocaaW.PrintMore
set_option linter.unusedVariables false
set_option linter.unusedSimpArgs false
def u8s (l : List Nat) : Array Value := (l.map (fun (n : Nat) => Value.int .u8 (Int.ofNat n))).toArray
/-- new blocks, one behind the other -/
def allocs (w : World) (l : List Obj) : World := l.foldl World.alloc w
theorem heap_allocs : ∀ (l : List Obj) (w : World), (allocs w l).heap = w.heap ++ l.toArray
  | [], w => by simp [allocs]
  | o :: l, w => by
    show (allocs (w.alloc o) l).heap = _
    rw [heap_allocs l]
    show w.heap.push o ++ l.toArray = _
    rw [← Array.toList_inj]; simp
theorem size_allocs (l : List Obj) (w : World) : (allocs w l).heap.size = w.heap.size + l.length := by rw [heap_allocs]; simp
theorem allocs_at (l : List Obj) (w : World) (i : Nat) (h : i < l.length) : (allocs w l).heap[w.heap.size + i]? = l[i]? := by
  rw [heap_allocs, Array.getElem?_append_right (by omega)]; simp
theorem allocs_below : ∀ (l : List Obj) (w w0 : World) (B : Nat), Below B w0 w → B ≤ w.heap.size → Below B w0 (allocs w l)
  | [], _, _, _, h, _ => h
  | o :: l, w, w0, B, h, hB => allocs_below l (w.alloc o) w0 B (h.alloc hB o) (by rw [World.size_alloc]; omega)
def nrule (n : Nat) : Nat × List Nat := Gm.rules.getD n (0, [])
/-- the cells of a table of rules: row n lies in block B n -/
def tabCells (B : Nat → Nat) : Nat → Nat → List Value
  | _, 0 => []
  | k, m + 1 => Value.int .u8 (Int.ofNat (nrule k).1) :: .slice (some ⟨B k, 0, none⟩) (nrule k).2.length (nrule k).2.length :: tabCells B (k + 1) m
theorem tabCells_at (B : Nat → Nat) : ∀ (m k n : Nat), n < m → (tabCells B k m)[n * 2]? = some (.int .u8 (Int.ofNat (nrule (k + n)).1)) ∧ (tabCells B k m)[n * 2 + 1]? = some (.slice (some ⟨B (k + n), 0, none⟩) (nrule (k + n)).2.length (nrule (k + n)).2.length)
  | 0, _, _, h => absurd h (by omega)
  | m + 1, k, 0, _ => ⟨rfl, rfl⟩
  | m + 1, k, n + 1, h => by
    have ih := tabCells_at B m (k + 1) n (by omega)
    rw [show k + (n + 1) = k + 1 + n by omega, show (n + 1) * 2 = n * 2 + 1 + 1 by omega]
    exact ih
theorem tabCells_congr {B B' : Nat → Nat} : ∀ (m k : Nat), (∀ n, k ≤ n → n < k + m → B n = B' n) → tabCells B k m = tabCells B' k m
  | 0, _, _ => rfl
  | m + 1, k, h => by
    simp only [tabCells]
    rw [h k (by omega) (by omega), tabCells_congr m (k + 1) (fun n h1 h2 => h n (by omega) (by omega))]
/-- A table of the rules at block g, of element type T; row n at block B n. -/
structure IsRules (w : World) (T : TypeId) (g : Nat) (B : Nat → Nat) : Prop where
  tab : w.heap[g]? = some (.cells (tabCells B 0 74).toArray T (0, 0))
  row : ∀ n, n < 74 → w.heap[B n]? = some (.cells (u8s (nrule n).2) 5 (0, 0))
theorem IsRules.move {w w1 : World} {T : TypeId} {g : Nat} {B : Nat → Nat} (h : IsRules w T g B) (hg : w1.heap[g]? = w.heap[g]?) (hr : ∀ n, n < 74 → w1.heap[B n]? = w.heap[B n]?) : IsRules w1 T g B :=
  ⟨hg.trans h.tab, fun n hn => (hr n hn).trans (h.row n hn)⟩
theorem IsRules.below {w w1 : World} {T : TypeId} {g : Nat} {B : Nat → Nat} (h : IsRules w T g B) (hb : Below w.heap.size w w1) : IsRules w1 T g B :=
  h.move (hb.block _ (blk_lt h.tab)) (fun n hn => hb.block _ (blk_lt (h.row n hn)))
theorem IsRules.part {w : World} {T : TypeId} {g : Nat} {B : Nat → Nat} (h : IsRules w T g B) (n : Nat) (hn : n < 74) : w.cell? ⟨g, n * 2, none⟩ = some (.int .u8 (Int.ofNat (nrule n).1)) := by
  rw [blk_cell h.tab]
  have := (tabCells_at B 74 0 n hn).1
  rw [Nat.zero_add] at this
  simpa using this
theorem IsRules.right {w : World} {T : TypeId} {g : Nat} {B : Nat → Nat} (h : IsRules w T g B) (n : Nat) (hn : n < 74) : w.cell? ⟨g, n * 2 + 1, none⟩ = some (.slice (some ⟨B n, 0, none⟩) (nrule n).2.length (nrule n).2.length) := by
  rw [blk_cell h.tab]
  have := (tabCells_at B 74 0 n hn).2
  rw [Nat.zero_add] at this
  simpa using this
theorem u8s_at (l : List Nat) (j : Nat) (h : j < l.length) : (u8s l)[j]? = some (.int .u8 (Int.ofNat (l.getD j 0))) := by
  unfold u8s
  simp [List.getElem?_eq_getElem h]
theorem IsRules.sym {w : World} {T : TypeId} {g : Nat} {B : Nat → Nat} (h : IsRules w T g B) (n : Nat) (hn : n < 74) (j : Nat) (hj : j < (nrule n).2.length) : w.cell? ⟨B n, j, none⟩ = some (.int .u8 (Int.ofNat ((nrule n).2.getD j 0))) := by
  rw [blk_cell (h.row n hn), u8s_at _ _ hj]

def rowObjs : List Obj := (List.range 74).map (fun n => .cells (u8s (nrule n).2) 5)
theorem rowObjs_length : rowObjs.length = 74 := by unfold rowObjs; simp
def tabObj (w : World) : Obj := .cells (tabCells (fun n => (allocs w (rowObjs.take n)).heap.size) 0 74).toArray 95
set_option maxRecDepth 100000 in
theorem rules_run (w : World) :
    Calls Try.prog 86 #[] w fun e w' => e = .returned (.slice (some ⟨(allocs w rowObjs).heap.size, 0, none⟩) 74 74) ∧ w' = (allocs w rowObjs).alloc (tabObj w) := by
  refine calls_of_wp Try.func86 rfl ?_
  refine wp_seq_k (fun K hK => ?_)
  refine wp_region_lit ?_
  refine wpList_of_run _ _ _ (a' := { tmps := (Array.replicate 150 undef).setIfInBounds 0 (.slice none 0 0), defers := [] }) (w' := w) (by kernel_rfl) ?_
  refine hK _ _ ?_
  refine wp_seq_k (fun K2 hK2 => ?_)
  refine wp_region_lit ?_
  refine wpList_of_run_slot 0 (v := .slice (some ⟨(allocs w rowObjs).heap.size, 0, none⟩) 74 74) (w' := (allocs w rowObjs).alloc (tabObj w)) _ _ _ (by kernel_rfl) (fun a' h1 h2 => ?_)
  refine hK2 _ _ (wp_ret ?_)
  exact bodyPost_ret (v := .slice (some ⟨(allocs w rowObjs).heap.size, 0, none⟩) 74 74) (by rw [results_tmp rfl, h1]) h2 ⟨rfl, rfl⟩
theorem rules_any (w : World) :
    Calls Try.prog 86 #[] w fun e w' => e = .returned (.slice (some ⟨w.heap.size + 74, 0, none⟩) 74 74) ∧ IsRules w' 95 (w.heap.size + 74) (fun n => w.heap.size + n) ∧ Below w.heap.size w w' ∧ w'.heap.size = w.heap.size + 75 := by
  refine (rules_run w).mono ?_
  rintro e w' ⟨rfl, rfl⟩
  have hs : (allocs w rowObjs).heap.size = w.heap.size + 74 := by rw [size_allocs, rowObjs_length]
  have hb := allocs_below rowObjs w w w.heap.size (Below.refl _ _) (Nat.le_refl _)
  refine ⟨by rw [hs], ⟨?_, fun n hn => ?_⟩, hb.alloc (by omega) _, by rw [World.size_alloc, hs]⟩
  · rw [← hs, heap_alloc_new]
    unfold tabObj
    rw [tabCells_congr 74 0 (B' := fun n => w.heap.size + n)]
    intro n _ hn
    rw [size_allocs, List.length_take, rowObjs_length]
    omega
  · rw [heap_alloc_old (allocs w rowObjs) (tabObj w) (show w.heap.size + n < (allocs w rowObjs).heap.size by omega), allocs_at _ _ _ (by rw [rowObjs_length]; exact hn)]
    unfold rowObjs
    simp [hn]
end Go.Proofs.Ytalnicdpcigocaa.GR
namespace Go.Proofs.Ytalnicdpcigocaa.GR
open Go.RowKit Go.Proofs.YtalnicdpcigocaaW.PrintWords Go.Proofs.YtalnicdpcigocaaW.PrintLast Go.Proofs.YtalnicdpcigocaaW.PrintMore
set_option linter.unusedVariables false
set_option linter.unusedSimpArgs false
/-- A table of numbers as cells. -/
def tabArr (t : List (Nat × Nat)) : Array Value := ((List.range 256).map (fun s => Value.int .u64 (Int.ofNat (Gm.look t s)))).toArray
def zeros64 : Array Value := Array.replicate 256 (Value.int .u64 0)
def fcells : Nat → Array Value
  | 0 => tabArr Gm.firstT
  | k + 1 => (fcells k).setIfInBounds (k + 1) (.int .u64 (Int.ofNat (2 ^ (k + 1))))
def firstsArr : Array Value := ((List.range 256).map (fun s => Value.int .u64 (Int.ofNat (Gm.first s)))).toArray
theorem fcells_size : ∀ k, (fcells k).size = 256
  | 0 => by decide +kernel
  | k + 1 => by rw [fcells, Array.size_setIfInBounds, fcells_size k]
theorem fcells_get (k : Nat) (h : k < 40) : (fcells k)[k + 1]? = some (.int .u64 0) := by
  have : (List.range 40).all (fun k => match (fcells k)[k + 1]? with | some (.int .u64 0) => true | _ => false) = true := by decide +kernel
  have := List.all_eq_true.1 this k (by simpa using h)
  split at this
  · assumption
  · cases this
theorem shl_wrap (k : Nat) (h : k < 40) : IntKind.u64.wrap ((2 : Int) ^ (k + 1)) = Int.ofNat (2 ^ (k + 1)) := by
  have : ∀ k, k < 40 → IntKind.u64.wrap ((2 : Int) ^ (k + 1)) = Int.ofNat (2 ^ (k + 1)) := by decide +kernel
  exact this k h
theorem fcells_end : fcells 40 = firstsArr := by kernel_rfl
theorem zeros_new (w : World) (t : TypeId) : (w.alloc (.cells zeros64 t)).heap[w.heap.size]? = some (.cells zeros64 t (0, 0)) := heap_alloc_new _ _
set_option maxRecDepth 100000 in
theorem follows_any (w : World) :
    Calls Try.prog 88 #[] w fun e w' => e = .returned (.agg (tabArr Gm.followT)) ∧ Below w.heap.size w w' := by
  refine calls_of_wp Try.func88 rfl ?_
  refine wp_seq_k (fun K hK => ?_)
  refine wp_region_lit ?_
  refine wpList_of_run _ _ _ (a' := { tmps := #[.pointer (some ⟨w.heap.size, 0, none⟩), undef], defers := [] }) (w' := w.alloc (.cells zeros64 88)) (by kernel_rfl) ?_
  refine hK _ _ ?_
  clear hK K
  refine wp_seq_k (fun K hK => ?_)
  refine wp_region_lit ?_
  refine wpList_run1 (a' := { tmps := #[.pointer (some ⟨w.heap.size, 0, none⟩), .agg (tabArr Gm.followT)], defers := [] }) (w' := w.alloc (.cells zeros64 88)) (by kernel_rfl) ?_
  refine wpList_plain rfl (fun K2 hK2 => wp_store_row _ _ _ rfl w.heap.size (tabArr Gm.followT) rfl rfl 88 zeros64 (zeros_new w _) (by kernel_rfl) (by kernel_rfl) (by kernel_rfl) (hK2 _ _ (wpList_nil ?_)))
  clear hK2 K2
  refine hK _ _ (wp_ret ?_)
  clear hK K
  refine bodyPost_ret (v := .agg (tabArr Gm.followT)) (results_cell_row rfl _ _ w.heap.size 88 (tabArr Gm.followT) (0, 0) (.array 256 87) rfl (setRow_heap _ _ _ _ _ _ (zeros_new w _)) (by kernel_rfl) rfl (by kernel_rfl)) rfl ⟨rfl, ?_⟩
  exact below_setRow ((Below.refl _ _).alloc (Nat.le_refl _) _) (Nat.le_refl _) _
set_option maxRecDepth 100000 in
set_option maxHeartbeats 1000000 in
theorem firsts_any (w : World) :
    Calls Try.prog 87 #[] w fun e w' => e = .returned (.agg firstsArr) ∧ Below w.heap.size w w' := by
  refine calls_of_wp Try.func87 rfl ?_
  refine wp_seq_k (fun K hK => ?_)
  refine wp_region_lit ?_
  refine wpList_of_run _ _ _ (a' := { tmps := (Array.replicate 12 undef).setIfInBounds 0 (.pointer (some ⟨w.heap.size, 0, none⟩)), defers := [] }) (w' := w.alloc (.cells zeros64 88)) (by kernel_rfl) ?_
  refine hK _ _ ?_
  clear hK K
  refine wp_seq_k (fun K hK => ?_)
  refine wp_region_lit ?_
  refine wpList_run1 (a' := { tmps := #[.pointer (some ⟨w.heap.size, 0, none⟩), undef, .agg (fcells 0), undef, undef, undef, undef, undef, undef, undef, undef, undef], defers := [] }) (w' := w.alloc (.cells zeros64 88)) (by kernel_rfl) ?_
  refine wpList_plain rfl (fun K2 hK2 => wp_store_row _ _ _ rfl w.heap.size (fcells 0) rfl rfl 88 zeros64 (zeros_new w _) (by kernel_rfl) (by kernel_rfl) (by kernel_rfl) (hK2 _ _ (wpList_nil ?_)))
  clear hK2 K2
  refine hK _ _ ?_
  clear hK K
  have HB : Below w.heap.size w ((w.alloc (.cells zeros64 88)).setRow w.heap.size (fcells 0)) := below_setRow ((Below.refl _ _).alloc (Nat.le_refl _) _) (Nat.le_refl _) _
  have HH := setRow_heap _ _ _ (fcells 0) _ _ (zeros_new w 88)
  generalize ((w.alloc (.cells zeros64 88)).setRow w.heap.size (fcells 0)) = W at *
  generalize w.heap.size = g at *
  show Code.wp _ _ _ { tmps := #[.pointer (some ⟨g, 0, none⟩), undef, .agg (fcells 0), undef, undef, undef, undef, undef, undef, undef, undef, undef], defers := [] } W
  generalize Value.agg (fcells 0) = f0
  go_wp2
  go_loopw [1] (fun i wr => ∃ k : Nat, k ≤ 40 ∧ i = .int .u8 (k + 1 : Nat) ∧ wr.heap[g]? = some (.cells (fcells k) 88 (0, 0)) ∧ Below g w wr) (fun i _ => 41 - (intOf i).toNat)
  case atStart => exact ⟨0, by omega, rfl, HH, HB⟩
  case round =>
    obtain ⟨k, hk, rfl, hc, hb⟩ := hrel
    by_cases hlt : k < 40
    · have hcell := blk_cell hc (k + 1)
      rw [fcells_get k hlt] at hcell
      have hfr := blk_frozen hc (k + 1)
      have hset := blk_set hc (k + 1) (.int .u64 (IntKind.u64.wrap ((2 : Int) ^ (k + 1))))
      go_wp2
      go_roundw
      case rel => exact ⟨k + 1, by omega, by go_num, by rw [hset, shl_wrap k hlt]; rfl, hb.setCell (p := ⟨g, k + 1, none⟩) (Nat.le_refl _) _⟩
      case measure => simp [intOf]; omega
    · obtain rfl : k = 40 := by omega
      go_wp2_with (first | (refine wpList_load_row rfl 88 (.tmp 0) rfl g rfl 88 (fcells 40) (0, 0) (.array 256 87) hc rfl rfl (by kernel_rfl) ?_) | (refine wpList_plain rfl (fun K2 hK2 => wp_store_row 88 (.tmp 0) (.tmp 11) rfl g (fcells 40) rfl rfl 88 (fcells 40) hc (by kernel_rfl) (by kernel_rfl) (by kernel_rfl) (hK2 _ _ (wpList_nil ?_)))))
      refine bodyPost_ret (v := .agg firstsArr) ?_ rfl ⟨rfl, below_setRow hb (Nat.le_refl _) _⟩
      rw [← fcells_end]
      exact results_cell_row rfl _ _ g 88 (fcells 40) (0, 0) (.array 256 87) rfl (setRow_heap _ _ _ _ _ _ hc) (by kernel_rfl) rfl (by kernel_rfl)
end Go.Proofs.Ytalnicdpcigocaa.GR
namespace Go.Proofs.Ytalnicdpcigocaa.GR
open Go.RowKit Go.Proofs.YtalnicdpcigocaaW.PrintWords Go.Proofs.YtalnicdpcigocaaW.PrintLast Go.Proofs.YtalnicdpcigocaaW.PrintMore
set_option linter.unusedVariables false
set_option linter.unusedSimpArgs false
/-- The cells of what is known: the rules, what begins, what follows, which are empty, which are parts. -/
def knownCells (t : Addr) (e p : Nat → Bool) : Array Value :=
  (Value.slice (some t) 74 74 :: ((List.range 256).map (fun s => Value.int .u64 (Int.ofNat (Gm.first s))) ++ ((List.range 256).map (fun s => Value.int .u64 (Int.ofNat (Gm.follow s))) ++ ((List.range 256).map (fun s => Value.bool (e s)) ++ (List.range 256).map (fun s => Value.bool (p s)))))).toArray
theorem known_built (t : Addr) : (Try.prog.built 91 [(0, .slice (some t) 74 74), (1, .agg firstsArr), (2, .agg (tabArr Gm.followT))]) = some (knownCells t (fun _ => false) (fun _ => false)) := by kernel_rfl
theorem app_at {α : Type} {a b : List α} {n : Nat} {v : α} (h : b[n]? = some v) : (a ++ b)[a.length + n]? = some v := by rw [List.getElem?_append_right (by omega)]; simpa using h
theorem map_at {α : Type} (f : Nat → α) (n : Nat) (h : n < 256) : ((List.range 256).map f)[n]? = some (f n) := by simp [h]
theorem map_len {α : Type} (f : Nat → α) : ((List.range 256).map f).length = 256 := by simp
variable (t : Addr) (e p : Nat → Bool)
theorem known_first (s : Nat) (h : s < 256) : (knownCells t e p)[1 + s]? = some (.int .u64 (Int.ofNat (Gm.first s))) := by
  unfold knownCells
  rw [List.getElem?_toArray, Nat.add_comm 1 s, List.getElem?_cons_succ, List.getElem?_append_left (by rw [map_len]; exact h), map_at _ _ h]
theorem known_follow (s : Nat) (h : s < 256) : (knownCells t e p)[257 + s]? = some (.int .u64 (Int.ofNat (Gm.follow s))) := by
  unfold knownCells
  rw [List.getElem?_toArray, show 257 + s = (256 + s) + 1 by omega, List.getElem?_cons_succ]
  have := app_at (a := (List.range 256).map (fun s => Value.int .u64 (Int.ofNat (Gm.first s)))) (b := ((List.range 256).map (fun s => Value.int .u64 (Int.ofNat (Gm.follow s))) ++ ((List.range 256).map (fun s => Value.bool (e s)) ++ (List.range 256).map (fun s => Value.bool (p s))))) (n := s) (v := .int .u64 (Int.ofNat (Gm.follow s))) (by rw [List.getElem?_append_left (by rw [map_len]; exact h), map_at _ _ h])
  rwa [map_len] at this
theorem known_empty (s : Nat) (h : s < 256) : (knownCells t e p)[513 + s]? = some (.bool (e s)) := by
  unfold knownCells
  rw [List.getElem?_toArray, show 513 + s = (256 + (256 + s)) + 1 by omega, List.getElem?_cons_succ]
  have := app_at (a := (List.range 256).map (fun s => Value.int .u64 (Int.ofNat (Gm.first s)))) (n := 256 + s) (v := .bool (e s)) (app_at (a := (List.range 256).map (fun s => Value.int .u64 (Int.ofNat (Gm.follow s)))) (b := (List.range 256).map (fun s => Value.bool (e s)) ++ (List.range 256).map (fun s => Value.bool (p s))) (n := s) (v := .bool (e s)) (by rw [List.getElem?_append_left (by rw [map_len]; exact h), map_at _ _ h]) |> fun q => by rwa [map_len] at q)
  rwa [map_len] at this
theorem known_part (s : Nat) (h : s < 256) : (knownCells t e p)[769 + s]? = some (.bool (p s)) := by
  unfold knownCells
  rw [List.getElem?_toArray, show 769 + s = (256 + (256 + (256 + s))) + 1 by omega, List.getElem?_cons_succ]
  have h1 := app_at (a := (List.range 256).map (fun s => Value.bool (e s))) (n := s) (v := .bool (p s)) (map_at (fun s => Value.bool (p s)) s h)
  rw [map_len] at h1
  have h2 := app_at (a := (List.range 256).map (fun s => Value.int .u64 (Int.ofNat (Gm.follow s)))) h1
  rw [map_len] at h2
  have h3 := app_at (a := (List.range 256).map (fun s => Value.int .u64 (Int.ofNat (Gm.first s)))) h2
  rwa [map_len] at h3
theorem map_set {α : Type} (f : Nat → α) (n : Nat) (v : α) (h : n < 256) : ((List.range 256).map f).set n v = (List.range 256).map (fun s => if s = n then v else f s) := by
  apply List.ext_getElem
  · simp
  · intro i h1 h2
    simp only [List.getElem_set, List.getElem_map, List.getElem_range]
    by_cases hi : n = i
    · simp [hi]
    · have : ¬ i = n := fun e => hi e.symm
      simp [hi, this]
theorem app_set {α : Type} (a b : List α) (n : Nat) (v : α) : (a ++ b).set (a.length + n) v = a ++ b.set n v := by
  rw [List.set_append_right _ _ (by omega)]; simp
theorem map_bool (f : Nat → Bool) (s : Nat) : (fun i => if i = s then Value.bool true else Value.bool (f i)) = (fun i => Value.bool (if i = s then true else f i)) := by
  funext i; split <;> rfl
theorem known_setPart (s : Nat) (h : s < 256) : (knownCells t e p).setIfInBounds (769 + s) (.bool true) = knownCells t e (fun i => if i = s then true else p i) := by
  unfold knownCells
  rw [List.setIfInBounds_toArray, show 769 + s = (256 + (256 + (256 + s))) + 1 by omega, List.set_cons_succ]
  have h1 := app_set ((List.range 256).map (fun s => Value.bool (e s))) ((List.range 256).map (fun s => Value.bool (p s))) s (.bool true)
  rw [map_len, map_set _ _ _ h, map_bool] at h1
  have h2 := app_set ((List.range 256).map (fun s => Value.int .u64 (Int.ofNat (Gm.follow s)))) ((List.range 256).map (fun s => Value.bool (e s)) ++ (List.range 256).map (fun s => Value.bool (p s))) (256 + s) (.bool true)
  rw [map_len, h1] at h2
  have h3 := app_set ((List.range 256).map (fun s => Value.int .u64 (Int.ofNat (Gm.first s)))) ((List.range 256).map (fun s => Value.int .u64 (Int.ofNat (Gm.follow s))) ++ ((List.range 256).map (fun s => Value.bool (e s)) ++ (List.range 256).map (fun s => Value.bool (p s)))) (256 + (256 + s)) (.bool true)
  rw [map_len, h2] at h3
  rw [h3]
theorem known_setEmpty (s : Nat) (h : s < 256) : (knownCells t e p).setIfInBounds (513 + s) (.bool true) = knownCells t (fun i => if i = s then true else e i) p := by
  unfold knownCells
  rw [List.setIfInBounds_toArray, show 513 + s = (256 + (256 + s)) + 1 by omega, List.set_cons_succ]
  have h1 : ((List.range 256).map (fun s => Value.bool (e s)) ++ (List.range 256).map (fun s => Value.bool (p s))).set s (.bool true) = (List.range 256).map (fun i => Value.bool (if i = s then true else e i)) ++ (List.range 256).map (fun s => Value.bool (p s)) := by
    rw [List.set_append_left _ _ (by rw [map_len]; exact h), map_set _ _ _ h, map_bool]
  have h2 := app_set ((List.range 256).map (fun s => Value.int .u64 (Int.ofNat (Gm.follow s)))) ((List.range 256).map (fun s => Value.bool (e s)) ++ (List.range 256).map (fun s => Value.bool (p s))) s (.bool true)
  rw [map_len, h1] at h2
  have h3 := app_set ((List.range 256).map (fun s => Value.int .u64 (Int.ofNat (Gm.first s)))) ((List.range 256).map (fun s => Value.int .u64 (Int.ofNat (Gm.follow s))) ++ ((List.range 256).map (fun s => Value.bool (e s)) ++ (List.range 256).map (fun s => Value.bool (p s)))) (256 + s) (.bool true)
  rw [map_len, h2] at h3
  rw [h3]
end Go.Proofs.Ytalnicdpcigocaa.GR
namespace Go.Proofs.Ytalnicdpcigocaa.GR
open Go.RowKit Go.Proofs.YtalnicdpcigocaaW.PrintWords Go.Proofs.YtalnicdpcigocaaW.PrintLast Go.Proofs.YtalnicdpcigocaaW.PrintMore
set_option linter.unusedVariables false
set_option linter.unusedSimpArgs false
/-- What is known of the rules lies at block g; its table of rules at block r, row n of it at block B n. -/
structure IsKnown (w : World) (g r : Nat) (B : Nat → Nat) : Prop where
  cells : w.heap[g]? = some (.cells (knownCells ⟨r, 0, none⟩ Gm.empty Gm.part) 91 (0, 0))
  rules : IsRules w 95 r B
theorem IsKnown.below {w w1 : World} {g r : Nat} {B : Nat → Nat} (h : IsKnown w g r B) (hb : Below w.heap.size w w1) : IsKnown w1 g r B :=
  ⟨(hb.block _ (blk_lt h.cells)).trans h.cells, h.rules.below hb⟩
/-- which are parts behind so many rules; which are empty behind so many symbols -/
def partTo (k : Nat) (s : Nat) : Bool := (Gm.rules.take k).any (fun r => r.1 == s)
theorem nrule_lt (k : Nat) : (nrule k).1 < 256 := by
  by_cases h : k < 74
  · have : (List.range 74).all (fun k => decide ((nrule k).1 < 256)) = true := by decide +kernel
    simpa using List.all_eq_true.1 this k (by simpa using h)
  · have : nrule k = (0, []) := by
      unfold nrule
      rw [List.getD_eq_getElem?_getD, List.getElem?_eq_none (by have h74 : Gm.rules.length = 74 := by decide +kernel
                                                                omega)]
      rfl
    rw [this]; decide
theorem or_if (b : Bool) (x i : Nat) {c : Bool} (h : c = (x == i)) : (b || c) = if i = x then true else b := by
  subst h
  by_cases hi : i = x
  · subst hi; simp
  · have : (x == i) = false := by simpa using fun e => hi e.symm
    simp [hi, this]
theorem or_if' (b : Bool) (x i : Nat) {c : Bool} (h : c = (i == x)) : (b || c) = if i = x then true else b := by
  subst h
  by_cases hi : i = x
  · subst hi; simp
  · simp [hi]
theorem partTo_succ (k : Nat) (h : k < 74) : partTo (k + 1) = fun i => if i = (nrule k).1 then true else partTo k i := by
  funext i
  unfold partTo nrule
  have h74 : Gm.rules.length = 74 := by decide +kernel
  rw [List.take_succ_eq_append_getElem (by omega), List.any_append, List.getD_eq_getElem?_getD, List.getElem?_eq_getElem (by omega)]
  simp only [List.any_cons, List.any_nil, Bool.or_false, Option.getD_some]
  exact or_if _ _ _ rfl
theorem IsRules.set {w : World} {T : TypeId} {r g : Nat} {B : Nat → Nat} (h : IsRules w T r B) (hr : r ≠ g) (hB : ∀ n, n < 74 → B n ≠ g) (j : Nat) (v : Value) : IsRules (w.setCell ⟨g, j, none⟩ v) T r B :=
  h.move (Below.heap_setCell w _ v _ hr) (fun n hn => Below.heap_setCell w _ v _ (hB n hn))
def emptyTo (k : Nat) (s : Nat) : Bool := (Gm.emptyL.take k).contains s
theorem emptyL_len : Gm.emptyL.length = 15 := by decide
theorem emptyTo_succ (k : Nat) (h : k < 15) : emptyTo (k + 1) = fun i => if i = Gm.emptyL.getD k 0 then true else emptyTo k i := by
  funext i
  unfold emptyTo
  rw [List.take_succ_eq_append_getElem (by rw [emptyL_len]; exact h), List.getD_eq_getElem?_getD, List.getElem?_eq_getElem (by rw [emptyL_len]; exact h)]
  simp only [List.contains_eq_any_beq, List.any_append, List.any_cons, List.any_nil, Bool.or_false, Option.getD_some]
  exact or_if' _ _ _ rfl
theorem emptyL_lt (k : Nat) (h : k < 15) : Gm.emptyL.getD k 0 < 256 := by
  have : (List.range 15).all (fun k => decide (Gm.emptyL.getD k 0 < 256)) = true := by decide +kernel
  simpa using List.all_eq_true.1 this k (by simpa using h)
theorem known_congr (t : Addr) {e e' p p' : Nat → Bool} (he : ∀ s, s < 256 → e s = e' s) (hp : ∀ s, s < 256 → p s = p' s) : knownCells t e p = knownCells t e' p' := by
  unfold knownCells
  have h1 : (List.range 256).map (fun s => Value.bool (e s)) = (List.range 256).map (fun s => Value.bool (e' s)) := List.map_congr_left (fun s hs => by rw [he s (by simpa using hs)])
  have h2 : (List.range 256).map (fun s => Value.bool (p s)) = (List.range 256).map (fun s => Value.bool (p' s)) := List.map_congr_left (fun s hs => by rw [hp s (by simpa using hs)])
  rw [h1, h2]
theorem known_end (t : Addr) : knownCells t (emptyTo 15) (partTo 74) = knownCells t Gm.empty Gm.part := by
  have h1 : (List.range 256).all (fun s => emptyTo 15 s == Gm.empty s) = true := by decide +kernel
  have h2 : (List.range 256).all (fun s => partTo 74 s == Gm.part s) = true := by decide +kernel
  exact known_congr t (fun s hs => by simpa using List.all_eq_true.1 h1 s (by simpa using hs)) (fun s hs => by simpa using List.all_eq_true.1 h2 s (by simpa using hs))
set_option maxRecDepth 100000 in
set_option maxHeartbeats 1000000 in
theorem ready_any (w : World) :
    Calls Try.prog 81 #[] w fun e w' => ∃ g r B, e = .returned (.pointer (some ⟨g, 0, none⟩)) ∧ w.heap.size ≤ g ∧ IsKnown w' g r B ∧ Below w.heap.size w w' := by
  go_enter Try.func81, Try.ntmps81
  go_wp2_with fail
  refine (rules_any _).mono ?_
  rintro e w1 ⟨rfl, hR, hb1, hs1⟩
  have HR := Aside0.mk hR
  have HB1 := Aside0.mk hb1
  have HS1 := Aside0.mk hs1
  clear hR hb1 hs1
  go_wp2_with fail
  refine (firsts_any _).mono ?_
  rintro e w2 ⟨rfl, hb2⟩
  have HB2 := Aside0.mk hb2
  clear hb2
  generalize hfa : firstsArr = fa
  have HFA := Aside0.mk hfa
  clear hfa
  go_wp2_with fail
  refine (follows_any _).mono ?_
  rintro e w3 ⟨rfl, hb3⟩
  have HB3 := Aside0.mk hb3
  clear hb3
  generalize hfo : tabArr Gm.followT = fo
  have HFO := Aside0.mk hfo
  clear hfo
  have hkn := heap_alloc_new w3 (.cells (knownCells ⟨w.heap.size + 74, 0, none⟩ (fun _ => false) (fun _ => false)) 91)
  have hc0 : (w3.alloc (.cells (knownCells ⟨w.heap.size + 74, 0, none⟩ (fun _ => false) (fun _ => false)) 91)).cell? ⟨w3.heap.size, 0, none⟩ = some (.slice (some ⟨w.heap.size + 74, 0, none⟩) 74 74) := by rw [blk_cell hkn]; rfl
  have HKN := Aside0.mk hkn
  clear hkn
  go_wp2_with (refine wpList_built rfl 91 _ rfl [(0, .slice (some ⟨w.heap.size + 74, 0, none⟩) 74 74), (1, .agg fa), (2, .agg fo)] (by kernel_rfl) (knownCells ⟨w.heap.size + 74, 0, none⟩ (fun _ => false) (fun _ => false)) (by rw [← HFA.out, ← HFO.out]; exact known_built _) ?_)
  clear hc0
  have hsz1 : w.heap.size ≤ w1.heap.size := HB1.out.size
  have hsz2 : w1.heap.size ≤ w2.heap.size := HB2.out.size
  have hsz3 : w2.heap.size ≤ w3.heap.size := HB3.out.size
  have hs1 := HS1.out
  have HB : Below w.heap.size w (w3.alloc (.cells (knownCells ⟨w.heap.size + 74, 0, none⟩ (fun _ => false) (fun _ => false)) 91)) := (below_then (below_then HB1.out HB1.out.size HB2.out) (by omega) HB3.out).alloc (by omega) _
  have HRW : IsRules (w3.alloc (.cells (knownCells ⟨w.heap.size + 74, 0, none⟩ (fun _ => false) (fun _ => false)) 91)) 95 (w.heap.size + 74) (fun n => w.heap.size + n) := ((HR.out.below HB2.out).below HB3.out).below ((Below.refl _ _).alloc (Nat.le_refl _) _)
  have hgr : w.heap.size + 74 < w3.heap.size := by omega
  have hkn := HKN.out
  clear hs1 HKN HB1 HB2 HB3 HR HS1 HFA HFO
  generalize (w3.alloc (.cells (knownCells ⟨w.heap.size + 74, 0, none⟩ (fun _ => false) (fun _ => false)) 91)) = W at *
  generalize w3.heap.size = g at *
  generalize Value.agg fa = fa' at *
  generalize Value.agg fo = fo' at *
  generalize Value.agg (knownCells ⟨w.heap.size + 74, 0, none⟩ (fun _ => false) (fun _ => false)) = kn' at *
  have HK := Aside0.mk hkn
  clear hkn
  have HBA := Aside0.mk HB
  have HRA := Aside0.mk HRW
  clear HB HRW
  go_loopw [16] (fun i wr => ∃ k : Nat, k ≤ 74 ∧ i = .int .i64 k ∧ wr.heap[g]? = some (.cells (knownCells ⟨w.heap.size + 74, 0, none⟩ (fun _ => false) (partTo k)) 91 (0, 0)) ∧ IsRules wr 95 (w.heap.size + 74) (fun n => w.heap.size + n) ∧ Below w.heap.size w wr) (fun i _ => 74 - (intOf i).toNat)
  case atStart => exact ⟨0, by omega, rfl, HK.out, HRA.out, HBA.out⟩
  case round =>
    clear HK HRA HBA
    obtain ⟨k, hk, rfl, hkc, hru, hbe⟩ := hrel
    have HKC := Aside0.mk hkc
    have HRU := Aside0.mk hru
    have HBE := Aside0.mk hbe
    clear hkc hru hbe
    by_cases hlt : k < 74
    · have hp1 := HRU.out.part k hlt
      have hp2 := HRU.out.right k hlt
      have hd : decide ((k : Int) < 74) = true := by simp; omega
      have hs := nrule_lt k
      have hcell := (blk_cell HKC.out (769 + (nrule k).1)).trans (known_part _ _ _ _ hs)
      have hfr := blk_frozen HKC.out (769 + (nrule k).1)
      have hgl := blk_lt HKC.out
      generalize hn : (nrule k).1 = s at *
      have HN := Aside0.mk hn
      clear hn
      go_wp2
      go_region
      all_goals go_wp2
      go_roundw
      case rel =>
        have hset := blk_set HKC.out (769 + s) (.bool true)
        rw [known_setPart _ _ _ s hs] at hset
        refine ⟨k + 1, by omega, by go_num, ?_, ?_, ?_⟩
        · show (World.alloc _ _).heap[g]? = _
          rw [heap_alloc_old _ _ (blk_lt hset), hset, partTo_succ k hlt, HN.out]
        · exact ((HRU.out.set (g := g) (by omega) (fun n hn => by omega) _ _).below ((Below.refl _ _).alloc (Nat.le_refl _) _)).below (below_drew (Below.refl _ _))
        · exact below_drew ((HBE.out.setCell (p := ⟨g, 769 + s, none⟩) (by show w.heap.size ≤ g; omega) _).alloc (by rw [World.size_setCell]; exact HBE.out.size) _)
      case measure => simp [intOf]; omega
    · obtain rfl : k = 74 := by omega
      have hd : decide (((74 : Nat) : Int) < 74) = false := by decide
      go_wp2
      have hkc : (wr.alloc (.cells (u8s Gm.emptyL) 5)).heap[g]? = some (.cells (knownCells ⟨w.heap.size + 74, 0, none⟩ (emptyTo 0) (partTo 74)) 91 (0, 0)) := by rw [heap_alloc_old _ _ (blk_lt HKC.out)]; exact HKC.out
      have hrow : (wr.alloc (.cells (u8s Gm.emptyL) 5)).heap[wr.heap.size]? = some (.cells (u8s Gm.emptyL) 5 (0, 0)) := heap_alloc_new _ _
      have hru := HRU.out.below ((Below.refl _ _).alloc (Nat.le_refl _) (.cells (u8s Gm.emptyL) 5))
      have hbe := HBE.out.alloc HBE.out.size (.cells (u8s Gm.emptyL) 5)
      have hgq : g < wr.heap.size := blk_lt HKC.out
      clear HKC HRU HBE
      change Code.wp _ _ _ _ (wr.alloc (.cells (u8s Gm.emptyL) 5))
      generalize (wr.alloc (.cells (u8s Gm.emptyL) 5)) = W2 at *
      generalize wr.heap.size = q at *
      have HKC := Aside0.mk hkc
      have HROW := Aside0.mk hrow
      have HRU := Aside0.mk hru
      have HBE := Aside0.mk hbe
      clear hkc hrow hru hbe
      go_loopw [29] (fun i wr => ∃ k : Nat, k ≤ 15 ∧ i = .int .i64 k ∧ wr.heap[g]? = some (.cells (knownCells ⟨w.heap.size + 74, 0, none⟩ (emptyTo k) (partTo 74)) 91 (0, 0)) ∧ wr.heap[q]? = some (.cells (u8s Gm.emptyL) 5 (0, 0)) ∧ IsRules wr 95 (w.heap.size + 74) (fun n => w.heap.size + n) ∧ Below w.heap.size w wr) (fun i _ => 15 - (intOf i).toNat)
      case atStart => exact ⟨0, by omega, rfl, HKC.out, HROW.out, HRU.out, HBE.out⟩
      case round =>
        clear HKC HROW HRU HBE
        obtain ⟨k, hk, rfl, hkc, hrow, hru, hbe⟩ := hrel
        have HKC := Aside0.mk hkc
        have HROW := Aside0.mk hrow
        have HRU := Aside0.mk hru
        have HBE := Aside0.mk hbe
        clear hkc hrow hru hbe
        by_cases hlt : k < 15
        · have hs := emptyL_lt k hlt
          have hsym := (blk_cell HROW.out k).trans (u8s_at _ _ (by rw [emptyL_len]; exact hlt))
          generalize hn : Gm.emptyL.getD k 0 = s at *
          have HN := Aside0.mk hn
          clear hn
          have hd : decide ((k : Int) < 15) = true := by simp; omega
          have hcell := (blk_cell HKC.out (513 + s)).trans (known_empty _ _ _ _ hs)
          have hfr := blk_frozen HKC.out (513 + s)
          go_wp2
          go_roundw
          case rel =>
            have hset := blk_set HKC.out (513 + s) (.bool true)
            rw [known_setEmpty _ _ _ s hs] at hset
            refine ⟨k + 1, by omega, by go_num, ?_, blk_far HROW.out (by show q ≠ g; omega) _, HRU.out.set (g := g) (by omega) (fun n hn => by omega) _ _, HBE.out.setCell (p := ⟨g, 513 + s, none⟩) (by show w.heap.size ≤ g; omega) _⟩
            rw [hset, emptyTo_succ k hlt, HN.out]
          case measure => simp [intOf]; omega
        · obtain rfl : k = 15 := by omega
          have hd : decide (((15 : Nat) : Int) < 15) = false := by decide
          go_wp2
          go_ret
          exact ⟨g, w.heap.size + 74, _, rfl, by omega, ⟨by rw [HKC.out, known_end], HRU.out⟩, HBE.out⟩
end Go.Proofs.Ytalnicdpcigocaa.GR
namespace Go.Proofs.Ytalnicdpcigocaa.PL
open Go.RowKit Ps PM Go.Proofs.YtalnicdpcigocaaW.PrintWords Go.Proofs.YtalnicdpcigocaaW.PrintLast Go.Proofs.YtalnicdpcigocaaW.PrintMore
attribute [local go_sem] max2_int min2_int max_two min_two
set_option linter.unusedVariables false
set_option linter.unusedSimpArgs false
theorem triv_cells {w : World} {B : Nat} {T : TypeId} (h : w.heap[B]? = some (.cells #[.int .u8 0, .int .u8 1, .int .u8 2, .int .u8 3, .int .u8 4, .int .u8 5, .int .u8 9] T (0, 0))) :
    Kd.C (Kd.int .u8) w (some ⟨B, 0, none⟩) 7 [0, 1, 2, 3, 4, 5, 9] := by
  refine Kd.C_of_reads (d := 0) ⟨rfl, by decide, fun _ => ⟨_, rfl, fun j hj => ?_⟩⟩
  have hadd : (⟨B, 0, none⟩ : Addr).add j = ⟨B, j, none⟩ := by unfold Addr.add; split <;> simp_all
  rw [hadd, cell_of_row w B j _ _ _ h]
  rcases (by omega : j = 0 ∨ j = 1 ∨ j = 2 ∨ j = 3 ∨ j = 4 ∨ j = 5 ∨ j = 6) with rfl | rfl | rfl | rfl | rfl | rfl | rfl <;> rfl
theorem triv_has (k : Nat) (hk : k < 256) : PParseTrees.slices_Contains_uint8_uint8.f 10 [0, 1, 2, 3, 4, 5, 9] (k : Int) = some (decide (k ∈ [0, 1, 2, 3, 4, 5, 9])) := by
  have : (List.range 256).all (fun k => decide (PParseTrees.slices_Contains_uint8_uint8.f 10 [0, 1, 2, 3, 4, 5, 9] (k : Int) = some (decide (k ∈ [0, 1, 2, 3, 4, 5, 9])))) = true := by decide +kernel
  simpa using List.all_eq_true.1 this k (by simpa using hk)
def trivArr : Array Value := #[.int .u8 0, .int .u8 1, .int .u8 2, .int .u8 3, .int .u8 4, .int .u8 5, .int .u8 9]
theorem triv_built : (Try.prog.built 69 [(0, .int .u8 0), (1, .int .u8 1), (2, .int .u8 2), (3, .int .u8 3), (4, .int .u8 4), (5, .int .u8 5), (6, .int .u8 9)]) = some trivArr := by kernel_rfl
theorem triv_any (w : World) : Calls Try.prog 45 #[] w fun e w' => e = .returned (.agg trivArr) ∧ Below w.heap.size w w' := by
  have hb := triv_built
  go_enter Try.func45, Try.ntmps45
  go_wp2
  refine bodyPost_ret (v := .agg trivArr) (results_cell_row rfl _ _ w.heap.size 69 trivArr (0, 0) (.array 7 5) rfl (heap_alloc_new _ _) (by kernel_rfl) rfl (by kernel_rfl)) rfl ⟨rfl, ?_⟩
  exact (Below.refl _ _).alloc (Nat.le_refl _) _
theorem below_alloc (w : World) (o : Obj) : Below w.heap.size w (w.alloc o) := (Below.refl _ _).alloc (Nat.le_refl _) o
theorem counts_in (k : Nat) (h : k < 41) (h' : k ≤ 17 ∨ 20 ≤ k) : (!decide (k ∈ [0, 1, 2, 3, 4, 5, 9])) = counts (k : Int) := by
  have : (List.range 41).all (fun k => decide ((k ≤ 17 ∨ 20 ≤ k) → (!decide (k ∈ [0, 1, 2, 3, 4, 5, 9])) = counts (k : Int))) = true := by decide +kernel
  have := List.all_eq_true.1 this k (by simpa using h)
  exact of_decide_eq_true this h'
theorem counts_out (k : Nat) (h : 40 < k ∨ (17 < k ∧ k < 20)) : counts (k : Int) = false := by
  unfold counts
  rcases h with h | ⟨h, h'⟩
  · have e1 : decide ((k : Int) ≤ 8) = false := by simp; omega
    have e2 : decide ((k : Int) ≤ 17) = false := by simp; omega
    have e3 : decide ((k : Int) ≤ 40) = false := by simp; omega
    rw [e1, e2, e3]; simp
  · have e1 : decide ((k : Int) ≤ 8) = false := by simp; omega
    have e2 : decide ((k : Int) ≤ 17) = false := by simp; omega
    have e3 : decide ((20 : Int) ≤ (k : Int)) = false := by simp; omega
    rw [e1, e2, e3]; simp
set_option maxHeartbeats 4000000 in
set_option maxRecDepth 100000 in
theorem counts_any (k : Nat) (hk : k < 256) (w : World) :
    Calls Try.prog 30 #[.int .u8 (k : Int)] w fun e w' => e = .returned (.bool (counts (k : Int))) ∧ Below w.heap.size w w' := by
  by_cases hyes : k < 41 ∧ (k ≤ 17 ∨ 20 ≤ k)
  · have hm := triv_has k hk
    have hC := fun (w : World) (B : Nat) (T : TypeId) => @triv_cells w B T
    have HV : Aside0 ((!decide (k ∈ [0, 1, 2, 3, 4, 5, 9])) = counts (k : Int)) := ⟨counts_in k hyes.1 hyes.2⟩
    have d1 : decide ((k : Int) ≤ 40) = true := by simp; omega
    have p20 : 17 < k → 20 ≤ k := by omega
    clear hyes
    generalize decide (k ∈ [0, 1, 2, 3, 4, 5, 9]) = q at *
    have HM := Aside0.mk hm
    clear hm
    by_cases h17 : k ≤ 17
    · have d2 : decide ((k : Int) ≤ 17) = true := by simp; omega
      clear h17 p20
      go_enter Try.func30, Try.ntmps30
      go_wp2_with (first | (go_at_call 45; refine (triv_any _).mono ?_; rintro e w1 ⟨rfl, hb1⟩; simp only [trivArr] at *) | (go_at_call 46; (refine (PParseTrees.slices_Contains_uint8_uint8.calls 10 _ 7 [0, 1, 2, 3, 4, 5, 9] (k : Int) q _ (hC _ _ _ (heap_alloc_new _ _)) (by decide) HM.out).mono ?_); rintro e w' ⟨rfl, ⟨nd, rfl⟩⟩))
      go_ret
      exact ⟨by rw [← HV.out]; rfl, (hb1.alloc hb1.size _).trans (Below.mono (Drawn0.below ⟨nd, rfl⟩) (by rw [World.size_alloc]; exact Nat.le_succ_of_le hb1.size))⟩
    · have d2 : decide ((k : Int) ≤ 17) = false := by simp; omega
      have d3 : decide ((20 : Int) ≤ (k : Int)) = true := by have := p20 (by omega); simp; omega
      clear h17 p20
      go_enter Try.func30, Try.ntmps30
      go_wp2_with (first | (go_at_call 45; refine (triv_any _).mono ?_; rintro e w1 ⟨rfl, hb1⟩; simp only [trivArr] at *) | (go_at_call 46; (refine (PParseTrees.slices_Contains_uint8_uint8.calls 10 _ 7 [0, 1, 2, 3, 4, 5, 9] (k : Int) q _ (hC _ _ _ (heap_alloc_new _ _)) (by decide) HM.out).mono ?_); rintro e w' ⟨rfl, ⟨nd, rfl⟩⟩))
      go_ret
      exact ⟨by rw [← HV.out]; rfl, (hb1.alloc hb1.size _).trans (Below.mono (Drawn0.below ⟨nd, rfl⟩) (by rw [World.size_alloc]; exact Nat.le_succ_of_le hb1.size))⟩
  · rw [counts_out k (by omega)]
    by_cases h40 : k ≤ 40
    · have d1 : decide ((k : Int) ≤ 40) = true := by simp; omega
      have d2 : decide ((k : Int) ≤ 17) = false := by simp; omega
      have d3 : decide ((20 : Int) ≤ (k : Int)) = false := by simp; omega
      clear h40 hyes
      go_enter Try.func30, Try.ntmps30
      go_wp2_with (first | (go_at_call 45; refine (triv_any _).mono ?_; rintro e w1 ⟨rfl, hb1⟩; simp only [trivArr] at *))
      go_ret
      exact ⟨rfl, hb1.alloc hb1.size _⟩
    · have d1 : decide ((k : Int) ≤ 40) = false := by simp; omega
      clear h40 hyes
      go_enter Try.func30, Try.ntmps30
      go_wp2_with (first | (go_at_call 45; refine (triv_any _).mono ?_; rintro e w1 ⟨rfl, hb1⟩; simp only [trivArr] at *))
      go_ret
      exact ⟨rfl, hb1.alloc hb1.size _⟩
end Go.Proofs.Ytalnicdpcigocaa.PL
namespace Go.Proofs.Ytalnicdpcigocaa.PP
open Go.RowKit Ps PM PL Go.Proofs.YtalnicdpcigocaaW.PrintWords Go.Proofs.YtalnicdpcigocaaW.PrintLast Go.Proofs.YtalnicdpcigocaaW.PrintMore
attribute [local go_sem] max2_int min2_int max_two min_two
set_option linter.unusedVariables false
set_option linter.unusedSimpArgs false
/-- the tokens, row by row -/
def Toks (w : World) (A : Option Addr) (L : List Tok) : Prop := ∀ i t, L[i]? = some t → ∃ ad : Addr, A = some ad ∧
  w.cell? (ad.add (i * 3)) = some (.int .u8 t.kind) ∧ w.cell? ⟨(ad.add (i * 3)).block, (ad.add (i * 3)).off + 1, none⟩ = some (.int .i64 t.width) ∧
  w.cell? ⟨(ad.add (i * 3)).block, (ad.add (i * 3)).off + 2, none⟩ = some (.int .i64 t.look) ∧ 0 ≤ t.kind ∧ t.kind < 256
theorem Toks.at_ {w : World} {A : Option Addr} {L : List Tok} (h : Toks w A L) (i : Nat) (hi : i < L.length) : ∃ ad : Addr, A = some ad ∧
    w.cell? (ad.add (i * 3)) = some (.int .u8 (L.getD i default).kind) ∧ w.cell? ⟨(ad.add (i * 3)).block, (ad.add (i * 3)).off + 1, none⟩ = some (.int .i64 (L.getD i default).width) ∧
    w.cell? ⟨(ad.add (i * 3)).block, (ad.add (i * 3)).off + 2, none⟩ = some (.int .i64 (L.getD i default).look) ∧ 0 ≤ (L.getD i default).kind ∧ (L.getD i default).kind < 256 := by
  have e : L[i]? = some (L.getD i default) := by rw [List.getD_eq_getElem?_getD, List.getElem?_eq_getElem hi]; rfl
  exact h i _ e
theorem Toks.move {w w' : World} {A : Option Addr} {L : List Tok} (h : Toks w A L) (hb : ∀ ad, A = some ad → ad.block < w.heap.size → w'.heap[ad.block]? = w.heap[ad.block]?) : Toks w' A L := by
  intro i t ht
  obtain ⟨ad, e, h1, h2, h3, h4⟩ := h i t ht
  have hblk : (ad.add (i * 3)).block = ad.block := by unfold Addr.add; split <;> rfl
  have hlt : ad.block < w.heap.size := hblk ▸ cell_lt h1
  have hh := hb ad e hlt
  refine ⟨ad, e, ?_, ?_, ?_, h4⟩
  · rw [World.cell?_of_block (w := w) (by rw [hblk]; exact hh)]; exact h1
  · rw [World.cell?_of_block (w := w) (by show w'.heap[(ad.add (i * 3)).block]? = w.heap[(ad.add (i * 3)).block]?; rw [hblk]; exact hh)]; exact h2
  · rw [World.cell?_of_block (w := w) (by show w'.heap[(ad.add (i * 3)).block]? = w.heap[(ad.add (i * 3)).block]?; rw [hblk]; exact hh)]; exact h3
set_option maxHeartbeats 4000000 in
set_option maxRecDepth 100000 in
theorem next_any (w : World) (A : Option Addr) (c : Nat) (L : List Tok) (hT : Toks w A L) (hc : L.length ≤ c) (hL : L.length ≤ 1000000) (at_ : Nat) (ha : at_ ≤ L.length) :
    Calls Try.prog 18 #[.slice A L.length c, .int .i64 (at_ : Int)] w fun e w' => e = .returned (.int .i64 ((nx L at_ : Nat) : Int)) ∧ Below w.heap.size w w' := by
  have HT := Aside0.mk hT
  have HL := Aside0.mk hL
  have HC := Aside0.mk hc
  clear hT hL hc
  have hmx : max (at_ : Int) 0 = (at_ : Int) := by omega
  go_enter Try.func18, Try.ntmps18
  go_wp2
  go_loopw [5] (fun v5 wr => ∃ i : Nat, at_ ≤ i ∧ i ≤ L.length ∧ v5 = .int .i64 (i : Int) ∧ Aside0 (nx L i = nx L at_) ∧ Aside0 (Below w.heap.size w wr)) (fun v5 _ => L.length - (intOf v5).toNat)
  case atStart => exact ⟨at_, Nat.le_refl _, ha, rfl, ⟨rfl⟩, ⟨Below.refl _ _⟩⟩
  case round =>
    obtain ⟨i, h1, h2, rfl, HX, HB⟩ := hrel
    have hi0 : (0 : Int) ≤ (i : Int) := by omega
    have HT' : Aside0 (Toks wr A L) := ⟨HT.out.move (fun ad _ hlt => HB.out.block _ hlt)⟩
    by_cases hlt : i < L.length
    · have d1 : decide ((i : Int) < (L.length : Int)) = true := by simp; omega
      have hi1 : (i : Int) < (L.length : Int) := by omega
      obtain ⟨ad, e, hc1, hc2, hc3, hk0, hk1⟩ := HT'.out.at_ i hlt
      cases e
      obtain ⟨k, hk⟩ : ∃ k : Nat, (L.getD i default).kind = (k : Int) := ⟨(L.getD i default).kind.toNat, by omega⟩
      have hk256 : k < 256 := by omega
      rw [hk] at hc1
      have htn : (i : Int).toNat = i := by omega
      have HN : Aside0 (counts (k : Int) = true → nx L i = i) := ⟨fun h => nx_yes L i hlt (by rw [hk]; exact h)⟩
      have HM : Aside0 (counts (k : Int) = false → nx L i = nx L (i + 1)) := ⟨fun h => nx_no L i hlt (by rw [hk]; exact h)⟩
      clear hc2 hc3 hk0 hk1 hk
      generalize hq : counts (k : Int) = q at *
      have hcnt := fun w => hq ▸ counts_any k hk256 w
      clear hq
      have HK := Aside0.mk hcnt
      clear hcnt
      have hl6 := HL.out
      cases q with
      | true =>
        go_wp2_with (first | (go_at_call 30; refine (HK.out _).mono ?_; rintro e w1 ⟨rfl, hb1⟩))
        go_ret
        exact ⟨by rw [← HX.out, HN.out (by trivial)]; rfl, HB.out.trans (Below.mono hb1 HB.out.size)⟩
      | false =>
        go_wp2_with (first | (go_at_call 30; refine (HK.out _).mono ?_; rintro e w1 ⟨rfl, hb1⟩))
        go_roundw
        case rel => exact ⟨i + 1, by omega, by omega, by go_num, ⟨by rw [← HM.out (by trivial)]; exact HX.out⟩, ⟨HB.out.trans (Below.mono hb1 HB.out.size)⟩⟩
        case measure => simp [intOf]; omega
    · have d1 : decide ((i : Int) < (L.length : Int)) = false := by simp; omega
      obtain rfl : i = L.length := by omega
      go_wp2
      go_ret
      exact ⟨by rw [← HX.out, nx_end L _ (Nat.le_refl _)]; rfl, HB.out⟩
end Go.Proofs.Ytalnicdpcigocaa.PP
namespace Go.Proofs.Ytalnicdpcigocaa.PP
open Go.RowKit Ps PM PL Go.Proofs.YtalnicdpcigocaaW.PrintWords Go.Proofs.YtalnicdpcigocaaW.PrintLast Go.Proofs.YtalnicdpcigocaaW.PrintMore
set_option linter.unusedVariables false
set_option linter.unusedSimpArgs false
/-- what the parser is given: the tokens, and whom it asks -/
structure Ctx (σ : Type) where
  L : List Tok
  orc : σ → Int → Nat → Option (Tr × Int) × σ
  A : Option Addr
  c : Nat
  f : Nat
  caps : Array Value
  O : Nat → Prop
  S0 : Nat → Prop
  lo : Nat
  I : σ → World → Prop
  hc : L.length ≤ c
  hL : L.length ≤ 16384
  hO : ∀ b, O b → b < lo
  hS : ∀ b, S0 b → b < lo ∧ ¬ O b
  toks : ∀ s w, I s w → Toks w A L
  keep : ∀ s w w', I s w → (∀ b, b < lo → w'.heap[b]? = w.heap[b]?) → I s w'
  ask : ∀ s w (k i : Nat), k < 256 → i ≤ 16384 → lo ≤ w.heap.size → I s w →
    Calls Try.prog f (#[.int .u8 (k : Int), .int .i64 (i : Int)] ++ caps) w (fun e w' => ∃ (k0 k1 k2 : Int) (A0 : Option Addr) (n0 c0 : Nat) (ct : Int) (ok : Bool),
      e = .returned (.tuple #[.agg #[.int .u8 k0, .int .u8 k1, .int .i64 k2, .slice A0 n0 c0], .int .i64 ct, .bool ok]) ∧ FrX O w w' ∧ I (orc s (k : Int) i).2 w' ∧
      (match (orc s (k : Int) i).1 with
       | some (t, c') => ok = true ∧ ct = c' ∧ NodeC S0 w' t [.int .u8 k0, .int .u8 k1, .int .i64 k2, .slice A0 n0 c0]
       | none => ok = false))
section
variable {σ : Type}
structure ParAt (C : Ctx σ) (w : World) (pb : Nat) (st : St σ) : Prop where
  block : w.heap[pb]? = some (.cells #[.slice C.A C.L.length C.c, .int .i64 (st.at_ : Int), .int .i64 ((nx C.L st.at_ : Nat) : Int), .func (.func C.f) #[] C.caps] 44 (0, 0))
  lo : C.lo ≤ pb
  inv : C.I st.s w
  le : st.at_ ≤ C.L.length
/-- a node in the making -/
structure MkAt (C : Ctx σ) (S : Nat → Prop) (lo : Nat) (w : World) (mb : Nat) (kind : Int) (kids : List Tr) (pb : Nat) (v : Value) : Prop where
  block : w.heap[mb]? = some (.cells #[.int .u8 kind, .int .u8 0, .int .i64 0, v, .pointer (some ⟨pb, 0, none⟩)] 63 (0, 0))
  row : ∃ xs, w.ownsRow lo 25 4 v kids.length xs ∧ ∀ j t, kids[j]? = some t → ∃ cs, NodeC (fun b => S b ∨ (lo ≤ b ∧ v.ownBlock ≠ some b)) w t cs ∧ ∀ q u, cs[q]? = some u → xs[j * 4 + q]? = some u
  mlt : mb < lo
  plt : pb < lo
  ne : mb ≠ pb
  clo : C.lo ≤ mb
  hS : ∀ b, S b → b < lo ∧ b ≠ pb ∧ b ≠ mb ∧ ¬ C.O b
  hS0 : ∀ b, C.S0 b → S b
  hlo : lo ≤ w.heap.size
def XP (C : Ctx σ) (pb : Nat) : Nat → Prop := fun b => b = pb ∨ C.O b
def XM (C : Ctx σ) (pb mb : Nat) (v : Value) : Nat → Prop := fun b => b = pb ∨ b = mb ∨ v.ownBlock = some b ∨ C.O b
/-- what a step of a node in the making leaves -/
def MkPost (C : Ctx σ) (S : Nat → Prop) (lo : Nat) (mb : Nat) (kind : Int) (pb : Nat) (w : World) (v : Value) (kids : List Tr) (st : St σ) (w' : World) : Prop :=
  ∃ v', (v'.ownBlock = v.ownBlock ∨ ∀ g, v'.ownBlock = some g → w.heap.size ≤ g) ∧ MkAt C S lo w' mb kind kids pb v' ∧ ParAt C w' pb st ∧ FrX (XM C pb mb v) w w'
/-- what a part leaves: a node of memory of its own -/
def LvPost (C : Ctx σ) (S : Nat → Prop) (pb : Nat) (w : World) (t : Tr) (st : St σ) (e : Ending) (w' : World) : Prop :=
  ∃ cs, e = .returned (.agg cs.toArray) ∧ NodeC (fun b => S b ∨ w.heap.size ≤ b) w' t cs ∧ ParAt C w' pb st ∧ FrX (XP C pb) w w'
theorem ParAt.lt {C : Ctx σ} {w : World} {pb : Nat} {st : St σ} (h : ParAt C w pb st) : pb < w.heap.size := by
  rcases Nat.lt_or_ge pb w.heap.size with hlt | hge
  · exact hlt
  · have := h.block
    rw [Array.getElem?_eq_none hge] at this
    cases this
theorem ParAt.move {C : Ctx σ} {w w' : World} {pb : Nat} {st : St σ} (h : ParAt C w pb st) {X : Nat → Prop} (k : FrX X w w') (hp : ¬ X pb) (hX : ∀ b, b < C.lo → ¬ X b) : ParAt C w' pb st :=
  ⟨(k.block pb h.lt hp).trans h.block, h.lo, C.keep _ _ _ h.inv (fun b hb => k.block b (Nat.lt_trans (Nat.lt_of_lt_of_le hb h.lo) h.lt) (hX b hb)), h.le⟩
theorem MkAt.lt {C : Ctx σ} {S : Nat → Prop} {lo : Nat} {w : World} {mb : Nat} {kind : Int} {kids : List Tr} {pb : Nat} {v : Value} (h : MkAt C S lo w mb kind kids pb v) : mb < w.heap.size := Nat.lt_of_lt_of_le h.mlt h.hlo
/-- where neither it nor its row nor its kids are turned -/
theorem MkAt.move {C : Ctx σ} {S : Nat → Prop} {lo : Nat} {w w' : World} {mb : Nat} {kind : Int} {kids : List Tr} {pb : Nat} {v : Value} (h : MkAt C S lo w mb kind kids pb v) {X : Nat → Prop} (k : FrX X w w')
    (hm : ¬ X mb) (hS : ∀ b, S b → ¬ X b) (hl : ∀ b, lo ≤ b → ¬ X b) : MkAt C S lo w' mb kind kids pb v := by
  obtain ⟨xs, hown, hk⟩ := h.row
  refine ⟨(k.block mb h.lt hm).trans h.block, ⟨xs, ?_, fun j t ht => ?_⟩, h.mlt, h.plt, h.ne, h.clo, h.hS, h.hS0, Nat.le_trans h.hlo k.size⟩
  · refine ⟨hown.1, hown.2.imp id (fun ⟨g, cap, cur, h1, h2, h3, h4⟩ => ⟨g, cap, cur, h1, h2, ?_, h4⟩)⟩
    refine (k.block g ?_ (hl g h2)).trans h3
    rcases Nat.lt_or_ge g w.heap.size with hlt | hge
    · exact hlt
    · rw [Array.getElem?_eq_none hge] at h3; cases h3
  · obtain ⟨cs, h1, h2⟩ := hk j t ht
    refine ⟨cs, h1.move (fun b hb hlt => ⟨hb, k.block b hlt ?_⟩), h2⟩
    rcases hb with hb | hb
    · exact hS b hb
    · exact hl b hb.1
theorem MkAt.part {C : Ctx σ} {S : Nat → Prop} {lo : Nat} {w w' : World} {mb : Nat} {kind : Int} {kids : List Tr} {pb : Nat} {v : Value} (h : MkAt C S lo w mb kind kids pb v) (k : FrX (XP C pb) w w') : MkAt C S lo w' mb kind kids pb v := by
  refine h.move k ?_ ?_ ?_
  · rintro (e | e)
    · exact h.ne e
    · have := C.hO _ e; have := h.clo; omega
  · intro b hb
    rintro (e | e)
    · exact (h.hS b hb).2.1 e
    · exact (h.hS b hb).2.2.2 e
  · intro b hb
    rintro (e | e)
    · have := h.plt; omega
    · have := C.hO _ e; have := h.clo; have := h.mlt; omega
theorem MkPost.trans {C : Ctx σ} {S : Nat → Prop} {lo mb pb : Nat} {kind : Int} {w w1 : World} {v : Value} {kids : List Tr} {st : St σ} {Q : World → Prop}
    (h : MkPost C S lo mb kind pb w v kids st w1) {v1 : Value} {w2 : World} {kids2 : List Tr} {st2 : St σ}
    (hv : v1.ownBlock = v.ownBlock ∨ ∀ g, v1.ownBlock = some g → w.heap.size ≤ g) (hf : FrX (XM C pb mb v) w w1) (k : MkPost C S lo mb kind pb w1 v1 kids2 st2 w2) : MkPost C S lo mb kind pb w v kids2 st2 w2 := by
  obtain ⟨v2, h1, h2, h3, h4⟩ := k
  refine ⟨v2, ?_, h2, h3, hf.trans h4 (fun b h => h) (fun b hb hx => ?_)⟩
  · rcases h1 with h1 | h1
    · rw [h1]; exact hv
    · exact Or.inr (fun g hg => Nat.le_trans hf.size (h1 g hg))
  · rcases hx with hx | hx | hx | hx
    · exact Or.inl hx
    · exact Or.inr (Or.inl hx)
    · rcases hv with hv | hv
      · exact Or.inr (Or.inr (Or.inl (hv ▸ hx)))
      · have := hv b hx; omega
    · exact Or.inr (Or.inr (Or.inr hx))
end
end Go.Proofs.Ytalnicdpcigocaa.PP
namespace Go.Proofs.Ytalnicdpcigocaa.PP
open Go.RowKit Ps PM PL GR Go.Proofs.YtalnicdpcigocaaW.PrintWords Go.Proofs.YtalnicdpcigocaaW.PrintLast Go.Proofs.YtalnicdpcigocaaW.PrintMore
set_option linter.unusedVariables false
set_option linter.unusedSimpArgs false
theorem nodeInfo : (Try.prog.info? 25).map (fun i => (i.zero, i.size, i.bytes)) = some (some (.agg #[.int .u8 0, .int .u8 0, .int .i64 0, .slice none 0 0]), 4, 40) := by kernel_rfl
theorem heap_at {w : World} {cs : Array Value} {t : TypeId} {k : Nat} (h : k = w.heap.size) : (w.alloc (.cells cs t)).heap[k]? = some (.cells cs t (0, 0)) := by
  subst h
  exact heap_alloc_new _ _
theorem drew_heap (w : World) : w.drew.heap = w.heap := rfl
theorem grown_undrew {w w' : World} {r : Option Nat} (h : w.drew.grownBy w' r) : w.grownBy w' r := ⟨h.os, h.tape, h.output, h.size, h.block⟩
/-- a slice that owns so many is so long -/
theorem own_slice {w : World} {base : Nat} {e : TypeId} {size : Nat} {v : Value} {n : Nat} {xs : List Value} (h : w.ownsRow base e size v n xs) : ∃ A c, v = .slice A n c := by
  rcases h.2 with ⟨rfl, rfl⟩ | ⟨g, cap, cur, rfl, _⟩
  · exact ⟨_, _, rfl⟩
  · exact ⟨_, _, rfl⟩
theorem row_new {w : World} {lo gg n cap : Nat} {T : TypeId} {xs : List Value} {z0 z1 z2 z3 : Value} (h : w.ownsRow lo T 4 (.slice (some ⟨gg, 0, none⟩) (n + 1) cap) (n + 1) (xs ++ [z0, z1, z2, z3])) (hx : xs.length = n * 4) :
    w.cell? ⟨gg, n * 4, none⟩ = some z0 ∧ w.cell? ⟨gg, n * 4 + 1, none⟩ = some z1 ∧ w.cell? ⟨gg, n * 4 + 2, none⟩ = some z2 ∧ w.cell? ⟨gg, n * 4 + 3, none⟩ = some z3 ∧ ∀ j, w.frozen? ⟨gg, j, none⟩ = false := by
  refine ⟨?_, ?_, ?_, ?_, fun j => h.frozenAt j⟩
  · rw [h.cellAt _ (by omega), List.getElem?_append_right (by omega)]; simp [hx]
  · rw [h.cellAt _ (by omega), List.getElem?_append_right (by omega)]; simp [hx]
  · rw [h.cellAt _ (by omega), List.getElem?_append_right (by omega)]; simp [hx]
  · rw [h.cellAt _ (by omega), List.getElem?_append_right (by omega)]; simp [hx]
theorem os_set (w : World) (a : Addr) (v : Value) : (w.setCell a v).os = w.os := rfl
theorem tape_set (w : World) (a : Addr) (v : Value) : (w.setCell a v).tape = w.tape := rfl
theorem out_set (w : World) (a : Addr) (v : Value) : (w.setCell a v).output = w.output := rfl
theorem set4 (xs : List Value) (n : Nat) (hx : xs.length = n * 4) (z0 z1 z2 z3 a b c d : Value) :
    ((((xs ++ [z0, z1, z2, z3]).set (n * 4) a).set (n * 4 + 1) b).set (n * 4 + 2) c).set (n * 4 + 3) d = xs ++ [a, b, c, d] := by
  rw [List.set_append_right _ _ (by omega), List.set_append_right _ _ (by omega), List.set_append_right _ _ (by omega), List.set_append_right _ _ (by omega)]
  have e0 : n * 4 - xs.length = 0 := by omega
  have e1 : n * 4 + 1 - xs.length = 1 := by omega
  have e2 : n * 4 + 2 - xs.length = 2 := by omega
  have e3 : n * 4 + 3 - xs.length = 3 := by omega
  rw [e0, e1, e2, e3]
  rfl
theorem row_set4 {w : World} {lo gg n cap : Nat} {T : TypeId} {xs : List Value} {z0 z1 z2 z3 : Value} (h : w.ownsRow lo T 4 (.slice (some ⟨gg, 0, none⟩) (n + 1) cap) (n + 1) (xs ++ [z0, z1, z2, z3])) (hx : xs.length = n * 4) (a b c d : Value) :
    ((((w.setCell ⟨gg, n * 4, none⟩ a).setCell ⟨gg, n * 4 + 1, none⟩ b).setCell ⟨gg, n * 4 + 2, none⟩ c).setCell ⟨gg, n * 4 + 3, none⟩ d).ownsRow lo T 4 (.slice (some ⟨gg, 0, none⟩) (n + 1) cap) (n + 1) (xs ++ [a, b, c, d]) := by
  have := (((h.stored (n * 4) a).1.stored (n * 4 + 1) b).1.stored (n * 4 + 2) c).1.stored (n * 4 + 3) d |>.1
  rwa [set4 xs n hx] at this
section
variable {σ : Type}
theorem add_mk {C : Ctx σ} {S : Nat → Prop} {lo : Nat} {w w5 w' : World} {mb : Nat} {kind : Int} {kids : List Tr} {pb : Nat} {v : Value} {st : St σ} {t : Tr} {cs xs : List Value} {o1 o2 : Obj} {gg cap5 : Nat}
    (hM : MkAt C S lo w mb kind kids pb v) (hP : ParAt C w pb st) (hN : NodeC (fun b => S b ∨ (lo ≤ b ∧ v.ownBlock ≠ some b)) w t cs)
    (hown : w.ownsRow lo 25 4 v kids.length xs) (hxs : ∀ j t, kids[j]? = some t → ∃ cs, NodeC (fun b => S b ∨ (lo ≤ b ∧ v.ownBlock ≠ some b)) w t cs ∧ ∀ q u, cs[q]? = some u → xs[j * 4 + q]? = some u)
    (hgrow : ((w.alloc o1).alloc o2).grownBy w5 v.ownBlock) (hat : v.ownBlock = some gg ∨ gg = w.heap.size + 1 + 1) (hgm : gg ≠ mb)
    (hblk : w'.heap[mb]? = some (.cells #[.int .u8 kind, .int .u8 0, .int .i64 0, .slice (some ⟨gg, 0, none⟩) (kids.length + 1) cap5, .pointer (some ⟨pb, 0, none⟩)] 63 (0, 0)))
    (hown' : w'.ownsRow lo 25 4 (.slice (some ⟨gg, 0, none⟩) (kids.length + 1) cap5) (kids.length + 1) (xs ++ cs))
    (hrest : ∀ b, b ≠ mb → b ≠ gg → w'.heap[b]? = w5.heap[b]?) (hos : w'.os = w5.os) (htp : w'.tape = w5.tape) (hou : w'.output = w5.output) (hsz : w'.heap.size = w5.heap.size) :
    MkPost C S lo mb kind pb w v (kids ++ [t]) st w' := by
  have hfr : FrX (XM C pb mb v) w w' := by
    refine ⟨hos.trans hgrow.os, htp.trans hgrow.tape, hou.trans hgrow.output, ?_, fun b hb hx => ?_⟩
    · have := hgrow.size
      rw [World.size_alloc, World.size_alloc] at this
      omega
    · have hne1 : b ≠ mb := fun e => hx (Or.inr (Or.inl e))
      have hne2 : v.ownBlock ≠ some b := fun e => hx (Or.inr (Or.inr (Or.inl e)))
      have hne3 : b ≠ gg := fun e => by
        rcases hat with h | h
        · exact hne2 (e ▸ h)
        · omega
      rw [hrest b hne1 hne3, hgrow.block b (by rw [World.size_alloc, World.size_alloc]; omega) (fun e => hne2 e.symm), heap_alloc_old _ _ (by rw [World.size_alloc]; omega), heap_alloc_old _ _ hb]
  have hnv : ∀ b, v.ownBlock ≠ some b → b < w.heap.size → b ≠ gg := fun b h1 h2 e => by
    rcases hat with h | h
    · exact h1 (e ▸ h)
    · omega
  have hk : ∀ (t : Tr) (cs : List Value), NodeC (fun b => S b ∨ (lo ≤ b ∧ v.ownBlock ≠ some b)) w t cs → NodeC (fun b => S b ∨ (lo ≤ b ∧ (Value.slice (some ⟨gg, 0, none⟩) (kids.length + 1) cap5).ownBlock ≠ some b)) w' t cs := by
    intro t cs h
    refine h.move (fun b hb hlt => ⟨?_, hfr.block b hlt ?_⟩)
    · rcases hb with hb | hb
      · exact Or.inl hb
      · exact Or.inr ⟨hb.1, fun e => hnv b hb.2 hlt (by injection e with e; exact e.symm)⟩
    · rcases hb with hb | hb
      · have := hM.hS b hb
        rintro (e | e | e | e)
        · exact this.2.1 e
        · exact this.2.2.1 e
        · have := (hown.lt b e).1; omega
        · exact this.2.2.2 e
      · rintro (e | e | e | e)
        · have := hM.plt; omega
        · have := hM.mlt; omega
        · exact hb.2 e
        · have := C.hO _ e; have := hM.clo; have := hM.mlt; omega
  refine ⟨_, ?_, ⟨hblk, ⟨xs ++ cs, ?_, fun j t' ht => ?_⟩, hM.mlt, hM.plt, hM.ne, hM.clo, hM.hS, hM.hS0, Nat.le_trans hM.hlo hfr.size⟩, ?_, hfr⟩
  · rcases hat with h | h
    · exact Or.inl h.symm
    · refine Or.inr (fun g hg => ?_)
      injection hg with hg
      have hg : gg = g := hg
      omega
  · rw [List.length_append]; exact hown'
  · have hl := hown.1
    rcases Nat.lt_or_ge j kids.length with hj | hj
    · rw [List.getElem?_append_left hj] at ht
      obtain ⟨cs', h1, h2⟩ := hxs j t' ht
      refine ⟨cs', hk _ _ h1, fun q u hu => ?_⟩
      have := h2 q u hu
      rw [List.getElem?_append_left]
      · exact this
      · rcases Nat.lt_or_ge (j * 4 + q) xs.length with h | h
        · exact h
        · rw [List.getElem?_eq_none h] at this; cases this
    · rw [List.getElem?_append_right hj] at ht
      rcases Nat.lt_or_ge 0 (j - kids.length) with h0 | h0
      · rw [List.getElem?_eq_none (by simp; omega)] at ht; cases ht
      · have hj' : j = kids.length := by omega
        subst hj'
        rw [Nat.sub_self] at ht
        have ht : t = t' := by simpa using ht
        subst ht
        refine ⟨cs, hk _ _ hN, fun q u hu => ?_⟩
        rw [List.getElem?_append_right (by omega), show kids.length * 4 + q - xs.length = q by omega]
        exact hu
  · refine ⟨?_, hP.lo, C.keep _ _ _ hP.inv (fun b hb => ?_), hP.le⟩
    · have h1 := hM.plt
      have h2 : v.ownBlock ≠ some pb := fun e => by have := (hown.lt pb e).1; omega
      rw [hrest pb (fun e => hM.ne e.symm) (hnv pb h2 hP.lt), hgrow.block pb (by rw [World.size_alloc, World.size_alloc]; have := hP.lt; omega) (fun e => h2 e.symm), heap_alloc_old _ _ (by rw [World.size_alloc]; have := hP.lt; omega), heap_alloc_old _ _ hP.lt]
      exact hP.block
    · have hpl := hP.lo
      have hpt := hP.lt
      have h2 : v.ownBlock ≠ some b := fun e => by have := (hown.lt b e).1; have := hM.plt; omega
      have h3 := hM.clo
      rw [hrest b (by omega) (hnv b h2 (by omega)), hgrow.block b (by rw [World.size_alloc, World.size_alloc]; omega) (fun e => h2 e.symm), heap_alloc_old _ _ (by rw [World.size_alloc]; omega), heap_alloc_old _ _ (by omega)]
theorem add_fin1 {C : Ctx σ} {S : Nat → Prop} {lo : Nat} {w w5 : World} {mb : Nat} {kind : Int} {kids : List Tr} {pb : Nat} {v : Value} {st : St σ} {t : Tr} {xs : List Value} {o1 o2 : Obj} {gg cap5 : Nat} {a b c d z0 z1 z2 z3 : Value}
    (hM : MkAt C S lo w mb kind kids pb v) (hP : ParAt C w pb st) (hN : NodeC (fun b => S b ∨ (lo ≤ b ∧ v.ownBlock ≠ some b)) w t [a, b, c, d])
    (hown : w.ownsRow lo 25 4 v kids.length xs) (hxs : ∀ j t, kids[j]? = some t → ∃ cs, NodeC (fun b => S b ∨ (lo ≤ b ∧ v.ownBlock ≠ some b)) w t cs ∧ ∀ q u, cs[q]? = some u → xs[j * 4 + q]? = some u)
    (hgrow : ((w.alloc o1).alloc o2).grownBy w5 v.ownBlock) (hat : v.ownBlock = some gg ∨ gg = w.heap.size + 1 + 1) (hgm : gg ≠ mb)
    (hown5 : w5.ownsRow lo 25 4 (.slice (some ⟨gg, 0, none⟩) (kids.length + 1) cap5) (kids.length + 1) (xs ++ [z0, z1, z2, z3])) :
    MkPost C S lo mb kind pb w v (kids ++ [t]) st (((((w5.setCell ⟨gg, kids.length * 4, none⟩ a).setCell ⟨gg, kids.length * 4 + 1, none⟩ b).setCell ⟨gg, kids.length * 4 + 2, none⟩ c).setCell ⟨gg, kids.length * 4 + 3, none⟩ d).setCell ⟨mb, 3, none⟩ (.slice (some ⟨gg, 0, none⟩) (kids.length + 1) cap5)) := by
  have hb5 : w5.heap[mb]? = some (.cells #[.int .u8 kind, .int .u8 0, .int .i64 0, v, .pointer (some ⟨pb, 0, none⟩)] 63 (0, 0)) := by
    have hne : v.ownBlock ≠ some mb := fun e => by have := (hown.lt mb e).1; have := hM.mlt; omega
    have := hM.lt
    exact (hgrow.block mb (by rw [World.size_alloc, World.size_alloc]; omega) (fun e => hne e.symm)).trans ((heap_alloc_old _ _ (by rw [World.size_alloc]; omega)).trans ((heap_alloc_old _ _ this).trans hM.block))
  have hne1 : mb ≠ gg := fun e => hgm e.symm
  have hnb : (Value.slice (some ⟨gg, 0, none⟩) (kids.length + 1) cap5).ownBlock ≠ some mb := fun e => by injection e with e; exact hgm e
  refine add_mk (cap5 := cap5) hM hP hN hown hxs hgrow hat hgm ?_ ?_ ?_ (by simp only [os_set]) (by simp only [tape_set]) (by simp only [out_set]) ?_
  · refine (heap_setCell_same _ mb 3 #[.int .u8 kind, .int .u8 0, .int .i64 0, v, .pointer (some ⟨pb, 0, none⟩)] 63 _ ?_).trans (by simp)
    rw [heap_setCell_other _ _ _ _ hne1, heap_setCell_other _ _ _ _ hne1, heap_setCell_other _ _ _ _ hne1, heap_setCell_other _ _ _ _ hne1]
    exact hb5
  · exact ownsRow_setCell_other (row_set4 hown5 hown.1 a b c d) hnb _
  · intro x h1 h2
    rw [heap_setCell_other _ _ _ _ (by assumption), heap_setCell_other _ _ _ _ (by assumption), heap_setCell_other _ _ _ _ (by assumption), heap_setCell_other _ _ _ _ (by assumption), heap_setCell_other _ _ _ _ (by assumption)]
  · rw [World.size_setCell, World.size_setCell, World.size_setCell, World.size_setCell, World.size_setCell]
theorem add_fin2 {C : Ctx σ} {S : Nat → Prop} {lo : Nat} {w w5 : World} {mb : Nat} {kind : Int} {kids : List Tr} {pb : Nat} {v : Value} {st : St σ} {t : Tr} {xs : List Value} {o1 o2 : Obj} {gg cap5 : Nat} {a b c d z0 z1 z2 z3 : Value}
    (hM : MkAt C S lo w mb kind kids pb v) (hP : ParAt C w pb st) (hN : NodeC (fun b => S b ∨ (lo ≤ b ∧ v.ownBlock ≠ some b)) w t [a, b, c, d])
    (hown : w.ownsRow lo 25 4 v kids.length xs) (hxs : ∀ j t, kids[j]? = some t → ∃ cs, NodeC (fun b => S b ∨ (lo ≤ b ∧ v.ownBlock ≠ some b)) w t cs ∧ ∀ q u, cs[q]? = some u → xs[j * 4 + q]? = some u)
    (hgrow : ((w.alloc o1).alloc o2).grownBy w5 v.ownBlock) (hat : v.ownBlock = some gg ∨ gg = w.heap.size + 1 + 1) (hgm : gg ≠ mb)
    (hown5 : w5.ownsRow lo 25 4 (.slice (some ⟨gg, 0, none⟩) (kids.length + 1) cap5) (kids.length + 1) (xs ++ [z0, z1, z2, z3])) :
    MkPost C S lo mb kind pb w v (kids ++ [t]) st (((((w5.setCell ⟨mb, 3, none⟩ (.slice (some ⟨gg, 0, none⟩) (kids.length + 1) cap5)).setCell ⟨gg, kids.length * 4, none⟩ a).setCell ⟨gg, kids.length * 4 + 1, none⟩ b).setCell ⟨gg, kids.length * 4 + 2, none⟩ c).setCell ⟨gg, kids.length * 4 + 3, none⟩ d) := by
  have hb5 : w5.heap[mb]? = some (.cells #[.int .u8 kind, .int .u8 0, .int .i64 0, v, .pointer (some ⟨pb, 0, none⟩)] 63 (0, 0)) := by
    have hne : v.ownBlock ≠ some mb := fun e => by have := (hown.lt mb e).1; have := hM.mlt; omega
    have := hM.lt
    exact (hgrow.block mb (by rw [World.size_alloc, World.size_alloc]; omega) (fun e => hne e.symm)).trans ((heap_alloc_old _ _ (by rw [World.size_alloc]; omega)).trans ((heap_alloc_old _ _ this).trans hM.block))
  have hne1 : mb ≠ gg := fun e => hgm e.symm
  have hnb : (Value.slice (some ⟨gg, 0, none⟩) (kids.length + 1) cap5).ownBlock ≠ some mb := fun e => by injection e with e; exact hgm e
  refine add_mk (cap5 := cap5) hM hP hN hown hxs hgrow hat hgm ?_ ?_ ?_ (by simp only [os_set]) (by simp only [tape_set]) (by simp only [out_set]) ?_
  · rw [heap_setCell_other _ _ _ _ hne1, heap_setCell_other _ _ _ _ hne1, heap_setCell_other _ _ _ _ hne1, heap_setCell_other _ _ _ _ hne1]
    exact (heap_setCell_same _ mb 3 #[.int .u8 kind, .int .u8 0, .int .i64 0, v, .pointer (some ⟨pb, 0, none⟩)] 63 _ hb5).trans (by simp)
  · exact row_set4 (ownsRow_setCell_other hown5 hnb _) hown.1 a b c d
  · intro x h1 h2
    rw [heap_setCell_other _ _ _ _ (by assumption), heap_setCell_other _ _ _ _ (by assumption), heap_setCell_other _ _ _ _ (by assumption), heap_setCell_other _ _ _ _ (by assumption), heap_setCell_other _ _ _ _ (by assumption)]
  · rw [World.size_setCell, World.size_setCell, World.size_setCell, World.size_setCell, World.size_setCell]
set_option maxHeartbeats 8000000 in
set_option maxRecDepth 100000 in
theorem add_any (C : Ctx σ) (S : Nat → Prop) (lo : Nat) (w : World) (mb : Nat) (kind : Int) (kids : List Tr) (pb : Nat) (v : Value) (st : St σ) (t : Tr) (cs : List Value)
    (hM : MkAt C S lo w mb kind kids pb v) (hP : ParAt C w pb st) (hN : NodeC (fun b => S b ∨ (lo ≤ b ∧ v.ownBlock ≠ some b)) w t cs) (hlen : kids.length ≤ 1000000) :
    Calls Try.prog 36 #[.pointer (some ⟨mb, 0, none⟩), .agg cs.toArray] w fun e w' => e = .returned (.tuple #[]) ∧ MkPost C S lo mb kind pb w v (kids ++ [t]) st w' := by
  obtain ⟨A, n, cap, rfl, hkn, hnc, hn12, hrow⟩ := hN.four
  obtain ⟨A0, c0, rfl⟩ : ∃ A c, v = .slice A kids.length c := own_slice hM.row.choose_spec.1
  have HN := Aside0.mk hN
  have HM := Aside0.mk hM
  have HP := Aside0.mk hP
  obtain ⟨xs, hown, hxs⟩ := hM.row
  have HXS := Aside0.mk hxs
  have hmlt := hM.lt
  have hc3 : w.cell? ⟨mb, 3, none⟩ = some (.slice A0 kids.length c0) := by rw [blk_cell hM.block]; rfl
  have hf3 : w.frozen? ⟨mb, 3, none⟩ = false := blk_frozen hM.block 3
  have ha1 : ∀ o : Obj, (w.alloc o).cell? ⟨mb, 3, none⟩ = some (.slice A0 kids.length c0) := fun o => by rw [World.cell?_of_block (heap_alloc_old w o hmlt)]; exact hc3
  have ha2 : ∀ o o' : Obj, ((w.alloc o).alloc o').cell? ⟨mb, 3, none⟩ = some (.slice A0 kids.length c0) := fun o o' => by rw [World.cell?_of_block (heap_alloc_old (w.alloc o) o' (Nat.lt_of_lt_of_le hmlt (by rw [World.size_alloc]; omega)))]; exact ha1 o
  have hfa2 : ∀ o o' : Obj, ((w.alloc o).alloc o').frozen? ⟨mb, 3, none⟩ = false := fun o o' => by
    rw [World.frozen?_of_block (heap_alloc_old (w.alloc o) o' (Nat.lt_of_lt_of_le hmlt (by rw [World.size_alloc]; omega))), World.frozen?_of_block (heap_alloc_old w o hmlt)]; exact hf3
  have hlo := hM.hlo
  have hne3 : (Value.slice A0 kids.length c0).ownBlock ≠ some mb := fun e => by
    have := (hown.lt mb e).1
    have := hM.mlt
    omega
  have hl1 : (kids.length : Int) < (kids.length : Int) + 1 := by omega
  obtain ⟨i0, hi0, hz0, hz1, hz2⟩ := info_parts nodeInfo
  have HOWN := Aside0.mk hown
  clear hM hP hN hxs hown hrow hkn
  go_enter Try.func36, Try.ntmps36
  go_upto_region 1 with fail
  go_region_law (first | (refine step_append_lies _ (by rfl) _ _ _ (by rfl) lo 25 i0 _ 4 40 Try.underlying23 hi0 hz0 hz1 hz2 rfl (by omega) (.slice A0 kids.length c0) kids.length xs (by rfl) (((HOWN.out.alloc _).alloc _).drew) ⟨w.heap.size + 1, 0, none⟩ 1 1 [.int .u8 0, .int .u8 0, .int .i64 0, .slice none 0 0] (by rfl) (by rfl) ?hnews ?h1 (by omega) ?h63 ?hby (by simp; omega) (w.heap.size + 1 + 1) ?hH ?_; (case hnews => exact World.news_of_block (cs := #[.int .u8 0, .int .u8 0, .int .i64 0, .slice none 0 0]) (t := 25) (fr := (0, 0)) (heap_at (w := w.alloc _) (World.size_alloc _ _).symm)); (case h1 => simp [Value.oneCell']); (case h63 => (simp only [maxLen]; omega)); (case hby => omega); (case hH => simp only [drew_heap, World.size_alloc]); intro gg cap5 w5 hown5 hgrow hat hlt5; obtain ⟨hq0, hq1, hq2, hq3, hqf⟩ := row_new hown5 HOWN.out.1; have hgm : gg ≠ mb := (fun e => by rcases hat with h | h; (exact hne3 (e ▸ h)); omega); have hmg := hgm.symm; have hm5 : w5.cell? ⟨mb, 3, none⟩ = some (.slice A0 kids.length c0) := ((hgrow.cell_far ⟨mb, 3, none⟩ (by simp only [drew_heap, World.size_alloc]; omega) (fun e => hne3 e.symm)).trans (ha2 _ _)); have hm5f : w5.frozen? ⟨mb, 3, none⟩ = false := ((hgrow.frozen_far ⟨mb, 3, none⟩ (by simp only [drew_heap, World.size_alloc]; omega) (fun e => hne3 e.symm)).trans (hfa2 _ _))))
  all_goals
    go_wp2_with fail
    refine bodyPost_end (v := .tuple #[]) (by first | rfl | simp [results, Try.results36, go_sem]) rfl ⟨rfl, ?_⟩
    first
    | with_reducible exact add_fin1 HM.out HP.out HN.out HOWN.out HXS.out (grown_undrew hgrow) hat hgm hown5
    | with_reducible exact add_fin2 HM.out HP.out HN.out HOWN.out HXS.out (grown_undrew hgrow) hat hgm hown5
end
end Go.Proofs.Ytalnicdpcigocaa.PP
namespace Go.Proofs.Ytalnicdpcigocaa.PP
open Go.RowKit Ps PM PL GR Go.Proofs.YtalnicdpcigocaaW.PrintWords Go.Proofs.YtalnicdpcigocaaW.PrintLast Go.Proofs.YtalnicdpcigocaaW.PrintMore
set_option linter.unusedVariables false
set_option linter.unusedSimpArgs false
section
variable {σ : Type}
theorem of_drawn {X : Nat → Prop} {w : World} (n : Nat) : FrX X w (w.drewN n) := FrX.below (Drawn0.below ⟨n, rfl⟩)
set_option maxHeartbeats 4000000 in
set_option maxRecDepth 100000 in
theorem on_any (C : Ctx σ) (w : World) (pb : Nat) (a h : Int) (s : σ) (at_ : Nat) (ha : at_ ≤ C.L.length)
    (hb : w.heap[pb]? = some (.cells #[.slice C.A C.L.length C.c, .int .i64 a, .int .i64 h, .func (.func C.f) #[] C.caps] 44 (0, 0))) (hlo : C.lo ≤ pb) (hI : C.I s w) :
    Calls Try.prog 12 #[.pointer (some ⟨pb, 0, none⟩), .int .i64 (at_ : Int)] w fun e w' => e = .returned (.tuple #[]) ∧ ParAt C w' pb ⟨at_, s⟩ ∧ FrX (fun b => b = pb) w w' := by
  have hc0 : w.cell? ⟨pb, 0, none⟩ = some (.slice C.A C.L.length C.c) := by rw [blk_cell hb]; rfl
  have HB := Aside0.mk hb
  have HI := Aside0.mk hI
  clear hb hI
  go_enter Try.func12, Try.ntmps12
  go_wp2_with (first | (go_at_call 18; refine (next_any _ C.A C.c C.L (C.toks _ _ HI.out) C.hc (by have := C.hL; omega) at_ ha).mono ?_; rintro e w1 ⟨rfl, hb1⟩; have hlt := blk_lt HB.out; have hb5 := (hb1.block pb hlt).trans HB.out; have hq1 : w1.cell? ⟨pb, 1, none⟩ = some (.int .i64 a) := (by rw [blk_cell hb5]; rfl); have hq2 : w1.cell? ⟨pb, 2, none⟩ = some (.int .i64 h) := (by rw [blk_cell hb5]; rfl); have hqf := blk_frozen hb5))
  refine bodyPost_end (v := .tuple #[]) (by first | rfl | simp [results, Try.results12, go_sem]) rfl ⟨rfl, ?_, ?_⟩
  · refine ⟨?_, hlo, C.keep _ _ _ HI.out (fun b hb => ?_), ha⟩
    · exact (heap_setCell_same _ pb 2 #[.slice C.A C.L.length C.c, .int .i64 (at_ : Int), .int .i64 h, .func (.func C.f) #[] C.caps] 44 _ ((heap_setCell_same _ pb 1 #[.slice C.A C.L.length C.c, .int .i64 a, .int .i64 h, .func (.func C.f) #[] C.caps] 44 _ hb5).trans (by simp))).trans (by simp)
    · rw [heap_setCell_other _ _ _ _ (show b ≠ pb by omega), heap_setCell_other _ _ _ _ (show b ≠ pb by omega)]
      exact hb1.block b (by omega)
  · exact FrX.set (X := fun b => b = pb) (FrX.set (X := fun b => b = pb) (FrX.below hb1) (Or.inl rfl) _) (Or.inl rfl) _
set_option maxHeartbeats 4000000 in
set_option maxRecDepth 100000 in
theorem kind_any (C : Ctx σ) (w : World) (pb : Nat) (st : St σ) (hP : ParAt C w pb st) :
    Calls Try.prog 21 #[.pointer (some ⟨pb, 0, none⟩)] w fun e w' => e = .returned (.int .u8 (st.kd C.L)) ∧ Below w.heap.size w w' := by
  have hc0 : w.cell? ⟨pb, 0, none⟩ = some (.slice C.A C.L.length C.c) := by rw [blk_cell hP.block]; rfl
  have hc2 : w.cell? ⟨pb, 2, none⟩ = some (.int .i64 ((nx C.L st.at_ : Nat) : Int)) := by rw [blk_cell hP.block]; rfl
  have hle := nx_le C.L st.at_ hP.le
  by_cases hlt : nx C.L st.at_ < C.L.length
  · have d1 : (((nx C.L st.at_ : Nat) : Int) == (C.L.length : Int)) = false := by simp; omega
    obtain ⟨ad, e, hk1, hk2, hk3, hk0, hk9⟩ := (C.toks _ _ hP.inv).at_ _ hlt
    have hkd : st.kd C.L = (C.L.getD (nx C.L st.at_) default).kind := by unfold St.kd kindAt; rw [if_pos hlt]
    rw [hkd]
    have hi0 : (0 : Int) ≤ ((nx C.L st.at_ : Nat) : Int) := by omega
    have hi1 : ((nx C.L st.at_ : Nat) : Int) < (C.L.length : Int) := by omega
    have htn : ((nx C.L st.at_ : Nat) : Int).toNat = nx C.L st.at_ := by omega
    rw [e] at hc0
    clear hkd hk2 hk3 hk0 hk9 hle hlt e hP
    generalize (C.L.getD (nx C.L st.at_) default).kind = kd at *
    generalize nx C.L st.at_ = hd at *
    go_enter Try.func21, Try.ntmps21
    go_upto_region 1 with fail
    go_quiet (fail)
    go_wp2
    go_quiet (fail)
    go_wp2
    go_ret
    exact ⟨rfl, Below.trans (Drawn0.below ⟨_, rfl⟩) (Below.mono (Drawn0.below ⟨_, rfl⟩) (Drawn0.below ⟨_, rfl⟩).size)⟩
  · have he : nx C.L st.at_ = C.L.length := by omega
    have hkd : st.kd C.L = 0 := by unfold St.kd kindAt; rw [if_neg hlt]
    rw [hkd]
    rw [he] at hc2
    have d1 : ((C.L.length : Int) == (C.L.length : Int)) = true := by simp
    clear hkd hle hlt he hP
    go_enter Try.func21, Try.ntmps21
    go_upto_region 1 with fail
    go_quiet (fail)
    go_wp2
    go_ret
    exact ⟨rfl, Drawn0.below ⟨_, rfl⟩⟩
end
end Go.Proofs.Ytalnicdpcigocaa.PP
namespace Go.Proofs.Ytalnicdpcigocaa.GR
open Go.RowKit Go.Proofs.YtalnicdpcigocaaW.PrintWords Go.Proofs.YtalnicdpcigocaaW.PrintLast Go.Proofs.YtalnicdpcigocaaW.PrintMore
set_option linter.unusedVariables false
set_option linter.unusedSimpArgs false
theorem IsKnown.first {w : World} {g r : Nat} {B : Nat → Nat} (h : IsKnown w g r B) (s : Nat) (hs : s < 256) : w.cell? ⟨g, 1 + s, none⟩ = some (.int .u64 (Int.ofNat (Gm.first s))) := (blk_cell h.cells _).trans (known_first _ _ _ _ hs)
theorem IsKnown.part {w : World} {g r : Nat} {B : Nat → Nat} (h : IsKnown w g r B) (s : Nat) (hs : s < 256) : w.cell? ⟨g, 769 + s, none⟩ = some (.bool (Gm.part s)) := (blk_cell h.cells _).trans (known_part _ _ _ _ hs)
theorem first_lt (s : Nat) (hs : s < 256) : Gm.first s < 2 ^ 41 := by
  have : (List.range 256).all (fun s => decide (Gm.first s < 2 ^ 41)) = true := by decide +kernel
  simpa using List.all_eq_true.1 this s (by simpa using hs)
theorem bit_u64 (a k : Nat) (h : a < 2 ^ 41) : (bits BinOp.and IntKind.u64 ((a : Int) / 2 ^ k) 1 == 1) = a.testBit k := by
  have e : (a : Int) / 2 ^ k = ((a / 2 ^ k : Nat) : Int) := by rw [Int.natCast_ediv]; simp
  rw [e, show (1 : Int) = ((1 : Nat) : Int) from rfl, u64_and_nat _ _ (by have := Nat.div_le_self a (2 ^ k); omega) (by omega)]
  rw [Nat.testBit, Nat.shiftRight_eq_div_pow, Nat.and_comm 1]
  have h2 : a / 2 ^ k &&& 1 = (a / 2 ^ k) % 2 := Nat.and_one_is_mod _
  rw [h2]
  have := Nat.mod_two_eq_zero_or_one (a / 2 ^ k)
  rcases this with h | h <;> rw [h] <;> rfl
def begs (s k : Nat) : Bool := Gm.part s && (decide (0 < k) && (decide (k < 64) && (Gm.first s).testBit k))
set_option maxHeartbeats 1000000 in
theorem progBegins_any (w : World) (s k : Nat) (hs : s < 256) (hk : k < 256) :
    Calls Try.prog 75 #[.int .u8 (Int.ofNat s), .int .u8 (Int.ofNat k)] w fun e w' => e = .returned (.bool (begs s k)) ∧ Below w.heap.size w w' := by
  go_enter Try.func75, Try.ntmps75
  go_wp2_with fail
  refine (ready_any _).mono ?_
  rintro e w1 ⟨g, r, B, rfl, hg, hK, hb1⟩
  have he := hK.part s hs
  have hf := hK.first s hs
  have hs0 : (0 : Int) ≤ (s : Int) := by omega
  have hs1 : (s : Int) < 256 := by omega
  have HK := Aside0.mk hK
  have HB1 := Aside0.mk hb1
  clear hK hb1
  have hq := bit_u64 (Gm.first s) k (first_lt s hs)
  cases hp : Gm.part s with
  | false =>
    rw [hp] at he
    have HP := Aside0.mk hp
    clear hp hf hq
    go_wp2
    go_ret
    exact ⟨by unfold begs; rw [HP.out]; rfl, HB1.out⟩
  | true =>
    rw [hp] at he
    have HP := Aside0.mk hp
    clear hp
    by_cases h0 : 0 < k
    · by_cases h64 : k < 64
      · have d0 : decide ((0 : Int) < (k : Int)) = true := by simp; omega
        have d1 : decide ((k : Int) < 64) = true := by simp; omega
        have hk64 : (k : Int) < 64 := by omega
        have hk0 : (0 : Int) ≤ (k : Int) := by omega
        have HE : Aside0 (begs s k = (Gm.first s).testBit k) := ⟨by unfold begs; rw [HP.out]; simp [h0, h64]⟩
        generalize (Gm.first s).testBit k = b1 at *
        go_wp2
        go_ret
        exact ⟨by rw [HE.out]; rfl, HB1.out⟩
      · have d0 : decide ((0 : Int) < (k : Int)) = true := by simp; omega
        have d1 : decide ((k : Int) < 64) = false := by simp; omega
        have HE : Aside0 (begs s k = false) := ⟨by unfold begs; simp [h64]⟩
        clear hq hf
        go_wp2
        go_ret
        exact ⟨by rw [HE.out]; rfl, HB1.out⟩
    · have d0 : decide ((0 : Int) < (k : Int)) = false := by simp; omega
      have HE : Aside0 (begs s k = false) := ⟨by unfold begs; simp [h0]⟩
      clear hq hf
      go_wp2
      go_ret
      exact ⟨by rw [HE.out]; rfl, HB1.out⟩
theorem begs_expr (k : Nat) (hk : k < 256) : begs 60 k = Ps.begins (k : Int) := by
  have : (List.range 256).all (fun k => decide (begs 60 k = Ps.begins (k : Int))) = true := by decide +kernel
  simpa using List.all_eq_true.1 this k (by simpa using hk)
theorem exprBegins_any (w : World) (k : Nat) (hk : k < 256) :
    Calls Try.prog 75 #[.int .u8 60, .int .u8 (k : Int)] w fun e w' => e = .returned (.bool (Ps.begins (k : Int))) ∧ Below w.heap.size w w' := by
  rw [← begs_expr k hk]
  exact progBegins_any w 60 k (by decide) hk
end Go.Proofs.Ytalnicdpcigocaa.GR
namespace Go.Proofs.Ytalnicdpcigocaa.PP
open Go.RowKit Ps PM PL GR Go.Proofs.YtalnicdpcigocaaW.PrintWords Go.Proofs.YtalnicdpcigocaaW.PrintLast Go.Proofs.YtalnicdpcigocaaW.PrintMore
set_option linter.unusedVariables false
set_option linter.unusedSimpArgs false
theorem leafC (S : Nat → Prop) (w : World) (k wt wd : Int) : NodeC S w (.mk k wt wd []) [.int .u8 k, .int .u8 wt, .int .i64 wd, .slice none 0 0] := by
  unfold NodeC
  exact ⟨none, 0, 0, rfl, rfl, Nat.le_refl _, by omega, by unfold RowC; trivial⟩
theorem alloc_cell {w : World} {a : Addr} {u : Value} (h : w.cell? a = some u) (o : Obj) : (w.alloc o).cell? a = some u := by
  rw [World.cell?_of_block (heap_alloc_old w o (cell_lt h))]; exact h
theorem nx_mid (L : List Tok) : ∀ (d at_ i : Nat), i = at_ + d → i ≤ nx L at_ → nx L i = nx L at_
  | 0, at_, i, h, h2 => by rw [h]; rfl
  | d + 1, at_, i, h, h2 => by
    have hlt : at_ < L.length := by
      rcases Nat.lt_or_ge at_ L.length with h' | h'
      · exact h'
      · rw [nx_end L at_ h'] at h2; omega
    have hc : counts (L.getD at_ default).kind = false := by
      cases hc : counts (L.getD at_ default).kind with
      | false => rfl
      | true => rw [nx_yes L at_ hlt hc] at h2; omega
    rw [nx_no L at_ hlt hc]
    exact nx_mid L d (at_ + 1) i (by omega) (by rw [← nx_no L at_ hlt hc]; exact h2)
theorem take_next (L : List Tok) (a i : Nat) (h : a ≤ i) (hi : i < L.length) : (L.drop a).take (i + 1 - a) = (L.drop a).take (i - a) ++ [L.getD i default] := by
  rw [show i + 1 - a = (i - a) + 1 by omega, List.take_add_one, List.getElem?_drop, show a + (i - a) = i by omega, List.getD_eq_getElem?_getD, List.getElem?_eq_getElem hi]
  rfl
section
variable {σ : Type}
theorem ParAt.below {C : Ctx σ} {w w' : World} {pb : Nat} {st : St σ} (h : ParAt C w pb st) (k : Below w.heap.size w w') : ParAt C w' pb st := h.move (X := fun _ => False) (FrX.below k) (fun e => e) (fun _ _ e => e)
theorem MkAt.below {C : Ctx σ} {S : Nat → Prop} {lo : Nat} {w w' : World} {mb : Nat} {kind : Int} {kids : List Tr} {pb : Nat} {v : Value} (h : MkAt C S lo w mb kind kids pb v) (k : Below w.heap.size w w') : MkAt C S lo w' mb kind kids pb v := h.move (X := fun _ => False) (FrX.below k) (fun e => e) (fun _ _ e => e) (fun _ _ e => e)
theorem ParAt.drew {C : Ctx σ} {w : World} {pb : Nat} {st : St σ} (h : ParAt C w pb st) : ParAt C w.drew pb st := h.below ((Below.refl _ _).drew)
theorem MkAt.drew {C : Ctx σ} {S : Nat → Prop} {lo : Nat} {w : World} {mb : Nat} {kind : Int} {kids : List Tr} {pb : Nat} {v : Value} (h : MkAt C S lo w mb kind kids pb v) : MkAt C S lo w.drew mb kind kids pb v := h.below ((Below.refl _ _).drew)
theorem ParAt.step1 {C : Ctx σ} {w : World} {pb i : Nat} {s : σ} (h : ParAt C w pb ⟨i, s⟩) (hn : nx C.L (i + 1) = nx C.L i) (hi : i < C.L.length) : ParAt C (w.setCell ⟨pb, 1, none⟩ (.int .i64 ((i : Int) + 1))) pb ⟨i + 1, s⟩ := by
  have hb := h.block
  have hpl := h.lo
  refine ⟨?_, h.lo, C.keep _ _ _ h.inv (fun b hb => heap_setCell_other _ _ _ _ (show b ≠ pb by omega)), hi⟩
  show _ = some (Obj.cells #[.slice C.A C.L.length C.c, .int .i64 ((i + 1 : Nat) : Int), .int .i64 ((nx C.L (i + 1) : Nat) : Int), .func (.func C.f) #[] C.caps] _ _)
  rw [hn, show ((i + 1 : Nat) : Int) = (i : Int) + 1 by omega]
  exact (heap_setCell_same _ pb 1 #[.slice C.A C.L.length C.c, .int .i64 (i : Int), .int .i64 ((nx C.L i : Nat) : Int), .func (.func C.f) #[] C.caps] 44 _ hb).trans (by simp)
theorem XM.old {C : Ctx σ} {pb mb : Nat} {v v' : Value} {n : Nat} (hv : v'.ownBlock = v.ownBlock ∨ ∀ g, v'.ownBlock = some g → n ≤ g) : ∀ b, b < n → XM C pb mb v' b → XM C pb mb v b := by
  intro b hb hx
  rcases hx with hx | hx | hx | hx
  · exact Or.inl hx
  · exact Or.inr (Or.inl hx)
  · rcases hv with hv | hv
    · exact Or.inr (Or.inr (Or.inl (hv ▸ hx)))
    · have := hv b hx; omega
  · exact Or.inr (Or.inr (Or.inr hx))
theorem own_trans {v v1 v2 : Value} {n m : Nat} (h : v1.ownBlock = v.ownBlock ∨ ∀ g, v1.ownBlock = some g → n ≤ g) (k : v2.ownBlock = v1.ownBlock ∨ ∀ g, v2.ownBlock = some g → m ≤ g) (hnm : n ≤ m) : v2.ownBlock = v.ownBlock ∨ ∀ g, v2.ownBlock = some g → n ≤ g := by
  rcases k with k | k
  · rw [k]; exact h
  · exact Or.inr (fun g hg => Nat.le_trans hnm (k g hg))
theorem kd_nat (C : Ctx σ) {w : World} {pb : Nat} {st : St σ} (hP : ParAt C w pb st) : ∃ k : Nat, st.kd C.L = (k : Int) ∧ k < 256 := by
  by_cases hlt : nx C.L st.at_ < C.L.length
  · obtain ⟨ad, e, hk1, hk2, hk3, hk0, hk9⟩ := (C.toks _ _ hP.inv).at_ _ hlt
    refine ⟨(st.kd C.L).toNat, ?_, ?_⟩ <;> (unfold St.kd kindAt; rw [if_pos hlt]; omega)
  · exact ⟨0, by unfold St.kd kindAt; rw [if_neg hlt]; rfl, by omega⟩
set_option maxHeartbeats 4000000 in
set_option maxRecDepth 100000 in
theorem beg_any (C : Ctx σ) (w : World) (pb : Nat) (st : St σ) (hP : ParAt C w pb st) :
    Calls Try.prog 69 #[.pointer (some ⟨pb, 0, none⟩)] w fun e w' => e = .returned (.bool (begins (st.kd C.L))) ∧ Below w.heap.size w w' := by
  obtain ⟨k, hk, hk256⟩ := kd_nat C hP
  have HK := Aside0.mk (kind_any C w pb st hP)
  rw [hk] at HK ⊢
  clear hk hP
  go_enter Try.func69, Try.ntmps69
  go_wp2_with (first | (go_at_call 21; refine (HK.out).mono ?_; rintro e w1 ⟨rfl, hb1⟩) | (go_at_call 75; refine (exprBegins_any _ k hk256).mono ?_; rintro e w2 ⟨rfl, hb2⟩))
  go_ret
  exact ⟨rfl, hb1.trans (Below.mono hb2 hb1.size)⟩
set_option maxHeartbeats 4000000 in
set_option maxRecDepth 100000 in
theorem missing_any (C : Ctx σ) (S : Nat → Prop) (lo : Nat) (w : World) (mb : Nat) (kind : Int) (kids : List Tr) (pb : Nat) (v : Value) (st : St σ) (k : Int)
    (hM : MkAt C S lo w mb kind kids pb v) (hP : ParAt C w pb st) (hlen : kids.length ≤ 1000000) :
    Calls Try.prog 55 #[.pointer (some ⟨mb, 0, none⟩), .int .u8 k] w fun e w' => e = .returned (.tuple #[]) ∧ MkPost C S lo mb kind pb w v (kids ++ [missing k]) st w' := by
  have HM := Aside0.mk hM
  have HP := Aside0.mk hP
  clear hM hP
  go_enter Try.func55, Try.ntmps55
  go_wp2_with (first | (go_at_call 36; refine (add_any C S lo _ mb kind kids pb v st (missing k) [.int .u8 50, .int .u8 k, .int .i64 0, .slice none 0 0] HM.out HP.out (leafC _ _ _ _ _) hlen).mono ?_; rintro e w1 ⟨rfl, hp1⟩))
  refine bodyPost_end (v := .tuple #[]) (by first | rfl | simp [results, Try.results55, go_sem]) rfl ⟨rfl, hp1⟩
set_option maxHeartbeats 8000000 in
set_option maxRecDepth 100000 in
theorem gap_any (C : Ctx σ) (S : Nat → Prop) (lo : Nat) (w : World) (mb : Nat) (kind : Int) (kids : List Tr) (pb : Nat) (v : Value) (st : St σ)
    (hM : MkAt C S lo w mb kind kids pb v) (hP : ParAt C w pb st) (hlen : kids.length ≤ 500000) :
    Calls Try.prog 23 #[.pointer (some ⟨mb, 0, none⟩)] w fun e w' => e = .returned (.tuple #[]) ∧ MkPost C S lo mb kind pb w v (kids ++ gapL C.L st) (st.to C.L) w' := by
  have HM := Aside0.mk hM
  have HP := Aside0.mk hP
  clear hM hP
  go_enter Try.func23, Try.ntmps23
  go_wp2
  go_loopw [] (fun wr => ∃ (i : Nat) (v' : Value), st.at_ ≤ i ∧ i ≤ nx C.L st.at_ ∧ Aside0 (v'.ownBlock = v.ownBlock ∨ ∀ g, v'.ownBlock = some g → w.heap.size ≤ g) ∧
    Aside0 (MkAt C S lo wr mb kind (kids ++ ((C.L.drop st.at_).take (i - st.at_)).map leaf) pb v') ∧ Aside0 (ParAt C wr pb ⟨i, st.s⟩) ∧ Aside0 (FrX (XM C pb mb v) w wr)) (fun wr => nx C.L st.at_ - (match wr.cell? ⟨pb, 1, none⟩ with | some (.int .i64 i) => i.toNat | _ => 0))
  case atStart => exact ⟨st.at_, v, Nat.le_refl _, nx_ge _ _, ⟨Or.inl rfl⟩, ⟨by simpa using HM.out⟩, ⟨HP.out⟩, ⟨FrX.refl _ _⟩⟩
  case round =>
    obtain ⟨i, v', h1, h2, HV, HM', HP', HF⟩ := hrel
    have hmid := nx_mid C.L (i - st.at_) st.at_ i (by omega) h2
    have hm4 : wr.cell? ⟨mb, 4, none⟩ = some (.pointer (some ⟨pb, 0, none⟩)) := by rw [blk_cell HM'.out.block]; rfl
    have hp1 : wr.cell? ⟨pb, 1, none⟩ = some (.int .i64 (i : Int)) := by rw [blk_cell HP'.out.block]; rfl
    have hp2 : wr.cell? ⟨pb, 2, none⟩ = some (.int .i64 ((nx C.L st.at_ : Nat) : Int)) := by rw [← hmid, blk_cell HP'.out.block]; rfl
    have hnl := nx_le C.L st.at_ HP.out.le
    have hL := C.hL
    have hml := HM'.out.lt
    have hpl := HP'.out.lt
    by_cases hlt : i < nx C.L st.at_
    · have d1 : decide ((i : Int) < ((nx C.L st.at_ : Nat) : Int)) = true := by simp; omega
      have hi0 : (0 : Int) ≤ (i : Int) := by omega
      have hi1 : (i : Int) < (C.L.length : Int) := by omega
      have htn : (i : Int).toNat = i := by omega
      have hiL : i < C.L.length := by omega
      have hlen' : (kids ++ ((C.L.drop st.at_).take (i - st.at_)).map leaf).length ≤ 1000000 := by
        rw [List.length_append, List.length_map, List.length_take]
        have : min (i - st.at_) (C.L.drop st.at_).length ≤ i - st.at_ := Nat.min_le_left _ _
        omega
      go_wp2
      go_quiet (fail)
      go_wp2
      generalize hq : wr.drewN nq = wq
      have hbq : Below wr.heap.size wr wq := hq ▸ Drawn0.below ⟨nq, rfl⟩
      have HM2 := Aside0.mk (HM'.out.below hbq)
      have HP2 := Aside0.mk (HP'.out.below hbq)
      have HF2 := Aside0.mk (HF.out.trans (FrX.below (X := fun _ => False) hbq) (fun _ e => e) (fun _ _ e => e.elim))
      have HMS := Aside0.mk hp1
      clear hm4 hp1 hp2 hq hbq HM' HP' HF
      have hm4 : wq.cell? ⟨mb, 4, none⟩ = some (.pointer (some ⟨pb, 0, none⟩)) := by rw [blk_cell HM2.out.block]; rfl
      have hp0 : wq.cell? ⟨pb, 0, none⟩ = some (.slice C.A C.L.length C.c) := by rw [blk_cell HP2.out.block]; rfl
      have hp1 : wq.cell? ⟨pb, 1, none⟩ = some (.int .i64 (i : Int)) := by rw [blk_cell HP2.out.block]; rfl
      obtain ⟨ad, e, hk1, hk2, hk3, hk0, hk9⟩ := (C.toks _ _ HP2.out.inv).at_ i hiL
      rw [e] at hp0
      clear hk0 hk9
      have am4 := alloc_cell hm4
      have ap0 := alloc_cell hp0
      have ap1 := alloc_cell hp1
      have ak1 := alloc_cell hk1
      have ak2 := alloc_cell hk2
      have ak3 := alloc_cell hk3
      generalize htk : C.L.getD i default = tk at *
      have HTK := Aside0.mk htk
      clear htk
      go_region
      all_goals
        go_wp2_with (first | (go_at_call 36; refine (add_any C S lo _ mb kind _ pb v' ⟨i, st.s⟩ (leaf tk) [.int .u8 tk.kind, .int .u8 0, .int .i64 tk.width, .slice none 0 0] (MkAt.below HM2.out ?hb1) (ParAt.below HP2.out ?hb2) (leafC _ _ _ _ _) hlen').mono ?hpost; (case hb1 => exact ((Below.refl _ _).alloc (Nat.le_refl _) _).drew); (case hb2 => exact ((Below.refl _ _).alloc (Nat.le_refl _) _).drew); rintro e w1 ⟨rfl, v2, hv2, hM3, hP3, hF3⟩; have HM3 := Aside0.mk hM3; have HP3 := Aside0.mk hP3; have HF3 := Aside0.mk hF3; have HV2 := Aside0.mk hv2; clear hM3 hP3 hF3 hv2; have qm4 : w1.cell? ⟨mb, 4, none⟩ = some (.pointer (some ⟨pb, 0, none⟩)) := (by rw [blk_cell HM3.out.block]; rfl); have qp1 : w1.cell? ⟨pb, 1, none⟩ = some (.int .i64 (i : Int)) := (by rw [blk_cell HP3.out.block]; rfl); have qpf := blk_frozen HP3.out.block 1))
        go_roundw
        case rel =>
          have hb3 : Below wq.heap.size wq (wq.alloc (.cells #[.int .u8 tk.kind, .int .i64 tk.width, .int .i64 tk.look] 38)).drew := ((Below.refl _ _).alloc (Nat.le_refl _) _).drew
          have hn1 : nx C.L (i + 1) = nx C.L i := (nx_mid C.L (i + 1 - st.at_) st.at_ (i + 1) (by omega) (by omega)).trans hmid.symm
          have hset : FrX (XP C pb) w1 (w1.setCell ⟨pb, 1, none⟩ (.int .i64 ((i : Int) + 1))) := (FrX.refl _ _).set (Or.inl (Or.inl rfl)) _
          refine ⟨i + 1, v2, by omega, by omega, ⟨own_trans HV.out HV2.out (Nat.le_trans HF2.out.size hb3.size)⟩, ⟨?_⟩, ⟨HP3.out.step1 hn1 hiL⟩, ⟨?_⟩⟩
          · rw [take_next C.L st.at_ i h1 hiL, HTK.out, List.map_append, ← List.append_assoc]
            exact HM3.out.part hset
          · refine ((HF2.out.trans (FrX.below (X := fun _ => False) hb3) (fun _ h => h) (fun _ _ h => h.elim)).trans HF3.out (fun _ h => h) (fun b hb => XM.old HV.out b hb)).trans hset (fun _ h => h) (fun b _ h => ?_)
            rcases h with h | h
            · exact Or.inl h
            · exact Or.inr (Or.inr (Or.inr h))
        case measure =>
          have hn1 : nx C.L (i + 1) = nx C.L i := (nx_mid C.L (i + 1 - st.at_) st.at_ (i + 1) (by omega) (by omega)).trans hmid.symm
          have hc : (w1.setCell ⟨pb, 1, none⟩ (.int .i64 ((i : Int) + 1))).cell? ⟨pb, 1, none⟩ = some (.int .i64 ((i + 1 : Nat) : Int)) := by rw [blk_cell (HP3.out.step1 hn1 hiL).block]; rfl
          rw [hc, HMS.out]
          show nx C.L st.at_ - (((i + 1 : Nat) : Int)).toNat < nx C.L st.at_ - ((i : Int)).toNat
          omega
    · have d1 : decide ((i : Int) < ((nx C.L st.at_ : Nat) : Int)) = false := by simp; omega
      have hie : i = nx C.L st.at_ := by omega
      go_wp2
      go_quiet (fail)
      go_wp2
      have hbd : Below wr.heap.size wr (wr.drewN nq) := Drawn0.below ⟨nq, rfl⟩
      refine bodyPost_end (v := .tuple #[]) (by first | rfl | simp [results, Try.results23, go_sem]) rfl ⟨rfl, v', HV.out, ?_, ?_, ?_⟩
      · have := HM'.out.below hbd
        rw [hie] at this
        exact this
      · have := HP'.out.below hbd
        rw [hie] at this
        exact this
      · exact HF.out.trans (FrX.below (X := fun _ => False) hbd) (fun _ h => h) (fun _ _ h => h.elim)
end
end Go.Proofs.Ytalnicdpcigocaa.PP
namespace Go.Proofs.Ytalnicdpcigocaa.PP
open Go.RowKit Ps PM PL GR Go.Proofs.YtalnicdpcigocaaW.PrintWords Go.Proofs.YtalnicdpcigocaaW.PrintLast Go.Proofs.YtalnicdpcigocaaW.PrintMore
set_option linter.unusedVariables false
set_option linter.unusedSimpArgs false
section
variable {σ : Type}
theorem hand_lt (L : List Tok) (st : St σ) (h : st.kd L ≠ 0) : nx L st.at_ < L.length := by
  rcases Nat.lt_or_ge (nx L st.at_) L.length with h' | h'
  · exact h'
  · exact absurd (by unfold St.kd kindAt; rw [if_neg (by omega)]) h
theorem gap_len (L : List Tok) (st : St σ) (hL : L.length ≤ 16384) : (gapL L st).length ≤ 16384 := by
  unfold gapL
  rw [List.length_map, List.length_take, List.length_drop]
  omega
theorem fr_below {X : Nat → Prop} {w w1 w2 : World} (h : FrX X w w1) (k : Below w1.heap.size w1 w2) : FrX X w w2 := h.trans (FrX.below (X := fun _ => False) k) (fun _ h => h) (fun _ _ h => h.elim)
theorem fr_part {C : Ctx σ} {pb mb : Nat} {v : Value} {w w1 w2 : World} (h : FrX (XM C pb mb v) w w1) (k : FrX (XP C pb) w1 w2) : FrX (XM C pb mb v) w w2 :=
  h.trans k (fun _ h => h) (fun b _ e => by
    rcases e with e | e
    · exact Or.inl e
    · exact Or.inr (Or.inr (Or.inr e)))
theorem fr_mk {C : Ctx σ} {pb mb : Nat} {v v1 : Value} {w w1 w2 : World} (h : FrX (XM C pb mb v) w w1) (hv : v1.ownBlock = v.ownBlock ∨ ∀ g, v1.ownBlock = some g → w.heap.size ≤ g) (k : FrX (XM C pb mb v1) w1 w2) : FrX (XM C pb mb v) w w2 :=
  h.trans k (fun _ h => h) (fun b hb => XM.old hv b hb)
theorem fr_pb {C : Ctx σ} {pb : Nat} {w w1 : World} (h : FrX (fun b => b = pb) w w1) : FrX (XP C pb) w w1 := h.mono (fun b _ e => Or.inl e)
set_option maxHeartbeats 8000000 in
set_option maxRecDepth 100000 in
theorem take_any (C : Ctx σ) (S : Nat → Prop) (lo : Nat) (w : World) (mb : Nat) (kind : Int) (kids : List Tr) (pb : Nat) (v : Value) (st : St σ)
    (hM : MkAt C S lo w mb kind kids pb v) (hP : ParAt C w pb st) (hlen : kids.length ≤ 400000) (hk : st.kd C.L ≠ 0) :
    Calls Try.prog 50 #[.pointer (some ⟨mb, 0, none⟩)] w fun e w' => e = .returned (.tuple #[]) ∧ MkPost C S lo mb kind pb w v (kids ++ (nextL C.L st).1) (nextL C.L st).2 w' := by
  have HM := Aside0.mk hM
  have HP := Aside0.mk hP
  have hlt := hand_lt C.L st hk
  have hL := C.hL
  have hgl := gap_len C.L st hL
  have hnn := nx_nx C.L st.at_ hP.le
  have hi0 : (0 : Int) ≤ ((nx C.L st.at_ : Nat) : Int) := by omega
  have hi1 : ((nx C.L st.at_ : Nat) : Int) < (C.L.length : Int) := by omega
  have htn : ((nx C.L st.at_ : Nat) : Int).toNat = nx C.L st.at_ := by omega
  have hcast : ((nx C.L st.at_ : Nat) : Int) + 1 = ((nx C.L st.at_ + 1 : Nat) : Int) := by omega
  have HCAST := Aside0.mk hcast
  have hlen1 : (kids ++ gapL C.L st).length ≤ 1000000 := by rw [List.length_append]; omega
  clear hM hP hk hcast
  go_enter Try.func50, Try.ntmps50
  go_wp2_with (first | (go_at_call 23; refine (gap_any C S lo _ mb kind kids pb v st HM.out HP.out (by omega)).mono ?_; rintro e w1 ⟨rfl, v1, hv1, hM1, hP1, hF1⟩))
  have HM1 := Aside0.mk hM1
  have HP1 := Aside0.mk hP1
  have HF1 := Aside0.mk hF1
  have HV1 := Aside0.mk hv1
  clear hM1 hP1 hF1 hv1
  have hml := HM1.out.lt
  have hpl := HP1.out.lt
  have hm4 : w1.cell? ⟨mb, 4, none⟩ = some (.pointer (some ⟨pb, 0, none⟩)) := by rw [blk_cell HM1.out.block]; rfl
  have hp0 : w1.cell? ⟨pb, 0, none⟩ = some (.slice C.A C.L.length C.c) := by rw [blk_cell HP1.out.block]; rfl
  have hp2 : w1.cell? ⟨pb, 2, none⟩ = some (.int .i64 ((nx C.L st.at_ : Nat) : Int)) := by
    rw [blk_cell HP1.out.block, ← hnn]; rfl
  obtain ⟨ad, e, hk1, hk2, hk3, hk0, hk9⟩ := (C.toks _ _ HP1.out.inv).at_ _ hlt
  rw [e] at hp0
  clear hk0 hk9
  have am4 := alloc_cell hm4
  have ap0 := alloc_cell hp0
  have ap2 := alloc_cell hp2
  have ak1 := alloc_cell hk1
  have ak2 := alloc_cell hk2
  have ak3 := alloc_cell hk3
  generalize htk : C.L.getD (nx C.L st.at_) default = tk at *
  have HTK := Aside0.mk htk
  clear htk
  go_region
  all_goals
    go_wp2_with (first | (go_at_call 36; refine (add_any C S lo _ mb kind _ pb v1 (st.to C.L) (leaf tk) [.int .u8 tk.kind, .int .u8 0, .int .i64 tk.width, .slice none 0 0] (MkAt.below HM1.out ?hb1) (ParAt.below HP1.out ?hb2) (leafC _ _ _ _ _) hlen1).mono ?hpost; (case hb1 => exact ((Below.refl _ _).alloc (Nat.le_refl _) _).drew); (case hb2 => exact ((Below.refl _ _).alloc (Nat.le_refl _) _).drew); rintro e w2 ⟨rfl, v2, hv2, hM2, hP2, hF2⟩; have HM2 := Aside0.mk hM2; have HP2 := Aside0.mk hP2; have HF2 := Aside0.mk hF2; have HV2 := Aside0.mk hv2; clear hM2 hP2 hF2 hv2; have qm4 : w2.cell? ⟨mb, 4, none⟩ = some (.pointer (some ⟨pb, 0, none⟩)) := (by rw [blk_cell HM2.out.block]; rfl); have qp2 : w2.cell? ⟨pb, 2, none⟩ = some (.int .i64 ((nx C.L st.at_ : Nat) : Int)) := (by rw [blk_cell HP2.out.block, ← hnn]; rfl)))
    go_still_tail 12, (by kernel_rfl)
    change wpList _ _ _ _ _ w2.drew
    go_wp2_with (first | (go_at_call 12; rw [HCAST.out]; refine (on_any C _ pb _ _ st.s (nx C.L st.at_ + 1) (by omega) HP2.out.drew.block HP2.out.lo HP2.out.drew.inv).mono ?_; rintro e w3 ⟨rfl, hP3, hF3⟩))
    refine bodyPost_end (v := .tuple #[]) (by first | rfl | simp [results, Try.results50, go_sem]) rfl ⟨rfl, v2, ?_, ?_, ?_, ?_⟩
    · exact own_trans HV1.out HV2.out (Nat.le_trans HF1.out.size ((Below.refl _ _).alloc (Nat.le_refl _) _).size)
    · have hN : (nextL C.L st).1 = gapL C.L st ++ [leaf tk] := by rw [HTK.out.symm]; rfl
      rw [hN, ← List.append_assoc]
      exact HM2.out.drew.part (fr_pb hF3)
    · exact hP3
    · exact fr_part (fr_below (fr_mk (fr_below HF1.out ((Below.refl _ _).alloc (Nat.le_refl _) _).drew) HV1.out HF2.out) (Below.refl _ _).drew) (fr_pb hF3)
end
end Go.Proofs.Ytalnicdpcigocaa.PP
namespace Go.Proofs.Ytalnicdpcigocaa.PP
open Go.RowKit Ps PM PL GR Go.Proofs.YtalnicdpcigocaaW.PrintWords Go.Proofs.YtalnicdpcigocaaW.PrintLast Go.Proofs.YtalnicdpcigocaaW.PrintMore
set_option linter.unusedVariables false
set_option linter.unusedSimpArgs false
section
variable {σ : Type}
/-- what a step leaves, told of a world before -/
theorem MkPost.from {C : Ctx σ} {S : Nat → Prop} {lo mb pb : Nat} {kind : Int} {w w1 w2 : World} {v : Value} {kids : List Tr} {st : St σ} (b : Below w.heap.size w w1) (h : MkPost C S lo mb kind pb w1 v kids st w2) : MkPost C S lo mb kind pb w v kids st w2 := by
  obtain ⟨v2, h1, h2, h3, h4⟩ := h
  refine ⟨v2, h1.imp id (fun h g hg => Nat.le_trans b.size (h g hg)), h2, h3, ?_⟩
  exact (FrX.below (X := fun _ => False) b).trans h4 (fun _ h => h.elim) (fun _ _ h => h)
set_option maxHeartbeats 8000000 in
set_option maxRecDepth 100000 in
theorem want_any (C : Ctx σ) (S : Nat → Prop) (lo : Nat) (w : World) (mb : Nat) (kind : Int) (kids : List Tr) (pb : Nat) (v : Value) (st : St σ) (k : Int) (hk0 : k ≠ 0)
    (hM : MkAt C S lo w mb kind kids pb v) (hP : ParAt C w pb st) (hlen : kids.length ≤ 300000) :
    Calls Try.prog 58 #[.pointer (some ⟨mb, 0, none⟩), .int .u8 k] w fun e w' => e = .returned (.tuple #[]) ∧ MkPost C S lo mb kind pb w v (kids ++ (wantL C.L k st).1) (wantL C.L k st).2 w' := by
  have HM := Aside0.mk hM
  have HP := Aside0.mk hP
  have hm4 : w.cell? ⟨mb, 4, none⟩ = some (.pointer (some ⟨pb, 0, none⟩)) := by rw [blk_cell hM.block]; rfl
  have HKD := Aside0.mk (kind_any C w pb st hP)
  clear hM hP
  by_cases hk : st.kd C.L = k
  · have hb : (k == k) = true := by simp
    have HW : Aside0 (wantL C.L k st = nextL C.L st) := ⟨by unfold wantL; rw [if_pos hk]⟩
    rw [HW.out]
    have HN : Aside0 (st.kd C.L ≠ 0) := ⟨by rw [hk]; exact hk0⟩
    rw [hk] at HKD
    clear hk hk0
    go_enter Try.func58, Try.ntmps58
    go_wp2_with (first | (go_at_call 21; refine (HKD.out).mono ?_; rintro e w1 ⟨rfl, hb1⟩) | (go_at_call 50; refine (take_any C S lo _ mb kind kids pb v st (HM.out.below hb1) (HP.out.below hb1) (by omega) HN.out).mono ?_; rintro e w2 ⟨rfl, hp2⟩))
    refine bodyPost_end (v := .tuple #[]) (by first | rfl | simp [results, Try.results58, go_sem]) rfl ⟨rfl, hp2.from hb1⟩
  · have hb : (st.kd C.L == k) = false := nb hk
    have HW : Aside0 (wantL C.L k st = ([missing k], st)) := ⟨by unfold wantL; rw [if_neg hk]⟩
    rw [HW.out]
    generalize st.kd C.L = kd at *
    clear hk hk0
    go_enter Try.func58, Try.ntmps58
    go_wp2_with (first | (go_at_call 21; refine (HKD.out).mono ?_; rintro e w1 ⟨rfl, hb1⟩) | (go_at_call 55; refine (missing_any C S lo _ mb kind kids pb v st k (HM.out.below hb1) (HP.out.below hb1) (by omega)).mono ?_; rintro e w2 ⟨rfl, hp2⟩))
    refine bodyPost_end (v := .tuple #[]) (by first | rfl | simp [results, Try.results58, go_sem]) rfl ⟨rfl, hp2.from hb1⟩
end
end Go.Proofs.Ytalnicdpcigocaa.PP
namespace Go.Proofs.Ytalnicdpcigocaa.PP
open Go.RowKit Ps PM PL GR Go.Proofs.YtalnicdpcigocaaW.PrintWords Go.Proofs.YtalnicdpcigocaaW.PrintLast Go.Proofs.YtalnicdpcigocaaW.PrintMore
set_option linter.unusedVariables false
set_option linter.unusedSimpArgs false
section
variable {σ : Type}
theorem wsum_take (l : List Tr) (i : Nat) (t : Tr) (h : l[i]? = some t) (a : Int) : wsum (l.take (i + 1)) a = wrap64 (wsum (l.take i) a + t.width) := by
  rw [List.take_add_one, h, wsum_append]
  rfl
/-- the cells of one kid -/
theorem MkAt.kid {C : Ctx σ} {S : Nat → Prop} {lo : Nat} {w : World} {mb : Nat} {kind : Int} {kids : List Tr} {pb : Nat} {v : Value} (h : MkAt C S lo w mb kind kids pb v) (i : Nat) (hi : i < kids.length) :
    ∃ (g c n cc : Nat) (A : Option Addr) (t : Tr), v = .slice (some ⟨g, 0, none⟩) kids.length c ∧ kids[i]? = some t ∧ lo ≤ g ∧ g < w.heap.size ∧
      NodeC (fun b => S b ∨ (lo ≤ b ∧ v.ownBlock ≠ some b)) w t [.int .u8 t.kind, .int .u8 t.want, .int .i64 t.width, .slice A n cc] ∧
      w.cell? ⟨g, i * 4, none⟩ = some (.int .u8 t.kind) ∧ w.cell? ⟨g, i * 4 + 1, none⟩ = some (.int .u8 t.want) ∧ w.cell? ⟨g, i * 4 + 2, none⟩ = some (.int .i64 t.width) ∧ w.cell? ⟨g, i * 4 + 3, none⟩ = some (.slice A n cc) := by
  obtain ⟨xs, hown, hk⟩ := h.row
  obtain ⟨g, cap, rfl, hg, hlt⟩ := hown.form (by omega)
  obtain ⟨cs, hN, hx⟩ := hk i _ (List.getElem?_eq_getElem hi)
  obtain ⟨A, n, cc, rfl, _, _, _, _⟩ := hN.four
  refine ⟨g, cap, n, cc, A, _, rfl, List.getElem?_eq_getElem hi, hg, hlt, hN, ?_, ?_, ?_, ?_⟩
  · rw [hown.cellAt _ (by omega)]; exact hx 0 _ rfl
  · rw [hown.cellAt _ (by omega)]; exact hx 1 _ rfl
  · rw [hown.cellAt _ (by omega)]; exact hx 2 _ rfl
  · rw [hown.cellAt _ (by omega)]; exact hx 3 _ rfl
set_option maxHeartbeats 8000000 in
set_option maxRecDepth 100000 in
theorem sum_any (C : Ctx σ) (S : Nat → Prop) (lo : Nat) (w : World) (mb : Nat) (kind : Int) (kids : List Tr) (pb : Nat) (v : Value)
    (hM : MkAt C S lo w mb kind kids pb v) (hlen : kids.length ≤ 1000000) :
    Calls Try.prog 32 #[.pointer (some ⟨mb, 0, none⟩)] w fun e w' => e = .returned (.tuple #[]) ∧
      w'.heap[mb]? = some (.cells #[.int .u8 kind, .int .u8 0, .int .i64 (wsum kids 0), v, .pointer (some ⟨pb, 0, none⟩)] 63 (0, 0)) ∧ FrX (fun b => b = mb) w w' := by
  obtain ⟨A0, c0, rfl⟩ : ∃ A c, v = .slice A kids.length c := own_slice hM.row.choose_spec.1
  have HM := Aside0.mk hM
  have hm3 : w.cell? ⟨mb, 3, none⟩ = some (.slice A0 kids.length c0) := by rw [blk_cell hM.block]; rfl
  have hml := hM.lt
  clear hM
  go_enter Try.func32, Try.ntmps32
  go_wp2
  go_loopw [10] (fun v10 wr => ∃ (i : Nat), v10 = .int .i64 (i : Int) ∧ i ≤ kids.length ∧ Aside0 (wr.heap[mb]? = some (.cells #[.int .u8 kind, .int .u8 0, .int .i64 (wsum (kids.take i) 0), .slice A0 kids.length c0, .pointer (some ⟨pb, 0, none⟩)] 63 (0, 0))) ∧ Aside0 (FrX (fun b => b = mb) w wr)) (fun v10 _ => kids.length - (intOf v10).toNat)
  case atStart => exact ⟨0, rfl, by omega, ⟨by simpa [wsum] using HM.out.block⟩, ⟨FrX.refl _ _⟩⟩
  case round =>
    obtain ⟨i, rfl, hi, HB, HF⟩ := hrel
    have hbl := blk_lt HB.out
    by_cases hlt : i < kids.length
    · have d1 : decide ((i : Int) < (kids.length : Int)) = true := by simp; omega
      have hi0 : (0 : Int) ≤ (i : Int) := by omega
      have hi1 : (i : Int) < (kids.length : Int) := by omega
      have htn : (i : Int).toNat = i := by omega
      obtain ⟨g, c, n, cc, A, t, he, ht, hg, hgl, hN, hc0, hc1, hc2, hc3⟩ := HM.out.kid i hlt
      injection he with he1 he2 he3
      subst he1
      have hne : g ≠ mb := by have := HM.out.mlt; omega
      have hblk : wr.heap[g]? = w.heap[g]? := HF.out.block g hgl hne
      have hk0 : wr.cell? ⟨g, i * 4, none⟩ = some (.int .u8 t.kind) := by rw [World.cell?_of_block (w := w) hblk]; exact hc0
      have hk1 : wr.cell? ⟨g, i * 4 + 1, none⟩ = some (.int .u8 t.want) := by rw [World.cell?_of_block (w := w) hblk]; exact hc1
      have hk2 : wr.cell? ⟨g, i * 4 + 2, none⟩ = some (.int .i64 t.width) := by rw [World.cell?_of_block (w := w) hblk]; exact hc2
      have hk3 : wr.cell? ⟨g, i * 4 + 3, none⟩ = some (.slice A n cc) := by rw [World.cell?_of_block (w := w) hblk]; exact hc3
      have HS := Aside0.mk (wsum_take kids i t ht 0)
      have hm2 : wr.cell? ⟨mb, 2, none⟩ = some (.int .i64 (wsum (kids.take i) 0)) := by rw [blk_cell HB.out]; rfl
      have hmf : wr.frozen? ⟨mb, 2, none⟩ = false := blk_frozen HB.out 2
      have am2 := alloc_cell hm2
      have amf : ∀ o, (wr.alloc o).frozen? ⟨mb, 2, none⟩ = false := fun o => by rw [World.frozen?_of_block (heap_alloc_old wr o hbl)]; exact hmf
      generalize wsum (kids.take i) 0 = s0 at *
      clear hN hc0 hc1 hc2 hc3 ht he3
      go_wp2
      generalize hwa : wr.alloc (.cells #[.int .u8 t.kind, .int .u8 t.want, .int .i64 t.width, .slice A n cc] 25) = wa
      have wbel : Below wr.heap.size wr wa := hwa ▸ (Below.refl _ _).alloc (Nat.le_refl _) _
      have wm : wa.heap[mb]? = some (.cells #[.int .u8 kind, .int .u8 0, .int .i64 s0, .slice (some ⟨g, 0, none⟩) kids.length c0, .pointer (some ⟨pb, 0, none⟩)] 63 (0, 0)) := (wbel.block mb hbl).trans HB.out
      have wm2 : wa.cell? ⟨mb, 2, none⟩ = some (.int .i64 s0) := by rw [blk_cell wm]; rfl
      have wmf : wa.frozen? ⟨mb, 2, none⟩ = false := blk_frozen wm 2
      have wbx : wa.cell? ⟨wr.heap.size, 2, none⟩ = some (.int .i64 t.width) := by rw [← hwa, blk_cell (heap_alloc_new _ _)]; rfl
      have WM := Aside0.mk wm
      have WB := Aside0.mk wbel
      clear hm2 hmf am2 amf hk0 hk1 hk2 hk3 hwa wm wbel
      generalize hxb : wr.heap.size = xb at *
      go_still_tail 11, (by kernel_rfl)
      change wpList _ _ _ _ _ wa.drew
      go_wp2
      go_roundw
      case rel =>
        refine ⟨i + 1, by go_num, by omega, ⟨?_⟩, ⟨?_⟩⟩
        · rw [HS.out]
          exact (heap_setCell_same _ mb 2 #[.int .u8 kind, .int .u8 0, .int .i64 s0, .slice (some ⟨g, 0, none⟩) kids.length c0, .pointer (some ⟨pb, 0, none⟩)] 63 _ WM.out).trans (by simp)
        · exact ((FrX.set (X := fun b => b = mb) (HF.out.trans (FrX.below (X := fun _ => False) (hxb ▸ WB.out)) (fun _ h => h) (fun _ _ h => h.elim)) (Or.inl rfl) _)).drew
      case measure => simp [intOf]; omega
    · have d1 : decide ((i : Int) < (kids.length : Int)) = false := by simp; omega
      have hie : i = kids.length := by omega
      go_wp2
      refine bodyPost_end (v := .tuple #[]) (by first | rfl | simp [results, Try.results32, go_sem]) rfl ⟨rfl, ?_, HF.out⟩
      have := HB.out
      rw [hie, List.take_of_length_le (Nat.le_refl _)] at this
      exact this
end
end Go.Proofs.Ytalnicdpcigocaa.PP
namespace Go.Proofs.Ytalnicdpcigocaa.PP
open Go.RowKit Ps PM PL GR Go.Proofs.YtalnicdpcigocaaW.PrintWords Go.Proofs.YtalnicdpcigocaaW.PrintLast Go.Proofs.YtalnicdpcigocaaW.PrintMore
set_option linter.unusedVariables false
set_option linter.unusedSimpArgs false
section
variable {σ : Type}
theorem set4_block {w : World} {nb : Nat} {z0 z1 z2 z3 : Value} {T : TypeId} (h : w.heap[nb]? = some (.cells #[z0, z1, z2, z3] T (0, 0))) (a b c d : Value) :
    ((((w.setCell ⟨nb, 0, none⟩ a).setCell ⟨nb, 1, none⟩ b).setCell ⟨nb, 2, none⟩ c).setCell ⟨nb, 3, none⟩ d).heap[nb]? = some (.cells #[a, b, c, d] T (0, 0)) := by
  have h1 := (heap_setCell_same _ nb 0 _ T a h).trans (show _ = some (Obj.cells #[a, z1, z2, z3] T (0, 0)) by simp)
  have h2 := (heap_setCell_same _ nb 1 _ T b h1).trans (show _ = some (Obj.cells #[a, b, z2, z3] T (0, 0)) by simp)
  have h3 := (heap_setCell_same _ nb 2 _ T c h2).trans (show _ = some (Obj.cells #[a, b, c, z3] T (0, 0)) by simp)
  exact (heap_setCell_same _ nb 3 _ T d h3).trans (by simp)
theorem set4_fr {X : Nat → Prop} {w w1 : World} (h : FrX X w w1) {nb : Nat} (hx : X nb) (a b c d : Value) : FrX X w ((((w1.setCell ⟨nb, 0, none⟩ a).setCell ⟨nb, 1, none⟩ b).setCell ⟨nb, 2, none⟩ c).setCell ⟨nb, 3, none⟩ d) :=
  (((h.set (Or.inl hx) a).set (Or.inl hx) b).set (Or.inl hx) c).set (Or.inl hx) d
set_option maxHeartbeats 4000000 in
set_option maxRecDepth 100000 in
theorem sumup_d (C : Ctx σ) (S : Nat → Prop) (lo : Nat) (w : World) (u : FrameMode) (mb bm nb : Nat) (kind : Int) (kids : List Tr) (pb : Nat) (v : Value)
    (hM : MkAt C S lo w mb kind kids pb v) (hlen : kids.length ≤ 1000000) (hbm : w.cell? ⟨bm, 0, none⟩ = some (.pointer (some ⟨mb, 0, none⟩))) (z0 z1 z2 z3 : Value)
    (hnb : w.heap[nb]? = some (.cells #[z0, z1, z2, z3] 25 (0, 0))) (h1 : bm ≠ mb) (h2 : nb ≠ mb) (h3 : nb ≠ bm) :
    CallsD Try.prog 31 #[.pointer (some ⟨bm, 0, none⟩), .pointer (some ⟨nb, 0, none⟩)] u w fun e u' w' => u' = u ∧ e = .returned (.tuple #[]) ∧
      w'.heap[nb]? = some (.cells #[.int .u8 kind, .int .u8 0, .int .i64 (wsum kids 0), v] 25 (0, 0)) ∧ FrX (fun b => b = mb ∨ b = nb) w w' := by
  obtain ⟨A0, c0, rfl⟩ : ∃ A c, v = .slice A kids.length c := own_slice hM.row.choose_spec.1
  have HM := Aside0.mk hM
  have hbml := cell_lt hbm
  have hnbl := blk_lt hnb
  have HNB := Aside0.mk hnb
  clear hM hnb
  go_enter_d Try.func31, Try.ntmps31
  go_wp2_with (first | (go_at_call 32; refine (sum_any C S lo _ mb kind kids pb _ HM.out hlen).mono ?_; rintro e w1 ⟨rfl, hmk, hF1⟩; have HF1 := Aside0.mk hF1; have qbm : w1.cell? ⟨bm, 0, none⟩ = some (.pointer (some ⟨mb, 0, none⟩)) := ((World.cell?_of_block (w := w) (hF1.block bm hbml h1)).trans hbm); have hnb1 := (hF1.block nb hnbl h2).trans HNB.out; have q0 : w1.cell? ⟨mb, 0, none⟩ = some (.int .u8 kind) := (by rw [blk_cell hmk]; rfl); have q1 : w1.cell? ⟨mb, 1, none⟩ = some (.int .u8 0) := (by rw [blk_cell hmk]; rfl); have q2 : w1.cell? ⟨mb, 2, none⟩ = some (.int .i64 (wsum kids 0)) := (by rw [blk_cell hmk]; rfl); have q3 : w1.cell? ⟨mb, 3, none⟩ = some (.slice A0 kids.length c0) := (by rw [blk_cell hmk]; rfl); have n0 : w1.cell? ⟨nb, 0, none⟩ = some z0 := (by rw [blk_cell hnb1]; rfl); have n1 : w1.cell? ⟨nb, 1, none⟩ = some z1 := (by rw [blk_cell hnb1]; rfl); have n2 : w1.cell? ⟨nb, 2, none⟩ = some z2 := (by rw [blk_cell hnb1]; rfl); have n3 : w1.cell? ⟨nb, 3, none⟩ = some z3 := (by rw [blk_cell hnb1]; rfl); have nf := blk_frozen hnb1; have HNB1 := Aside0.mk hnb1; clear hF1 hmk hnb1))
  go_end0
  refine ⟨rfl, set4_block HNB1.out _ _ _ _, ?_⟩
  exact set4_fr (X := fun b => b = mb ∨ b = nb) (HF1.out.mono (fun b _ h => Or.inl h)) (Or.inr rfl) _ _ _ _
end
end Go.Proofs.Ytalnicdpcigocaa.PP
namespace Go.Proofs.Ytalnicdpcigocaa.PP
open Go.RowKit Ps PM PL GR Go.Proofs.YtalnicdpcigocaaW.PrintWords Go.Proofs.YtalnicdpcigocaaW.PrintLast Go.Proofs.YtalnicdpcigocaaW.PrintMore
set_option linter.unusedVariables false
set_option linter.unusedSimpArgs false
section
variable {σ : Type}
set_option maxHeartbeats 4000000 in
set_option maxRecDepth 100000 in
theorem make_any (C : Ctx σ) (S1 : Nat → Prop) (w : World) (pb : Nat) (st st' : St σ) (kind : Int) (kids : List Tr) (fdo : Nat) (fst caps : Array Value) (hlen : kids.length ≤ 1000000)
    (hcf : ∀ (args : Array Value) (w : World), (callFunc fdo args).run Try.prog w = .ok (.enter fdo args) w) (hP : ParAt C w pb st) (hS1 : ∀ b, S1 b → b < w.heap.size ∧ b ≠ pb ∧ ¬ C.O b) (hS0 : ∀ b, C.S0 b → S1 b)
    (hdo : ∀ (w1 : World) (mb lo : Nat), Below w.heap.size w w1 → w.heap.size ≤ mb → ParAt C w1 pb st → MkAt C S1 lo w1 mb kind [] pb (.slice none 0 0) →
      Calls Try.prog fdo (fst.push (.pointer (some ⟨mb, 0, none⟩)) ++ caps) w1 (fun e w' => e = .returned (.tuple #[]) ∧ MkPost C S1 lo mb kind pb w1 (.slice none 0 0) kids st' w')) :
    Calls Try.prog 19 #[.pointer (some ⟨pb, 0, none⟩), .int .u8 kind, .func (.func fdo) fst caps] w (fun e w' => LvPost C S1 pb w (node kind kids) st' e w') := by
  have hmf : ∀ (fn : Fn) (first cap : Array Value) (w : World), (Instr.makeFunc fn first cap).run Try.prog w = .ok (.func fn first cap) w := fun _ _ _ _ => rfl
  go_enter_defers Try.func19, Try.ntmps19
  have HP := Aside0.mk hP
  have HDO := Aside0.mk hdo
  clear hP hdo
  go_wp2_with fail
  have hs1 : ∀ o : Obj, (w.alloc o).heap.size = w.heap.size + 1 := fun o => World.size_alloc _ _
  have hs2 : ∀ o o' : Obj, ((w.alloc o).alloc o').heap.size = w.heap.size + 1 + 1 := fun o o' => by rw [World.size_alloc, World.size_alloc]
  have hs3 : ∀ o o' o'' : Obj, (((w.alloc o).alloc o').alloc o'').heap.size = w.heap.size + 1 + 1 + 1 := fun o o' o'' => by rw [World.size_alloc, World.size_alloc, World.size_alloc]
  have hbel : ∀ o o' o'' : Obj, Below w.heap.size w (((w.alloc o).alloc o').alloc o'') := fun o o' o'' => ((((Below.refl _ _).alloc (Nat.le_refl _) _).alloc (by rw [hs1]; omega) _).alloc (by rw [hs2]; omega) _)
  have hpl := HP.out.lt
  have hplo := HP.out.lo
  refine (HDO.out _ (w.heap.size + 1) (w.heap.size + 1 + 1 + 1) (hbel _ _ _) (by omega) (HP.out.below (hbel _ _ _)) ⟨?_, ⟨[], World.ownsRow_nil _ _ _ _, ?_⟩, by omega, by omega, by omega, by omega, ?_, hS0, by rw [hs3]; exact Nat.le_refl _⟩).mono ?_
  · rw [heap_alloc_old _ _ (by rw [hs2]; omega)]
    exact heap_at (hs1 _).symm
  · intro j t ht
    simp at ht
  · intro b hb
    have := hS1 b hb
    exact ⟨by omega, this.2.1, by omega, this.2.2⟩
  rintro e w4 ⟨rfl, v, hv, hM, hP4, hF4⟩
  have hnb4 : w4.heap[w.heap.size]? = some (.cells #[.int .u8 0, .int .u8 0, .int .i64 0, .slice none 0 0] 25 (0, 0)) := by
    rw [hF4.block _ (by rw [hs3]; omega) ?_]
    · rw [heap_alloc_old _ _ (by rw [hs2]; omega), heap_alloc_old _ _ (by rw [hs1]; omega)]
      exact heap_at rfl
    · rintro (h | h | h | h)
      · omega
      · omega
      · cases h
      · have := C.hO _ h; omega
  have hbm4 : w4.cell? ⟨w.heap.size + 1 + 1, 0, none⟩ = some (.pointer (some ⟨w.heap.size + 1, 0, none⟩)) := by
    rw [blk_cell (cs := #[.pointer (some ⟨w.heap.size + 1, 0, none⟩)])]
    · rfl
    · rw [hF4.block _ (by rw [hs3]; omega) ?_]
      · exact heap_at (hs2 _ _).symm
      · rintro (h | h | h | h)
        · omega
        · omega
        · cases h
        · have := C.hO _ h; omega
  have HM := Aside0.mk hM
  have HP4 := Aside0.mk hP4
  have HF4 := Aside0.mk hF4
  clear hM hP4 hF4 hv
  go_wp2
  refine leaves_cons (f := 31) (args := #[.pointer (some ⟨w.heap.size + 1 + 1, 0, none⟩), .pointer (some ⟨w.heap.size, 0, none⟩)]) (by simp) (by simp [go_sem]) ?_
  refine (sumup_d C S1 (w.heap.size + 1 + 1 + 1) w4 .returning (w.heap.size + 1) (w.heap.size + 1 + 1) w.heap.size kind kids pb v HM.out hlen hbm4 _ _ _ _ hnb4 (by omega) (by omega) (by omega)).mono ?_
  rintro e u' w5 ⟨rfl, rfl, hn5, hF5⟩
  refine ⟨.agg #[.int .u8 kind, .int .u8 0, .int .i64 (wsum kids 0), v], results_cell_row rfl _ _ w.heap.size 25 #[.int .u8 kind, .int .u8 0, .int .i64 (wsum kids 0), v] (0, 0) _ rfl hn5 Try.underlying25 rfl (by kernel_rfl), ?_⟩
  have hF5' : FrX (fun b => w.heap.size ≤ b ∧ b < w.heap.size + 1 + 1 + 1) w4 w5 := hF5.mono (fun b _ h => by rcases h with h | h <;> omega)
  have hpl4 := HP4.out.lt
  have hfr : FrX (XP C pb) w w5 := by
    refine (((FrX.below (X := fun _ => False) (hbel _ _ _)).trans HF4.out (fun _ h => h.elim) (fun b hb h => ?_)).trans hF5' (fun _ h => h) (fun b hb h => ?_))
    · rcases h with h | h | h | h
      · exact Or.inl h
      · omega
      · cases h
      · exact Or.inr h
    · omega
  refine ⟨[.int .u8 kind, .int .u8 0, .int .i64 (wsum kids 0), v], rfl, ?_, HP4.out.move hF5' (by omega) (fun b hb => by omega), hfr⟩
  obtain ⟨xs, hown, hk⟩ := HM.out.row
  have hmv : ∀ (t : Tr) (cs : List Value), NodeC (fun b => S1 b ∨ (w.heap.size + 1 + 1 + 1 ≤ b ∧ v.ownBlock ≠ some b)) w4 t cs → NodeC (fun b => S1 b ∨ w.heap.size ≤ b) w5 t cs := by
    intro t cs h
    refine h.move (fun b hb hlt => ⟨?_, hF5'.block b hlt ?_⟩)
    · rcases hb with hb | hb
      · exact Or.inl hb
      · exact Or.inr (by omega)
    · rcases hb with hb | hb
      · have := (hS1 b hb).1; omega
      · omega
  unfold node NodeC
  rcases hown.2 with ⟨rfl, h0⟩ | ⟨g, cap, cur, rfl, hg, hcur, hnc, hcm, hcs, htake⟩
  · have : kids = [] := List.length_eq_zero_iff.mp h0
    subst this
    exact ⟨none, 0, 0, rfl, rfl, Nat.le_refl _, by omega, by unfold RowC; trivial⟩
  · refine ⟨some ⟨g, 0, none⟩, kids.length, cap, rfl, rfl, hnc, by omega, RowC.mk_ (Or.inr (by omega)) kids 0 (fun j t ht => ?_)⟩
    obtain ⟨cs, h1, h2⟩ := hk j t ht
    refine ⟨cs, hmv t cs h1, fun q u hu => ?_⟩
    have hjl : j < kids.length := by
      rcases Nat.lt_or_ge j kids.length with h | h
      · exact h
      · rw [List.getElem?_eq_none h] at ht; cases ht
    have hq : q < 4 := by
      rcases Nat.lt_or_ge q 4 with h | h
      · exact h
      · rw [List.getElem?_eq_none (by rw [h1.len]; exact h)] at hu; cases hu
    have hgl : g < w4.heap.size := by
      rcases Nat.lt_or_ge g w4.heap.size with h | h
      · exact h
      · rw [Array.getElem?_eq_none h] at hcur; cases hcur
    rw [World.cell?_of_block (w := w4) (hF5'.block g hgl (by omega)), show 0 + (0 + j) * 4 + q = j * 4 + q by omega, hown.cellAt _ (by omega)]
    exact h2 q u hu
end
end Go.Proofs.Ytalnicdpcigocaa.PP
namespace Go.Proofs.Ytalnicdpcigocaa.PP
open Go.RowKit Ps PM PL GR Go.Proofs.YtalnicdpcigocaaW.PrintWords Go.Proofs.YtalnicdpcigocaaW.PrintLast Go.Proofs.YtalnicdpcigocaaW.PrintMore
set_option linter.unusedVariables false
set_option linter.unusedSimpArgs false
/-- a call of that function is an entry -/
def Enters (f : Nat) : Prop := ∀ (args : Array Value) (w : World), (callFunc f args).run Try.prog w = .ok (.enter f args) w
section
variable {σ : Type}
theorem MkAt.own_lt {C : Ctx σ} {S : Nat → Prop} {lo : Nat} {w : World} {mb : Nat} {kind : Int} {kids : List Tr} {pb : Nat} {v : Value} (h : MkAt C S lo w mb kind kids pb v) {b : Nat} (e : v.ownBlock = some b) : lo ≤ b ∧ b < w.heap.size := by
  obtain ⟨xs, hown, _⟩ := h.row
  exact hown.lt b e
set_option maxHeartbeats 4000000 in
set_option maxRecDepth 100000 in
theorem put_any (C : Ctx σ) (hcf0 : Enters C.f) (S : Nat → Prop) (lo : Nat) (w : World) (mb : Nat) (kind : Int) (kids : List Tr) (pb : Nat) (v : Value) (st : St σ) (k : Nat) (hk : k < 256)
    (pf : Nat) (fst caps : Array Value) (hcf1 : Enters pf) (part : St σ → Option (Tr × St σ)) (r : List Tr × St σ) (hr : putL C.L C.orc (k : Int) part st = some r)
    (hM : MkAt C S lo w mb kind kids pb v) (hP : ParAt C w pb st) (hlen : kids.length ≤ 300000)
    (hpart : ∀ (w1 : World) (s' : σ) (r' : Tr × St σ), FrX (XM C pb mb v) w w1 → w1.cell? ⟨mb, 4, none⟩ = some (.pointer (some ⟨pb, 0, none⟩)) → ParAt C w1 pb ⟨nx C.L st.at_, s'⟩ → part ⟨nx C.L st.at_, s'⟩ = some r' →
      Calls Try.prog pf (fst ++ caps) w1 (fun e w' => LvPost C C.S0 pb w1 r'.1 r'.2 e w')) :
    Calls Try.prog 34 #[.pointer (some ⟨mb, 0, none⟩), .int .u8 (k : Int), .func (.func pf) fst caps] w fun e w' => e = .returned (.tuple #[]) ∧ MkPost C S lo mb kind pb w v (kids ++ r.1) r.2 w' := by
  have HM := Aside0.mk hM
  have HP := Aside0.mk hP
  have HPART := Aside0.mk hpart
  have HR := Aside0.mk hr
  have hnl := nx_le C.L st.at_ hP.le
  have hnn := nx_nx C.L st.at_ hP.le
  have hL := C.hL
  have hgl := gap_len C.L st hL
  clear hM hP hpart hr
  unfold Enters at hcf0 hcf1
  go_enter Try.func34, Try.ntmps34
  go_wp2_with (first | (go_at_call 23; refine (gap_any C S lo _ mb kind kids pb v st HM.out HP.out (by omega)).mono ?_; rintro e w1 ⟨rfl, v1, hv1, hM1, hP1, hF1⟩; have HM1 := Aside0.mk hM1; have HP1 := Aside0.mk hP1; have HF1 := Aside0.mk hF1; have HV1 := Aside0.mk hv1; clear hM1 hP1 hF1 hv1; have qm4 : w1.cell? ⟨mb, 4, none⟩ = some (.pointer (some ⟨pb, 0, none⟩)) := (by rw [blk_cell HM1.out.block]; rfl); have qp2 : w1.cell? ⟨pb, 2, none⟩ = some (.int .i64 ((nx C.L st.at_ : Nat) : Int)) := (by rw [blk_cell HP1.out.block, ← hnn]; rfl); have qp3 : w1.cell? ⟨pb, 3, none⟩ = some (.func (.func C.f) #[] C.caps) := (by rw [blk_cell HP1.out.block]; rfl)))
  refine (C.ask st.s w1 k (nx C.L st.at_) hk (by omega) (Nat.le_trans HP1.out.lo (Nat.le_of_lt HP1.out.lt)) HP1.out.inv).mono ?_
  rintro e w2 ⟨k0, k1, k2, A0, n0, c0, ct, ok, rfl, hF2, hI2, hmt⟩
  have hplo := HP1.out.lo
  have hpo : ¬ C.O pb := fun e => by have := C.hO _ e; omega
  have hFX : FrX (XP C pb) w1 w2 := hF2.mono (fun b _ h => Or.inr h)
  have HM2 := Aside0.mk (HM1.out.part hFX)
  have hsz12 := hFX.size
  have HB2 : Aside0 (w2.heap[pb]? = some (.cells #[.slice C.A C.L.length C.c, .int .i64 ((nx C.L st.at_ : Nat) : Int), .int .i64 ((nx C.L (nx C.L st.at_) : Nat) : Int), .func (.func C.f) #[] C.caps] 44 (0, 0))) := ⟨(hF2.block pb HP1.out.lt hpo).trans HP1.out.block⟩
  have HF2 := Aside0.mk (fr_part HF1.out hFX)
  have hR := HR.out
  unfold putL at hR
  clear HR qm4 qp2 qp3 hF2 hFX hpo
  have hm4 : w2.cell? ⟨mb, 4, none⟩ = some (.pointer (some ⟨pb, 0, none⟩)) := by rw [blk_cell HM2.out.block]; rfl
  have hp0 : w2.cell? ⟨pb, 0, none⟩ = some (.slice C.A C.L.length C.c) := by rw [blk_cell HB2.out]; rfl
  have hml := HM2.out.lt
  have hpl := blk_lt HB2.out
  have am4 := alloc_cell hm4
  have ap0 := alloc_cell hp0
  have hlen1 : (kids ++ gapL C.L st).length ≤ 1000000 := by rw [List.length_append]; omega
  rcases ho : C.orc st.s (k : Int) (nx C.L st.at_) with ⟨_ | ⟨t, c⟩, s'⟩
  · rw [ho] at hmt hR hI2
    have HP2 : Aside0 (ParAt C w2 pb ⟨nx C.L st.at_, s'⟩) := ⟨⟨HB2.out, hplo, hI2, hnl⟩⟩
    obtain rfl : ok = false := hmt
    obtain ⟨r', hr', rfl⟩ := Option.map_eq_some_iff.mp hR
    have HRR := Aside0.mk hr'
    clear hR hr' ho hI2
    go_wp2
    have hbA : Below w2.heap.size w2 (w2.alloc (.cells #[.int .u8 k0, .int .u8 k1, .int .i64 k2, .slice A0 n0 c0] 25)) := (Below.refl _ _).alloc (Nat.le_refl _) _
    refine (HPART.out _ s' r' (fr_below HF2.out hbA) (am4 _) (HP2.out.below hbA) HRR.out).mono ?_
    rintro e w4 ⟨cs, rfl, hN, hP4, hF4⟩
    have HN4 := Aside0.mk (hN.move (S' := fun b => S b ∨ (lo ≤ b ∧ v1.ownBlock ≠ some b)) (w' := w4) (fun b hb hlt => ⟨by
      rcases hb with hb | hb
      · exact Or.inl (HM2.out.hS0 b hb)
      · have := HM2.out.hlo
        have h2 := hbA.size
        exact Or.inr ⟨by omega, fun e => by have := HM2.out.own_lt e; omega⟩, rfl⟩))
    have HM4 := Aside0.mk ((HM2.out.below hbA).part hF4)
    have HP4 := Aside0.mk hP4
    have HF4 := Aside0.mk (fr_part (fr_below HF2.out hbA) hF4)
    clear hN hP4 hF4
    go_wp2_with (first | (go_at_call 36; refine (add_any C S lo _ mb kind (kids ++ gapL C.L st) pb v1 r'.2 r'.1 cs HM4.out HP4.out HN4.out hlen1).mono ?_; rintro e w5 ⟨rfl, v2, hv2, hM5, hP5, hF5⟩))
    refine bodyPost_end (v := .tuple #[]) (by first | rfl | simp [results, Try.results34, go_sem]) rfl ⟨rfl, v2, own_trans HV1.out hv2 HF4.out.size, by rw [List.append_assoc] at hM5; exact hM5, hP5, fr_mk HF4.out HV1.out hF5⟩
  · rw [ho] at hmt hR hI2
    have HP2 : Aside0 (ParAt C w2 pb ⟨nx C.L st.at_, s'⟩) := ⟨⟨HB2.out, hplo, hI2, hnl⟩⟩
    obtain ⟨rfl, rfl, hN⟩ := hmt
    have HN := Aside0.mk hN
    replace hR : (if 1 ≤ ct ∧ ct ≤ (C.L.length : Int) - ((nx C.L st.at_ : Nat) : Int) then some (gapL C.L st ++ [t], (⟨nx C.L st.at_ + ct.toNat, s'⟩ : St σ)) else (part ⟨nx C.L st.at_, s'⟩).map (fun r => (gapL C.L st ++ [r.1], r.2))) = some r := hR
    clear hN
    by_cases h1 : 1 ≤ ct
    · have d1 : decide (1 ≤ ct) = true := by simpa using h1
      by_cases h2 : ct ≤ (C.L.length : Int) - ((nx C.L st.at_ : Nat) : Int)
      · have d2 : decide (ct ≤ (C.L.length : Int) - ((nx C.L st.at_ : Nat) : Int)) = true := by simpa using h2
        rw [if_pos ⟨h1, h2⟩] at hR
        obtain rfl := Option.some.inj hR
        clear hR ho hI2
        obtain ⟨n, rfl⟩ : ∃ n : Nat, ct = (n : Int) := ⟨ct.toNat, by omega⟩
        have hn : nx C.L st.at_ + n ≤ C.L.length := by omega
        have HCAST : Aside0 (((nx C.L st.at_ : Nat) : Int) + (n : Int) = ((nx C.L st.at_ + n : Nat) : Int)) := ⟨by omega⟩
        have htn : (n : Int).toNat = n := by omega
        clear h1 h2
        have hbA : Below w2.heap.size w2 (w2.alloc (.cells #[.int .u8 k0, .int .u8 k1, .int .i64 k2, .slice A0 n0 c0] 25)) := (Below.refl _ _).alloc (Nat.le_refl _) _
        have HMA := Aside0.mk (HM2.out.below hbA)
        have HPA := Aside0.mk (HP2.out.below hbA)
        have HFA := Aside0.mk (fr_below HF2.out hbA)
        have HNA := Aside0.mk (HN.out.move (S' := C.S0) (fun b hb hlt => ⟨hb, hbA.block b hlt⟩))
        have hbx := heap_alloc_new w2 (.cells #[.int .u8 k0, .int .u8 k1, .int .i64 k2, .slice A0 n0 c0] 25)
        have hxp : w2.heap.size ≠ pb := by omega
        have hszA : (w2.alloc (.cells #[.int .u8 k0, .int .u8 k1, .int .i64 k2, .slice A0 n0 c0] 25)).heap.size = w2.heap.size + 1 := World.size_alloc _ _
        have HBX := Aside0.mk hbx
        clear hbA hbx
        go_wp2_with (first | (go_at_call 12; rw [HCAST.out]; refine (on_any C _ pb _ _ s' (nx C.L st.at_ + n) hn HPA.out.block HPA.out.lo HPA.out.inv).mono ?_; rintro e w3 ⟨rfl, hP3, hF3⟩; have HP3 := Aside0.mk hP3; have HF3 := Aside0.mk hF3; clear hP3 hF3; have hb3 := (HF3.out.block w2.heap.size (by omega) hxp).trans HBX.out; have y0 : w3.cell? ⟨w2.heap.size, 0, none⟩ = some (.int .u8 k0) := (by rw [blk_cell hb3]; rfl); have y1 : w3.cell? ⟨w2.heap.size, 1, none⟩ = some (.int .u8 k1) := (by rw [blk_cell hb3]; rfl); have y2 : w3.cell? ⟨w2.heap.size, 2, none⟩ = some (.int .i64 k2) := (by rw [blk_cell hb3]; rfl); have y3 : w3.cell? ⟨w2.heap.size, 3, none⟩ = some (.slice A0 n0 c0) := (by rw [blk_cell hb3]; rfl)) | (go_at_call 36; refine (add_any C S lo _ mb kind (kids ++ gapL C.L st) pb v1 ⟨nx C.L st.at_ + n, s'⟩ t [.int .u8 k0, .int .u8 k1, .int .i64 k2, .slice A0 n0 c0] (HMA.out.part (fr_pb HF3.out)) HP3.out (HNA.out.move (fun b hb hlt => ⟨Or.inl (HM2.out.hS0 b hb), HF3.out.block b hlt (fun e => by have := (C.hS b hb).1; omega)⟩)) hlen1).mono ?_; rintro e w5 ⟨rfl, v2, hv2, hM5, hP5, hF5⟩))
        refine bodyPost_ret (results_none rfl _ _ _) rfl ⟨rfl, v2, own_trans HV1.out hv2 (Nat.le_trans HFA.out.size HF3.out.size), by rw [← List.append_assoc]; exact hM5, hP5, fr_mk (fr_part HFA.out (fr_pb HF3.out)) HV1.out hF5⟩
      · have d2 : decide (ct ≤ (C.L.length : Int) - ((nx C.L st.at_ : Nat) : Int)) = false := by simp; omega
        rw [if_neg (fun h => h2 h.2)] at hR
        obtain ⟨r', hr', rfl⟩ := Option.map_eq_some_iff.mp hR
        have HRR := Aside0.mk hr'
        clear hR hr' ho hI2 h1 h2
        go_wp2
        have hbA : Below w2.heap.size w2 (w2.alloc (.cells #[.int .u8 k0, .int .u8 k1, .int .i64 k2, .slice A0 n0 c0] 25)) := (Below.refl _ _).alloc (Nat.le_refl _) _
        refine (HPART.out _ s' r' (fr_below HF2.out hbA) (am4 _) (HP2.out.below hbA) HRR.out).mono ?_
        rintro e w4 ⟨cs, rfl, hN, hP4, hF4⟩
        have HN4 := Aside0.mk (hN.move (S' := fun b => S b ∨ (lo ≤ b ∧ v1.ownBlock ≠ some b)) (w' := w4) (fun b hb hlt => ⟨by
          rcases hb with hb | hb
          · exact Or.inl (HM2.out.hS0 b hb)
          · have := HM2.out.hlo
            have h2 := hbA.size
            exact Or.inr ⟨by omega, fun e => by have := HM2.out.own_lt e; omega⟩, rfl⟩))
        have HM4 := Aside0.mk ((HM2.out.below hbA).part hF4)
        have HP4 := Aside0.mk hP4
        have HF4 := Aside0.mk (fr_part (fr_below HF2.out hbA) hF4)
        clear hN hP4 hF4
        go_wp2_with (first | (go_at_call 36; refine (add_any C S lo _ mb kind (kids ++ gapL C.L st) pb v1 r'.2 r'.1 cs HM4.out HP4.out HN4.out hlen1).mono ?_; rintro e w5 ⟨rfl, v2, hv2, hM5, hP5, hF5⟩))
        refine bodyPost_end (v := .tuple #[]) (by first | rfl | simp [results, Try.results34, go_sem]) rfl ⟨rfl, v2, own_trans HV1.out hv2 HF4.out.size, by rw [List.append_assoc] at hM5; exact hM5, hP5, fr_mk HF4.out HV1.out hF5⟩
    · have d1 : decide (1 ≤ ct) = false := by simp; omega
      rw [if_neg (fun h => h1 h.1)] at hR
      obtain ⟨r', hr', rfl⟩ := Option.map_eq_some_iff.mp hR
      have HRR := Aside0.mk hr'
      clear hR hr' ho hI2 h1
      go_wp2
      have hbA : Below w2.heap.size w2 (w2.alloc (.cells #[.int .u8 k0, .int .u8 k1, .int .i64 k2, .slice A0 n0 c0] 25)) := (Below.refl _ _).alloc (Nat.le_refl _) _
      refine (HPART.out _ s' r' (fr_below HF2.out hbA) (am4 _) (HP2.out.below hbA) HRR.out).mono ?_
      rintro e w4 ⟨cs, rfl, hN, hP4, hF4⟩
      have HN4 := Aside0.mk (hN.move (S' := fun b => S b ∨ (lo ≤ b ∧ v1.ownBlock ≠ some b)) (w' := w4) (fun b hb hlt => ⟨by
        rcases hb with hb | hb
        · exact Or.inl (HM2.out.hS0 b hb)
        · have := HM2.out.hlo
          have h2 := hbA.size
          exact Or.inr ⟨by omega, fun e => by have := HM2.out.own_lt e; omega⟩, rfl⟩))
      have HM4 := Aside0.mk ((HM2.out.below hbA).part hF4)
      have HP4 := Aside0.mk hP4
      have HF4 := Aside0.mk (fr_part (fr_below HF2.out hbA) hF4)
      clear hN hP4 hF4
      go_wp2_with (first | (go_at_call 36; refine (add_any C S lo _ mb kind (kids ++ gapL C.L st) pb v1 r'.2 r'.1 cs HM4.out HP4.out HN4.out hlen1).mono ?_; rintro e w5 ⟨rfl, v2, hv2, hM5, hP5, hF5⟩))
      refine bodyPost_end (v := .tuple #[]) (by first | rfl | simp [results, Try.results34, go_sem]) rfl ⟨rfl, v2, own_trans HV1.out hv2 HF4.out.size, by rw [List.append_assoc] at hM5; exact hM5, hP5, fr_mk HF4.out HV1.out hF5⟩
end
end Go.Proofs.Ytalnicdpcigocaa.PP
namespace Go.Proofs.Ytalnicdpcigocaa.PP
open Go.RowKit Ps PM PL GR Go.Proofs.YtalnicdpcigocaaW.PrintWords Go.Proofs.YtalnicdpcigocaaW.PrintLast Go.Proofs.YtalnicdpcigocaaW.PrintMore
set_option linter.unusedVariables false
set_option linter.unusedSimpArgs false
section
variable {σ : Type}
/-- where a chain of steps stands that began at w with v -/
structure Run (C : Ctx σ) (S : Nat → Prop) (lo mb : Nat) (kind : Int) (pb : Nat) (w : World) (v : Value) (kids : List Tr) (st : St σ) (w1 : World) (v1 : Value) : Prop where
  own : v1.ownBlock = v.ownBlock ∨ ∀ g, v1.ownBlock = some g → w.heap.size ≤ g
  mka : MkAt C S lo w1 mb kind kids pb v1
  par : ParAt C w1 pb st
  fr : FrX (XM C pb mb v) w w1
theorem Run.start {C : Ctx σ} {S : Nat → Prop} {lo mb : Nat} {kind : Int} {pb : Nat} {w : World} {v : Value} {kids : List Tr} {st : St σ} (hM : MkAt C S lo w mb kind kids pb v) (hP : ParAt C w pb st) : Run C S lo mb kind pb w v kids st w v :=
  ⟨Or.inl rfl, hM, hP, FrX.refl _ _⟩
theorem Run.step {C : Ctx σ} {S : Nat → Prop} {lo mb : Nat} {kind : Int} {pb : Nat} {w : World} {v : Value} {kids : List Tr} {st : St σ} {w1 : World} {v1 : Value} (h : Run C S lo mb kind pb w v kids st w1 v1)
    {kids2 : List Tr} {st2 : St σ} {w2 : World} (k : MkPost C S lo mb kind pb w1 v1 kids2 st2 w2) : ∃ v2, Run C S lo mb kind pb w v kids2 st2 w2 v2 := by
  obtain ⟨v2, h1, h2, h3, h4⟩ := k
  exact ⟨v2, own_trans h.own h1 h.fr.size, h2, h3, fr_mk h.fr h.own h4⟩
theorem Run.below {C : Ctx σ} {S : Nat → Prop} {lo mb : Nat} {kind : Int} {pb : Nat} {w : World} {v : Value} {kids : List Tr} {st : St σ} {w1 w2 : World} {v1 : Value} (h : Run C S lo mb kind pb w v kids st w1 v1) (b : Below w1.heap.size w1 w2) : Run C S lo mb kind pb w v kids st w2 v1 :=
  ⟨h.own, h.mka.below b, h.par.below b, fr_below h.fr b⟩
theorem Run.post {C : Ctx σ} {S : Nat → Prop} {lo mb : Nat} {kind : Int} {pb : Nat} {w : World} {v : Value} {kids : List Tr} {st : St σ} {w1 : World} {v1 : Value} (h : Run C S lo mb kind pb w v kids st w1 v1) : MkPost C S lo mb kind pb w v kids st w1 :=
  ⟨v1, h.own, h.mka, h.par, h.fr⟩
/-- a part was made -/
theorem Run.part {C : Ctx σ} {S : Nat → Prop} {lo mb : Nat} {kind : Int} {pb : Nat} {w : World} {v : Value} {kids : List Tr} {st : St σ} {w1 w2 : World} {v1 : Value} (h : Run C S lo mb kind pb w v kids st w1 v1)
    {st2 : St σ} (hF : FrX (XP C pb) w1 w2) (hP : ParAt C w2 pb st2) : Run C S lo mb kind pb w v kids st2 w2 v1 :=
  ⟨h.own, h.mka.part hF, hP, fr_part h.fr hF⟩
theorem Run.m4 {C : Ctx σ} {S : Nat → Prop} {lo mb : Nat} {kind : Int} {pb : Nat} {w : World} {v : Value} {kids : List Tr} {st : St σ} {w1 : World} {v1 : Value} (h : Run C S lo mb kind pb w v kids st w1 v1) : w1.cell? ⟨mb, 4, none⟩ = some (.pointer (some ⟨pb, 0, none⟩)) := by
  rw [blk_cell h.mka.block]; rfl
/-- a part's node may be put in -/
theorem Run.node {C : Ctx σ} {S : Nat → Prop} {lo mb : Nat} {kind : Int} {pb : Nat} {w : World} {v : Value} {kids : List Tr} {st : St σ} {w1 w2 : World} {v1 : Value} (h : Run C S lo mb kind pb w v kids st w1 v1)
    {t : Tr} {cs : List Value} (hN : NodeC (fun b => C.S0 b ∨ w1.heap.size ≤ b) w2 t cs) : NodeC (fun b => S b ∨ (lo ≤ b ∧ v1.ownBlock ≠ some b)) w2 t cs :=
  hN.move (fun b hb hlt => ⟨by
    rcases hb with hb | hb
    · exact Or.inl (h.mka.hS0 b hb)
    · have := h.mka.hlo
      exact Or.inr ⟨by omega, fun e => by have := h.mka.own_lt e; omega⟩, rfl⟩)
set_option maxHeartbeats 4000000 in
set_option maxRecDepth 100000 in
theorem operand_any (C : Ctx σ) (S : Nat → Prop) (lo : Nat) (w : World) (mb : Nat) (kind : Int) (kids : List Tr) (pb : Nat) (v : Value) (st : St σ)
    (pf : Nat) (fst caps : Array Value) (hcf1 : Enters pf) (part : St σ → Option (Tr × St σ)) (r : List Tr × St σ) (hr : operandL C.L part st = some r)
    (hM : MkAt C S lo w mb kind kids pb v) (hP : ParAt C w pb st) (hlen : kids.length ≤ 300000)
    (hpart : ∀ (w1 : World) (r' : Tr × St σ), FrX (XM C pb mb v) w w1 → ParAt C w1 pb (st.to C.L) → begins (st.kd C.L) = true → part (st.to C.L) = some r' →
      Calls Try.prog pf (fst ++ caps) w1 (fun e w' => LvPost C C.S0 pb w1 r'.1 r'.2 e w')) :
    Calls Try.prog 79 #[.pointer (some ⟨mb, 0, none⟩), .func (.func pf) fst caps] w fun e w' => e = .returned (.tuple #[]) ∧ MkPost C S lo mb kind pb w v (kids ++ r.1) r.2 w' := by
  have HR := Aside0.mk (Run.start hM hP)
  have hgl := gap_len C.L st C.hL
  have hm4 := HR.out.m4
  have HBG := Aside0.mk (fun w h => beg_any C w pb st h)
  have HPART := Aside0.mk hpart
  have hlen1 : (kids ++ gapL C.L st).length ≤ 1000000 := by rw [List.length_append]; omega
  clear hM hP hpart
  unfold Enters at hcf1
  unfold operandL at hr
  cases hb : begins (st.kd C.L) with
  | false =>
    rw [hb] at hr HBG
    obtain rfl := Option.some.inj hr
    clear hr hb
    go_enter Try.func79, Try.ntmps79
    go_wp2_with (first | (go_at_call 69; refine (HBG.out _ HR.out.par).mono ?_; rintro e w1 ⟨rfl, hb1⟩) | (go_at_call 55; refine (missing_any C S lo _ mb kind kids pb _ st 60 (HR.out.below hb1).mka (HR.out.below hb1).par (by omega)).mono ?_; rintro e w2 ⟨rfl, hp2⟩))
    refine bodyPost_ret (results_none rfl _ _ _) rfl ⟨rfl, hp2.from hb1⟩
  | true =>
    rw [hb, if_pos rfl] at hr
    rw [hb] at HBG
    obtain ⟨r', hr', rfl⟩ := Option.map_eq_some_iff.mp hr
    have HRR := Aside0.mk hr'
    have HBE := Aside0.mk hb
    clear hr hr' hb
    go_enter Try.func79, Try.ntmps79
    go_wp2_with (first | (go_at_call 69; refine (HBG.out _ HR.out.par).mono ?_; rintro e w1 ⟨rfl, hb1⟩) | (go_at_call 23; refine (gap_any C S lo _ mb kind kids pb _ st (HR.out.below hb1).mka (HR.out.below hb1).par (by omega)).mono ?_; rintro e w2 ⟨rfl, hp2⟩; obtain ⟨v2, hR2⟩ := (HR.out.below hb1).step hp2; have HR2 := Aside0.mk hR2; clear hR2 hp2))
    refine (HPART.out _ r' HR2.out.fr HR2.out.par HBE.out HRR.out).mono ?_
    rintro e w4 ⟨cs, rfl, hN, hP4, hF4⟩
    have HN4 := Aside0.mk (HR2.out.node hN)
    have HR4 := Aside0.mk (HR2.out.part hF4 hP4)
    clear hN hP4 hF4
    go_wp2_with (first | (go_at_call 36; refine (add_any C S lo _ mb kind (kids ++ gapL C.L st) pb v2 r'.2 r'.1 cs HR4.out.mka HR4.out.par HN4.out hlen1).mono ?_; rintro e w5 ⟨rfl, hp5⟩; obtain ⟨v5, hR5⟩ := HR4.out.step hp5))
    refine bodyPost_end (v := .tuple #[]) (by first | rfl | simp [results, Try.results79, go_sem]) rfl ⟨rfl, by rw [← List.append_assoc]; exact hR5.post⟩
end
end Go.Proofs.Ytalnicdpcigocaa.PP
namespace Go.Proofs.Ytalnicdpcigocaa.PP
open Go.RowKit Ps PM PL GR Go.Proofs.YtalnicdpcigocaaW.PrintWords Go.Proofs.YtalnicdpcigocaaW.PrintLast Go.Proofs.YtalnicdpcigocaaW.PrintMore
set_option linter.unusedVariables false
set_option linter.unusedSimpArgs false
section
variable {σ : Type}
def zeroNode : Obj := .cells #[.int .u8 0, .int .u8 0, .int .i64 0, .slice none 0 0] 25
theorem s0_ok (C : Ctx σ) {w w0 : World} {pb : Nat} {st : St σ} (hP : ParAt C w pb st) (h : w.heap.size ≤ w0.heap.size) : ∀ b, C.S0 b → b < w0.heap.size ∧ b ≠ pb ∧ ¬ C.O b := by
  intro b hb
  have h1 := C.hS b hb
  have h2 := hP.lo
  have h3 := hP.lt
  exact ⟨by omega, by omega, h1.2⟩
/-- a part was made of a world with some blocks more, one for the result; the result laid there -/
theorem LvPost.ret {C : Ctx σ} {pb nb : Nat} {w w0 w1 : World} {st0 st' : St σ} {t : Tr} {a b c d : Value} (hP : ParAt C w pb st0) (hb0 : Below w.heap.size w w0) (hn0 : w.heap.size ≤ nb) (hs0 : nb < w0.heap.size)
    (hN : NodeC (fun b => C.S0 b ∨ w0.heap.size ≤ b) w1 t [a, b, c, d]) (hP1 : ParAt C w1 pb st') (hF : FrX (XP C pb) w0 w1) :
    LvPost C C.S0 pb w t st' (.returned (.agg #[a, b, c, d])) ((((w1.setCell ⟨nb, 0, none⟩ a).setCell ⟨nb, 1, none⟩ b).setCell ⟨nb, 2, none⟩ c).setCell ⟨nb, 3, none⟩ d) := by
  have h4 : FrX (fun b => b = nb) w1 ((((w1.setCell ⟨nb, 0, none⟩ a).setCell ⟨nb, 1, none⟩ b).setCell ⟨nb, 2, none⟩ c).setCell ⟨nb, 3, none⟩ d) := set4_fr (X := fun b => b = nb) (FrX.refl _ _) rfl _ _ _ _
  have hlt := hP.lt
  have hlo := hP.lo
  have hsz := hb0.size
  refine ⟨[a, b, c, d], rfl, ?_, hP1.move h4 (by omega) (fun b hb => by omega), ?_⟩
  · refine hN.move (fun b hb hlt => ⟨?_, h4.block b hlt ?_⟩)
    · rcases hb with hb | hb
      · exact Or.inl hb
      · exact Or.inr (by omega)
    · rcases hb with hb | hb
      · have := (C.hS b hb).1; omega
      · omega
  · refine (((FrX.below (X := fun _ => False) hb0).trans hF (fun _ h => h.elim) (fun _ _ h => h)).trans h4 (fun _ h => h) (fun b hb h => ?_))
    omega
/-- a block of the call's own, behind a part -/
theorem keep_block {C : Ctx σ} {pb nb : Nat} {w0 w1 : World} {o : Obj} (hz : w0.heap[nb]? = some o) (hn : C.lo ≤ nb) (hp : nb ≠ pb) (hF : FrX (XP C pb) w0 w1) : w1.heap[nb]? = some o := by
  have hlt : nb < w0.heap.size := by
    rcases Nat.lt_or_ge nb w0.heap.size with h | h
    · exact h
    · rw [Array.getElem?_eq_none h] at hz; cases hz
  rw [hF.block _ hlt ?_]
  · exact hz
  · rintro (h | h)
    · exact hp h
    · have := C.hO _ h; omega
theorem four_cells {w : World} {nb : Nat} {a b c d : Value} {T : TypeId} (h : w.heap[nb]? = some (.cells #[a, b, c, d] T (0, 0))) :
    w.cell? ⟨nb, 0, none⟩ = some a ∧ w.cell? ⟨nb, 1, none⟩ = some b ∧ w.cell? ⟨nb, 2, none⟩ = some c ∧ w.cell? ⟨nb, 3, none⟩ = some d ∧ ∀ j, w.frozen? ⟨nb, j, none⟩ = false := by
  refine ⟨?_, ?_, ?_, ?_, fun j => blk_frozen h j⟩ <;> (rw [blk_cell h]; rfl)
/-- what all parts do, at that depth -/
structure AllOK (C : Ctx σ) (n : Nat) : Prop where
  statement : ∀ (w : World) (pb : Nat) (st : St σ) (r : Tr × St σ), ParAt C w pb st → stat (st.kd C.L) ≠ 0 → nx C.L st.at_ = st.at_ → Ps.statement C.L C.orc n st = some r →
    Calls Try.prog 35 #[.pointer (some ⟨pb, 0, none⟩)] w (fun e w' => LvPost C C.S0 pb w r.1 r.2 e w')
  inner : ∀ (S : Nat → Prop) (lo : Nat) (w : World) (mb : Nat) (kind : Int) (kids : List Tr) (pb : Nat) (v : Value) (st : St σ) (r : List Tr × St σ), MkAt C S lo w mb kind kids pb v → ParAt C w pb st → kids.length ≤ 200000 → st.kd C.L ≠ 0 →
    Ps.inner C.L C.orc n st = some r → Calls Try.prog 22 #[.pointer (some ⟨mb, 0, none⟩)] w (fun e w' => e = .returned (.tuple #[]) ∧ MkPost C S lo mb kind pb w v (kids ++ r.1) r.2 w')
  block : ∀ (S : Nat → Prop) (lo : Nat) (w : World) (mb : Nat) (kind : Int) (kids : List Tr) (pb : Nat) (v : Value) (st : St σ) (r : List Tr × St σ), MkAt C S lo w mb kind kids pb v → ParAt C w pb st → kids.length ≤ 200000 →
    Ps.block C.L C.orc n st = some r → Calls Try.prog 47 #[.pointer (some ⟨mb, 0, none⟩)] w (fun e w' => e = .returned (.tuple #[]) ∧ MkPost C S lo mb kind pb w v (kids ++ r.1) r.2 w')
  expr : ∀ (S : Nat → Prop) (lo : Nat) (w : World) (mb : Nat) (kind : Int) (kids : List Tr) (pb : Nat) (v : Value) (st : St σ) (r : List Tr × St σ), MkAt C S lo w mb kind kids pb v → ParAt C w pb st → kids.length ≤ 200000 →
    Ps.expr C.L C.orc n st = some r → Calls Try.prog 67 #[.pointer (some ⟨mb, 0, none⟩)] w (fun e w' => e = .returned (.tuple #[]) ∧ MkPost C S lo mb kind pb w v (kids ++ r.1) r.2 w')
  level : ∀ (w : World) (pb : Nat) (st : St σ) (k : Nat) (r : Tr × St σ), 1 ≤ k ∧ k ≤ 6 → ParAt C w pb st → st.kd C.L ≠ 0 → Ps.level C.L C.orc n k st = some r →
    Calls Try.prog 74 #[.pointer (some ⟨pb, 0, none⟩), .int .i64 (k : Int)] w (fun e w' => LvPost C C.S0 pb w r.1 r.2 e w')
  unary : ∀ (w : World) (pb : Nat) (st : St σ) (r : Tr × St σ), ParAt C w pb st → st.kd C.L ≠ 0 → Ps.unary C.L C.orc n st = some r →
    Calls Try.prog 76 #[.pointer (some ⟨pb, 0, none⟩)] w (fun e w' => LvPost C C.S0 pb w r.1 r.2 e w')
  args : ∀ (S : Nat → Prop) (lo : Nat) (w : World) (mb : Nat) (kind : Int) (pb : Nat) (v : Value) (st : St σ) (l : List Tr) (st' : St σ), MkAt C S lo w mb kind [] pb v → ParAt C w pb st → st.kd C.L ≠ 0 →
    Ps.args C.L C.orc n st = some (node 64 l, st') → Calls Try.prog 85 #[.pointer (some ⟨mb, 0, none⟩)] w (fun e w' => e = .returned (.tuple #[]) ∧ MkPost C S lo mb kind pb w v l st' w')
  primary : ∀ (w : World) (pb : Nat) (st : St σ) (r : Tr × St σ), ParAt C w pb st → st.kd C.L ≠ 0 → Ps.primary C.L C.orc n st = some r →
    Calls Try.prog 83 #[.pointer (some ⟨pb, 0, none⟩)] w (fun e w' => LvPost C C.S0 pb w r.1 r.2 e w')
theorem args1 (x : Value) : ((#[] : Array Value).push x ++ #[] : Array Value) = #[x] := by simp
end
end Go.Proofs.Ytalnicdpcigocaa.PP
namespace Go.Proofs.Ytalnicdpcigocaa.PP
open Go.RowKit Ps PM PL GR Go.Proofs.YtalnicdpcigocaaW.PrintWords Go.Proofs.YtalnicdpcigocaaW.PrintLast Go.Proofs.YtalnicdpcigocaaW.PrintMore
set_option linter.unusedVariables false
set_option linter.unusedSimpArgs false
section
variable {σ : Type}
theorem next_len' (C : Ctx σ) (st : St σ) : (nextL C.L st).1.length ≤ 16385 := by
  have := gap_len C.L st C.hL
  unfold nextL
  simp only [List.length_append, List.length_singleton]
  omega
theorem want_len' (C : Ctx σ) (k : Int) (st : St σ) : (wantL C.L k st).1.length ≤ 16385 := by
  have := next_len' C st
  unfold wantL
  split
  · exact this
  · simp
theorem expr_len' (C : Ctx σ) {n : Nat} {st : St σ} {b : List Tr × St σ} (hle : st.at_ ≤ C.L.length) (hb : Ps.expr C.L C.orc n st = some b) : b.1.length ≤ 40000 ∧ b.2.at_ ≤ C.L.length := by
  have h := ((mon n : Mon C.L C.orc n).expr _ _ hle hb).1
  have := C.hL
  have h2 := h.2.2
  have h3 := h.2.1
  exact ⟨by omega, h3⟩
theorem expr_len (C : Ctx σ) {n : Nat} {st : St σ} {b : List Tr × St σ} (hle : st.at_ ≤ C.L.length) (hk : st.kd C.L ≠ 0) (hb : Ps.expr C.L C.orc n (nextL C.L st).2 = some b) : b.1.length ≤ 100000 := by
  have := (expr_len' C (next_ok hk).2 hb).1
  omega
/-- make of one token alone -/
theorem make_next (C : Ctx σ) (w : World) (pb : Nat) (st : St σ) (kind : Int) (hP : ParAt C w pb st) (hk : st.kd C.L ≠ 0) :
    Calls Try.prog 19 #[.pointer (some ⟨pb, 0, none⟩), .int .u8 kind, .func (.func 50) #[] #[]] w (fun e w' => LvPost C C.S0 pb w (node kind (nextL C.L st).1) (nextL C.L st).2 e w') := by
  refine make_any C C.S0 w pb st _ kind _ _ _ _ (by have := next_len' C st; omega) (fun _ _ => rfl) hP (s0_ok C hP (Nat.le_refl _)) (fun _ h => h) (fun w1 mb lo hb hm hP1 hM => ?_)
  rw [args1]
  exact take_any C C.S0 lo w1 mb kind [] pb _ st hM hP1 (by simp) hk
set_option maxHeartbeats 4000000 in
set_option maxRecDepth 100000 in
/-- what is done to a group -/
theorem group_do (C : Ctx σ) {n : Nat} (ih : AllOK C n) (S : Nat → Prop) (lo : Nat) (w : World) (mb : Nat) (kind : Int) (pb : Nat) (v : Value) (st : St σ) (b : List Tr × St σ) (hM : MkAt C S lo w mb kind [] pb v) (hP : ParAt C w pb st) (hk : st.kd C.L ≠ 0)
    (hb : Ps.expr C.L C.orc n (nextL C.L st).2 = some b) :
    Calls Try.prog 89 #[.pointer (some ⟨mb, 0, none⟩)] w fun e w' => e = .returned (.tuple #[]) ∧ MkPost C S lo mb kind pb w v ((nextL C.L st).1 ++ b.1 ++ (wantL C.L 21 b.2).1) (wantL C.L 21 b.2).2 w' := by
  have HR := Aside0.mk (Run.start hM hP)
  have h1 := next_len' C st
  have HX := Aside0.mk hb
  have hbl : b.1.length ≤ 100000 := expr_len C (HR.out.par.le) hk hb
  clear hM hP hb
  go_enter Try.func89, Try.ntmps89
  go_wp2_with (first | (go_at_call 50; refine (take_any C S lo _ mb kind [] pb _ st HR.out.mka HR.out.par (by simp) hk).mono ?_; rintro e w1 ⟨rfl, hp1⟩; obtain ⟨v1, hR1⟩ := HR.out.step hp1; rw [List.nil_append] at hR1; have HR1 := Aside0.mk hR1; clear hR1 hp1) | (go_at_call 67; refine (ih.expr S lo _ mb kind _ pb _ _ b HR1.out.mka HR1.out.par (by omega) HX.out).mono ?_; rintro e w2 ⟨rfl, hp2⟩; obtain ⟨v2, hR2⟩ := HR1.out.step hp2; have HR2 := Aside0.mk hR2; clear hR2 hp2) | (go_at_call 58; refine (want_any C S lo _ mb kind _ pb _ _ 21 (by decide) HR2.out.mka HR2.out.par (by rw [List.length_append]; omega)).mono ?_; rintro e w3 ⟨rfl, hp3⟩; obtain ⟨v3, hR3⟩ := HR2.out.step hp3))
  refine bodyPost_end (v := .tuple #[]) (by first | rfl | simp [results, Try.results89, go_sem]) rfl ⟨rfl, hR3.post⟩
theorem make_group (C : Ctx σ) {n : Nat} (ih : AllOK C n) (w : World) (pb : Nat) (st : St σ) (b : List Tr × St σ) (hP : ParAt C w pb st) (hk : st.kd C.L ≠ 0) (hb : Ps.expr C.L C.orc n (nextL C.L st).2 = some b) :
    Calls Try.prog 19 #[.pointer (some ⟨pb, 0, none⟩), .int .u8 65, .func (.func 89) #[] #[]] w (fun e w' => LvPost C C.S0 pb w (node 65 ((nextL C.L st).1 ++ b.1 ++ (wantL C.L 21 b.2).1)) (wantL C.L 21 b.2).2 e w') := by
  have h1 := next_len' C st
  have h2 := want_len' C 21 b.2
  have hbl : b.1.length ≤ 100000 := expr_len C hP.le hk hb
  refine make_any C C.S0 w pb st _ 65 _ _ _ _ (by simp only [List.length_append]; omega) (fun _ _ => rfl) hP (s0_ok C hP (Nat.le_refl _)) (fun _ h => h) (fun w1 mb lo hb1 hm hP1 hM => ?_)
  rw [args1]
  exact group_do C ih C.S0 lo w1 mb 65 pb _ st b hM hP1 hk hb
set_option maxHeartbeats 4000000 in
set_option maxRecDepth 100000 in
theorem primary_succ (C : Ctx σ) {n : Nat} (ih : AllOK C n) (w : World) (pb : Nat) (st : St σ) (r : Tr × St σ) (hP : ParAt C w pb st) (hk : st.kd C.L ≠ 0) (hr : Ps.primary C.L C.orc (n + 1) st = some r) :
    Calls Try.prog 83 #[.pointer (some ⟨pb, 0, none⟩)] w (fun e w' => LvPost C C.S0 pb w r.1 r.2 e w') := by
  rw [Ps.primary] at hr
  have HP := Aside0.mk hP
  have HK := Aside0.mk hk
  have HKD := Aside0.mk (fun w hP => kind_any C w pb st hP)
  by_cases h6 : st.kd C.L = 6
  · rw [if_pos h6] at hr
    obtain rfl := Option.some.inj hr
    rw [h6] at HKD
    clear hr h6 hk hP
    go_enter Try.func83, Try.ntmps83
    go_wp2_with (first | (go_at_call 21; go_loud (refine (HKD.out _ (HP.out.below (PL.below_alloc _ _))).mono ?_; rintro e w1 ⟨rfl, hb1⟩; have hz1 := (hb1.block w.heap.size (by rw [World.size_alloc]; omega)).trans (heap_at rfl); have hs1 := hb1.size; rw [World.size_alloc] at hs1; have HB1 := Aside0.mk ((PL.below_alloc w _).trans (Below.mono hb1 (by rw [World.size_alloc]; omega))); clear hb1)) | (go_at_call 19; refine (make_next C _ pb st 66 (HP.out.below HB1.out) HK.out).mono ?_; rintro e w2 ⟨cs, rfl, hN, hP2, hF2⟩; obtain ⟨A, nn, cc, rfl, _⟩ := hN.four; have hz2 := keep_block hz1 (Nat.le_trans HP.out.lo (Nat.le_of_lt HP.out.lt)) (by have := HP.out.lt; omega) hF2; obtain ⟨y0, y1, y2, y3, yf⟩ := four_cells hz2; have HN := Aside0.mk hN; have HP2 := Aside0.mk hP2; have HF2 := Aside0.mk hF2; have HZ2 := Aside0.mk hz2; clear hN hP2 hF2 hz2 hz1))
    refine bodyPost_ret (results_cell_row rfl _ _ w.heap.size 25 _ (0, 0) _ rfl (set4_block HZ2.out _ _ _ _) Try.underlying25 rfl (by kernel_rfl)) rfl (LvPost.ret HP.out HB1.out (Nat.le_refl _) (by omega) HN.out HP2.out HF2.out)
  · by_cases h20 : st.kd C.L = 20
    · rw [if_neg h6, if_pos h20] at hr
      obtain ⟨b, hb, hr⟩ := Option.bind_eq_some_iff.mp hr
      obtain rfl := Option.some.inj hr
      rw [h20] at HKD
      have HGR := Aside0.mk (fun w hP => make_group C ih w pb st b hP hk hb)
      clear hr h6 h20 hk hP hb
      dsimp only at HGR ⊢
      generalize node 65 ((nextL C.L st).1 ++ b.1 ++ (wantL C.L 21 b.2).1) = T at *
      go_enter Try.func83, Try.ntmps83
      go_wp2_with (first | (go_at_call 21; refine (HKD.out _ (HP.out.below (PL.below_alloc _ _))).mono ?_; rintro e w1 ⟨rfl, hb1⟩; have hz1 := (hb1.block w.heap.size (by rw [World.size_alloc]; omega)).trans (heap_at rfl); have hs1 := hb1.size; rw [World.size_alloc] at hs1; have HB1 := Aside0.mk ((PL.below_alloc w _).trans (Below.mono hb1 (by rw [World.size_alloc]; omega))); clear hb1) | (go_at_call 19; refine (HGR.out _ (HP.out.below HB1.out)).mono ?_; rintro e w2 ⟨cs, rfl, hN, hP2, hF2⟩; obtain ⟨A, nn, cc, rfl, _⟩ := hN.four; have hz2 := keep_block hz1 (Nat.le_trans HP.out.lo (Nat.le_of_lt HP.out.lt)) (by have := HP.out.lt; omega) hF2; obtain ⟨y0, y1, y2, y3, yf⟩ := four_cells hz2; have HN := Aside0.mk hN; have HP2 := Aside0.mk hP2; have HF2 := Aside0.mk hF2; have HZ2 := Aside0.mk hz2; clear hN hP2 hF2 hz2 hz1))
      refine bodyPost_ret (results_cell_row rfl _ _ w.heap.size 25 _ (0, 0) _ rfl (set4_block HZ2.out _ _ _ _) Try.underlying25 rfl (by kernel_rfl)) rfl (LvPost.ret HP.out HB1.out (Nat.le_refl _) (by omega) HN.out HP2.out HF2.out)
    · rw [if_neg h6, if_neg h20] at hr
      obtain rfl := Option.some.inj hr
      have b6 := nb h6
      have b20 := nb h20
      generalize st.kd C.L = kd at HKD b6 b20
      clear hr h6 h20 hk hP
      go_enter Try.func83, Try.ntmps83
      go_wp2_with (first | (go_at_call 21; refine (HKD.out _ (HP.out.below (PL.below_alloc _ _))).mono ?_; rintro e w1 ⟨rfl, hb1⟩; have hz1 := (hb1.block w.heap.size (by rw [World.size_alloc]; omega)).trans (heap_at rfl); have hs1 := hb1.size; rw [World.size_alloc] at hs1; have HB1 := Aside0.mk ((PL.below_alloc w _).trans (Below.mono hb1 (by rw [World.size_alloc]; omega))); clear hb1) | (go_at_call 19; refine (make_next C _ pb st 67 (HP.out.below HB1.out) HK.out).mono ?_; rintro e w2 ⟨cs, rfl, hN, hP2, hF2⟩; obtain ⟨A, nn, cc, rfl, _⟩ := hN.four; have hz2 := keep_block hz1 (Nat.le_trans HP.out.lo (Nat.le_of_lt HP.out.lt)) (by have := HP.out.lt; omega) hF2; obtain ⟨y0, y1, y2, y3, yf⟩ := four_cells hz2; have HN := Aside0.mk hN; have HP2 := Aside0.mk hP2; have HF2 := Aside0.mk hF2; have HZ2 := Aside0.mk hz2; clear hN hP2 hF2 hz2 hz1))
      refine bodyPost_ret (results_cell_row rfl _ _ w.heap.size 25 _ (0, 0) _ rfl (set4_block HZ2.out _ _ _ _) Try.underlying25 rfl (by kernel_rfl)) rfl (LvPost.ret HP.out HB1.out (Nat.le_refl _) (by omega) HN.out HP2.out HF2.out)
end
end Go.Proofs.Ytalnicdpcigocaa.PP
namespace Go.Proofs.Ytalnicdpcigocaa.PP
open Go.RowKit Ps PM PL GR Go.Proofs.YtalnicdpcigocaaW.PrintWords Go.Proofs.YtalnicdpcigocaaW.PrintLast Go.Proofs.YtalnicdpcigocaaW.PrintMore
set_option linter.unusedVariables false
set_option linter.unusedSimpArgs false
section
variable {σ : Type}
set_option maxHeartbeats 4000000 in
set_option maxRecDepth 100000 in
theorem expr_do (C : Ctx σ) {n : Nat} (ih : AllOK C n) (S : Nat → Prop) (lo : Nat) (w : World) (mb : Nat) (kind : Int) (pb : Nat) (v : Value) (st : St σ) (q : Tr × St σ) (hM : MkAt C S lo w mb kind [] pb v) (hP : ParAt C w pb st) (hk : st.kd C.L ≠ 0)
    (hq : Ps.level C.L C.orc n 1 st = some q) :
    Calls Try.prog 73 #[.pointer (some ⟨mb, 0, none⟩)] w fun e w' => e = .returned (.tuple #[]) ∧ MkPost C S lo mb kind pb w v [q.1] q.2 w' := by
  have HR := Aside0.mk (Run.start hM hP)
  have hm4 := HR.out.m4
  have HQ := Aside0.mk hq
  clear hM hP hq
  go_enter Try.func73, Try.ntmps73
  go_wp2_with (first | (go_at_call 74; refine (ih.level _ pb st 1 q (by decide) HR.out.par hk HQ.out).mono ?_; rintro e w1 ⟨cs, rfl, hN, hP1, hF1⟩; have HN := Aside0.mk (HR.out.node hN); have HR1 := Aside0.mk (HR.out.part hF1 hP1); clear hN hP1 hF1) | (go_at_call 36; refine (add_any C S lo _ mb kind [] pb _ q.2 q.1 _ HR1.out.mka HR1.out.par HN.out (by simp)).mono ?_; rintro e w2 ⟨rfl, hp2⟩; obtain ⟨v2, hR2⟩ := HR1.out.step hp2))
  refine bodyPost_end (v := .tuple #[]) (by first | rfl | simp [results, Try.results73, go_sem]) rfl ⟨rfl, hR2.post⟩
theorem make_expr (C : Ctx σ) {n : Nat} (ih : AllOK C n) (w : World) (pb : Nat) (st : St σ) (q : Tr × St σ) (hP : ParAt C w pb st) (hk : st.kd C.L ≠ 0) (hq : Ps.level C.L C.orc n 1 st = some q) :
    Calls Try.prog 19 #[.pointer (some ⟨pb, 0, none⟩), .int .u8 60, .func (.func 73) #[] #[]] w (fun e w' => LvPost C C.S0 pb w (node 60 [q.1]) q.2 e w') := by
  refine make_any C C.S0 w pb st _ 60 _ _ _ _ (by simp) (fun _ _ => rfl) hP (s0_ok C hP (Nat.le_refl _)) (fun _ h => h) (fun w1 mb lo hb1 hm hP1 hM => ?_)
  rw [args1]
  exact expr_do C ih C.S0 lo w1 mb 60 pb _ st q hM hP1 hk hq
set_option maxHeartbeats 4000000 in
set_option maxRecDepth 100000 in
theorem expr_part (C : Ctx σ) {n : Nat} (ih : AllOK C n) (w : World) (mb bx pb : Nat) (st : St σ) (q : Tr × St σ) (hP : ParAt C w pb st) (hk : st.kd C.L ≠ 0) (hq : Ps.level C.L C.orc n 1 st = some q)
    (hbx : w.cell? ⟨bx, 0, none⟩ = some (.pointer (some ⟨mb, 0, none⟩))) (hm4 : w.cell? ⟨mb, 4, none⟩ = some (.pointer (some ⟨pb, 0, none⟩))) :
    Calls Try.prog 72 #[.pointer (some ⟨bx, 0, none⟩)] w fun e w' => LvPost C C.S0 pb w (node 60 [q.1]) q.2 e w' := by
  have HP := Aside0.mk hP
  have HMK := Aside0.mk (fun w hP => make_expr C ih w pb st q hP hk hq)
  have abx := alloc_cell hbx
  have am4 := alloc_cell hm4
  generalize node 60 [q.1] = T at *
  have hz1 : (w.alloc zeroNode).heap[w.heap.size]? = some zeroNode := heap_at rfl
  have hs1 : (w.alloc zeroNode).heap.size = w.heap.size + 1 := World.size_alloc _ _
  have HZ1 := Aside0.mk hz1
  clear hP hq hz1
  go_enter Try.func72, Try.ntmps72
  go_wp2_with (first | (go_at_call 19; refine (HMK.out _ (HP.out.below (PL.below_alloc _ _))).mono ?_; rintro e w2 ⟨cs, rfl, hN, hP2, hF2⟩; obtain ⟨A, nn, cc, rfl, _⟩ := hN.four; have hz2 := keep_block HZ1.out (Nat.le_trans HP.out.lo (Nat.le_of_lt HP.out.lt)) (by have := HP.out.lt; omega) hF2; obtain ⟨y0, y1, y2, y3, yf⟩ := four_cells hz2; have HN := Aside0.mk hN; have HP2 := Aside0.mk hP2; have HF2 := Aside0.mk hF2; have HZ2 := Aside0.mk hz2; clear hN hP2 hF2 hz2))
  refine bodyPost_ret (results_cell_row rfl _ _ w.heap.size 25 _ (0, 0) _ rfl (set4_block HZ2.out _ _ _ _) Try.underlying25 rfl (by kernel_rfl)) rfl (LvPost.ret HP.out (PL.below_alloc _ _) (Nat.le_refl _) (by rw [World.size_alloc]; omega) HN.out HP2.out HF2.out)
/-- the box of m, behind what a step turns -/
theorem box_kept {C : Ctx σ} {S : Nat → Prop} {lo mb : Nat} {kind : Int} {pb : Nat} {w : World} {v : Value} {kids : List Tr} {st : St σ} {w1 w2 : World} (h : Run C S lo mb kind pb w v kids st w v) (hwl : w.heap.size < w1.heap.size)
    {u : Value} (hbx : w1.cell? ⟨w.heap.size, 0, none⟩ = some u) (hF : FrX (XM C pb mb v) w1 w2) : w2.cell? ⟨w.heap.size, 0, none⟩ = some u := by
  have hne : ¬ XM C pb mb v w.heap.size := by
    have h1 := h.par.lt
    have h2 := h.par.lo
    have h3 := h.mka.lt
    rintro (e | e | e | e)
    · omega
    · omega
    · have := h.mka.own_lt e; omega
    · have := C.hO _ e; omega
  exact (World.cell?_of_block (w := w1) (hF.block w.heap.size hwl hne)).trans hbx
theorem expr_hp (C : Ctx σ) {n : Nat} (ih : AllOK C n) {S : Nat → Prop} {lo mb : Nat} {kind : Int} {pb : Nat} {w : World} {v : Value} {kids : List Tr} {st : St σ} {w1 w2 : World} (h : Run C S lo mb kind pb w v kids st w v) (h1 : Run C S lo mb kind pb w v kids st w1 v) (hwl : w.heap.size < w1.heap.size)
    (hbx : w1.cell? ⟨w.heap.size, 0, none⟩ = some (.pointer (some ⟨mb, 0, none⟩))) (hk : st.kd C.L ≠ 0) {s' : σ} {r' : Tr × St σ} (hF : FrX (XM C pb mb v) w1 w2) (hm : w2.cell? ⟨mb, 4, none⟩ = some (.pointer (some ⟨pb, 0, none⟩))) (hP : ParAt C w2 pb ⟨nx C.L st.at_, s'⟩)
    (hq : (Ps.level C.L C.orc n 1 ⟨nx C.L st.at_, s'⟩).map (fun r => (node 60 [r.1], r.2)) = some r') :
    Calls Try.prog 72 (#[] ++ #[.pointer (some ⟨w.heap.size, 0, none⟩)]) w2 (fun e w' => LvPost C C.S0 pb w2 r'.1 r'.2 e w') := by
  obtain ⟨q, hq', rfl⟩ := Option.map_eq_some_iff.mp hq
  rw [show (#[] ++ #[.pointer (some ⟨w.heap.size, 0, none⟩)] : Array Value) = #[.pointer (some ⟨w.heap.size, 0, none⟩)] by simp]
  exact expr_part C ih w2 mb w.heap.size pb _ q hP (by rw [kd_same (st := st) h.par.le rfl]; exact hk) hq' (box_kept h hwl hbx hF) hm
set_option maxHeartbeats 4000000 in
set_option maxRecDepth 100000 in
theorem expr_succ (C : Ctx σ) (hcf0 : Enters C.f) {n : Nat} (ih : AllOK C n) (S : Nat → Prop) (lo : Nat) (w : World) (mb : Nat) (kind : Int) (kids : List Tr) (pb : Nat) (v : Value) (st : St σ) (r : List Tr × St σ) (hM : MkAt C S lo w mb kind kids pb v) (hP : ParAt C w pb st) (hlen : kids.length ≤ 200000)
    (hr : Ps.expr C.L C.orc (n + 1) st = some r) :
    Calls Try.prog 67 #[.pointer (some ⟨mb, 0, none⟩)] w fun e w' => e = .returned (.tuple #[]) ∧ MkPost C S lo mb kind pb w v (kids ++ r.1) r.2 w' := by
  rw [Ps.expr] at hr
  have hmf : ∀ (fn : Fn) (first cap : Array Value) (w : World), (Instr.makeFunc fn first cap).run Try.prog w = .ok (.func fn first cap) w := fun _ _ _ _ => rfl
  have HR := Aside0.mk (Run.start hM hP)
  have hm4 := HR.out.m4
  have am4 := alloc_cell hm4
  have HBG := Aside0.mk (fun w h => beg_any C w pb st h)
  have hkd0 := fun (h : begins (st.kd C.L) = true) => of_begins (L := C.L) (st := st) h
  have HR0 := Aside0.mk (HR.out.below (PL.below_alloc w (.cells #[.pointer (some ⟨mb, 0, none⟩)] 55)))
  have hle := hP.le
  clear hM hP
  cases hb : begins (st.kd C.L) with
  | false =>
    rw [hb] at hr HBG
    obtain rfl := Option.some.inj hr
    clear hr hb hkd0
    go_enter Try.func67, Try.ntmps67
    go_wp2_with (first | (go_at_call 69; refine (HBG.out _ HR0.out.par).mono ?_; rintro e w1 ⟨rfl, hb1⟩; have HR1 := Aside0.mk (HR0.out.below hb1); have hbx1 := ((World.cell?_of_block (w := w.alloc (.cells #[.pointer (some ⟨mb, 0, none⟩)] 55)) (a := ⟨w.heap.size, 0, none⟩) (hb1.block w.heap.size (by rw [World.size_alloc]; omega))).trans (show _ = some (Value.pointer (some ⟨mb, 0, none⟩)) by rw [blk_cell (heap_at rfl)]; rfl)); clear hb1) | (go_at_call 55; refine (missing_any C S lo _ mb kind kids pb _ st 60 HR1.out.mka HR1.out.par (by omega)).mono ?_; rintro e w2 ⟨rfl, hp2⟩; obtain ⟨v2, hR2⟩ := HR1.out.step hp2))
    refine bodyPost_ret (results_none rfl _ _ _) rfl ⟨rfl, hR2.post⟩
  | true =>
    rw [hb, if_pos rfl] at hr
    rw [hb] at HBG
    have hk0 := hkd0 hb
    have HRR := Aside0.mk hr
    clear hr hb hkd0
    go_enter Try.func67, Try.ntmps67
    go_wp2_with (first | (go_at_call 69; refine (HBG.out _ HR0.out.par).mono ?_; rintro e w1 ⟨rfl, hb1⟩; have HR1 := Aside0.mk (HR0.out.below hb1); have hbx1 := ((World.cell?_of_block (w := w.alloc (.cells #[.pointer (some ⟨mb, 0, none⟩)] 55)) (a := ⟨w.heap.size, 0, none⟩) (hb1.block w.heap.size (by rw [World.size_alloc]; omega))).trans (show _ = some (Value.pointer (some ⟨mb, 0, none⟩)) by rw [blk_cell (heap_at rfl)]; rfl)); have hwl : w.heap.size < w1.heap.size := (by have := hb1.size; rw [World.size_alloc] at this; omega); clear hb1) | (go_at_call 34; refine (put_any C hcf0 S lo _ mb kind kids pb v st 60 (by decide) 72 #[] #[.pointer (some ⟨w.heap.size, 0, none⟩)] (fun _ _ => rfl) _ r HRR.out HR1.out.mka HR1.out.par (by omega) (fun w2 s' r' hF hm2 hP2 hq => expr_hp C ih HR.out HR1.out hwl hbx1 hk0 hF hm2 hP2 hq)).mono ?_; rintro e w2 ⟨rfl, hp2⟩; obtain ⟨v2, hR2⟩ := HR1.out.step hp2))
    refine bodyPost_end (v := .tuple #[]) (by first | rfl | simp [results, Try.results67, go_sem]) rfl ⟨rfl, hR2.post⟩
end
end Go.Proofs.Ytalnicdpcigocaa.PP
namespace Go.Proofs.Ytalnicdpcigocaa.PP
open Go.RowKit Ps PM PL GR Go.Proofs.YtalnicdpcigocaaW.PrintWords Go.Proofs.YtalnicdpcigocaaW.PrintLast Go.Proofs.YtalnicdpcigocaaW.PrintMore
set_option linter.unusedVariables false
set_option linter.unusedSimpArgs false
section
variable {σ : Type}
theorem node_inj {k : Int} {a b : List Tr} (h : node k a = node k b) : a = b := by
  unfold node at h
  injection h
set_option maxHeartbeats 4000000 in
set_option maxRecDepth 100000 in
theorem args_succ (C : Ctx σ) {n : Nat} (ih : ∀ k, k ≤ n → AllOK C k) (S : Nat → Prop) (lo : Nat) (w : World) (mb : Nat) (kind : Int) (pb : Nat) (v : Value) (st : St σ) (l : List Tr) (st' : St σ) (hM : MkAt C S lo w mb kind [] pb v) (hP : ParAt C w pb st) (hk : st.kd C.L ≠ 0)
    (hr : Ps.args C.L C.orc (n + 1) st = some (node 64 l, st')) :
    Calls Try.prog 85 #[.pointer (some ⟨mb, 0, none⟩)] w fun e w' => e = .returned (.tuple #[]) ∧ MkPost C S lo mb kind pb w v l st' w' := by
  rw [Ps.args] at hr
  have HR := Aside0.mk (Run.start hM hP)
  have hng := next_goes hk
  have hnl := next_len (L := C.L) st
  have hL := C.hL
  clear hM hP
  cases hb : begins ((nextL C.L st).2.kd C.L) with
  | false =>
    have HBG := Aside0.mk (fun w h => hb ▸ beg_any C w pb (nextL C.L st).2 h)
    dsimp only at hr
    rw [hb] at hr
    have hr := Option.some.inj hr
    injection hr with hr1 hr2
    obtain rfl := node_inj hr1
    obtain rfl := hr2
    have h1 := next_len' C st
    clear hr1 hb
    go_enter Try.func85, Try.ntmps85
    go_wp2_with (first | (go_at_call 50; refine (take_any C S lo _ mb kind [] pb _ st HR.out.mka HR.out.par (by simp) hk).mono ?_; rintro e w1 ⟨rfl, hp1⟩; obtain ⟨v1, hR1⟩ := HR.out.step hp1; rw [List.nil_append] at hR1; have HR1 := Aside0.mk hR1; clear hR1 hp1; have hm4 := HR1.out.m4) | (go_at_call 69; refine (HBG.out _ HR1.out.par).mono ?_; rintro e w2 ⟨rfl, hb2⟩; have HR2 := Aside0.mk (HR1.out.below hb2); clear hb2) | (go_at_call 58; refine (want_any C S lo _ mb kind _ pb _ _ 21 (by decide) HR2.out.mka HR2.out.par (by omega)).mono ?_; rintro e w3 ⟨rfl, hp3⟩; obtain ⟨v3, hR3⟩ := HR2.out.step hp3))
    refine bodyPost_end (v := .tuple #[]) (by first | rfl | simp [results, Try.results85, go_sem]) rfl ⟨rfl, hR3.post⟩
  | true =>
    have HBG := Aside0.mk (fun w h => hb ▸ beg_any C w pb (nextL C.L st).2 h)
    dsimp only at hr
    rw [if_pos hb] at hr
    obtain ⟨b, hx, hr⟩ := Option.bind_eq_some_iff.mp hr
    obtain ⟨R, hlp, hr⟩ := Option.map_eq_some_iff.mp hr
    injection hr with hr1 hr2
    obtain rfl := node_inj hr1
    obtain rfl := hr2
    have h1 := next_len' C st
    have hbg := ((mon n : Mon C.L C.orc n).expr _ _ hng.2.2.1 hx).1
    have HX := Aside0.mk hx
    have HLP := Aside0.mk hlp
    have hbl : ((nextL C.L st).1 ++ b.1).length + 2 * (C.L.length - b.2.at_) ≤ 100000 := by
      have h2 := hbg.2.2
      have h3 := hbg.2.1
      rw [List.length_append]
      omega
    have HBL := Aside0.mk hbl
    have HBA : Aside0 (b.2.at_ ≤ C.L.length) := ⟨hbg.2.1⟩
    clear hr1 hb hx hlp hbg hng hnl hbl
    go_enter Try.func85, Try.ntmps85
    go_wp2_with (first | (go_at_call 50; refine (take_any C S lo _ mb kind [] pb _ st HR.out.mka HR.out.par (by simp) hk).mono ?_; rintro e w1 ⟨rfl, hp1⟩; obtain ⟨v1, hR1⟩ := HR.out.step hp1; rw [List.nil_append] at hR1; have HR1 := Aside0.mk hR1; clear hR1 hp1; have hm4 := HR1.out.m4) | (go_at_call 69; refine (HBG.out _ HR1.out.par).mono ?_; rintro e w2 ⟨rfl, hb2⟩; have HR2 := Aside0.mk (HR1.out.below hb2); clear hb2) | (go_at_call 67; refine ((ih n (Nat.le_refl n)).expr S lo _ mb kind _ pb _ _ b HR2.out.mka HR2.out.par (by omega) HX.out).mono ?_; rintro e w3 ⟨rfl, hp3⟩; obtain ⟨v3, hR3⟩ := HR2.out.step hp3; have HR3 := Aside0.mk hR3; clear hR3 hp3))
    go_loopg [] n (fun kq wr => ∃ (acc : List Tr) (stc : St σ) (v' : Value), Aside0 (Run C S lo mb kind pb w v acc stc wr v') ∧ Aside0 (Ps.argsLoop C.L C.orc kq acc stc = some R) ∧ Aside0 (kq ≤ n) ∧ Aside0 (acc.length + 2 * (C.L.length - stc.at_) ≤ 100000))
    case atStart => exact ⟨_, _, _, HR3, HLP, ⟨Nat.le_refl _⟩, HBL⟩
    case round =>
      clear HR1 HR2 HR3 HLP HBL HBA HX HBG
      obtain ⟨acc, stc, v', HRc, HA, HKn, HBc⟩ := hrel
      have hA := HA.out
      have hm4 := HRc.out.m4
      cases gk with
      | zero => rw [Ps.argsLoop] at hA; cases hA
      | succ k1 =>
        rw [Ps.argsLoop] at hA
        have HKD := Aside0.mk (fun w h => kind_any C w pb stc h)
        have hal := HBc.out
        by_cases h24 : stc.kd C.L = 24
        · rw [if_pos h24] at hA
          obtain ⟨q, hx, hA⟩ := Option.bind_eq_some_iff.mp hA
          have hk1 : stc.kd C.L ≠ 0 := by rw [h24]; decide
          rw [h24] at HKD
          have hng := next_goes hk1
          have hnl := next_len (L := C.L) stc
          have hbg := ((mon k1 : Mon C.L C.orc k1).expr _ _ hng.2.2.1 hx).1
          have HX := Aside0.mk hx
          have HA2 := Aside0.mk hA
          have hlb : (acc ++ (nextL C.L stc).1 ++ q.1).length + 2 * (C.L.length - q.2.at_) ≤ 100000 := by
            have h2 := hbg.2.2
            have h3 := hbg.2.1
            have h4 := hng.1
            have h5 := hbg.1
            rw [List.length_append, List.length_append]
            omega
          have HLB := Aside0.mk hlb
          have hnx := next_len' C stc
          have HK1 := Aside0.mk hk1
          clear hA hx h24 hng hnl hbg hlb HA hk1
          go_wp2_with (first | (go_at_call 21; refine (HKD.out _ HRc.out.par).mono ?_; rintro e w4 ⟨rfl, hb4⟩; have HR4 := Aside0.mk (HRc.out.below hb4); clear hb4) | (go_at_call 50; refine (take_any C S lo _ mb kind _ pb _ stc HR4.out.mka HR4.out.par (by omega) HK1.out).mono ?_; rintro e w5 ⟨rfl, hp5⟩; obtain ⟨v5, hR5⟩ := HR4.out.step hp5; have HR5 := Aside0.mk hR5; clear hR5 hp5) | (go_at_call 67; refine ((ih k1 (by have := HKn.out; omega)).expr S lo _ mb kind _ pb _ _ q HR5.out.mka HR5.out.par (by rw [List.length_append]; omega) HX.out).mono ?_; rintro e w6 ⟨rfl, hp6⟩; obtain ⟨v6, hR6⟩ := HR5.out.step hp6; have HR6 := Aside0.mk hR6; clear hR6 hp6))
          go_roundg k1
          case measure => omega
          case rel => exact ⟨_, _, _, HR6, HA2, ⟨by have := HKn.out; omega⟩, HLB⟩
        · rw [if_neg h24] at hA
          obtain rfl := Option.some.inj hA
          have b24 := nb h24
          generalize stc.kd C.L = kd at HKD b24
          clear hA h24 HA
          go_wp2_with (first | (go_at_call 21; refine (HKD.out _ HRc.out.par).mono ?_; rintro e w4 ⟨rfl, hb4⟩; have HR4 := Aside0.mk (HRc.out.below hb4); clear hb4) | (go_at_call 58; refine (want_any C S lo _ mb kind _ pb _ _ 21 (by decide) HR4.out.mka HR4.out.par (by omega)).mono ?_; rintro e w5 ⟨rfl, hp5⟩; obtain ⟨v5, hR5⟩ := HR4.out.step hp5))
          refine bodyPost_end (v := .tuple #[]) (by first | rfl | simp [results, Try.results85, go_sem]) rfl ⟨rfl, hR5.post⟩
end
end Go.Proofs.Ytalnicdpcigocaa.PP
namespace Go.Proofs.Ytalnicdpcigocaa.PP
open Go.RowKit Ps PM PL GR Go.Proofs.YtalnicdpcigocaaW.PrintWords Go.Proofs.YtalnicdpcigocaaW.PrintLast Go.Proofs.YtalnicdpcigocaaW.PrintMore
set_option linter.unusedVariables false
set_option linter.unusedSimpArgs false
section
variable {σ : Type}
set_option maxHeartbeats 4000000 in
set_option maxRecDepth 100000 in
theorem params_do (C : Ctx σ) {n : Nat} (S : Nat → Prop) (lo : Nat) (w : World) (mb : Nat) (kind : Int) (pb : Nat) (v : Value) (st : St σ) (l : List Tr) (st' : St σ) (hM : MkAt C S lo w mb kind [] pb v) (hP : ParAt C w pb st)
    (hr : Ps.params C.L n st = some (node 55 l, st')) :
    Calls Try.prog 68 #[.pointer (some ⟨mb, 0, none⟩)] w fun e w' => e = .returned (.tuple #[]) ∧ MkPost C S lo mb kind pb w v l st' w' := by
  unfold Ps.params at hr
  have HR := Aside0.mk (Run.start hM hP)
  have hL := C.hL
  have h1 := want_len' C 20 st
  have hwg := want_goes (L := C.L) (k := 20) (by decide) hP.le
  clear hM hP
  by_cases h6 : (wantL C.L 20 st).2.kd C.L = 6
  · rw [if_pos h6] at hr
    obtain ⟨R, hlp, hr⟩ := Option.map_eq_some_iff.mp hr
    injection hr with hr1 hr2
    obtain rfl := node_inj hr1
    obtain rfl := hr2
    have HKD := Aside0.mk (fun w h => h6 ▸ kind_any C w pb (wantL C.L 20 st).2 h)
    have hk1 : (wantL C.L 20 st).2.kd C.L ≠ 0 := by rw [h6]; decide
    have hng := next_goes hk1
    have hnl := next_len (L := C.L) (wantL C.L 20 st).2
    have h2 := next_len' C (wantL C.L 20 st).2
    have HLP := Aside0.mk hlp
    have HBL : Aside0 (((wantL C.L 20 st).1 ++ (nextL C.L (wantL C.L 20 st).2).1).length + 2 * (C.L.length - (nextL C.L (wantL C.L 20 st).2).2.at_) ≤ 100000) := ⟨by
      have a1 := hwg.2.2
      have a2 := hwg.2.1
      have a3 := hng.2.2.1
      rw [List.length_append]
      omega⟩
    have HK1 := Aside0.mk hk1
    clear hr1 h6 hlp hk1 hng hnl hwg
    go_enter Try.func68, Try.ntmps68
    go_wp2_with (first | (go_at_call 58; refine (want_any C S lo _ mb kind _ pb _ _ _ (by decide) HR.out.mka HR.out.par (by (try simp only [List.length_append, List.length_nil]); omega)).mono ?_; rintro e w1 ⟨rfl, hp⟩; obtain ⟨v1, hR⟩ := HR.out.step hp; (try rw [List.nil_append] at hR); clear HR; have HR := Aside0.mk hR; clear hR hp; (try clear hm4); have hm4 := HR.out.m4) | (go_at_call 21; refine (HKD.out _ HR.out.par).mono ?_; rintro e w4 ⟨rfl, hb⟩; have hR := HR.out.below hb; clear HR; have HR := Aside0.mk hR; clear hR hb; (try clear hm4); have hm4 := HR.out.m4) | (go_at_call 50; refine (take_any C S lo _ mb kind _ pb _ _ HR.out.mka HR.out.par (by (try simp only [List.length_append, List.length_nil]); omega) HK1.out).mono ?_; rintro e w3 ⟨rfl, hp⟩; obtain ⟨v3, hR⟩ := HR.out.step hp; (try rw [List.nil_append] at hR); clear HR; have HR := Aside0.mk hR; clear hR hp; (try clear hm4); have hm4 := HR.out.m4))
    go_loopg [] n (fun kq wr => ∃ (acc : List Tr) (stc : St σ) (v' : Value), Aside0 (Run C S lo mb kind pb w v acc stc wr v') ∧ Aside0 (Ps.namesLoop C.L kq acc stc = some R) ∧ Aside0 (kq ≤ n) ∧ Aside0 (acc.length + 2 * (C.L.length - stc.at_) ≤ 100000))
    case atStart => exact ⟨_, _, _, HR, HLP, ⟨Nat.le_refl _⟩, HBL⟩
    case round =>
      clear HR HLP HBL HKD HK1
      obtain ⟨acc, stc, v', HR, HA, HKn, HBc⟩ := hrel
      have hA := HA.out
      have hm4 := HR.out.m4
      cases gk with
      | zero => rw [Ps.namesLoop] at hA; cases hA
      | succ k1 =>
        rw [Ps.namesLoop] at hA
        have hal := HBc.out
        by_cases h24 : stc.kd C.L = 24
        · rw [if_pos h24] at hA
          have hk1 : stc.kd C.L ≠ 0 := by rw [h24]; decide
          have HKD := Aside0.mk (fun w h => h24 ▸ kind_any C w pb stc h)
          have hng := next_goes hk1
          have hnl := next_len (L := C.L) stc
          have hwg := want_goes (L := C.L) (k := 6) (by decide) hng.2.2.1
          have HA2 := Aside0.mk hA
          have HLB : Aside0 ((acc ++ (nextL C.L stc).1 ++ (wantL C.L 6 (nextL C.L stc).2).1).length + 2 * (C.L.length - (wantL C.L 6 (nextL C.L stc).2).2.at_) ≤ 100000) := ⟨by
            have a1 := hwg.2.2
            have a2 := hwg.2.1
            have a4 := hng.1
            have a5 := hwg.1
            rw [List.length_append, List.length_append]
            omega⟩
          have hnx := next_len' C stc
          have HK1 := Aside0.mk hk1
          clear hA h24 hng hnl hwg HA hk1
          go_wp2_with (first | (go_at_call 21; refine (HKD.out _ HR.out.par).mono ?_; rintro e w4 ⟨rfl, hb⟩; have hR := HR.out.below hb; clear HR; have HR := Aside0.mk hR; clear hR hb; (try clear hm4); have hm4 := HR.out.m4) | (go_at_call 50; refine (take_any C S lo _ mb kind _ pb _ _ HR.out.mka HR.out.par (by (try simp only [List.length_append, List.length_nil]); omega) HK1.out).mono ?_; rintro e w1 ⟨rfl, hp⟩; obtain ⟨v1, hR⟩ := HR.out.step hp; (try rw [List.nil_append] at hR); clear HR; have HR := Aside0.mk hR; clear hR hp; (try clear hm4); have hm4 := HR.out.m4) | (go_at_call 58; refine (want_any C S lo _ mb kind _ pb _ _ _ (by decide) HR.out.mka HR.out.par (by (try simp only [List.length_append, List.length_nil]); omega)).mono ?_; rintro e w2 ⟨rfl, hp⟩; obtain ⟨v2, hR⟩ := HR.out.step hp; (try rw [List.nil_append] at hR); clear HR; have HR := Aside0.mk hR; clear hR hp; (try clear hm4); have hm4 := HR.out.m4))
          go_roundg k1
          case measure => omega
          case rel => exact ⟨_, _, _, HR, HA2, ⟨by have := HKn.out; omega⟩, HLB⟩
        · rw [if_neg h24] at hA
          obtain rfl := Option.some.inj hA
          have HKD := Aside0.mk (fun w h => kind_any C w pb stc h)
          have b24 := nb h24
          generalize stc.kd C.L = kd at HKD b24
          clear hA h24 HA
          go_wp2_with (first | (go_at_call 21; refine (HKD.out _ HR.out.par).mono ?_; rintro e w4 ⟨rfl, hb⟩; have hR := HR.out.below hb; clear HR; have HR := Aside0.mk hR; clear hR hb; (try clear hm4); have hm4 := HR.out.m4) | (go_at_call 58; refine (want_any C S lo _ mb kind _ pb _ _ _ (by decide) HR.out.mka HR.out.par (by (try simp only [List.length_append, List.length_nil]); omega)).mono ?_; rintro e w2 ⟨rfl, hp⟩; obtain ⟨v2, hR⟩ := HR.out.step hp; (try rw [List.nil_append] at hR); clear HR; have HR := Aside0.mk hR; clear hR hp; (try clear hm4); have hm4 := HR.out.m4))
          refine bodyPost_end (v := .tuple #[]) (by first | rfl | simp [results, Try.results68, go_sem]) rfl ⟨rfl, HR.out.post⟩
  · rw [if_neg h6] at hr
    have hr := Option.some.inj hr
    injection hr with hr1 hr2
    obtain rfl := node_inj hr1
    obtain rfl := hr2
    have HKD := Aside0.mk (fun w h => kind_any C w pb (wantL C.L 20 st).2 h)
    have b6 := nb h6
    generalize hkd : (wantL C.L 20 st).2.kd C.L = kd at HKD b6
    clear hr1 h6 hkd hwg
    go_enter Try.func68, Try.ntmps68
    go_wp2_with (first | (go_at_call 58; refine (want_any C S lo _ mb kind _ pb _ _ _ (by decide) HR.out.mka HR.out.par (by (try simp only [List.length_append, List.length_nil]); omega)).mono ?_; rintro e w2 ⟨rfl, hp⟩; obtain ⟨v2, hR⟩ := HR.out.step hp; (try rw [List.nil_append] at hR); clear HR; have HR := Aside0.mk hR; clear hR hp; (try clear hm4); have hm4 := HR.out.m4) | (go_at_call 21; refine (HKD.out _ HR.out.par).mono ?_; rintro e w4 ⟨rfl, hb⟩; have hR := HR.out.below hb; clear HR; have HR := Aside0.mk hR; clear hR hb; (try clear hm4); have hm4 := HR.out.m4))
    refine bodyPost_end (v := .tuple #[]) (by first | rfl | simp [results, Try.results68, go_sem]) rfl ⟨rfl, HR.out.post⟩
end
end Go.Proofs.Ytalnicdpcigocaa.PP
namespace Go.Proofs.Ytalnicdpcigocaa.PP
open Go.RowKit Ps PM PL GR Go.Proofs.YtalnicdpcigocaaW.PrintWords Go.Proofs.YtalnicdpcigocaaW.PrintLast Go.Proofs.YtalnicdpcigocaaW.PrintMore
set_option linter.unusedVariables false
set_option linter.unusedSimpArgs false
section
variable {σ : Type}
set_option maxHeartbeats 4000000 in
set_option maxRecDepth 100000 in
theorem let_do (C : Ctx σ) {n : Nat} (ih : AllOK C n) (S : Nat → Prop) (lo : Nat) (w : World) (mb : Nat) (kind : Int) (pb : Nat) (v : Value) (st : St σ) (hM : MkAt C S lo w mb kind [] pb v) (hP : ParAt C w pb st) (hk : st.kd C.L ≠ 0) (d : List Tr × St σ) (hd : Ps.expr C.L C.orc n (wantL C.L 26 (wantL C.L 6 (nextL C.L st).2).2).2 = some d) :
    Calls Try.prog 59 #[.pointer (some ⟨mb, 0, none⟩)] w fun e w' => e = .returned (.tuple #[]) ∧ MkPost C S lo mb kind pb w v ((nextL C.L st).1 ++ (wantL C.L 6 (nextL C.L st).2).1 ++ (wantL C.L 26 (wantL C.L 6 (nextL C.L st).2).2).1 ++ d.1 ++ (wantL C.L 25 d.2).1) ((wantL C.L 25 d.2).2) w' := by
  have HR := Aside0.mk (Run.start hM hP)
  have hle := hP.le
  clear hM hP
  have h1 := next_len' C st
  have h2 := want_len' C 6 (nextL C.L st).2
  have h3 := want_len' C 26 (wantL C.L 6 (nextL C.L st).2).2
  have g1 := next_ok hk
  have g2 := want_ok (L := C.L) (k := 6) (by decide) g1.2
  have g3 := want_ok (L := C.L) (k := 26) (by decide) g2.2
  have h4 := (expr_len' C g3.2 hd).1
  have HX := Aside0.mk hd
  have HK := Aside0.mk hk
  clear hk hd g1 g2 g3
  go_enter Try.func59, Try.ntmps59
  go_wp2_with (first | (go_at_call 50; refine (take_any C S lo _ mb kind _ pb _ _ HR.out.mka HR.out.par (by (try simp only [List.length_append, List.length_nil]); omega) HK.out).mono ?_; rintro e w1 ⟨rfl, hp⟩; obtain ⟨v1, hR⟩ := HR.out.step hp; (try rw [List.nil_append] at hR); clear HR; have HR := Aside0.mk hR; clear hR hp; (try clear hm4); have hm4 := HR.out.m4) | (go_at_call 58; refine (want_any C S lo _ mb kind _ pb _ _ _ (by decide) HR.out.mka HR.out.par (by (try simp only [List.length_append, List.length_nil]); omega)).mono ?_; rintro e w2 ⟨rfl, hp⟩; obtain ⟨v2, hR⟩ := HR.out.step hp; (try rw [List.nil_append] at hR); clear HR; have HR := Aside0.mk hR; clear hR hp; (try clear hm4); have hm4 := HR.out.m4) | (go_at_call 67; refine (ih.expr S lo _ mb kind _ pb _ _ d HR.out.mka HR.out.par (by (try simp only [List.length_append, List.length_nil]); omega) HX.out).mono ?_; rintro e w6 ⟨rfl, hp⟩; obtain ⟨v6, hR⟩ := HR.out.step hp; (try rw [List.nil_append] at hR); clear HR; have HR := Aside0.mk hR; clear hR hp; (try clear hm4); have hm4 := HR.out.m4))
  refine bodyPost_end (v := .tuple #[]) (by first | rfl | simp [results, Try.results59, go_sem]) rfl ⟨rfl, HR.out.post⟩
set_option maxHeartbeats 4000000 in
set_option maxRecDepth 100000 in
theorem loop_do (C : Ctx σ) {n : Nat} (ih : AllOK C n) (S : Nat → Prop) (lo : Nat) (w : World) (mb : Nat) (kind : Int) (pb : Nat) (v : Value) (st : St σ) (hM : MkAt C S lo w mb kind [] pb v) (hP : ParAt C w pb st) (hk : st.kd C.L ≠ 0) (b c : List Tr × St σ) (hb : Ps.expr C.L C.orc n (nextL C.L st).2 = some b) (hc : Ps.block C.L C.orc n b.2 = some c) :
    Calls Try.prog 62 #[.pointer (some ⟨mb, 0, none⟩)] w fun e w' => e = .returned (.tuple #[]) ∧ MkPost C S lo mb kind pb w v ((nextL C.L st).1 ++ b.1 ++ c.1) (c.2) w' := by
  have HR := Aside0.mk (Run.start hM hP)
  have hle := hP.le
  clear hM hP
  have h1 := next_len' C st
  have h2 := (expr_len' C (next_ok hk).2 hb).1
  have HX := Aside0.mk hb
  have HC := Aside0.mk hc
  have HK := Aside0.mk hk
  clear hk hb hc
  go_enter Try.func62, Try.ntmps62
  go_wp2_with (first | (go_at_call 50; refine (take_any C S lo _ mb kind _ pb _ _ HR.out.mka HR.out.par (by (try simp only [List.length_append, List.length_nil]); omega) HK.out).mono ?_; rintro e w1 ⟨rfl, hp⟩; obtain ⟨v1, hR⟩ := HR.out.step hp; (try rw [List.nil_append] at hR); clear HR; have HR := Aside0.mk hR; clear hR hp; (try clear hm4); have hm4 := HR.out.m4) | (go_at_call 67; refine (ih.expr S lo _ mb kind _ pb _ _ b HR.out.mka HR.out.par (by (try simp only [List.length_append, List.length_nil]); omega) HX.out).mono ?_; rintro e w6 ⟨rfl, hp⟩; obtain ⟨v6, hR⟩ := HR.out.step hp; (try rw [List.nil_append] at hR); clear HR; have HR := Aside0.mk hR; clear hR hp; (try clear hm4); have hm4 := HR.out.m4) | (go_at_call 47; refine (ih.block S lo _ mb kind _ pb _ _ c HR.out.mka HR.out.par (by (try simp only [List.length_append, List.length_nil]); omega) HC.out).mono ?_; rintro e w7 ⟨rfl, hp⟩; obtain ⟨v7, hR⟩ := HR.out.step hp; (try rw [List.nil_append] at hR); clear HR; have HR := Aside0.mk hR; clear hR hp; (try clear hm4); have hm4 := HR.out.m4))
  refine bodyPost_end (v := .tuple #[]) (by first | rfl | simp [results, Try.results62, go_sem]) rfl ⟨rfl, HR.out.post⟩
set_option maxHeartbeats 4000000 in
set_option maxRecDepth 100000 in
theorem back_yes (C : Ctx σ) {n : Nat} (ih : AllOK C n) (S : Nat → Prop) (lo : Nat) (w : World) (mb : Nat) (kind : Int) (pb : Nat) (v : Value) (st : St σ) (hM : MkAt C S lo w mb kind [] pb v) (hP : ParAt C w pb st) (hk : st.kd C.L ≠ 0) (hbe : begins ((nextL C.L st).2.kd C.L) = true) (b : List Tr × St σ) (hb : Ps.expr C.L C.orc n (nextL C.L st).2 = some b) :
    Calls Try.prog 63 #[.pointer (some ⟨mb, 0, none⟩)] w fun e w' => e = .returned (.tuple #[]) ∧ MkPost C S lo mb kind pb w v ((nextL C.L st).1 ++ b.1 ++ (wantL C.L 25 b.2).1) ((wantL C.L 25 b.2).2) w' := by
  have HR := Aside0.mk (Run.start hM hP)
  have hle := hP.le
  clear hM hP
  have h1 := next_len' C st
  have h2 := (expr_len' C (next_ok hk).2 hb).1
  have HBG := Aside0.mk (fun w h => hbe ▸ beg_any C w pb (nextL C.L st).2 h)
  have HX := Aside0.mk hb
  have HK := Aside0.mk hk
  clear hk hb hbe
  go_enter Try.func63, Try.ntmps63
  go_wp2_with (first | (go_at_call 50; refine (take_any C S lo _ mb kind _ pb _ _ HR.out.mka HR.out.par (by (try simp only [List.length_append, List.length_nil]); omega) HK.out).mono ?_; rintro e w1 ⟨rfl, hp⟩; obtain ⟨v1, hR⟩ := HR.out.step hp; (try rw [List.nil_append] at hR); clear HR; have HR := Aside0.mk hR; clear hR hp; (try clear hm4); have hm4 := HR.out.m4) | (go_at_call 69; refine (HBG.out _ HR.out.par).mono ?_; rintro e w5 ⟨rfl, hb⟩; have hR := HR.out.below hb; clear HR; have HR := Aside0.mk hR; clear hR hb; (try clear hm4); have hm4 := HR.out.m4) | (go_at_call 67; refine (ih.expr S lo _ mb kind _ pb _ _ b HR.out.mka HR.out.par (by (try simp only [List.length_append, List.length_nil]); omega) HX.out).mono ?_; rintro e w6 ⟨rfl, hp⟩; obtain ⟨v6, hR⟩ := HR.out.step hp; (try rw [List.nil_append] at hR); clear HR; have HR := Aside0.mk hR; clear hR hp; (try clear hm4); have hm4 := HR.out.m4) | (go_at_call 58; refine (want_any C S lo _ mb kind _ pb _ _ _ (by decide) HR.out.mka HR.out.par (by (try simp only [List.length_append, List.length_nil]); omega)).mono ?_; rintro e w2 ⟨rfl, hp⟩; obtain ⟨v2, hR⟩ := HR.out.step hp; (try rw [List.nil_append] at hR); clear HR; have HR := Aside0.mk hR; clear hR hp; (try clear hm4); have hm4 := HR.out.m4))
  refine bodyPost_end (v := .tuple #[]) (by first | rfl | simp [results, Try.results63, go_sem]) rfl ⟨rfl, HR.out.post⟩
set_option maxHeartbeats 4000000 in
set_option maxRecDepth 100000 in
theorem back_no (C : Ctx σ) {n : Nat} (ih : AllOK C n) (S : Nat → Prop) (lo : Nat) (w : World) (mb : Nat) (kind : Int) (pb : Nat) (v : Value) (st : St σ) (hM : MkAt C S lo w mb kind [] pb v) (hP : ParAt C w pb st) (hk : st.kd C.L ≠ 0) (hbe : begins ((nextL C.L st).2.kd C.L) = false) :
    Calls Try.prog 63 #[.pointer (some ⟨mb, 0, none⟩)] w fun e w' => e = .returned (.tuple #[]) ∧ MkPost C S lo mb kind pb w v ((nextL C.L st).1 ++ (wantL C.L 25 (nextL C.L st).2).1) ((wantL C.L 25 (nextL C.L st).2).2) w' := by
  have HR := Aside0.mk (Run.start hM hP)
  have hle := hP.le
  clear hM hP
  have h1 := next_len' C st
  have HBG := Aside0.mk (fun w h => hbe ▸ beg_any C w pb (nextL C.L st).2 h)
  have HK := Aside0.mk hk
  clear hk hbe
  go_enter Try.func63, Try.ntmps63
  go_wp2_with (first | (go_at_call 50; refine (take_any C S lo _ mb kind _ pb _ _ HR.out.mka HR.out.par (by (try simp only [List.length_append, List.length_nil]); omega) HK.out).mono ?_; rintro e w1 ⟨rfl, hp⟩; obtain ⟨v1, hR⟩ := HR.out.step hp; (try rw [List.nil_append] at hR); clear HR; have HR := Aside0.mk hR; clear hR hp; (try clear hm4); have hm4 := HR.out.m4) | (go_at_call 69; refine (HBG.out _ HR.out.par).mono ?_; rintro e w5 ⟨rfl, hb⟩; have hR := HR.out.below hb; clear HR; have HR := Aside0.mk hR; clear hR hb; (try clear hm4); have hm4 := HR.out.m4) | (go_at_call 58; refine (want_any C S lo _ mb kind _ pb _ _ _ (by decide) HR.out.mka HR.out.par (by (try simp only [List.length_append, List.length_nil]); omega)).mono ?_; rintro e w2 ⟨rfl, hp⟩; obtain ⟨v2, hR⟩ := HR.out.step hp; (try rw [List.nil_append] at hR); clear HR; have HR := Aside0.mk hR; clear hR hp; (try clear hm4); have hm4 := HR.out.m4))
  refine bodyPost_end (v := .tuple #[]) (by first | rfl | simp [results, Try.results63, go_sem]) rfl ⟨rfl, HR.out.post⟩
set_option maxHeartbeats 4000000 in
set_option maxRecDepth 100000 in
theorem do_yes (C : Ctx σ) {n : Nat} (ih : AllOK C n) (S : Nat → Prop) (lo : Nat) (w : World) (mb : Nat) (kind : Int) (pb : Nat) (v : Value) (st : St σ) (hM : MkAt C S lo w mb kind [] pb v) (hP : ParAt C w pb st) (a : List Tr × St σ) (ha : Ps.expr C.L C.orc n st = some a) (h26 : a.2.kd C.L = 26) (c : List Tr × St σ) (hc : Ps.expr C.L C.orc n (nextL C.L a.2).2 = some c) :
    Calls Try.prog 64 #[.pointer (some ⟨mb, 0, none⟩)] w fun e w' => e = .returned (.tuple #[]) ∧ MkPost C S lo mb kind pb w v (a.1 ++ (nextL C.L a.2).1 ++ c.1 ++ (wantL C.L 25 c.2).1) ((wantL C.L 25 c.2).2) w' := by
  have HR := Aside0.mk (Run.start hM hP)
  have hle := hP.le
  clear hM hP
  have h1 := expr_len' C hle ha
  have h2 := next_len' C a.2
  have hk : a.2.kd C.L ≠ 0 := by rw [h26]; decide
  have h3 := (expr_len' C (next_ok hk).2 hc).1
  have HKD := Aside0.mk (fun w h => h26 ▸ kind_any C w pb a.2 h)
  have HX := Aside0.mk ha
  have HX2 := Aside0.mk hc
  have HK := Aside0.mk hk
  clear hk ha hc h26
  go_enter Try.func64, Try.ntmps64
  go_wp2_with (first | (go_at_call 67; first | (refine (ih.expr S lo _ mb kind _ pb _ _ c HR.out.mka HR.out.par (by (try simp only [List.length_append, List.length_nil]); omega) HX2.out).mono ?_; rintro e w6 ⟨rfl, hp⟩; obtain ⟨v6, hR⟩ := HR.out.step hp; (try rw [List.nil_append] at hR); clear HR; have HR := Aside0.mk hR; clear hR hp; (try clear hm4); have hm4 := HR.out.m4) | (refine (ih.expr S lo _ mb kind _ pb _ _ a HR.out.mka HR.out.par (by (try simp only [List.length_append, List.length_nil]); omega) HX.out).mono ?_; rintro e w7 ⟨rfl, hp⟩; obtain ⟨v7, hR⟩ := HR.out.step hp; (try rw [List.nil_append] at hR); clear HR; have HR := Aside0.mk hR; clear hR hp; (try clear hm4); have hm4 := HR.out.m4)) | (go_at_call 21; refine (HKD.out _ HR.out.par).mono ?_; rintro e w4 ⟨rfl, hb⟩; have hR := HR.out.below hb; clear HR; have HR := Aside0.mk hR; clear hR hb; (try clear hm4); have hm4 := HR.out.m4) | (go_at_call 50; refine (take_any C S lo _ mb kind _ pb _ _ HR.out.mka HR.out.par (by (try simp only [List.length_append, List.length_nil]); omega) HK.out).mono ?_; rintro e w1 ⟨rfl, hp⟩; obtain ⟨v1, hR⟩ := HR.out.step hp; (try rw [List.nil_append] at hR); clear HR; have HR := Aside0.mk hR; clear hR hp; (try clear hm4); have hm4 := HR.out.m4) | (go_at_call 58; refine (want_any C S lo _ mb kind _ pb _ _ _ (by decide) HR.out.mka HR.out.par (by (try simp only [List.length_append, List.length_nil]); omega)).mono ?_; rintro e w2 ⟨rfl, hp⟩; obtain ⟨v2, hR⟩ := HR.out.step hp; (try rw [List.nil_append] at hR); clear HR; have HR := Aside0.mk hR; clear hR hp; (try clear hm4); have hm4 := HR.out.m4))
  refine bodyPost_end (v := .tuple #[]) (by first | rfl | simp [results, Try.results64, go_sem]) rfl ⟨rfl, HR.out.post⟩
set_option maxHeartbeats 4000000 in
set_option maxRecDepth 100000 in
theorem do_no (C : Ctx σ) {n : Nat} (ih : AllOK C n) (S : Nat → Prop) (lo : Nat) (w : World) (mb : Nat) (kind : Int) (pb : Nat) (v : Value) (st : St σ) (hM : MkAt C S lo w mb kind [] pb v) (hP : ParAt C w pb st) (a : List Tr × St σ) (ha : Ps.expr C.L C.orc n st = some a) (h26 : a.2.kd C.L ≠ 26) :
    Calls Try.prog 64 #[.pointer (some ⟨mb, 0, none⟩)] w fun e w' => e = .returned (.tuple #[]) ∧ MkPost C S lo mb kind pb w v (a.1 ++ (wantL C.L 25 a.2).1) ((wantL C.L 25 a.2).2) w' := by
  have HR := Aside0.mk (Run.start hM hP)
  have hle := hP.le
  clear hM hP
  have h1 := expr_len' C hle ha
  have HKD := Aside0.mk (fun w h => kind_any C w pb a.2 h)
  have b26 := nb h26
  generalize a.2.kd C.L = kd at HKD b26
  have HX := Aside0.mk ha
  clear ha h26
  go_enter Try.func64, Try.ntmps64
  go_wp2_with (first | (go_at_call 67; refine (ih.expr S lo _ mb kind _ pb _ _ a HR.out.mka HR.out.par (by (try simp only [List.length_append, List.length_nil]); omega) HX.out).mono ?_; rintro e w6 ⟨rfl, hp⟩; obtain ⟨v6, hR⟩ := HR.out.step hp; (try rw [List.nil_append] at hR); clear HR; have HR := Aside0.mk hR; clear hR hp; (try clear hm4); have hm4 := HR.out.m4) | (go_at_call 21; refine (HKD.out _ HR.out.par).mono ?_; rintro e w4 ⟨rfl, hb⟩; have hR := HR.out.below hb; clear HR; have HR := Aside0.mk hR; clear hR hb; (try clear hm4); have hm4 := HR.out.m4) | (go_at_call 58; refine (want_any C S lo _ mb kind _ pb _ _ _ (by decide) HR.out.mka HR.out.par (by (try simp only [List.length_append, List.length_nil]); omega)).mono ?_; rintro e w2 ⟨rfl, hp⟩; obtain ⟨v2, hR⟩ := HR.out.step hp; (try rw [List.nil_append] at hR); clear HR; have HR := Aside0.mk hR; clear hR hp; (try clear hm4); have hm4 := HR.out.m4))
  refine bodyPost_end (v := .tuple #[]) (by first | rfl | simp [results, Try.results64, go_sem]) rfl ⟨rfl, HR.out.post⟩
end
end Go.Proofs.Ytalnicdpcigocaa.PP
