/-
  No cell of these rows narrows 'for every input' (looked for: loops, veiled, ifaces, maps, wideKeys, modest, calm, conditions, laid).
  DERIVED. THE GIVEN ROWS OF THIS SEAT. 5 by the template 'for every input the law returns true; each argument reads behind the call as it read before'; 0 by the template 'total and deterministic' (their statements: YtlliokmcfmcigaaTotals.lean).
  GIVEN WITH THE SEED: the statements are not yours to turn. If you find one false, say at which input.
  Laid BY PROGRAM, IN A SANDBOX (cutbox-rows.mjs): the forced cells as the released guide's own fill.sh prints them over the translation e34b94953e92499d… (all of the seat's roots in one cut). By AI agents, Wed Nov 11 2026. No macro, syntax, notation, axiom, sorry.
-/
import Derived.Test.YtlliokmcfmcigaaChecked
import GoSem.Claim
import GoSem.ClaimJoined
import GoSem.ClaimMapViews
import Derived.JoinedTies
import Derived.KernelRfl
namespace Go.Proofs.Ytlliokmcfmcigaa
/- THE CELL 'sum', in the pinned program and in every row, IS THE sha256 OF THE DUMP (.gsa) THAT YtlliokmcfmcigaaProg.lean LOADS. Nothing in Lean hashes anything: it is a label: what it is worth is what the hold of that sum in a sandbox is worth. -/
noncomputable def Try.pinned : Pinned := { name := "ytlliokmcfmcigaa", sum := "e34b94953e92499d9f360358ef15b04ebb71ffc1a6a0ef5c7c44e9695866188a", checked := Try.checked }
namespace Rows
def none {H : Type} : Left H := { results := [], args := [] }

/-- 'glossatorlaw14.GrammarRules': WHATEVER THE INPUT: true; the input reads as it did. -/
def grammarRulesSpec : ChangeSpec := { name := "grammarRules", fn := fun _ => fun
  | [] => { results := [.lit (.bool true)], args := [] }
  | _ => none }
def grammarRulesRow : OpenClaim := { program := "ytlliokmcfmcigaa", sum := "e34b94953e92499d9f360358ef15b04ebb71ffc1a6a0ef5c7c44e9695866188a", func := "glossator/glossatorlaw14.GrammarRules", spec := "grammarRules", unfollowed := true, recurses := true, apart := false }
def GrammarRulesSaid : Prop := grammarRulesRow.holds Try.pinned (OpenSpec.ofChange grammarRulesSpec)

/-- ITS FALSE NEIGHBOUR: 'it returns false'. Refute it at one input. -/
def grammarRulesWrong : ChangeSpec := { name := "grammarRules", fn := fun _ => fun
  | [] => { results := [.lit (.bool false)], args := [] }
  | _ => none }
def GrammarRulesWrongFalsely : Prop := grammarRulesRow.holds Try.pinned (OpenSpec.ofChange grammarRulesWrong)

/-- 'glossatorlaw14.GrammarAccepts': WHATEVER THE INPUT: true; the input reads as it did. -/
def grammarAcceptsSpec : ChangeSpec := { name := "grammarAccepts", fn := fun _ => fun
  | [d] => { results := [.lit (.bool true)], args := [d] }
  | _ => none }
def grammarAcceptsRow : OpenClaim := { program := "ytlliokmcfmcigaa", sum := "e34b94953e92499d9f360358ef15b04ebb71ffc1a6a0ef5c7c44e9695866188a", func := "glossator/glossatorlaw14.GrammarAccepts", spec := "grammarAccepts", unfollowed := true, recurses := true, apart := false }
def GrammarAcceptsSaid : Prop := grammarAcceptsRow.holds Try.pinned (OpenSpec.ofChange grammarAcceptsSpec)

/-- ITS FALSE NEIGHBOUR: 'it returns false'. Refute it at one input. -/
def grammarAcceptsWrong : ChangeSpec := { name := "grammarAccepts", fn := fun _ => fun
  | [d] => { results := [.lit (.bool false)], args := [d] }
  | _ => none }
def GrammarAcceptsWrongFalsely : Prop := grammarAcceptsRow.holds Try.pinned (OpenSpec.ofChange grammarAcceptsWrong)

/-- 'glossatorlaw14.GrammarTells': WHATEVER THE INPUT: true; the input reads as it did. -/
def grammarTellsSpec : ChangeSpec := { name := "grammarTells", fn := fun _ => fun
  | [d1, d2] => { results := [.lit (.bool true)], args := [d1, d2] }
  | _ => none }
def grammarTellsRow : OpenClaim := { program := "ytlliokmcfmcigaa", sum := "e34b94953e92499d9f360358ef15b04ebb71ffc1a6a0ef5c7c44e9695866188a", func := "glossator/glossatorlaw14.GrammarTells", spec := "grammarTells", unfollowed := true, recurses := true, apart := false }
def GrammarTellsSaid : Prop := grammarTellsRow.holds Try.pinned (OpenSpec.ofChange grammarTellsSpec)

/-- ITS FALSE NEIGHBOUR: 'it returns false'. Refute it at one input. -/
def grammarTellsWrong : ChangeSpec := { name := "grammarTells", fn := fun _ => fun
  | [d1, d2] => { results := [.lit (.bool false)], args := [d1, d2] }
  | _ => none }
def GrammarTellsWrongFalsely : Prop := grammarTellsRow.holds Try.pinned (OpenSpec.ofChange grammarTellsWrong)

/-- 'glossatorlaw14.GrammarMade': WHATEVER THE INPUT: true; the input reads as it did. -/
def grammarMadeSpec : ChangeSpec := { name := "grammarMade", fn := fun _ => fun
  | [d1, d2] => { results := [.lit (.bool true)], args := [d1, d2] }
  | _ => none }
def grammarMadeRow : OpenClaim := { program := "ytlliokmcfmcigaa", sum := "e34b94953e92499d9f360358ef15b04ebb71ffc1a6a0ef5c7c44e9695866188a", func := "glossator/glossatorlaw14.GrammarMade", spec := "grammarMade", unfollowed := true, recurses := true, apart := false }
def GrammarMadeSaid : Prop := grammarMadeRow.holds Try.pinned (OpenSpec.ofChange grammarMadeSpec)

/-- ITS FALSE NEIGHBOUR: 'it returns false'. Refute it at one input. -/
def grammarMadeWrong : ChangeSpec := { name := "grammarMade", fn := fun _ => fun
  | [d1, d2] => { results := [.lit (.bool false)], args := [d1, d2] }
  | _ => none }
def GrammarMadeWrongFalsely : Prop := grammarMadeRow.holds Try.pinned (OpenSpec.ofChange grammarMadeWrong)

/-- 'glossatorlaw14.GrammarOne': WHATEVER THE INPUT: true; the input reads as it did. -/
def grammarOneSpec : ChangeSpec := { name := "grammarOne", fn := fun _ => fun
  | [] => { results := [.lit (.bool true)], args := [] }
  | _ => none }
def grammarOneRow : OpenClaim := { program := "ytlliokmcfmcigaa", sum := "e34b94953e92499d9f360358ef15b04ebb71ffc1a6a0ef5c7c44e9695866188a", func := "glossator/glossatorlaw14.GrammarOne", spec := "grammarOne", unfollowed := true, recurses := true, apart := false }
def GrammarOneSaid : Prop := grammarOneRow.holds Try.pinned (OpenSpec.ofChange grammarOneSpec)

/-- ITS FALSE NEIGHBOUR: 'it returns false'. Refute it at one input. -/
def grammarOneWrong : ChangeSpec := { name := "grammarOne", fn := fun _ => fun
  | [] => { results := [.lit (.bool false)], args := [] }
  | _ => none }
def GrammarOneWrongFalsely : Prop := grammarOneRow.holds Try.pinned (OpenSpec.ofChange grammarOneWrong)

/- THE SECOND FORM. 'bulk': how many values and letters a reading holds, each counted each time it is reached (what is shared counts as often as it is met; a slice's spare places count too). A statement '..UptoSaid' is the law's where the arguments, and the package variables that the reading takes, are together of bulk at most 1048576: NARROWER than '..Said'. Prove '..Said' where nothing that the law and all that it calls make is longer than what came in: it says more and counts as full. Else prove '..UptoSaid'. A law counts once. -/
mutual
def uptoBulk {H : Type} : DataW H → Nat
  | .lit (.string bytes) => bytes.length + 1
  | .lit _ => 1
  | .nil => 1
  | .ptr d => uptoBulk d + 1
  | .slice elems spare => uptoBulkAll elems + uptoBulkAll spare + 1
  | .agg parts => uptoBulkAll parts + 1
  | .iface _ d => uptoBulk d + 1
  | .map entries => uptoBulkEntries entries + 1
  | .held _ => 1
def uptoBulkAll {H : Type} : List (DataW H) → Nat
  | [] => 0
  | d :: r => uptoBulk d + uptoBulkAll r
def uptoBulkEntries {H : Type} : List (Lit × DataW H) → Nat
  | [] => 0
  | x :: r => uptoBulkEntry x + uptoBulkEntries r
def uptoBulkEntry {H : Type} : Lit × DataW H → Nat
  | (.string bytes, d) => bytes.length + uptoBulk d + 1
  | (_, d) => uptoBulk d + 1
 end
def uptoSmall : (H : Type) → List (DataW H) → Bool := fun _ ds => decide (uptoBulkAll ds ≤ 1048576)
def OpenSpec.upto (s : _root_.Go.ChangeSpec) : _root_.Go.OpenSpec := { _root_.Go.OpenSpec.ofChange s with cond := some uptoSmall }

/-- 'glossatorlaw14.GrammarRules', WHERE WHAT IT READS IS OF BULK AT MOST 1048576: true; the input reads as it did. -/
def grammarRulesUptoRow : OpenClaim := { program := "ytlliokmcfmcigaa", sum := "e34b94953e92499d9f360358ef15b04ebb71ffc1a6a0ef5c7c44e9695866188a", func := "glossator/glossatorlaw14.GrammarRules", spec := "grammarRules", unfollowed := true, recurses := true, apart := false, narrowed := true }
def GrammarRulesUptoSaid : Prop := grammarRulesUptoRow.holds Try.pinned (OpenSpec.upto grammarRulesSpec)

/-- 'glossatorlaw14.GrammarAccepts', WHERE WHAT IT READS IS OF BULK AT MOST 1048576: true; the input reads as it did. -/
def grammarAcceptsUptoRow : OpenClaim := { program := "ytlliokmcfmcigaa", sum := "e34b94953e92499d9f360358ef15b04ebb71ffc1a6a0ef5c7c44e9695866188a", func := "glossator/glossatorlaw14.GrammarAccepts", spec := "grammarAccepts", unfollowed := true, recurses := true, apart := false, narrowed := true }
def GrammarAcceptsUptoSaid : Prop := grammarAcceptsUptoRow.holds Try.pinned (OpenSpec.upto grammarAcceptsSpec)

/-- 'glossatorlaw14.GrammarTells', WHERE WHAT IT READS IS OF BULK AT MOST 1048576: true; the input reads as it did. -/
def grammarTellsUptoRow : OpenClaim := { program := "ytlliokmcfmcigaa", sum := "e34b94953e92499d9f360358ef15b04ebb71ffc1a6a0ef5c7c44e9695866188a", func := "glossator/glossatorlaw14.GrammarTells", spec := "grammarTells", unfollowed := true, recurses := true, apart := false, narrowed := true }
def GrammarTellsUptoSaid : Prop := grammarTellsUptoRow.holds Try.pinned (OpenSpec.upto grammarTellsSpec)

/-- 'glossatorlaw14.GrammarMade', WHERE WHAT IT READS IS OF BULK AT MOST 1048576: true; the input reads as it did. -/
def grammarMadeUptoRow : OpenClaim := { program := "ytlliokmcfmcigaa", sum := "e34b94953e92499d9f360358ef15b04ebb71ffc1a6a0ef5c7c44e9695866188a", func := "glossator/glossatorlaw14.GrammarMade", spec := "grammarMade", unfollowed := true, recurses := true, apart := false, narrowed := true }
def GrammarMadeUptoSaid : Prop := grammarMadeUptoRow.holds Try.pinned (OpenSpec.upto grammarMadeSpec)

/-- 'glossatorlaw14.GrammarOne', WHERE WHAT IT READS IS OF BULK AT MOST 1048576: true; the input reads as it did. -/
def grammarOneUptoRow : OpenClaim := { program := "ytlliokmcfmcigaa", sum := "e34b94953e92499d9f360358ef15b04ebb71ffc1a6a0ef5c7c44e9695866188a", func := "glossator/glossatorlaw14.GrammarOne", spec := "grammarOne", unfollowed := true, recurses := true, apart := false, narrowed := true }
def GrammarOneUptoSaid : Prop := grammarOneUptoRow.holds Try.pinned (OpenSpec.upto grammarOneSpec)

end Rows
end Go.Proofs.Ytlliokmcfmcigaa
