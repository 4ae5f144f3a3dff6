/-
  No cell of these rows narrows 'for every input' (looked for: loops, veiled, ifaces, maps, wideKeys, modest, calm, conditions, laid).
  DERIVED. THE GIVEN ROWS OF THIS SEAT. 17 by the template 'for every input the law returns true; each argument reads behind the call as it read before'; 0 by the template 'total and deterministic' (their statements: YtcigmgocllnhfaaTotals.lean).
  GIVEN WITH THE SEED: the statements are not yours to turn. If you find one false, say at which input.
  Laid BY PROGRAM, IN A SANDBOX (cutbox-rows.mjs): the forced cells as the released guide's own fill.sh prints them over the translation 575eeb1019be6e64… (all of the seat's roots in one cut). By AI agents, Wed Nov 11 2026. No macro, syntax, notation, axiom, sorry.
-/
import Derived.Test.YtcigmgocllnhfaaChecked
import GoSem.Claim
import GoSem.ClaimJoined
import GoSem.ClaimMapViews
import Derived.JoinedTies
import Derived.KernelRfl
namespace Go.Proofs.Ytcigmgocllnhfaa
/- THE CELL 'sum', in the pinned program and in every row, IS THE sha256 OF THE DUMP (.gsa) THAT YtcigmgocllnhfaaProg.lean LOADS. Nothing in Lean hashes anything: it is a label: what it is worth is what the hold of that sum in a sandbox is worth. -/
noncomputable def Try.pinned : Pinned := { name := "ytcigmgocllnhfaa", sum := "575eeb1019be6e644a57bbf6ffc258b74a0e2532706a597a2adaac2141d07df3", checked := Try.checked }
namespace Rows
def none {H : Type} : Left H := { results := [], args := [] }

/-- 'laws.FnExactIsRing': WHATEVER THE INPUT: true; the input reads as it did. -/
def fnExactIsRingSpec : ChangeSpec := { name := "fnExactIsRing", fn := fun _ => fun
  | [d1, d2] => { results := [.lit (.bool true)], args := [d1, d2] }
  | _ => none }
def fnExactIsRingRow : OpenClaim := { program := "ytcigmgocllnhfaa", sum := "575eeb1019be6e644a57bbf6ffc258b74a0e2532706a597a2adaac2141d07df3", func := "loop.example/g01381/laws.FnExactIsRing", spec := "fnExactIsRing", apart := false }
def FnExactIsRingSaid : Prop := fnExactIsRingRow.holds Try.pinned (OpenSpec.ofChange fnExactIsRingSpec)

/-- ITS FALSE NEIGHBOUR: 'it returns false'. Refute it at one input. -/
def fnExactIsRingWrong : ChangeSpec := { name := "fnExactIsRing", fn := fun _ => fun
  | [d1, d2] => { results := [.lit (.bool false)], args := [d1, d2] }
  | _ => none }
def FnExactIsRingWrongFalsely : Prop := fnExactIsRingRow.holds Try.pinned (OpenSpec.ofChange fnExactIsRingWrong)

/-- 'laws.FnExactDrawRing': WHATEVER THE INPUT: true; the input reads as it did. -/
def fnExactDrawRingSpec : ChangeSpec := { name := "fnExactDrawRing", fn := fun _ => fun
  | [d1, d2, d3] => { results := [.lit (.bool true)], args := [d1, d2, d3] }
  | _ => none }
def fnExactDrawRingRow : OpenClaim := { program := "ytcigmgocllnhfaa", sum := "575eeb1019be6e644a57bbf6ffc258b74a0e2532706a597a2adaac2141d07df3", func := "loop.example/g01381/laws.FnExactDrawRing", spec := "fnExactDrawRing", apart := false }
def FnExactDrawRingSaid : Prop := fnExactDrawRingRow.holds Try.pinned (OpenSpec.ofChange fnExactDrawRingSpec)

/-- ITS FALSE NEIGHBOUR: 'it returns false'. Refute it at one input. -/
def fnExactDrawRingWrong : ChangeSpec := { name := "fnExactDrawRing", fn := fun _ => fun
  | [d1, d2, d3] => { results := [.lit (.bool false)], args := [d1, d2, d3] }
  | _ => none }
def FnExactDrawRingWrongFalsely : Prop := fnExactDrawRingRow.holds Try.pinned (OpenSpec.ofChange fnExactDrawRingWrong)

/-- 'laws.FnExactRuleOfNumber': WHATEVER THE INPUT: true; the input reads as it did. -/
def fnExactRuleOfNumberSpec : ChangeSpec := { name := "fnExactRuleOfNumber", fn := fun _ => fun
  | [d] => { results := [.lit (.bool true)], args := [d] }
  | _ => none }
def fnExactRuleOfNumberRow : OpenClaim := { program := "ytcigmgocllnhfaa", sum := "575eeb1019be6e644a57bbf6ffc258b74a0e2532706a597a2adaac2141d07df3", func := "loop.example/g01381/laws.FnExactRuleOfNumber", spec := "fnExactRuleOfNumber", apart := false }
def FnExactRuleOfNumberSaid : Prop := fnExactRuleOfNumberRow.holds Try.pinned (OpenSpec.ofChange fnExactRuleOfNumberSpec)

/-- ITS FALSE NEIGHBOUR: 'it returns false'. Refute it at one input. -/
def fnExactRuleOfNumberWrong : ChangeSpec := { name := "fnExactRuleOfNumber", fn := fun _ => fun
  | [d] => { results := [.lit (.bool false)], args := [d] }
  | _ => none }
def FnExactRuleOfNumberWrongFalsely : Prop := fnExactRuleOfNumberRow.holds Try.pinned (OpenSpec.ofChange fnExactRuleOfNumberWrong)

/-- 'laws.FnExactSameRule': WHATEVER THE INPUT: true; the input reads as it did. -/
def fnExactSameRuleSpec : ChangeSpec := { name := "fnExactSameRule", fn := fun _ => fun
  | [d1, d2] => { results := [.lit (.bool true)], args := [d1, d2] }
  | _ => none }
def fnExactSameRuleRow : OpenClaim := { program := "ytcigmgocllnhfaa", sum := "575eeb1019be6e644a57bbf6ffc258b74a0e2532706a597a2adaac2141d07df3", func := "loop.example/g01381/laws.FnExactSameRule", spec := "fnExactSameRule", apart := false }
def FnExactSameRuleSaid : Prop := fnExactSameRuleRow.holds Try.pinned (OpenSpec.ofChange fnExactSameRuleSpec)

/-- ITS FALSE NEIGHBOUR: 'it returns false'. Refute it at one input. -/
def fnExactSameRuleWrong : ChangeSpec := { name := "fnExactSameRule", fn := fun _ => fun
  | [d1, d2] => { results := [.lit (.bool false)], args := [d1, d2] }
  | _ => none }
def FnExactSameRuleWrongFalsely : Prop := fnExactSameRuleRow.holds Try.pinned (OpenSpec.ofChange fnExactSameRuleWrong)

/-- 'laws.FnExactValidRule': WHATEVER THE INPUT: true; the input reads as it did. -/
def fnExactValidRuleSpec : ChangeSpec := { name := "fnExactValidRule", fn := fun _ => fun
  | [d] => { results := [.lit (.bool true)], args := [d] }
  | _ => none }
def fnExactValidRuleRow : OpenClaim := { program := "ytcigmgocllnhfaa", sum := "575eeb1019be6e644a57bbf6ffc258b74a0e2532706a597a2adaac2141d07df3", func := "loop.example/g01381/laws.FnExactValidRule", spec := "fnExactValidRule", apart := false }
def FnExactValidRuleSaid : Prop := fnExactValidRuleRow.holds Try.pinned (OpenSpec.ofChange fnExactValidRuleSpec)

/-- ITS FALSE NEIGHBOUR: 'it returns false'. Refute it at one input. -/
def fnExactValidRuleWrong : ChangeSpec := { name := "fnExactValidRule", fn := fun _ => fun
  | [d] => { results := [.lit (.bool false)], args := [d] }
  | _ => none }
def FnExactValidRuleWrongFalsely : Prop := fnExactValidRuleRow.holds Try.pinned (OpenSpec.ofChange fnExactValidRuleWrong)

/-- 'laws.FnExactWordsOfRing': WHATEVER THE INPUT: true; the input reads as it did. -/
def fnExactWordsOfRingSpec : ChangeSpec := { name := "fnExactWordsOfRing", fn := fun _ => fun
  | [d1, d2, d3] => { results := [.lit (.bool true)], args := [d1, d2, d3] }
  | _ => none }
def fnExactWordsOfRingRow : OpenClaim := { program := "ytcigmgocllnhfaa", sum := "575eeb1019be6e644a57bbf6ffc258b74a0e2532706a597a2adaac2141d07df3", func := "loop.example/g01381/laws.FnExactWordsOfRing", spec := "fnExactWordsOfRing", apart := false }
def FnExactWordsOfRingSaid : Prop := fnExactWordsOfRingRow.holds Try.pinned (OpenSpec.ofChange fnExactWordsOfRingSpec)

/-- ITS FALSE NEIGHBOUR: 'it returns false'. Refute it at one input. -/
def fnExactWordsOfRingWrong : ChangeSpec := { name := "fnExactWordsOfRing", fn := fun _ => fun
  | [d1, d2, d3] => { results := [.lit (.bool false)], args := [d1, d2, d3] }
  | _ => none }
def FnExactWordsOfRingWrongFalsely : Prop := fnExactWordsOfRingRow.holds Try.pinned (OpenSpec.ofChange fnExactWordsOfRingWrong)

/-- 'laws.FnExactNumberOfRule': WHATEVER THE INPUT: true; the input reads as it did. -/
def fnExactNumberOfRuleSpec : ChangeSpec := { name := "fnExactNumberOfRule", fn := fun _ => fun
  | [d] => { results := [.lit (.bool true)], args := [d] }
  | _ => none }
def fnExactNumberOfRuleRow : OpenClaim := { program := "ytcigmgocllnhfaa", sum := "575eeb1019be6e644a57bbf6ffc258b74a0e2532706a597a2adaac2141d07df3", func := "loop.example/g01381/laws.FnExactNumberOfRule", spec := "fnExactNumberOfRule", apart := false }
def FnExactNumberOfRuleSaid : Prop := fnExactNumberOfRuleRow.holds Try.pinned (OpenSpec.ofChange fnExactNumberOfRuleSpec)

/-- ITS FALSE NEIGHBOUR: 'it returns false'. Refute it at one input. -/
def fnExactNumberOfRuleWrong : ChangeSpec := { name := "fnExactNumberOfRule", fn := fun _ => fun
  | [d] => { results := [.lit (.bool false)], args := [d] }
  | _ => none }
def FnExactNumberOfRuleWrongFalsely : Prop := fnExactNumberOfRuleRow.holds Try.pinned (OpenSpec.ofChange fnExactNumberOfRuleWrong)

/-- 'laws.FnExactActiveShare': WHATEVER THE INPUT: true; the input reads as it did. -/
def fnExactActiveShareSpec : ChangeSpec := { name := "fnExactActiveShare", fn := fun _ => fun
  | [d] => { results := [.lit (.bool true)], args := [d] }
  | _ => none }
def fnExactActiveShareRow : OpenClaim := { program := "ytcigmgocllnhfaa", sum := "575eeb1019be6e644a57bbf6ffc258b74a0e2532706a597a2adaac2141d07df3", func := "loop.example/g01381/laws.FnExactActiveShare", spec := "fnExactActiveShare", apart := false }
def FnExactActiveShareSaid : Prop := fnExactActiveShareRow.holds Try.pinned (OpenSpec.ofChange fnExactActiveShareSpec)

/-- ITS FALSE NEIGHBOUR: 'it returns false'. Refute it at one input. -/
def fnExactActiveShareWrong : ChangeSpec := { name := "fnExactActiveShare", fn := fun _ => fun
  | [d] => { results := [.lit (.bool false)], args := [d] }
  | _ => none }
def FnExactActiveShareWrongFalsely : Prop := fnExactActiveShareRow.holds Try.pinned (OpenSpec.ofChange fnExactActiveShareWrong)

/-- 'laws.FnExactSumRule': WHATEVER THE INPUT: true; the input reads as it did. -/
def fnExactSumRuleSpec : ChangeSpec := { name := "fnExactSumRule", fn := fun _ => fun
  | [d1, d2] => { results := [.lit (.bool true)], args := [d1, d2] }
  | _ => none }
def fnExactSumRuleRow : OpenClaim := { program := "ytcigmgocllnhfaa", sum := "575eeb1019be6e644a57bbf6ffc258b74a0e2532706a597a2adaac2141d07df3", func := "loop.example/g01381/laws.FnExactSumRule", spec := "fnExactSumRule", unfollowed := true, recurses := true, apart := false }
def FnExactSumRuleSaid : Prop := fnExactSumRuleRow.holds Try.pinned (OpenSpec.ofChange fnExactSumRuleSpec)

/-- ITS FALSE NEIGHBOUR: 'it returns false'. Refute it at one input. -/
def fnExactSumRuleWrong : ChangeSpec := { name := "fnExactSumRule", fn := fun _ => fun
  | [d1, d2] => { results := [.lit (.bool false)], args := [d1, d2] }
  | _ => none }
def FnExactSumRuleWrongFalsely : Prop := fnExactSumRuleRow.holds Try.pinned (OpenSpec.ofChange fnExactSumRuleWrong)

/-- 'laws.FnExactIsTotal': WHATEVER THE INPUT: true; the input reads as it did. -/
def fnExactIsTotalSpec : ChangeSpec := { name := "fnExactIsTotal", fn := fun _ => fun
  | [d] => { results := [.lit (.bool true)], args := [d] }
  | _ => none }
def fnExactIsTotalRow : OpenClaim := { program := "ytcigmgocllnhfaa", sum := "575eeb1019be6e644a57bbf6ffc258b74a0e2532706a597a2adaac2141d07df3", func := "loop.example/g01381/laws.FnExactIsTotal", spec := "fnExactIsTotal", apart := false }
def FnExactIsTotalSaid : Prop := fnExactIsTotalRow.holds Try.pinned (OpenSpec.ofChange fnExactIsTotalSpec)

/-- ITS FALSE NEIGHBOUR: 'it returns false'. Refute it at one input. -/
def fnExactIsTotalWrong : ChangeSpec := { name := "fnExactIsTotal", fn := fun _ => fun
  | [d] => { results := [.lit (.bool false)], args := [d] }
  | _ => none }
def FnExactIsTotalWrongFalsely : Prop := fnExactIsTotalRow.holds Try.pinned (OpenSpec.ofChange fnExactIsTotalWrong)

/-- 'laws.FnExactTotalRule': WHATEVER THE INPUT: true; the input reads as it did. -/
def fnExactTotalRuleSpec : ChangeSpec := { name := "fnExactTotalRule", fn := fun _ => fun
  | [d1, d2, d3] => { results := [.lit (.bool true)], args := [d1, d2, d3] }
  | _ => none }
def fnExactTotalRuleRow : OpenClaim := { program := "ytcigmgocllnhfaa", sum := "575eeb1019be6e644a57bbf6ffc258b74a0e2532706a597a2adaac2141d07df3", func := "loop.example/g01381/laws.FnExactTotalRule", spec := "fnExactTotalRule", unfollowed := true, recurses := true, apart := false }
def FnExactTotalRuleSaid : Prop := fnExactTotalRuleRow.holds Try.pinned (OpenSpec.ofChange fnExactTotalRuleSpec)

/-- ITS FALSE NEIGHBOUR: 'it returns false'. Refute it at one input. -/
def fnExactTotalRuleWrong : ChangeSpec := { name := "fnExactTotalRule", fn := fun _ => fun
  | [d1, d2, d3] => { results := [.lit (.bool false)], args := [d1, d2, d3] }
  | _ => none }
def FnExactTotalRuleWrongFalsely : Prop := fnExactTotalRuleRow.holds Try.pinned (OpenSpec.ofChange fnExactTotalRuleWrong)

/-- 'laws.FnExactOppositeRule': WHATEVER THE INPUT: true; the input reads as it did. -/
def fnExactOppositeRuleSpec : ChangeSpec := { name := "fnExactOppositeRule", fn := fun _ => fun
  | [d] => { results := [.lit (.bool true)], args := [d] }
  | _ => none }
def fnExactOppositeRuleRow : OpenClaim := { program := "ytcigmgocllnhfaa", sum := "575eeb1019be6e644a57bbf6ffc258b74a0e2532706a597a2adaac2141d07df3", func := "loop.example/g01381/laws.FnExactOppositeRule", spec := "fnExactOppositeRule", unfollowed := true, recurses := true, apart := false }
def FnExactOppositeRuleSaid : Prop := fnExactOppositeRuleRow.holds Try.pinned (OpenSpec.ofChange fnExactOppositeRuleSpec)

/-- ITS FALSE NEIGHBOUR: 'it returns false'. Refute it at one input. -/
def fnExactOppositeRuleWrong : ChangeSpec := { name := "fnExactOppositeRule", fn := fun _ => fun
  | [d] => { results := [.lit (.bool false)], args := [d] }
  | _ => none }
def FnExactOppositeRuleWrongFalsely : Prop := fnExactOppositeRuleRow.holds Try.pinned (OpenSpec.ofChange fnExactOppositeRuleWrong)

/-- 'laws.FnExactWiderRule': WHATEVER THE INPUT: true; the input reads as it did. -/
def fnExactWiderRuleSpec : ChangeSpec := { name := "fnExactWiderRule", fn := fun _ => fun
  | [d] => { results := [.lit (.bool true)], args := [d] }
  | _ => none }
def fnExactWiderRuleRow : OpenClaim := { program := "ytcigmgocllnhfaa", sum := "575eeb1019be6e644a57bbf6ffc258b74a0e2532706a597a2adaac2141d07df3", func := "loop.example/g01381/laws.FnExactWiderRule", spec := "fnExactWiderRule", unfollowed := true, recurses := true, apart := false }
def FnExactWiderRuleSaid : Prop := fnExactWiderRuleRow.holds Try.pinned (OpenSpec.ofChange fnExactWiderRuleSpec)

/-- ITS FALSE NEIGHBOUR: 'it returns false'. Refute it at one input. -/
def fnExactWiderRuleWrong : ChangeSpec := { name := "fnExactWiderRule", fn := fun _ => fun
  | [d] => { results := [.lit (.bool false)], args := [d] }
  | _ => none }
def FnExactWiderRuleWrongFalsely : Prop := fnExactWiderRuleRow.holds Try.pinned (OpenSpec.ofChange fnExactWiderRuleWrong)

/-- 'laws.FnExactSenseOf': WHATEVER THE INPUT: true; the input reads as it did. -/
def fnExactSenseOfSpec : ChangeSpec := { name := "fnExactSenseOf", fn := fun _ => fun
  | [d] => { results := [.lit (.bool true)], args := [d] }
  | _ => none }
def fnExactSenseOfRow : OpenClaim := { program := "ytcigmgocllnhfaa", sum := "575eeb1019be6e644a57bbf6ffc258b74a0e2532706a597a2adaac2141d07df3", func := "loop.example/g01381/laws.FnExactSenseOf", spec := "fnExactSenseOf", apart := false }
def FnExactSenseOfSaid : Prop := fnExactSenseOfRow.holds Try.pinned (OpenSpec.ofChange fnExactSenseOfSpec)

/-- ITS FALSE NEIGHBOUR: 'it returns false'. Refute it at one input. -/
def fnExactSenseOfWrong : ChangeSpec := { name := "fnExactSenseOf", fn := fun _ => fun
  | [d] => { results := [.lit (.bool false)], args := [d] }
  | _ => none }
def FnExactSenseOfWrongFalsely : Prop := fnExactSenseOfRow.holds Try.pinned (OpenSpec.ofChange fnExactSenseOfWrong)

/-- 'laws.FnExactJoinRules': WHATEVER THE INPUT: true; the input reads as it did. -/
def fnExactJoinRulesSpec : ChangeSpec := { name := "fnExactJoinRules", fn := fun _ => fun
  | [d1, d2] => { results := [.lit (.bool true)], args := [d1, d2] }
  | _ => none }
def fnExactJoinRulesRow : OpenClaim := { program := "ytcigmgocllnhfaa", sum := "575eeb1019be6e644a57bbf6ffc258b74a0e2532706a597a2adaac2141d07df3", func := "loop.example/g01381/laws.FnExactJoinRules", spec := "fnExactJoinRules", unfollowed := true, recurses := true, apart := false }
def FnExactJoinRulesSaid : Prop := fnExactJoinRulesRow.holds Try.pinned (OpenSpec.ofChange fnExactJoinRulesSpec)

/-- ITS FALSE NEIGHBOUR: 'it returns false'. Refute it at one input. -/
def fnExactJoinRulesWrong : ChangeSpec := { name := "fnExactJoinRules", fn := fun _ => fun
  | [d1, d2] => { results := [.lit (.bool false)], args := [d1, d2] }
  | _ => none }
def FnExactJoinRulesWrongFalsely : Prop := fnExactJoinRulesRow.holds Try.pinned (OpenSpec.ofChange fnExactJoinRulesWrong)

/-- 'laws.FnExactIsSumRule': WHATEVER THE INPUT: true; the input reads as it did. -/
def fnExactIsSumRuleSpec : ChangeSpec := { name := "fnExactIsSumRule", fn := fun _ => fun
  | [d] => { results := [.lit (.bool true)], args := [d] }
  | _ => none }
def fnExactIsSumRuleRow : OpenClaim := { program := "ytcigmgocllnhfaa", sum := "575eeb1019be6e644a57bbf6ffc258b74a0e2532706a597a2adaac2141d07df3", func := "loop.example/g01381/laws.FnExactIsSumRule", spec := "fnExactIsSumRule", unfollowed := true, recurses := true, apart := false }
def FnExactIsSumRuleSaid : Prop := fnExactIsSumRuleRow.holds Try.pinned (OpenSpec.ofChange fnExactIsSumRuleSpec)

/-- ITS FALSE NEIGHBOUR: 'it returns false'. Refute it at one input. -/
def fnExactIsSumRuleWrong : ChangeSpec := { name := "fnExactIsSumRule", fn := fun _ => fun
  | [d] => { results := [.lit (.bool false)], args := [d] }
  | _ => none }
def FnExactIsSumRuleWrongFalsely : Prop := fnExactIsSumRuleRow.holds Try.pinned (OpenSpec.ofChange fnExactIsSumRuleWrong)

/-- 'laws.FnExactMirrorRule': WHATEVER THE INPUT: true; the input reads as it did. -/
def fnExactMirrorRuleSpec : ChangeSpec := { name := "fnExactMirrorRule", fn := fun _ => fun
  | [d] => { results := [.lit (.bool true)], args := [d] }
  | _ => none }
def fnExactMirrorRuleRow : OpenClaim := { program := "ytcigmgocllnhfaa", sum := "575eeb1019be6e644a57bbf6ffc258b74a0e2532706a597a2adaac2141d07df3", func := "loop.example/g01381/laws.FnExactMirrorRule", spec := "fnExactMirrorRule", unfollowed := true, recurses := true, apart := false }
def FnExactMirrorRuleSaid : Prop := fnExactMirrorRuleRow.holds Try.pinned (OpenSpec.ofChange fnExactMirrorRuleSpec)

/-- ITS FALSE NEIGHBOUR: 'it returns false'. Refute it at one input. -/
def fnExactMirrorRuleWrong : ChangeSpec := { name := "fnExactMirrorRule", fn := fun _ => fun
  | [d] => { results := [.lit (.bool false)], args := [d] }
  | _ => none }
def FnExactMirrorRuleWrongFalsely : Prop := fnExactMirrorRuleRow.holds Try.pinned (OpenSpec.ofChange fnExactMirrorRuleWrong)

/- THE SECOND FORM. 'bulk': how many values and letters a reading holds, each counted each time it is reached (what is shared counts as often as it is met; a slice's spare places count too). A statement '..UptoSaid' is the law's where the arguments, and the package variables that the reading takes, are together of bulk at most 1048576: NARROWER than '..Said'. Prove '..Said' where nothing that the law and all that it calls make is longer than what came in: it says more and counts as full. Else prove '..UptoSaid'. A law counts once. -/
mutual
def uptoBulk {H : Type} : DataW H → Nat
  | .lit (.string bytes) => bytes.length + 1
  | .lit _ => 1
  | .nil => 1
  | .ptr d => uptoBulk d + 1
  | .slice elems spare => uptoBulkAll elems + uptoBulkAll spare + 1
  | .agg parts => uptoBulkAll parts + 1
  | .iface _ d => uptoBulk d + 1
  | .map entries => uptoBulkEntries entries + 1
  | .held _ => 1
def uptoBulkAll {H : Type} : List (DataW H) → Nat
  | [] => 0
  | d :: r => uptoBulk d + uptoBulkAll r
def uptoBulkEntries {H : Type} : List (Lit × DataW H) → Nat
  | [] => 0
  | x :: r => uptoBulkEntry x + uptoBulkEntries r
def uptoBulkEntry {H : Type} : Lit × DataW H → Nat
  | (.string bytes, d) => bytes.length + uptoBulk d + 1
  | (_, d) => uptoBulk d + 1
 end
def uptoSmall : (H : Type) → List (DataW H) → Bool := fun _ ds => decide (uptoBulkAll ds ≤ 1048576)
def OpenSpec.upto (s : _root_.Go.ChangeSpec) : _root_.Go.OpenSpec := { _root_.Go.OpenSpec.ofChange s with cond := some uptoSmall }

/-- 'laws.FnExactIsRing', WHERE WHAT IT READS IS OF BULK AT MOST 1048576: true; the input reads as it did. -/
def fnExactIsRingUptoRow : OpenClaim := { program := "ytcigmgocllnhfaa", sum := "575eeb1019be6e644a57bbf6ffc258b74a0e2532706a597a2adaac2141d07df3", func := "loop.example/g01381/laws.FnExactIsRing", spec := "fnExactIsRing", apart := false, narrowed := true }
def FnExactIsRingUptoSaid : Prop := fnExactIsRingUptoRow.holds Try.pinned (OpenSpec.upto fnExactIsRingSpec)

/-- 'laws.FnExactDrawRing', WHERE WHAT IT READS IS OF BULK AT MOST 1048576: true; the input reads as it did. -/
def fnExactDrawRingUptoRow : OpenClaim := { program := "ytcigmgocllnhfaa", sum := "575eeb1019be6e644a57bbf6ffc258b74a0e2532706a597a2adaac2141d07df3", func := "loop.example/g01381/laws.FnExactDrawRing", spec := "fnExactDrawRing", apart := false, narrowed := true }
def FnExactDrawRingUptoSaid : Prop := fnExactDrawRingUptoRow.holds Try.pinned (OpenSpec.upto fnExactDrawRingSpec)

/-- 'laws.FnExactRuleOfNumber', WHERE WHAT IT READS IS OF BULK AT MOST 1048576: true; the input reads as it did. -/
def fnExactRuleOfNumberUptoRow : OpenClaim := { program := "ytcigmgocllnhfaa", sum := "575eeb1019be6e644a57bbf6ffc258b74a0e2532706a597a2adaac2141d07df3", func := "loop.example/g01381/laws.FnExactRuleOfNumber", spec := "fnExactRuleOfNumber", apart := false, narrowed := true }
def FnExactRuleOfNumberUptoSaid : Prop := fnExactRuleOfNumberUptoRow.holds Try.pinned (OpenSpec.upto fnExactRuleOfNumberSpec)

/-- 'laws.FnExactSameRule', WHERE WHAT IT READS IS OF BULK AT MOST 1048576: true; the input reads as it did. -/
def fnExactSameRuleUptoRow : OpenClaim := { program := "ytcigmgocllnhfaa", sum := "575eeb1019be6e644a57bbf6ffc258b74a0e2532706a597a2adaac2141d07df3", func := "loop.example/g01381/laws.FnExactSameRule", spec := "fnExactSameRule", apart := false, narrowed := true }
def FnExactSameRuleUptoSaid : Prop := fnExactSameRuleUptoRow.holds Try.pinned (OpenSpec.upto fnExactSameRuleSpec)

/-- 'laws.FnExactValidRule', WHERE WHAT IT READS IS OF BULK AT MOST 1048576: true; the input reads as it did. -/
def fnExactValidRuleUptoRow : OpenClaim := { program := "ytcigmgocllnhfaa", sum := "575eeb1019be6e644a57bbf6ffc258b74a0e2532706a597a2adaac2141d07df3", func := "loop.example/g01381/laws.FnExactValidRule", spec := "fnExactValidRule", apart := false, narrowed := true }
def FnExactValidRuleUptoSaid : Prop := fnExactValidRuleUptoRow.holds Try.pinned (OpenSpec.upto fnExactValidRuleSpec)

/-- 'laws.FnExactWordsOfRing', WHERE WHAT IT READS IS OF BULK AT MOST 1048576: true; the input reads as it did. -/
def fnExactWordsOfRingUptoRow : OpenClaim := { program := "ytcigmgocllnhfaa", sum := "575eeb1019be6e644a57bbf6ffc258b74a0e2532706a597a2adaac2141d07df3", func := "loop.example/g01381/laws.FnExactWordsOfRing", spec := "fnExactWordsOfRing", apart := false, narrowed := true }
def FnExactWordsOfRingUptoSaid : Prop := fnExactWordsOfRingUptoRow.holds Try.pinned (OpenSpec.upto fnExactWordsOfRingSpec)

/-- 'laws.FnExactNumberOfRule', WHERE WHAT IT READS IS OF BULK AT MOST 1048576: true; the input reads as it did. -/
def fnExactNumberOfRuleUptoRow : OpenClaim := { program := "ytcigmgocllnhfaa", sum := "575eeb1019be6e644a57bbf6ffc258b74a0e2532706a597a2adaac2141d07df3", func := "loop.example/g01381/laws.FnExactNumberOfRule", spec := "fnExactNumberOfRule", apart := false, narrowed := true }
def FnExactNumberOfRuleUptoSaid : Prop := fnExactNumberOfRuleUptoRow.holds Try.pinned (OpenSpec.upto fnExactNumberOfRuleSpec)

/-- 'laws.FnExactActiveShare', WHERE WHAT IT READS IS OF BULK AT MOST 1048576: true; the input reads as it did. -/
def fnExactActiveShareUptoRow : OpenClaim := { program := "ytcigmgocllnhfaa", sum := "575eeb1019be6e644a57bbf6ffc258b74a0e2532706a597a2adaac2141d07df3", func := "loop.example/g01381/laws.FnExactActiveShare", spec := "fnExactActiveShare", apart := false, narrowed := true }
def FnExactActiveShareUptoSaid : Prop := fnExactActiveShareUptoRow.holds Try.pinned (OpenSpec.upto fnExactActiveShareSpec)

/-- 'laws.FnExactSumRule', WHERE WHAT IT READS IS OF BULK AT MOST 1048576: true; the input reads as it did. -/
def fnExactSumRuleUptoRow : OpenClaim := { program := "ytcigmgocllnhfaa", sum := "575eeb1019be6e644a57bbf6ffc258b74a0e2532706a597a2adaac2141d07df3", func := "loop.example/g01381/laws.FnExactSumRule", spec := "fnExactSumRule", unfollowed := true, recurses := true, apart := false, narrowed := true }
def FnExactSumRuleUptoSaid : Prop := fnExactSumRuleUptoRow.holds Try.pinned (OpenSpec.upto fnExactSumRuleSpec)

/-- 'laws.FnExactIsTotal', WHERE WHAT IT READS IS OF BULK AT MOST 1048576: true; the input reads as it did. -/
def fnExactIsTotalUptoRow : OpenClaim := { program := "ytcigmgocllnhfaa", sum := "575eeb1019be6e644a57bbf6ffc258b74a0e2532706a597a2adaac2141d07df3", func := "loop.example/g01381/laws.FnExactIsTotal", spec := "fnExactIsTotal", apart := false, narrowed := true }
def FnExactIsTotalUptoSaid : Prop := fnExactIsTotalUptoRow.holds Try.pinned (OpenSpec.upto fnExactIsTotalSpec)

/-- 'laws.FnExactTotalRule', WHERE WHAT IT READS IS OF BULK AT MOST 1048576: true; the input reads as it did. -/
def fnExactTotalRuleUptoRow : OpenClaim := { program := "ytcigmgocllnhfaa", sum := "575eeb1019be6e644a57bbf6ffc258b74a0e2532706a597a2adaac2141d07df3", func := "loop.example/g01381/laws.FnExactTotalRule", spec := "fnExactTotalRule", unfollowed := true, recurses := true, apart := false, narrowed := true }
def FnExactTotalRuleUptoSaid : Prop := fnExactTotalRuleUptoRow.holds Try.pinned (OpenSpec.upto fnExactTotalRuleSpec)

/-- 'laws.FnExactOppositeRule', WHERE WHAT IT READS IS OF BULK AT MOST 1048576: true; the input reads as it did. -/
def fnExactOppositeRuleUptoRow : OpenClaim := { program := "ytcigmgocllnhfaa", sum := "575eeb1019be6e644a57bbf6ffc258b74a0e2532706a597a2adaac2141d07df3", func := "loop.example/g01381/laws.FnExactOppositeRule", spec := "fnExactOppositeRule", unfollowed := true, recurses := true, apart := false, narrowed := true }
def FnExactOppositeRuleUptoSaid : Prop := fnExactOppositeRuleUptoRow.holds Try.pinned (OpenSpec.upto fnExactOppositeRuleSpec)

/-- 'laws.FnExactWiderRule', WHERE WHAT IT READS IS OF BULK AT MOST 1048576: true; the input reads as it did. -/
def fnExactWiderRuleUptoRow : OpenClaim := { program := "ytcigmgocllnhfaa", sum := "575eeb1019be6e644a57bbf6ffc258b74a0e2532706a597a2adaac2141d07df3", func := "loop.example/g01381/laws.FnExactWiderRule", spec := "fnExactWiderRule", unfollowed := true, recurses := true, apart := false, narrowed := true }
def FnExactWiderRuleUptoSaid : Prop := fnExactWiderRuleUptoRow.holds Try.pinned (OpenSpec.upto fnExactWiderRuleSpec)

/-- 'laws.FnExactSenseOf', WHERE WHAT IT READS IS OF BULK AT MOST 1048576: true; the input reads as it did. -/
def fnExactSenseOfUptoRow : OpenClaim := { program := "ytcigmgocllnhfaa", sum := "575eeb1019be6e644a57bbf6ffc258b74a0e2532706a597a2adaac2141d07df3", func := "loop.example/g01381/laws.FnExactSenseOf", spec := "fnExactSenseOf", apart := false, narrowed := true }
def FnExactSenseOfUptoSaid : Prop := fnExactSenseOfUptoRow.holds Try.pinned (OpenSpec.upto fnExactSenseOfSpec)

/-- 'laws.FnExactJoinRules', WHERE WHAT IT READS IS OF BULK AT MOST 1048576: true; the input reads as it did. -/
def fnExactJoinRulesUptoRow : OpenClaim := { program := "ytcigmgocllnhfaa", sum := "575eeb1019be6e644a57bbf6ffc258b74a0e2532706a597a2adaac2141d07df3", func := "loop.example/g01381/laws.FnExactJoinRules", spec := "fnExactJoinRules", unfollowed := true, recurses := true, apart := false, narrowed := true }
def FnExactJoinRulesUptoSaid : Prop := fnExactJoinRulesUptoRow.holds Try.pinned (OpenSpec.upto fnExactJoinRulesSpec)

/-- 'laws.FnExactIsSumRule', WHERE WHAT IT READS IS OF BULK AT MOST 1048576: true; the input reads as it did. -/
def fnExactIsSumRuleUptoRow : OpenClaim := { program := "ytcigmgocllnhfaa", sum := "575eeb1019be6e644a57bbf6ffc258b74a0e2532706a597a2adaac2141d07df3", func := "loop.example/g01381/laws.FnExactIsSumRule", spec := "fnExactIsSumRule", unfollowed := true, recurses := true, apart := false, narrowed := true }
def FnExactIsSumRuleUptoSaid : Prop := fnExactIsSumRuleUptoRow.holds Try.pinned (OpenSpec.upto fnExactIsSumRuleSpec)

/-- 'laws.FnExactMirrorRule', WHERE WHAT IT READS IS OF BULK AT MOST 1048576: true; the input reads as it did. -/
def fnExactMirrorRuleUptoRow : OpenClaim := { program := "ytcigmgocllnhfaa", sum := "575eeb1019be6e644a57bbf6ffc258b74a0e2532706a597a2adaac2141d07df3", func := "loop.example/g01381/laws.FnExactMirrorRule", spec := "fnExactMirrorRule", unfollowed := true, recurses := true, apart := false, narrowed := true }
def FnExactMirrorRuleUptoSaid : Prop := fnExactMirrorRuleUptoRow.holds Try.pinned (OpenSpec.upto fnExactMirrorRuleSpec)

end Rows
end Go.Proofs.Ytcigmgocllnhfaa
