/-
  No cell of these rows narrows 'for every input' (looked for: loops, veiled, ifaces, maps, wideKeys, modest, calm, conditions, laid).
  DERIVED. THE GIVEN ROWS OF THIS SEAT. 19 by the template 'for every input the law returns true; each argument reads behind the call as it read before'; 0 by the template 'total and deterministic' (their statements: YtncciafldmoklaaTotals.lean).
  GIVEN WITH THE SEED: the statements are not yours to turn. If you find one false, say at which input.
  Laid BY PROGRAM, IN A SANDBOX (cutbox-rows.mjs): the forced cells as the released guide's own fill.sh prints them over the translation 81f88ce4ed3acc7a… (all of the seat's roots in one cut). By AI agents, Wed Nov 11 2026. No macro, syntax, notation, axiom, sorry.
-/
import Derived.Test.YtncciafldmoklaaChecked
import GoSem.Claim
import GoSem.ClaimJoined
import GoSem.ClaimMapViews
import Derived.JoinedTies
import Derived.KernelRfl
namespace Go.Proofs.Ytncciafldmoklaa
/- THE CELL 'sum', in the pinned program and in every row, IS THE sha256 OF THE DUMP (.gsa) THAT YtncciafldmoklaaProg.lean LOADS. Nothing in Lean hashes anything: it is a label: what it is worth is what the hold of that sum in a sandbox is worth. -/
noncomputable def Try.pinned : Pinned := { name := "ytncciafldmoklaa", sum := "81f88ce4ed3acc7a4c9b95cf379c1a11b0a160a8beb16a66ca4dab14c19326a3", checked := Try.checked }
namespace Rows
def none {H : Type} : Left H := { results := [], args := [] }

/-- 'laws.FnExactHomeSlot': WHATEVER THE INPUT: true; the input reads as it did. -/
def fnExactHomeSlotSpec : ChangeSpec := { name := "fnExactHomeSlot", fn := fun _ => fun
  | [d] => { results := [.lit (.bool true)], args := [d] }
  | _ => none }
def fnExactHomeSlotRow : OpenClaim := { program := "ytncciafldmoklaa", sum := "81f88ce4ed3acc7a4c9b95cf379c1a11b0a160a8beb16a66ca4dab14c19326a3", func := "loop.example/g03312/laws.FnExactHomeSlot", spec := "fnExactHomeSlot", apart := false }
def FnExactHomeSlotSaid : Prop := fnExactHomeSlotRow.holds Try.pinned (OpenSpec.ofChange fnExactHomeSlotSpec)

/-- ITS FALSE NEIGHBOUR: 'it returns false'. Refute it at one input. -/
def fnExactHomeSlotWrong : ChangeSpec := { name := "fnExactHomeSlot", fn := fun _ => fun
  | [d] => { results := [.lit (.bool false)], args := [d] }
  | _ => none }
def FnExactHomeSlotWrongFalsely : Prop := fnExactHomeSlotRow.holds Try.pinned (OpenSpec.ofChange fnExactHomeSlotWrong)

/-- 'laws.FnExactNewTable': WHATEVER THE INPUT: true; the input reads as it did. -/
def fnExactNewTableSpec : ChangeSpec := { name := "fnExactNewTable", fn := fun _ => fun
  | [] => { results := [.lit (.bool true)], args := [] }
  | _ => none }
def fnExactNewTableRow : OpenClaim := { program := "ytncciafldmoklaa", sum := "81f88ce4ed3acc7a4c9b95cf379c1a11b0a160a8beb16a66ca4dab14c19326a3", func := "loop.example/g03312/laws.FnExactNewTable", spec := "fnExactNewTable", apart := false }
def FnExactNewTableSaid : Prop := fnExactNewTableRow.holds Try.pinned (OpenSpec.ofChange fnExactNewTableSpec)

/-- ITS FALSE NEIGHBOUR: 'it returns false'. Refute it at one input. -/
def fnExactNewTableWrong : ChangeSpec := { name := "fnExactNewTable", fn := fun _ => fun
  | [] => { results := [.lit (.bool false)], args := [] }
  | _ => none }
def FnExactNewTableWrongFalsely : Prop := fnExactNewTableRow.holds Try.pinned (OpenSpec.ofChange fnExactNewTableWrong)

/-- 'laws.FnTableModel': WHATEVER THE INPUT: true; the input reads as it did. -/
def fnTableModelSpec : ChangeSpec := { name := "fnTableModel", fn := fun _ => fun
  | [d] => { results := [.lit (.bool true)], args := [d] }
  | _ => none }
def fnTableModelRow : OpenClaim := { program := "ytncciafldmoklaa", sum := "81f88ce4ed3acc7a4c9b95cf379c1a11b0a160a8beb16a66ca4dab14c19326a3", func := "loop.example/g03312/laws.FnTableModel", spec := "fnTableModel", apart := false }
def FnTableModelSaid : Prop := fnTableModelRow.holds Try.pinned (OpenSpec.ofChange fnTableModelSpec)

/-- ITS FALSE NEIGHBOUR: 'it returns false'. Refute it at one input. -/
def fnTableModelWrong : ChangeSpec := { name := "fnTableModel", fn := fun _ => fun
  | [d] => { results := [.lit (.bool false)], args := [d] }
  | _ => none }
def FnTableModelWrongFalsely : Prop := fnTableModelRow.holds Try.pinned (OpenSpec.ofChange fnTableModelWrong)

/-- 'laws.FnExactTableOk': WHATEVER THE INPUT: true; the input reads as it did. -/
def fnExactTableOkSpec : ChangeSpec := { name := "fnExactTableOk", fn := fun _ => fun
  | [d] => { results := [.lit (.bool true)], args := [d] }
  | _ => none }
def fnExactTableOkRow : OpenClaim := { program := "ytncciafldmoklaa", sum := "81f88ce4ed3acc7a4c9b95cf379c1a11b0a160a8beb16a66ca4dab14c19326a3", func := "loop.example/g03312/laws.FnExactTableOk", spec := "fnExactTableOk", apart := false }
def FnExactTableOkSaid : Prop := fnExactTableOkRow.holds Try.pinned (OpenSpec.ofChange fnExactTableOkSpec)

/-- ITS FALSE NEIGHBOUR: 'it returns false'. Refute it at one input. -/
def fnExactTableOkWrong : ChangeSpec := { name := "fnExactTableOk", fn := fun _ => fun
  | [d] => { results := [.lit (.bool false)], args := [d] }
  | _ => none }
def FnExactTableOkWrongFalsely : Prop := fnExactTableOkRow.holds Try.pinned (OpenSpec.ofChange fnExactTableOkWrong)

/-- 'laws.FnExactFindFlow': WHATEVER THE INPUT: true; the input reads as it did. -/
def fnExactFindFlowSpec : ChangeSpec := { name := "fnExactFindFlow", fn := fun _ => fun
  | [d1, d2] => { results := [.lit (.bool true)], args := [d1, d2] }
  | _ => none }
def fnExactFindFlowRow : OpenClaim := { program := "ytncciafldmoklaa", sum := "81f88ce4ed3acc7a4c9b95cf379c1a11b0a160a8beb16a66ca4dab14c19326a3", func := "loop.example/g03312/laws.FnExactFindFlow", spec := "fnExactFindFlow", apart := false }
def FnExactFindFlowSaid : Prop := fnExactFindFlowRow.holds Try.pinned (OpenSpec.ofChange fnExactFindFlowSpec)

/-- ITS FALSE NEIGHBOUR: 'it returns false'. Refute it at one input. -/
def fnExactFindFlowWrong : ChangeSpec := { name := "fnExactFindFlow", fn := fun _ => fun
  | [d1, d2] => { results := [.lit (.bool false)], args := [d1, d2] }
  | _ => none }
def FnExactFindFlowWrongFalsely : Prop := fnExactFindFlowRow.holds Try.pinned (OpenSpec.ofChange fnExactFindFlowWrong)

/-- 'laws.FnCompacted': WHATEVER THE INPUT: true; the input reads as it did. -/
def fnCompactedSpec : ChangeSpec := { name := "fnCompacted", fn := fun _ => fun
  | [d] => { results := [.lit (.bool true)], args := [d] }
  | _ => none }
def fnCompactedRow : OpenClaim := { program := "ytncciafldmoklaa", sum := "81f88ce4ed3acc7a4c9b95cf379c1a11b0a160a8beb16a66ca4dab14c19326a3", func := "loop.example/g03312/laws.FnCompacted", spec := "fnCompacted", apart := false }
def FnCompactedSaid : Prop := fnCompactedRow.holds Try.pinned (OpenSpec.ofChange fnCompactedSpec)

/-- ITS FALSE NEIGHBOUR: 'it returns false'. Refute it at one input. -/
def fnCompactedWrong : ChangeSpec := { name := "fnCompacted", fn := fun _ => fun
  | [d] => { results := [.lit (.bool false)], args := [d] }
  | _ => none }
def FnCompactedWrongFalsely : Prop := fnCompactedRow.holds Try.pinned (OpenSpec.ofChange fnCompactedWrong)

/-- 'laws.FnExactTableFlows': WHATEVER THE INPUT: true; the input reads as it did. -/
def fnExactTableFlowsSpec : ChangeSpec := { name := "fnExactTableFlows", fn := fun _ => fun
  | [d] => { results := [.lit (.bool true)], args := [d] }
  | _ => none }
def fnExactTableFlowsRow : OpenClaim := { program := "ytncciafldmoklaa", sum := "81f88ce4ed3acc7a4c9b95cf379c1a11b0a160a8beb16a66ca4dab14c19326a3", func := "loop.example/g03312/laws.FnExactTableFlows", spec := "fnExactTableFlows", apart := false }
def FnExactTableFlowsSaid : Prop := fnExactTableFlowsRow.holds Try.pinned (OpenSpec.ofChange fnExactTableFlowsSpec)

/-- ITS FALSE NEIGHBOUR: 'it returns false'. Refute it at one input. -/
def fnExactTableFlowsWrong : ChangeSpec := { name := "fnExactTableFlows", fn := fun _ => fun
  | [d] => { results := [.lit (.bool false)], args := [d] }
  | _ => none }
def FnExactTableFlowsWrongFalsely : Prop := fnExactTableFlowsRow.holds Try.pinned (OpenSpec.ofChange fnExactTableFlowsWrong)

/-- 'laws.FnExactDropFlow': WHATEVER THE INPUT: true; the input reads as it did. -/
def fnExactDropFlowSpec : ChangeSpec := { name := "fnExactDropFlow", fn := fun _ => fun
  | [d1, d2] => { results := [.lit (.bool true)], args := [d1, d2] }
  | _ => none }
def fnExactDropFlowRow : OpenClaim := { program := "ytncciafldmoklaa", sum := "81f88ce4ed3acc7a4c9b95cf379c1a11b0a160a8beb16a66ca4dab14c19326a3", func := "loop.example/g03312/laws.FnExactDropFlow", spec := "fnExactDropFlow", apart := false }
def FnExactDropFlowSaid : Prop := fnExactDropFlowRow.holds Try.pinned (OpenSpec.ofChange fnExactDropFlowSpec)

/-- ITS FALSE NEIGHBOUR: 'it returns false'. Refute it at one input. -/
def fnExactDropFlowWrong : ChangeSpec := { name := "fnExactDropFlow", fn := fun _ => fun
  | [d1, d2] => { results := [.lit (.bool false)], args := [d1, d2] }
  | _ => none }
def FnExactDropFlowWrongFalsely : Prop := fnExactDropFlowRow.holds Try.pinned (OpenSpec.ofChange fnExactDropFlowWrong)

/-- 'laws.FnExactPutFlow': WHATEVER THE INPUT: true; the input reads as it did. -/
def fnExactPutFlowSpec : ChangeSpec := { name := "fnExactPutFlow", fn := fun _ => fun
  | [d1, d2, d3] => { results := [.lit (.bool true)], args := [d1, d2, d3] }
  | _ => none }
def fnExactPutFlowRow : OpenClaim := { program := "ytncciafldmoklaa", sum := "81f88ce4ed3acc7a4c9b95cf379c1a11b0a160a8beb16a66ca4dab14c19326a3", func := "loop.example/g03312/laws.FnExactPutFlow", spec := "fnExactPutFlow", apart := false }
def FnExactPutFlowSaid : Prop := fnExactPutFlowRow.holds Try.pinned (OpenSpec.ofChange fnExactPutFlowSpec)

/-- ITS FALSE NEIGHBOUR: 'it returns false'. Refute it at one input. -/
def fnExactPutFlowWrong : ChangeSpec := { name := "fnExactPutFlow", fn := fun _ => fun
  | [d1, d2, d3] => { results := [.lit (.bool false)], args := [d1, d2, d3] }
  | _ => none }
def FnExactPutFlowWrongFalsely : Prop := fnExactPutFlowRow.holds Try.pinned (OpenSpec.ofChange fnExactPutFlowWrong)

/-- 'laws.FnExactCompacted': WHATEVER THE INPUT: true; the input reads as it did. -/
def fnExactCompactedSpec : ChangeSpec := { name := "fnExactCompacted", fn := fun _ => fun
  | [d] => { results := [.lit (.bool true)], args := [d] }
  | _ => none }
def fnExactCompactedRow : OpenClaim := { program := "ytncciafldmoklaa", sum := "81f88ce4ed3acc7a4c9b95cf379c1a11b0a160a8beb16a66ca4dab14c19326a3", func := "loop.example/g03312/laws.FnExactCompacted", spec := "fnExactCompacted", apart := false }
def FnExactCompactedSaid : Prop := fnExactCompactedRow.holds Try.pinned (OpenSpec.ofChange fnExactCompactedSpec)

/-- ITS FALSE NEIGHBOUR: 'it returns false'. Refute it at one input. -/
def fnExactCompactedWrong : ChangeSpec := { name := "fnExactCompacted", fn := fun _ => fun
  | [d] => { results := [.lit (.bool false)], args := [d] }
  | _ => none }
def FnExactCompactedWrongFalsely : Prop := fnExactCompactedRow.holds Try.pinned (OpenSpec.ofChange fnExactCompactedWrong)

/-- 'laws.FnExactRuleOk': WHATEVER THE INPUT: true; the input reads as it did. -/
def fnExactRuleOkSpec : ChangeSpec := { name := "fnExactRuleOk", fn := fun _ => fun
  | [d] => { results := [.lit (.bool true)], args := [d] }
  | _ => none }
def fnExactRuleOkRow : OpenClaim := { program := "ytncciafldmoklaa", sum := "81f88ce4ed3acc7a4c9b95cf379c1a11b0a160a8beb16a66ca4dab14c19326a3", func := "loop.example/g03312/laws.FnExactRuleOk", spec := "fnExactRuleOk", apart := false }
def FnExactRuleOkSaid : Prop := fnExactRuleOkRow.holds Try.pinned (OpenSpec.ofChange fnExactRuleOkSpec)

/-- ITS FALSE NEIGHBOUR: 'it returns false'. Refute it at one input. -/
def fnExactRuleOkWrong : ChangeSpec := { name := "fnExactRuleOk", fn := fun _ => fun
  | [d] => { results := [.lit (.bool false)], args := [d] }
  | _ => none }
def FnExactRuleOkWrongFalsely : Prop := fnExactRuleOkRow.holds Try.pinned (OpenSpec.ofChange fnExactRuleOkWrong)

/-- 'laws.FnExactRuleCovers': WHATEVER THE INPUT: true; the input reads as it did. -/
def fnExactRuleCoversSpec : ChangeSpec := { name := "fnExactRuleCovers", fn := fun _ => fun
  | [d1, d2] => { results := [.lit (.bool true)], args := [d1, d2] }
  | _ => none }
def fnExactRuleCoversRow : OpenClaim := { program := "ytncciafldmoklaa", sum := "81f88ce4ed3acc7a4c9b95cf379c1a11b0a160a8beb16a66ca4dab14c19326a3", func := "loop.example/g03312/laws.FnExactRuleCovers", spec := "fnExactRuleCovers", apart := false }
def FnExactRuleCoversSaid : Prop := fnExactRuleCoversRow.holds Try.pinned (OpenSpec.ofChange fnExactRuleCoversSpec)

/-- ITS FALSE NEIGHBOUR: 'it returns false'. Refute it at one input. -/
def fnExactRuleCoversWrong : ChangeSpec := { name := "fnExactRuleCovers", fn := fun _ => fun
  | [d1, d2] => { results := [.lit (.bool false)], args := [d1, d2] }
  | _ => none }
def FnExactRuleCoversWrongFalsely : Prop := fnExactRuleCoversRow.holds Try.pinned (OpenSpec.ofChange fnExactRuleCoversWrong)

/-- 'laws.FnExactRulesOk': WHATEVER THE INPUT: true; the input reads as it did. -/
def fnExactRulesOkSpec : ChangeSpec := { name := "fnExactRulesOk", fn := fun _ => fun
  | [d] => { results := [.lit (.bool true)], args := [d] }
  | _ => none }
def fnExactRulesOkRow : OpenClaim := { program := "ytncciafldmoklaa", sum := "81f88ce4ed3acc7a4c9b95cf379c1a11b0a160a8beb16a66ca4dab14c19326a3", func := "loop.example/g03312/laws.FnExactRulesOk", spec := "fnExactRulesOk", apart := false }
def FnExactRulesOkSaid : Prop := fnExactRulesOkRow.holds Try.pinned (OpenSpec.ofChange fnExactRulesOkSpec)

/-- ITS FALSE NEIGHBOUR: 'it returns false'. Refute it at one input. -/
def fnExactRulesOkWrong : ChangeSpec := { name := "fnExactRulesOk", fn := fun _ => fun
  | [d] => { results := [.lit (.bool false)], args := [d] }
  | _ => none }
def FnExactRulesOkWrongFalsely : Prop := fnExactRulesOkRow.holds Try.pinned (OpenSpec.ofChange fnExactRulesOkWrong)

/-- 'laws.FnExactRuleMatches': WHATEVER THE INPUT: true; the input reads as it did. -/
def fnExactRuleMatchesSpec : ChangeSpec := { name := "fnExactRuleMatches", fn := fun _ => fun
  | [d1, d2] => { results := [.lit (.bool true)], args := [d1, d2] }
  | _ => none }
def fnExactRuleMatchesRow : OpenClaim := { program := "ytncciafldmoklaa", sum := "81f88ce4ed3acc7a4c9b95cf379c1a11b0a160a8beb16a66ca4dab14c19326a3", func := "loop.example/g03312/laws.FnExactRuleMatches", spec := "fnExactRuleMatches", apart := false }
def FnExactRuleMatchesSaid : Prop := fnExactRuleMatchesRow.holds Try.pinned (OpenSpec.ofChange fnExactRuleMatchesSpec)

/-- ITS FALSE NEIGHBOUR: 'it returns false'. Refute it at one input. -/
def fnExactRuleMatchesWrong : ChangeSpec := { name := "fnExactRuleMatches", fn := fun _ => fun
  | [d1, d2] => { results := [.lit (.bool false)], args := [d1, d2] }
  | _ => none }
def FnExactRuleMatchesWrongFalsely : Prop := fnExactRuleMatchesRow.holds Try.pinned (OpenSpec.ofChange fnExactRuleMatchesWrong)

/-- 'laws.FnRuleFirst': WHATEVER THE INPUT: true; the input reads as it did. -/
def fnRuleFirstSpec : ChangeSpec := { name := "fnRuleFirst", fn := fun _ => fun
  | [d] => { results := [.lit (.bool true)], args := [d] }
  | _ => none }
def fnRuleFirstRow : OpenClaim := { program := "ytncciafldmoklaa", sum := "81f88ce4ed3acc7a4c9b95cf379c1a11b0a160a8beb16a66ca4dab14c19326a3", func := "loop.example/g03312/laws.FnRuleFirst", spec := "fnRuleFirst", apart := false }
def FnRuleFirstSaid : Prop := fnRuleFirstRow.holds Try.pinned (OpenSpec.ofChange fnRuleFirstSpec)

/-- ITS FALSE NEIGHBOUR: 'it returns false'. Refute it at one input. -/
def fnRuleFirstWrong : ChangeSpec := { name := "fnRuleFirst", fn := fun _ => fun
  | [d] => { results := [.lit (.bool false)], args := [d] }
  | _ => none }
def FnRuleFirstWrongFalsely : Prop := fnRuleFirstRow.holds Try.pinned (OpenSpec.ofChange fnRuleFirstWrong)

/-- 'laws.FnExactEffective': WHATEVER THE INPUT: true; the input reads as it did. -/
def fnExactEffectiveSpec : ChangeSpec := { name := "fnExactEffective", fn := fun _ => fun
  | [d] => { results := [.lit (.bool true)], args := [d] }
  | _ => none }
def fnExactEffectiveRow : OpenClaim := { program := "ytncciafldmoklaa", sum := "81f88ce4ed3acc7a4c9b95cf379c1a11b0a160a8beb16a66ca4dab14c19326a3", func := "loop.example/g03312/laws.FnExactEffective", spec := "fnExactEffective", apart := false }
def FnExactEffectiveSaid : Prop := fnExactEffectiveRow.holds Try.pinned (OpenSpec.ofChange fnExactEffectiveSpec)

/-- ITS FALSE NEIGHBOUR: 'it returns false'. Refute it at one input. -/
def fnExactEffectiveWrong : ChangeSpec := { name := "fnExactEffective", fn := fun _ => fun
  | [d] => { results := [.lit (.bool false)], args := [d] }
  | _ => none }
def FnExactEffectiveWrongFalsely : Prop := fnExactEffectiveRow.holds Try.pinned (OpenSpec.ofChange fnExactEffectiveWrong)

/-- 'laws.FnExactFindRule': WHATEVER THE INPUT: true; the input reads as it did. -/
def fnExactFindRuleSpec : ChangeSpec := { name := "fnExactFindRule", fn := fun _ => fun
  | [d1, d2] => { results := [.lit (.bool true)], args := [d1, d2] }
  | _ => none }
def fnExactFindRuleRow : OpenClaim := { program := "ytncciafldmoklaa", sum := "81f88ce4ed3acc7a4c9b95cf379c1a11b0a160a8beb16a66ca4dab14c19326a3", func := "loop.example/g03312/laws.FnExactFindRule", spec := "fnExactFindRule", apart := false }
def FnExactFindRuleSaid : Prop := fnExactFindRuleRow.holds Try.pinned (OpenSpec.ofChange fnExactFindRuleSpec)

/-- ITS FALSE NEIGHBOUR: 'it returns false'. Refute it at one input. -/
def fnExactFindRuleWrong : ChangeSpec := { name := "fnExactFindRule", fn := fun _ => fun
  | [d1, d2] => { results := [.lit (.bool false)], args := [d1, d2] }
  | _ => none }
def FnExactFindRuleWrongFalsely : Prop := fnExactFindRuleRow.holds Try.pinned (OpenSpec.ofChange fnExactFindRuleWrong)

/-- 'laws.FnRulesHidden': WHATEVER THE INPUT: true; the input reads as it did. -/
def fnRulesHiddenSpec : ChangeSpec := { name := "fnRulesHidden", fn := fun _ => fun
  | [d] => { results := [.lit (.bool true)], args := [d] }
  | _ => none }
def fnRulesHiddenRow : OpenClaim := { program := "ytncciafldmoklaa", sum := "81f88ce4ed3acc7a4c9b95cf379c1a11b0a160a8beb16a66ca4dab14c19326a3", func := "loop.example/g03312/laws.FnRulesHidden", spec := "fnRulesHidden", apart := false }
def FnRulesHiddenSaid : Prop := fnRulesHiddenRow.holds Try.pinned (OpenSpec.ofChange fnRulesHiddenSpec)

/-- ITS FALSE NEIGHBOUR: 'it returns false'. Refute it at one input. -/
def fnRulesHiddenWrong : ChangeSpec := { name := "fnRulesHidden", fn := fun _ => fun
  | [d] => { results := [.lit (.bool false)], args := [d] }
  | _ => none }
def FnRulesHiddenWrongFalsely : Prop := fnRulesHiddenRow.holds Try.pinned (OpenSpec.ofChange fnRulesHiddenWrong)

/-- 'laws.FnExactSteeringOk': WHATEVER THE INPUT: true; the input reads as it did. -/
def fnExactSteeringOkSpec : ChangeSpec := { name := "fnExactSteeringOk", fn := fun _ => fun
  | [d1, d2] => { results := [.lit (.bool true)], args := [d1, d2] }
  | _ => none }
def fnExactSteeringOkRow : OpenClaim := { program := "ytncciafldmoklaa", sum := "81f88ce4ed3acc7a4c9b95cf379c1a11b0a160a8beb16a66ca4dab14c19326a3", func := "loop.example/g03312/laws.FnExactSteeringOk", spec := "fnExactSteeringOk", apart := false }
def FnExactSteeringOkSaid : Prop := fnExactSteeringOkRow.holds Try.pinned (OpenSpec.ofChange fnExactSteeringOkSpec)

/-- ITS FALSE NEIGHBOUR: 'it returns false'. Refute it at one input. -/
def fnExactSteeringOkWrong : ChangeSpec := { name := "fnExactSteeringOk", fn := fun _ => fun
  | [d1, d2] => { results := [.lit (.bool false)], args := [d1, d2] }
  | _ => none }
def FnExactSteeringOkWrongFalsely : Prop := fnExactSteeringOkRow.holds Try.pinned (OpenSpec.ofChange fnExactSteeringOkWrong)

/- THE SECOND FORM. 'bulk': how many values and letters a reading holds, each counted each time it is reached (what is shared counts as often as it is met; a slice's spare places count too). A statement '..UptoSaid' is the law's where the arguments, and the package variables that the reading takes, are together of bulk at most 1048576: NARROWER than '..Said'. Prove '..Said' where nothing that the law and all that it calls make is longer than what came in: it says more and counts as full. Else prove '..UptoSaid'. A law counts once. -/
mutual
def uptoBulk {H : Type} : DataW H → Nat
  | .lit (.string bytes) => bytes.length + 1
  | .lit _ => 1
  | .nil => 1
  | .ptr d => uptoBulk d + 1
  | .slice elems spare => uptoBulkAll elems + uptoBulkAll spare + 1
  | .agg parts => uptoBulkAll parts + 1
  | .iface _ d => uptoBulk d + 1
  | .map entries => uptoBulkEntries entries + 1
  | .held _ => 1
def uptoBulkAll {H : Type} : List (DataW H) → Nat
  | [] => 0
  | d :: r => uptoBulk d + uptoBulkAll r
def uptoBulkEntries {H : Type} : List (Lit × DataW H) → Nat
  | [] => 0
  | x :: r => uptoBulkEntry x + uptoBulkEntries r
def uptoBulkEntry {H : Type} : Lit × DataW H → Nat
  | (.string bytes, d) => bytes.length + uptoBulk d + 1
  | (_, d) => uptoBulk d + 1
 end
def uptoSmall : (H : Type) → List (DataW H) → Bool := fun _ ds => decide (uptoBulkAll ds ≤ 1048576)
def OpenSpec.upto (s : _root_.Go.ChangeSpec) : _root_.Go.OpenSpec := { _root_.Go.OpenSpec.ofChange s with cond := some uptoSmall }

/-- 'laws.FnExactHomeSlot', WHERE WHAT IT READS IS OF BULK AT MOST 1048576: true; the input reads as it did. -/
def fnExactHomeSlotUptoRow : OpenClaim := { program := "ytncciafldmoklaa", sum := "81f88ce4ed3acc7a4c9b95cf379c1a11b0a160a8beb16a66ca4dab14c19326a3", func := "loop.example/g03312/laws.FnExactHomeSlot", spec := "fnExactHomeSlot", apart := false, narrowed := true }
def FnExactHomeSlotUptoSaid : Prop := fnExactHomeSlotUptoRow.holds Try.pinned (OpenSpec.upto fnExactHomeSlotSpec)

/-- 'laws.FnExactNewTable', WHERE WHAT IT READS IS OF BULK AT MOST 1048576: true; the input reads as it did. -/
def fnExactNewTableUptoRow : OpenClaim := { program := "ytncciafldmoklaa", sum := "81f88ce4ed3acc7a4c9b95cf379c1a11b0a160a8beb16a66ca4dab14c19326a3", func := "loop.example/g03312/laws.FnExactNewTable", spec := "fnExactNewTable", apart := false, narrowed := true }
def FnExactNewTableUptoSaid : Prop := fnExactNewTableUptoRow.holds Try.pinned (OpenSpec.upto fnExactNewTableSpec)

/-- 'laws.FnTableModel', WHERE WHAT IT READS IS OF BULK AT MOST 1048576: true; the input reads as it did. -/
def fnTableModelUptoRow : OpenClaim := { program := "ytncciafldmoklaa", sum := "81f88ce4ed3acc7a4c9b95cf379c1a11b0a160a8beb16a66ca4dab14c19326a3", func := "loop.example/g03312/laws.FnTableModel", spec := "fnTableModel", apart := false, narrowed := true }
def FnTableModelUptoSaid : Prop := fnTableModelUptoRow.holds Try.pinned (OpenSpec.upto fnTableModelSpec)

/-- 'laws.FnExactTableOk', WHERE WHAT IT READS IS OF BULK AT MOST 1048576: true; the input reads as it did. -/
def fnExactTableOkUptoRow : OpenClaim := { program := "ytncciafldmoklaa", sum := "81f88ce4ed3acc7a4c9b95cf379c1a11b0a160a8beb16a66ca4dab14c19326a3", func := "loop.example/g03312/laws.FnExactTableOk", spec := "fnExactTableOk", apart := false, narrowed := true }
def FnExactTableOkUptoSaid : Prop := fnExactTableOkUptoRow.holds Try.pinned (OpenSpec.upto fnExactTableOkSpec)

/-- 'laws.FnExactFindFlow', WHERE WHAT IT READS IS OF BULK AT MOST 1048576: true; the input reads as it did. -/
def fnExactFindFlowUptoRow : OpenClaim := { program := "ytncciafldmoklaa", sum := "81f88ce4ed3acc7a4c9b95cf379c1a11b0a160a8beb16a66ca4dab14c19326a3", func := "loop.example/g03312/laws.FnExactFindFlow", spec := "fnExactFindFlow", apart := false, narrowed := true }
def FnExactFindFlowUptoSaid : Prop := fnExactFindFlowUptoRow.holds Try.pinned (OpenSpec.upto fnExactFindFlowSpec)

/-- 'laws.FnCompacted', WHERE WHAT IT READS IS OF BULK AT MOST 1048576: true; the input reads as it did. -/
def fnCompactedUptoRow : OpenClaim := { program := "ytncciafldmoklaa", sum := "81f88ce4ed3acc7a4c9b95cf379c1a11b0a160a8beb16a66ca4dab14c19326a3", func := "loop.example/g03312/laws.FnCompacted", spec := "fnCompacted", apart := false, narrowed := true }
def FnCompactedUptoSaid : Prop := fnCompactedUptoRow.holds Try.pinned (OpenSpec.upto fnCompactedSpec)

/-- 'laws.FnExactTableFlows', WHERE WHAT IT READS IS OF BULK AT MOST 1048576: true; the input reads as it did. -/
def fnExactTableFlowsUptoRow : OpenClaim := { program := "ytncciafldmoklaa", sum := "81f88ce4ed3acc7a4c9b95cf379c1a11b0a160a8beb16a66ca4dab14c19326a3", func := "loop.example/g03312/laws.FnExactTableFlows", spec := "fnExactTableFlows", apart := false, narrowed := true }
def FnExactTableFlowsUptoSaid : Prop := fnExactTableFlowsUptoRow.holds Try.pinned (OpenSpec.upto fnExactTableFlowsSpec)

/-- 'laws.FnExactDropFlow', WHERE WHAT IT READS IS OF BULK AT MOST 1048576: true; the input reads as it did. -/
def fnExactDropFlowUptoRow : OpenClaim := { program := "ytncciafldmoklaa", sum := "81f88ce4ed3acc7a4c9b95cf379c1a11b0a160a8beb16a66ca4dab14c19326a3", func := "loop.example/g03312/laws.FnExactDropFlow", spec := "fnExactDropFlow", apart := false, narrowed := true }
def FnExactDropFlowUptoSaid : Prop := fnExactDropFlowUptoRow.holds Try.pinned (OpenSpec.upto fnExactDropFlowSpec)

/-- 'laws.FnExactPutFlow', WHERE WHAT IT READS IS OF BULK AT MOST 1048576: true; the input reads as it did. -/
def fnExactPutFlowUptoRow : OpenClaim := { program := "ytncciafldmoklaa", sum := "81f88ce4ed3acc7a4c9b95cf379c1a11b0a160a8beb16a66ca4dab14c19326a3", func := "loop.example/g03312/laws.FnExactPutFlow", spec := "fnExactPutFlow", apart := false, narrowed := true }
def FnExactPutFlowUptoSaid : Prop := fnExactPutFlowUptoRow.holds Try.pinned (OpenSpec.upto fnExactPutFlowSpec)

/-- 'laws.FnExactCompacted', WHERE WHAT IT READS IS OF BULK AT MOST 1048576: true; the input reads as it did. -/
def fnExactCompactedUptoRow : OpenClaim := { program := "ytncciafldmoklaa", sum := "81f88ce4ed3acc7a4c9b95cf379c1a11b0a160a8beb16a66ca4dab14c19326a3", func := "loop.example/g03312/laws.FnExactCompacted", spec := "fnExactCompacted", apart := false, narrowed := true }
def FnExactCompactedUptoSaid : Prop := fnExactCompactedUptoRow.holds Try.pinned (OpenSpec.upto fnExactCompactedSpec)

/-- 'laws.FnExactRuleOk', WHERE WHAT IT READS IS OF BULK AT MOST 1048576: true; the input reads as it did. -/
def fnExactRuleOkUptoRow : OpenClaim := { program := "ytncciafldmoklaa", sum := "81f88ce4ed3acc7a4c9b95cf379c1a11b0a160a8beb16a66ca4dab14c19326a3", func := "loop.example/g03312/laws.FnExactRuleOk", spec := "fnExactRuleOk", apart := false, narrowed := true }
def FnExactRuleOkUptoSaid : Prop := fnExactRuleOkUptoRow.holds Try.pinned (OpenSpec.upto fnExactRuleOkSpec)

/-- 'laws.FnExactRuleCovers', WHERE WHAT IT READS IS OF BULK AT MOST 1048576: true; the input reads as it did. -/
def fnExactRuleCoversUptoRow : OpenClaim := { program := "ytncciafldmoklaa", sum := "81f88ce4ed3acc7a4c9b95cf379c1a11b0a160a8beb16a66ca4dab14c19326a3", func := "loop.example/g03312/laws.FnExactRuleCovers", spec := "fnExactRuleCovers", apart := false, narrowed := true }
def FnExactRuleCoversUptoSaid : Prop := fnExactRuleCoversUptoRow.holds Try.pinned (OpenSpec.upto fnExactRuleCoversSpec)

/-- 'laws.FnExactRulesOk', WHERE WHAT IT READS IS OF BULK AT MOST 1048576: true; the input reads as it did. -/
def fnExactRulesOkUptoRow : OpenClaim := { program := "ytncciafldmoklaa", sum := "81f88ce4ed3acc7a4c9b95cf379c1a11b0a160a8beb16a66ca4dab14c19326a3", func := "loop.example/g03312/laws.FnExactRulesOk", spec := "fnExactRulesOk", apart := false, narrowed := true }
def FnExactRulesOkUptoSaid : Prop := fnExactRulesOkUptoRow.holds Try.pinned (OpenSpec.upto fnExactRulesOkSpec)

/-- 'laws.FnExactRuleMatches', WHERE WHAT IT READS IS OF BULK AT MOST 1048576: true; the input reads as it did. -/
def fnExactRuleMatchesUptoRow : OpenClaim := { program := "ytncciafldmoklaa", sum := "81f88ce4ed3acc7a4c9b95cf379c1a11b0a160a8beb16a66ca4dab14c19326a3", func := "loop.example/g03312/laws.FnExactRuleMatches", spec := "fnExactRuleMatches", apart := false, narrowed := true }
def FnExactRuleMatchesUptoSaid : Prop := fnExactRuleMatchesUptoRow.holds Try.pinned (OpenSpec.upto fnExactRuleMatchesSpec)

/-- 'laws.FnRuleFirst', WHERE WHAT IT READS IS OF BULK AT MOST 1048576: true; the input reads as it did. -/
def fnRuleFirstUptoRow : OpenClaim := { program := "ytncciafldmoklaa", sum := "81f88ce4ed3acc7a4c9b95cf379c1a11b0a160a8beb16a66ca4dab14c19326a3", func := "loop.example/g03312/laws.FnRuleFirst", spec := "fnRuleFirst", apart := false, narrowed := true }
def FnRuleFirstUptoSaid : Prop := fnRuleFirstUptoRow.holds Try.pinned (OpenSpec.upto fnRuleFirstSpec)

/-- 'laws.FnExactEffective', WHERE WHAT IT READS IS OF BULK AT MOST 1048576: true; the input reads as it did. -/
def fnExactEffectiveUptoRow : OpenClaim := { program := "ytncciafldmoklaa", sum := "81f88ce4ed3acc7a4c9b95cf379c1a11b0a160a8beb16a66ca4dab14c19326a3", func := "loop.example/g03312/laws.FnExactEffective", spec := "fnExactEffective", apart := false, narrowed := true }
def FnExactEffectiveUptoSaid : Prop := fnExactEffectiveUptoRow.holds Try.pinned (OpenSpec.upto fnExactEffectiveSpec)

/-- 'laws.FnExactFindRule', WHERE WHAT IT READS IS OF BULK AT MOST 1048576: true; the input reads as it did. -/
def fnExactFindRuleUptoRow : OpenClaim := { program := "ytncciafldmoklaa", sum := "81f88ce4ed3acc7a4c9b95cf379c1a11b0a160a8beb16a66ca4dab14c19326a3", func := "loop.example/g03312/laws.FnExactFindRule", spec := "fnExactFindRule", apart := false, narrowed := true }
def FnExactFindRuleUptoSaid : Prop := fnExactFindRuleUptoRow.holds Try.pinned (OpenSpec.upto fnExactFindRuleSpec)

/-- 'laws.FnRulesHidden', WHERE WHAT IT READS IS OF BULK AT MOST 1048576: true; the input reads as it did. -/
def fnRulesHiddenUptoRow : OpenClaim := { program := "ytncciafldmoklaa", sum := "81f88ce4ed3acc7a4c9b95cf379c1a11b0a160a8beb16a66ca4dab14c19326a3", func := "loop.example/g03312/laws.FnRulesHidden", spec := "fnRulesHidden", apart := false, narrowed := true }
def FnRulesHiddenUptoSaid : Prop := fnRulesHiddenUptoRow.holds Try.pinned (OpenSpec.upto fnRulesHiddenSpec)

/-- 'laws.FnExactSteeringOk', WHERE WHAT IT READS IS OF BULK AT MOST 1048576: true; the input reads as it did. -/
def fnExactSteeringOkUptoRow : OpenClaim := { program := "ytncciafldmoklaa", sum := "81f88ce4ed3acc7a4c9b95cf379c1a11b0a160a8beb16a66ca4dab14c19326a3", func := "loop.example/g03312/laws.FnExactSteeringOk", spec := "fnExactSteeringOk", apart := false, narrowed := true }
def FnExactSteeringOkUptoSaid : Prop := fnExactSteeringOkUptoRow.holds Try.pinned (OpenSpec.upto fnExactSteeringOkSpec)

end Rows
end Go.Proofs.Ytncciafldmoklaa
