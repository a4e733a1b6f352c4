/-
  No cell of these rows narrows 'for every input' (looked for: loops, veiled, ifaces, maps, wideKeys, modest, calm, conditions, laid).
  DERIVED. THE GIVEN ROWS OF THIS SEAT. 16 by the template 'for every input the law returns true; each argument reads behind the call as it read before'; 0 by the template 'total and deterministic' (their statements: YtlhngkkablhpdaaTotals.lean).
  GIVEN WITH THE SEED: the statements are not yours to turn. If you find one false, say at which input.
  Laid BY PROGRAM, IN A SANDBOX (cutbox-rows.mjs): the forced cells as the released guide's own fill.sh prints them over the translation 73377265a5832316… (all of the seat's roots in one cut). By AI agents, Wed Nov 11 2026. No macro, syntax, notation, axiom, sorry.
-/
import Derived.Test.YtlhngkkablhpdaaChecked
import GoSem.Claim
import GoSem.ClaimJoined
import GoSem.ClaimMapViews
import Derived.JoinedTies
import Derived.KernelRfl
namespace Go.Proofs.Ytlhngkkablhpdaa
/- THE CELL 'sum', in the pinned program and in every row, IS THE sha256 OF THE DUMP (.gsa) THAT YtlhngkkablhpdaaProg.lean LOADS. Nothing in Lean hashes anything: it is a label: what it is worth is what the hold of that sum in a sandbox is worth. -/
noncomputable def Try.pinned : Pinned := { name := "ytlhngkkablhpdaa", sum := "73377265a5832316793f2ee99177e0e0b0d47da8e77bbbd63ca9d5466e7da25f", checked := Try.checked }
namespace Rows
def none {H : Type} : Left H := { results := [], args := [] }

/-- 'laws.FnExactXorBytes': WHATEVER THE INPUT: true; the input reads as it did. -/
def fnExactXorBytesSpec : ChangeSpec := { name := "fnExactXorBytes", fn := fun _ => fun
  | [d1, d2] => { results := [.lit (.bool true)], args := [d1, d2] }
  | _ => none }
def fnExactXorBytesRow : OpenClaim := { program := "ytlhngkkablhpdaa", sum := "73377265a5832316793f2ee99177e0e0b0d47da8e77bbbd63ca9d5466e7da25f", func := "loop.example/g03312/laws.FnExactXorBytes", spec := "fnExactXorBytes", apart := false }
def FnExactXorBytesSaid : Prop := fnExactXorBytesRow.holds Try.pinned (OpenSpec.ofChange fnExactXorBytesSpec)

/-- ITS FALSE NEIGHBOUR: 'it returns false'. Refute it at one input. -/
def fnExactXorBytesWrong : ChangeSpec := { name := "fnExactXorBytes", fn := fun _ => fun
  | [d1, d2] => { results := [.lit (.bool false)], args := [d1, d2] }
  | _ => none }
def FnExactXorBytesWrongFalsely : Prop := fnExactXorBytesRow.holds Try.pinned (OpenSpec.ofChange fnExactXorBytesWrong)

/-- 'laws.FnExactRepeatedKey': WHATEVER THE INPUT: true; the input reads as it did. -/
def fnExactRepeatedKeySpec : ChangeSpec := { name := "fnExactRepeatedKey", fn := fun _ => fun
  | [d1, d2] => { results := [.lit (.bool true)], args := [d1, d2] }
  | _ => none }
def fnExactRepeatedKeyRow : OpenClaim := { program := "ytlhngkkablhpdaa", sum := "73377265a5832316793f2ee99177e0e0b0d47da8e77bbbd63ca9d5466e7da25f", func := "loop.example/g03312/laws.FnExactRepeatedKey", spec := "fnExactRepeatedKey", apart := false }
def FnExactRepeatedKeySaid : Prop := fnExactRepeatedKeyRow.holds Try.pinned (OpenSpec.ofChange fnExactRepeatedKeySpec)

/-- ITS FALSE NEIGHBOUR: 'it returns false'. Refute it at one input. -/
def fnExactRepeatedKeyWrong : ChangeSpec := { name := "fnExactRepeatedKey", fn := fun _ => fun
  | [d1, d2] => { results := [.lit (.bool false)], args := [d1, d2] }
  | _ => none }
def FnExactRepeatedKeyWrongFalsely : Prop := fnExactRepeatedKeyRow.holds Try.pinned (OpenSpec.ofChange fnExactRepeatedKeyWrong)

/-- 'laws.FnExactKeyWindow': WHATEVER THE INPUT: true; the input reads as it did. -/
def fnExactKeyWindowSpec : ChangeSpec := { name := "fnExactKeyWindow", fn := fun _ => fun
  | [d1, d2] => { results := [.lit (.bool true)], args := [d1, d2] }
  | _ => none }
def fnExactKeyWindowRow : OpenClaim := { program := "ytlhngkkablhpdaa", sum := "73377265a5832316793f2ee99177e0e0b0d47da8e77bbbd63ca9d5466e7da25f", func := "loop.example/g03312/laws.FnExactKeyWindow", spec := "fnExactKeyWindow", apart := false }
def FnExactKeyWindowSaid : Prop := fnExactKeyWindowRow.holds Try.pinned (OpenSpec.ofChange fnExactKeyWindowSpec)

/-- ITS FALSE NEIGHBOUR: 'it returns false'. Refute it at one input. -/
def fnExactKeyWindowWrong : ChangeSpec := { name := "fnExactKeyWindow", fn := fun _ => fun
  | [d1, d2] => { results := [.lit (.bool false)], args := [d1, d2] }
  | _ => none }
def FnExactKeyWindowWrongFalsely : Prop := fnExactKeyWindowRow.holds Try.pinned (OpenSpec.ofChange fnExactKeyWindowWrong)

/-- 'laws.FnExactReversed': WHATEVER THE INPUT: true; the input reads as it did. -/
def fnExactReversedSpec : ChangeSpec := { name := "fnExactReversed", fn := fun _ => fun
  | [d] => { results := [.lit (.bool true)], args := [d] }
  | _ => none }
def fnExactReversedRow : OpenClaim := { program := "ytlhngkkablhpdaa", sum := "73377265a5832316793f2ee99177e0e0b0d47da8e77bbbd63ca9d5466e7da25f", func := "loop.example/g03312/laws.FnExactReversed", spec := "fnExactReversed", apart := false }
def FnExactReversedSaid : Prop := fnExactReversedRow.holds Try.pinned (OpenSpec.ofChange fnExactReversedSpec)

/-- ITS FALSE NEIGHBOUR: 'it returns false'. Refute it at one input. -/
def fnExactReversedWrong : ChangeSpec := { name := "fnExactReversed", fn := fun _ => fun
  | [d] => { results := [.lit (.bool false)], args := [d] }
  | _ => none }
def FnExactReversedWrongFalsely : Prop := fnExactReversedRow.holds Try.pinned (OpenSpec.ofChange fnExactReversedWrong)

/-- 'laws.FnExactHashInput': WHATEVER THE INPUT: true; the input reads as it did. -/
def fnExactHashInputSpec : ChangeSpec := { name := "fnExactHashInput", fn := fun _ => fun
  | [d] => { results := [.lit (.bool true)], args := [d] }
  | _ => none }
def fnExactHashInputRow : OpenClaim := { program := "ytlhngkkablhpdaa", sum := "73377265a5832316793f2ee99177e0e0b0d47da8e77bbbd63ca9d5466e7da25f", func := "loop.example/g03312/laws.FnExactHashInput", spec := "fnExactHashInput", apart := false }
def FnExactHashInputSaid : Prop := fnExactHashInputRow.holds Try.pinned (OpenSpec.ofChange fnExactHashInputSpec)

/-- ITS FALSE NEIGHBOUR: 'it returns false'. Refute it at one input. -/
def fnExactHashInputWrong : ChangeSpec := { name := "fnExactHashInput", fn := fun _ => fun
  | [d] => { results := [.lit (.bool false)], args := [d] }
  | _ => none }
def FnExactHashInputWrongFalsely : Prop := fnExactHashInputRow.holds Try.pinned (OpenSpec.ofChange fnExactHashInputWrong)

/-- 'laws.FnExactHashBytes': WHATEVER THE INPUT: true; the input reads as it did. -/
def fnExactHashBytesSpec : ChangeSpec := { name := "fnExactHashBytes", fn := fun _ => fun
  | [d1, d2] => { results := [.lit (.bool true)], args := [d1, d2] }
  | _ => none }
def fnExactHashBytesRow : OpenClaim := { program := "ytlhngkkablhpdaa", sum := "73377265a5832316793f2ee99177e0e0b0d47da8e77bbbd63ca9d5466e7da25f", func := "loop.example/g03312/laws.FnExactHashBytes", spec := "fnExactHashBytes", apart := false }
def FnExactHashBytesSaid : Prop := fnExactHashBytesRow.holds Try.pinned (OpenSpec.ofChange fnExactHashBytesSpec)

/-- ITS FALSE NEIGHBOUR: 'it returns false'. Refute it at one input. -/
def fnExactHashBytesWrong : ChangeSpec := { name := "fnExactHashBytes", fn := fun _ => fun
  | [d1, d2] => { results := [.lit (.bool false)], args := [d1, d2] }
  | _ => none }
def FnExactHashBytesWrongFalsely : Prop := fnExactHashBytesRow.holds Try.pinned (OpenSpec.ofChange fnExactHashBytesWrong)

/-- 'laws.FnExactEvenTable': WHATEVER THE INPUT: true; the input reads as it did. -/
def fnExactEvenTableSpec : ChangeSpec := { name := "fnExactEvenTable", fn := fun _ => fun
  | [d1, d2] => { results := [.lit (.bool true)], args := [d1, d2] }
  | _ => none }
def fnExactEvenTableRow : OpenClaim := { program := "ytlhngkkablhpdaa", sum := "73377265a5832316793f2ee99177e0e0b0d47da8e77bbbd63ca9d5466e7da25f", func := "loop.example/g03312/laws.FnExactEvenTable", spec := "fnExactEvenTable", apart := false }
def FnExactEvenTableSaid : Prop := fnExactEvenTableRow.holds Try.pinned (OpenSpec.ofChange fnExactEvenTableSpec)

/-- ITS FALSE NEIGHBOUR: 'it returns false'. Refute it at one input. -/
def fnExactEvenTableWrong : ChangeSpec := { name := "fnExactEvenTable", fn := fun _ => fun
  | [d1, d2] => { results := [.lit (.bool false)], args := [d1, d2] }
  | _ => none }
def FnExactEvenTableWrongFalsely : Prop := fnExactEvenTableRow.holds Try.pinned (OpenSpec.ofChange fnExactEvenTableWrong)

/-- 'laws.FnExactSpreadOk': WHATEVER THE INPUT: true; the input reads as it did. -/
def fnExactSpreadOkSpec : ChangeSpec := { name := "fnExactSpreadOk", fn := fun _ => fun
  | [d1, d2] => { results := [.lit (.bool true)], args := [d1, d2] }
  | _ => none }
def fnExactSpreadOkRow : OpenClaim := { program := "ytlhngkkablhpdaa", sum := "73377265a5832316793f2ee99177e0e0b0d47da8e77bbbd63ca9d5466e7da25f", func := "loop.example/g03312/laws.FnExactSpreadOk", spec := "fnExactSpreadOk", apart := false }
def FnExactSpreadOkSaid : Prop := fnExactSpreadOkRow.holds Try.pinned (OpenSpec.ofChange fnExactSpreadOkSpec)

/-- ITS FALSE NEIGHBOUR: 'it returns false'. Refute it at one input. -/
def fnExactSpreadOkWrong : ChangeSpec := { name := "fnExactSpreadOk", fn := fun _ => fun
  | [d1, d2] => { results := [.lit (.bool false)], args := [d1, d2] }
  | _ => none }
def FnExactSpreadOkWrongFalsely : Prop := fnExactSpreadOkRow.holds Try.pinned (OpenSpec.ofChange fnExactSpreadOkWrong)

/-- 'laws.FnExactHashFlow': WHATEVER THE INPUT: true; the input reads as it did. -/
def fnExactHashFlowSpec : ChangeSpec := { name := "fnExactHashFlow", fn := fun _ => fun
  | [d1, d2] => { results := [.lit (.bool true)], args := [d1, d2] }
  | _ => none }
def fnExactHashFlowRow : OpenClaim := { program := "ytlhngkkablhpdaa", sum := "73377265a5832316793f2ee99177e0e0b0d47da8e77bbbd63ca9d5466e7da25f", func := "loop.example/g03312/laws.FnExactHashFlow", spec := "fnExactHashFlow", apart := false }
def FnExactHashFlowSaid : Prop := fnExactHashFlowRow.holds Try.pinned (OpenSpec.ofChange fnExactHashFlowSpec)

/-- ITS FALSE NEIGHBOUR: 'it returns false'. Refute it at one input. -/
def fnExactHashFlowWrong : ChangeSpec := { name := "fnExactHashFlow", fn := fun _ => fun
  | [d1, d2] => { results := [.lit (.bool false)], args := [d1, d2] }
  | _ => none }
def FnExactHashFlowWrongFalsely : Prop := fnExactHashFlowRow.holds Try.pinned (OpenSpec.ofChange fnExactHashFlowWrong)

/-- 'laws.FnExactRetarget': WHATEVER THE INPUT: true; the input reads as it did. -/
def fnExactRetargetSpec : ChangeSpec := { name := "fnExactRetarget", fn := fun _ => fun
  | [d1, d2, d3] => { results := [.lit (.bool true)], args := [d1, d2, d3] }
  | _ => none }
def fnExactRetargetRow : OpenClaim := { program := "ytlhngkkablhpdaa", sum := "73377265a5832316793f2ee99177e0e0b0d47da8e77bbbd63ca9d5466e7da25f", func := "loop.example/g03312/laws.FnExactRetarget", spec := "fnExactRetarget", apart := false }
def FnExactRetargetSaid : Prop := fnExactRetargetRow.holds Try.pinned (OpenSpec.ofChange fnExactRetargetSpec)

/-- ITS FALSE NEIGHBOUR: 'it returns false'. Refute it at one input. -/
def fnExactRetargetWrong : ChangeSpec := { name := "fnExactRetarget", fn := fun _ => fun
  | [d1, d2, d3] => { results := [.lit (.bool false)], args := [d1, d2, d3] }
  | _ => none }
def FnExactRetargetWrongFalsely : Prop := fnExactRetargetRow.holds Try.pinned (OpenSpec.ofChange fnExactRetargetWrong)

/-- 'laws.FnHashLinear': WHATEVER THE INPUT: true; the input reads as it did. -/
def fnHashLinearSpec : ChangeSpec := { name := "fnHashLinear", fn := fun _ => fun
  | [d] => { results := [.lit (.bool true)], args := [d] }
  | _ => none }
def fnHashLinearRow : OpenClaim := { program := "ytlhngkkablhpdaa", sum := "73377265a5832316793f2ee99177e0e0b0d47da8e77bbbd63ca9d5466e7da25f", func := "loop.example/g03312/laws.FnHashLinear", spec := "fnHashLinear", apart := false }
def FnHashLinearSaid : Prop := fnHashLinearRow.holds Try.pinned (OpenSpec.ofChange fnHashLinearSpec)

/-- ITS FALSE NEIGHBOUR: 'it returns false'. Refute it at one input. -/
def fnHashLinearWrong : ChangeSpec := { name := "fnHashLinear", fn := fun _ => fun
  | [d] => { results := [.lit (.bool false)], args := [d] }
  | _ => none }
def FnHashLinearWrongFalsely : Prop := fnHashLinearRow.holds Try.pinned (OpenSpec.ofChange fnHashLinearWrong)

/-- 'laws.FnHashSymmetric': WHATEVER THE INPUT: true; the input reads as it did. -/
def fnHashSymmetricSpec : ChangeSpec := { name := "fnHashSymmetric", fn := fun _ => fun
  | [d] => { results := [.lit (.bool true)], args := [d] }
  | _ => none }
def fnHashSymmetricRow : OpenClaim := { program := "ytlhngkkablhpdaa", sum := "73377265a5832316793f2ee99177e0e0b0d47da8e77bbbd63ca9d5466e7da25f", func := "loop.example/g03312/laws.FnHashSymmetric", spec := "fnHashSymmetric", apart := false }
def FnHashSymmetricSaid : Prop := fnHashSymmetricRow.holds Try.pinned (OpenSpec.ofChange fnHashSymmetricSpec)

/-- ITS FALSE NEIGHBOUR: 'it returns false'. Refute it at one input. -/
def fnHashSymmetricWrong : ChangeSpec := { name := "fnHashSymmetric", fn := fun _ => fun
  | [d] => { results := [.lit (.bool false)], args := [d] }
  | _ => none }
def FnHashSymmetricWrongFalsely : Prop := fnHashSymmetricRow.holds Try.pinned (OpenSpec.ofChange fnHashSymmetricWrong)

/-- 'laws.FnExactEntryOf': WHATEVER THE INPUT: true; the input reads as it did. -/
def fnExactEntryOfSpec : ChangeSpec := { name := "fnExactEntryOf", fn := fun _ => fun
  | [d1, d2] => { results := [.lit (.bool true)], args := [d1, d2] }
  | _ => none }
def fnExactEntryOfRow : OpenClaim := { program := "ytlhngkkablhpdaa", sum := "73377265a5832316793f2ee99177e0e0b0d47da8e77bbbd63ca9d5466e7da25f", func := "loop.example/g03312/laws.FnExactEntryOf", spec := "fnExactEntryOf", apart := false }
def FnExactEntryOfSaid : Prop := fnExactEntryOfRow.holds Try.pinned (OpenSpec.ofChange fnExactEntryOfSpec)

/-- ITS FALSE NEIGHBOUR: 'it returns false'. Refute it at one input. -/
def fnExactEntryOfWrong : ChangeSpec := { name := "fnExactEntryOf", fn := fun _ => fun
  | [d1, d2] => { results := [.lit (.bool false)], args := [d1, d2] }
  | _ => none }
def FnExactEntryOfWrongFalsely : Prop := fnExactEntryOfRow.holds Try.pinned (OpenSpec.ofChange fnExactEntryOfWrong)

/-- 'laws.FnExactSpreadQueue': WHATEVER THE INPUT: true; the input reads as it did. -/
def fnExactSpreadQueueSpec : ChangeSpec := { name := "fnExactSpreadQueue", fn := fun _ => fun
  | [d1, d2, d3] => { results := [.lit (.bool true)], args := [d1, d2, d3] }
  | _ => none }
def fnExactSpreadQueueRow : OpenClaim := { program := "ytlhngkkablhpdaa", sum := "73377265a5832316793f2ee99177e0e0b0d47da8e77bbbd63ca9d5466e7da25f", func := "loop.example/g03312/laws.FnExactSpreadQueue", spec := "fnExactSpreadQueue", apart := false }
def FnExactSpreadQueueSaid : Prop := fnExactSpreadQueueRow.holds Try.pinned (OpenSpec.ofChange fnExactSpreadQueueSpec)

/-- ITS FALSE NEIGHBOUR: 'it returns false'. Refute it at one input. -/
def fnExactSpreadQueueWrong : ChangeSpec := { name := "fnExactSpreadQueue", fn := fun _ => fun
  | [d1, d2, d3] => { results := [.lit (.bool false)], args := [d1, d2, d3] }
  | _ => none }
def FnExactSpreadQueueWrongFalsely : Prop := fnExactSpreadQueueRow.holds Try.pinned (OpenSpec.ofChange fnExactSpreadQueueWrong)

/-- 'laws.FnRetargeted': WHATEVER THE INPUT: true; the input reads as it did. -/
def fnRetargetedSpec : ChangeSpec := { name := "fnRetargeted", fn := fun _ => fun
  | [d] => { results := [.lit (.bool true)], args := [d] }
  | _ => none }
def fnRetargetedRow : OpenClaim := { program := "ytlhngkkablhpdaa", sum := "73377265a5832316793f2ee99177e0e0b0d47da8e77bbbd63ca9d5466e7da25f", func := "loop.example/g03312/laws.FnRetargeted", spec := "fnRetargeted", apart := false }
def FnRetargetedSaid : Prop := fnRetargetedRow.holds Try.pinned (OpenSpec.ofChange fnRetargetedSpec)

/-- ITS FALSE NEIGHBOUR: 'it returns false'. Refute it at one input. -/
def fnRetargetedWrong : ChangeSpec := { name := "fnRetargeted", fn := fun _ => fun
  | [d] => { results := [.lit (.bool false)], args := [d] }
  | _ => none }
def FnRetargetedWrongFalsely : Prop := fnRetargetedRow.holds Try.pinned (OpenSpec.ofChange fnRetargetedWrong)

/-- 'laws.FnExactQueueLoads': WHATEVER THE INPUT: true; the input reads as it did. -/
def fnExactQueueLoadsSpec : ChangeSpec := { name := "fnExactQueueLoads", fn := fun _ => fun
  | [d1, d2, d3] => { results := [.lit (.bool true)], args := [d1, d2, d3] }
  | _ => none }
def fnExactQueueLoadsRow : OpenClaim := { program := "ytlhngkkablhpdaa", sum := "73377265a5832316793f2ee99177e0e0b0d47da8e77bbbd63ca9d5466e7da25f", func := "loop.example/g03312/laws.FnExactQueueLoads", spec := "fnExactQueueLoads", apart := false }
def FnExactQueueLoadsSaid : Prop := fnExactQueueLoadsRow.holds Try.pinned (OpenSpec.ofChange fnExactQueueLoadsSpec)

/-- ITS FALSE NEIGHBOUR: 'it returns false'. Refute it at one input. -/
def fnExactQueueLoadsWrong : ChangeSpec := { name := "fnExactQueueLoads", fn := fun _ => fun
  | [d1, d2, d3] => { results := [.lit (.bool false)], args := [d1, d2, d3] }
  | _ => none }
def FnExactQueueLoadsWrongFalsely : Prop := fnExactQueueLoadsRow.holds Try.pinned (OpenSpec.ofChange fnExactQueueLoadsWrong)

/- THE SECOND FORM. 'bulk': how many values and letters a reading holds, each counted each time it is reached (what is shared counts as often as it is met; a slice's spare places count too). A statement '..UptoSaid' is the law's where the arguments, and the package variables that the reading takes, are together of bulk at most 1048576: NARROWER than '..Said'. Prove '..Said' where nothing that the law and all that it calls make is longer than what came in: it says more and counts as full. Else prove '..UptoSaid'. A law counts once. -/
mutual
def uptoBulk {H : Type} : DataW H → Nat
  | .lit (.string bytes) => bytes.length + 1
  | .lit _ => 1
  | .nil => 1
  | .ptr d => uptoBulk d + 1
  | .slice elems spare => uptoBulkAll elems + uptoBulkAll spare + 1
  | .agg parts => uptoBulkAll parts + 1
  | .iface _ d => uptoBulk d + 1
  | .map entries => uptoBulkEntries entries + 1
  | .held _ => 1
def uptoBulkAll {H : Type} : List (DataW H) → Nat
  | [] => 0
  | d :: r => uptoBulk d + uptoBulkAll r
def uptoBulkEntries {H : Type} : List (Lit × DataW H) → Nat
  | [] => 0
  | x :: r => uptoBulkEntry x + uptoBulkEntries r
def uptoBulkEntry {H : Type} : Lit × DataW H → Nat
  | (.string bytes, d) => bytes.length + uptoBulk d + 1
  | (_, d) => uptoBulk d + 1
 end
def uptoSmall : (H : Type) → List (DataW H) → Bool := fun _ ds => decide (uptoBulkAll ds ≤ 1048576)
def OpenSpec.upto (s : _root_.Go.ChangeSpec) : _root_.Go.OpenSpec := { _root_.Go.OpenSpec.ofChange s with cond := some uptoSmall }

/-- 'laws.FnExactXorBytes', WHERE WHAT IT READS IS OF BULK AT MOST 1048576: true; the input reads as it did. -/
def fnExactXorBytesUptoRow : OpenClaim := { program := "ytlhngkkablhpdaa", sum := "73377265a5832316793f2ee99177e0e0b0d47da8e77bbbd63ca9d5466e7da25f", func := "loop.example/g03312/laws.FnExactXorBytes", spec := "fnExactXorBytes", apart := false, narrowed := true }
def FnExactXorBytesUptoSaid : Prop := fnExactXorBytesUptoRow.holds Try.pinned (OpenSpec.upto fnExactXorBytesSpec)

/-- 'laws.FnExactRepeatedKey', WHERE WHAT IT READS IS OF BULK AT MOST 1048576: true; the input reads as it did. -/
def fnExactRepeatedKeyUptoRow : OpenClaim := { program := "ytlhngkkablhpdaa", sum := "73377265a5832316793f2ee99177e0e0b0d47da8e77bbbd63ca9d5466e7da25f", func := "loop.example/g03312/laws.FnExactRepeatedKey", spec := "fnExactRepeatedKey", apart := false, narrowed := true }
def FnExactRepeatedKeyUptoSaid : Prop := fnExactRepeatedKeyUptoRow.holds Try.pinned (OpenSpec.upto fnExactRepeatedKeySpec)

/-- 'laws.FnExactKeyWindow', WHERE WHAT IT READS IS OF BULK AT MOST 1048576: true; the input reads as it did. -/
def fnExactKeyWindowUptoRow : OpenClaim := { program := "ytlhngkkablhpdaa", sum := "73377265a5832316793f2ee99177e0e0b0d47da8e77bbbd63ca9d5466e7da25f", func := "loop.example/g03312/laws.FnExactKeyWindow", spec := "fnExactKeyWindow", apart := false, narrowed := true }
def FnExactKeyWindowUptoSaid : Prop := fnExactKeyWindowUptoRow.holds Try.pinned (OpenSpec.upto fnExactKeyWindowSpec)

/-- 'laws.FnExactReversed', WHERE WHAT IT READS IS OF BULK AT MOST 1048576: true; the input reads as it did. -/
def fnExactReversedUptoRow : OpenClaim := { program := "ytlhngkkablhpdaa", sum := "73377265a5832316793f2ee99177e0e0b0d47da8e77bbbd63ca9d5466e7da25f", func := "loop.example/g03312/laws.FnExactReversed", spec := "fnExactReversed", apart := false, narrowed := true }
def FnExactReversedUptoSaid : Prop := fnExactReversedUptoRow.holds Try.pinned (OpenSpec.upto fnExactReversedSpec)

/-- 'laws.FnExactHashInput', WHERE WHAT IT READS IS OF BULK AT MOST 1048576: true; the input reads as it did. -/
def fnExactHashInputUptoRow : OpenClaim := { program := "ytlhngkkablhpdaa", sum := "73377265a5832316793f2ee99177e0e0b0d47da8e77bbbd63ca9d5466e7da25f", func := "loop.example/g03312/laws.FnExactHashInput", spec := "fnExactHashInput", apart := false, narrowed := true }
def FnExactHashInputUptoSaid : Prop := fnExactHashInputUptoRow.holds Try.pinned (OpenSpec.upto fnExactHashInputSpec)

/-- 'laws.FnExactHashBytes', WHERE WHAT IT READS IS OF BULK AT MOST 1048576: true; the input reads as it did. -/
def fnExactHashBytesUptoRow : OpenClaim := { program := "ytlhngkkablhpdaa", sum := "73377265a5832316793f2ee99177e0e0b0d47da8e77bbbd63ca9d5466e7da25f", func := "loop.example/g03312/laws.FnExactHashBytes", spec := "fnExactHashBytes", apart := false, narrowed := true }
def FnExactHashBytesUptoSaid : Prop := fnExactHashBytesUptoRow.holds Try.pinned (OpenSpec.upto fnExactHashBytesSpec)

/-- 'laws.FnExactEvenTable', WHERE WHAT IT READS IS OF BULK AT MOST 1048576: true; the input reads as it did. -/
def fnExactEvenTableUptoRow : OpenClaim := { program := "ytlhngkkablhpdaa", sum := "73377265a5832316793f2ee99177e0e0b0d47da8e77bbbd63ca9d5466e7da25f", func := "loop.example/g03312/laws.FnExactEvenTable", spec := "fnExactEvenTable", apart := false, narrowed := true }
def FnExactEvenTableUptoSaid : Prop := fnExactEvenTableUptoRow.holds Try.pinned (OpenSpec.upto fnExactEvenTableSpec)

/-- 'laws.FnExactSpreadOk', WHERE WHAT IT READS IS OF BULK AT MOST 1048576: true; the input reads as it did. -/
def fnExactSpreadOkUptoRow : OpenClaim := { program := "ytlhngkkablhpdaa", sum := "73377265a5832316793f2ee99177e0e0b0d47da8e77bbbd63ca9d5466e7da25f", func := "loop.example/g03312/laws.FnExactSpreadOk", spec := "fnExactSpreadOk", apart := false, narrowed := true }
def FnExactSpreadOkUptoSaid : Prop := fnExactSpreadOkUptoRow.holds Try.pinned (OpenSpec.upto fnExactSpreadOkSpec)

/-- 'laws.FnExactHashFlow', WHERE WHAT IT READS IS OF BULK AT MOST 1048576: true; the input reads as it did. -/
def fnExactHashFlowUptoRow : OpenClaim := { program := "ytlhngkkablhpdaa", sum := "73377265a5832316793f2ee99177e0e0b0d47da8e77bbbd63ca9d5466e7da25f", func := "loop.example/g03312/laws.FnExactHashFlow", spec := "fnExactHashFlow", apart := false, narrowed := true }
def FnExactHashFlowUptoSaid : Prop := fnExactHashFlowUptoRow.holds Try.pinned (OpenSpec.upto fnExactHashFlowSpec)

/-- 'laws.FnExactRetarget', WHERE WHAT IT READS IS OF BULK AT MOST 1048576: true; the input reads as it did. -/
def fnExactRetargetUptoRow : OpenClaim := { program := "ytlhngkkablhpdaa", sum := "73377265a5832316793f2ee99177e0e0b0d47da8e77bbbd63ca9d5466e7da25f", func := "loop.example/g03312/laws.FnExactRetarget", spec := "fnExactRetarget", apart := false, narrowed := true }
def FnExactRetargetUptoSaid : Prop := fnExactRetargetUptoRow.holds Try.pinned (OpenSpec.upto fnExactRetargetSpec)

/-- 'laws.FnHashLinear', WHERE WHAT IT READS IS OF BULK AT MOST 1048576: true; the input reads as it did. -/
def fnHashLinearUptoRow : OpenClaim := { program := "ytlhngkkablhpdaa", sum := "73377265a5832316793f2ee99177e0e0b0d47da8e77bbbd63ca9d5466e7da25f", func := "loop.example/g03312/laws.FnHashLinear", spec := "fnHashLinear", apart := false, narrowed := true }
def FnHashLinearUptoSaid : Prop := fnHashLinearUptoRow.holds Try.pinned (OpenSpec.upto fnHashLinearSpec)

/-- 'laws.FnHashSymmetric', WHERE WHAT IT READS IS OF BULK AT MOST 1048576: true; the input reads as it did. -/
def fnHashSymmetricUptoRow : OpenClaim := { program := "ytlhngkkablhpdaa", sum := "73377265a5832316793f2ee99177e0e0b0d47da8e77bbbd63ca9d5466e7da25f", func := "loop.example/g03312/laws.FnHashSymmetric", spec := "fnHashSymmetric", apart := false, narrowed := true }
def FnHashSymmetricUptoSaid : Prop := fnHashSymmetricUptoRow.holds Try.pinned (OpenSpec.upto fnHashSymmetricSpec)

/-- 'laws.FnExactEntryOf', WHERE WHAT IT READS IS OF BULK AT MOST 1048576: true; the input reads as it did. -/
def fnExactEntryOfUptoRow : OpenClaim := { program := "ytlhngkkablhpdaa", sum := "73377265a5832316793f2ee99177e0e0b0d47da8e77bbbd63ca9d5466e7da25f", func := "loop.example/g03312/laws.FnExactEntryOf", spec := "fnExactEntryOf", apart := false, narrowed := true }
def FnExactEntryOfUptoSaid : Prop := fnExactEntryOfUptoRow.holds Try.pinned (OpenSpec.upto fnExactEntryOfSpec)

/-- 'laws.FnExactSpreadQueue', WHERE WHAT IT READS IS OF BULK AT MOST 1048576: true; the input reads as it did. -/
def fnExactSpreadQueueUptoRow : OpenClaim := { program := "ytlhngkkablhpdaa", sum := "73377265a5832316793f2ee99177e0e0b0d47da8e77bbbd63ca9d5466e7da25f", func := "loop.example/g03312/laws.FnExactSpreadQueue", spec := "fnExactSpreadQueue", apart := false, narrowed := true }
def FnExactSpreadQueueUptoSaid : Prop := fnExactSpreadQueueUptoRow.holds Try.pinned (OpenSpec.upto fnExactSpreadQueueSpec)

/-- 'laws.FnRetargeted', WHERE WHAT IT READS IS OF BULK AT MOST 1048576: true; the input reads as it did. -/
def fnRetargetedUptoRow : OpenClaim := { program := "ytlhngkkablhpdaa", sum := "73377265a5832316793f2ee99177e0e0b0d47da8e77bbbd63ca9d5466e7da25f", func := "loop.example/g03312/laws.FnRetargeted", spec := "fnRetargeted", apart := false, narrowed := true }
def FnRetargetedUptoSaid : Prop := fnRetargetedUptoRow.holds Try.pinned (OpenSpec.upto fnRetargetedSpec)

/-- 'laws.FnExactQueueLoads', WHERE WHAT IT READS IS OF BULK AT MOST 1048576: true; the input reads as it did. -/
def fnExactQueueLoadsUptoRow : OpenClaim := { program := "ytlhngkkablhpdaa", sum := "73377265a5832316793f2ee99177e0e0b0d47da8e77bbbd63ca9d5466e7da25f", func := "loop.example/g03312/laws.FnExactQueueLoads", spec := "fnExactQueueLoads", apart := false, narrowed := true }
def FnExactQueueLoadsUptoSaid : Prop := fnExactQueueLoadsUptoRow.holds Try.pinned (OpenSpec.upto fnExactQueueLoadsSpec)

end Rows
end Go.Proofs.Ytlhngkkablhpdaa
