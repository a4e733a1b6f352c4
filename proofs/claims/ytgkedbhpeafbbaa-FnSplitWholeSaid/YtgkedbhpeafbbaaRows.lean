/-
  No cell of these rows narrows 'for every input' (looked for: loops, veiled, ifaces, maps, wideKeys, modest, calm, conditions, laid).
  DERIVED. THE GIVEN ROWS OF THIS SEAT. 21 by the template 'for every input the law returns true; each argument reads behind the call as it read before'; 0 by the template 'total and deterministic' (their statements: YtgkedbhpeafbbaaTotals.lean).
  GIVEN WITH THE SEED: the statements are not yours to turn. If you find one false, say at which input.
  Laid BY PROGRAM, IN A SANDBOX (cutbox-rows.mjs): the forced cells as the released guide's own fill.sh prints them over the translation da5107de6ab7c3bb… (all of the seat's roots in one cut). By AI agents, Wed Nov 11 2026. No macro, syntax, notation, axiom, sorry.
-/
import Derived.Test.YtgkedbhpeafbbaaChecked
import GoSem.Claim
import GoSem.ClaimJoined
import GoSem.ClaimMapViews
import Derived.JoinedTies
import Derived.KernelRfl
namespace Go.Proofs.Ytgkedbhpeafbbaa
/- THE CELL 'sum', in the pinned program and in every row, IS THE sha256 OF THE DUMP (.gsa) THAT YtgkedbhpeafbbaaProg.lean LOADS. Nothing in Lean hashes anything: it is a label: what it is worth is what the hold of that sum in a sandbox is worth. -/
noncomputable def Try.pinned : Pinned := { name := "ytgkedbhpeafbbaa", sum := "da5107de6ab7c3bb1d1f52367fd0885e3e94b866be0795933e562198280fb2e8", checked := Try.checked }
namespace Rows
def none {H : Type} : Left H := { results := [], args := [] }

/-- 'laws.FnCoalesceLossless': WHATEVER THE INPUT: true; the input reads as it did. -/
def fnCoalesceLosslessSpec : ChangeSpec := { name := "fnCoalesceLossless", fn := fun _ => fun
  | [d] => { results := [.lit (.bool true)], args := [d] }
  | _ => none }
def fnCoalesceLosslessRow : OpenClaim := { program := "ytgkedbhpeafbbaa", sum := "da5107de6ab7c3bb1d1f52367fd0885e3e94b866be0795933e562198280fb2e8", func := "loop.example/g03312/laws.FnCoalesceLossless", spec := "fnCoalesceLossless", apart := false }
def FnCoalesceLosslessSaid : Prop := fnCoalesceLosslessRow.holds Try.pinned (OpenSpec.ofChange fnCoalesceLosslessSpec)

/-- ITS FALSE NEIGHBOUR: 'it returns false'. Refute it at one input. -/
def fnCoalesceLosslessWrong : ChangeSpec := { name := "fnCoalesceLossless", fn := fun _ => fun
  | [d] => { results := [.lit (.bool false)], args := [d] }
  | _ => none }
def FnCoalesceLosslessWrongFalsely : Prop := fnCoalesceLosslessRow.holds Try.pinned (OpenSpec.ofChange fnCoalesceLosslessWrong)

/-- 'laws.FnCoalescedStreams': WHATEVER THE INPUT: true; the input reads as it did. -/
def fnCoalescedStreamsSpec : ChangeSpec := { name := "fnCoalescedStreams", fn := fun _ => fun
  | [d] => { results := [.lit (.bool true)], args := [d] }
  | _ => none }
def fnCoalescedStreamsRow : OpenClaim := { program := "ytgkedbhpeafbbaa", sum := "da5107de6ab7c3bb1d1f52367fd0885e3e94b866be0795933e562198280fb2e8", func := "loop.example/g03312/laws.FnCoalescedStreams", spec := "fnCoalescedStreams", apart := false }
def FnCoalescedStreamsSaid : Prop := fnCoalescedStreamsRow.holds Try.pinned (OpenSpec.ofChange fnCoalescedStreamsSpec)

/-- ITS FALSE NEIGHBOUR: 'it returns false'. Refute it at one input. -/
def fnCoalescedStreamsWrong : ChangeSpec := { name := "fnCoalescedStreams", fn := fun _ => fun
  | [d] => { results := [.lit (.bool false)], args := [d] }
  | _ => none }
def FnCoalescedStreamsWrongFalsely : Prop := fnCoalescedStreamsRow.holds Try.pinned (OpenSpec.ofChange fnCoalescedStreamsWrong)

/-- 'laws.FnExactStreamIndex': WHATEVER THE INPUT: true; the input reads as it did. -/
def fnExactStreamIndexSpec : ChangeSpec := { name := "fnExactStreamIndex", fn := fun _ => fun
  | [d1, d2] => { results := [.lit (.bool true)], args := [d1, d2] }
  | _ => none }
def fnExactStreamIndexRow : OpenClaim := { program := "ytgkedbhpeafbbaa", sum := "da5107de6ab7c3bb1d1f52367fd0885e3e94b866be0795933e562198280fb2e8", func := "loop.example/g03312/laws.FnExactStreamIndex", spec := "fnExactStreamIndex", apart := false }
def FnExactStreamIndexSaid : Prop := fnExactStreamIndexRow.holds Try.pinned (OpenSpec.ofChange fnExactStreamIndexSpec)

/-- ITS FALSE NEIGHBOUR: 'it returns false'. Refute it at one input. -/
def fnExactStreamIndexWrong : ChangeSpec := { name := "fnExactStreamIndex", fn := fun _ => fun
  | [d1, d2] => { results := [.lit (.bool false)], args := [d1, d2] }
  | _ => none }
def FnExactStreamIndexWrongFalsely : Prop := fnExactStreamIndexRow.holds Try.pinned (OpenSpec.ofChange fnExactStreamIndexWrong)

/-- 'laws.FnExactSingle': WHATEVER THE INPUT: true; the input reads as it did. -/
def fnExactSingleSpec : ChangeSpec := { name := "fnExactSingle", fn := fun _ => fun
  | [d] => { results := [.lit (.bool true)], args := [d] }
  | _ => none }
def fnExactSingleRow : OpenClaim := { program := "ytgkedbhpeafbbaa", sum := "da5107de6ab7c3bb1d1f52367fd0885e3e94b866be0795933e562198280fb2e8", func := "loop.example/g03312/laws.FnExactSingle", spec := "fnExactSingle", apart := false }
def FnExactSingleSaid : Prop := fnExactSingleRow.holds Try.pinned (OpenSpec.ofChange fnExactSingleSpec)

/-- ITS FALSE NEIGHBOUR: 'it returns false'. Refute it at one input. -/
def fnExactSingleWrong : ChangeSpec := { name := "fnExactSingle", fn := fun _ => fun
  | [d] => { results := [.lit (.bool false)], args := [d] }
  | _ => none }
def FnExactSingleWrongFalsely : Prop := fnExactSingleRow.holds Try.pinned (OpenSpec.ofChange fnExactSingleWrong)

/-- 'laws.FnExactDataOf': WHATEVER THE INPUT: true; the input reads as it did. -/
def fnExactDataOfSpec : ChangeSpec := { name := "fnExactDataOf", fn := fun _ => fun
  | [d1, d2] => { results := [.lit (.bool true)], args := [d1, d2] }
  | _ => none }
def fnExactDataOfRow : OpenClaim := { program := "ytgkedbhpeafbbaa", sum := "da5107de6ab7c3bb1d1f52367fd0885e3e94b866be0795933e562198280fb2e8", func := "loop.example/g03312/laws.FnExactDataOf", spec := "fnExactDataOf", apart := false }
def FnExactDataOfSaid : Prop := fnExactDataOfRow.holds Try.pinned (OpenSpec.ofChange fnExactDataOfSpec)

/-- ITS FALSE NEIGHBOUR: 'it returns false'. Refute it at one input. -/
def fnExactDataOfWrong : ChangeSpec := { name := "fnExactDataOf", fn := fun _ => fun
  | [d1, d2] => { results := [.lit (.bool false)], args := [d1, d2] }
  | _ => none }
def FnExactDataOfWrongFalsely : Prop := fnExactDataOfRow.holds Try.pinned (OpenSpec.ofChange fnExactDataOfWrong)

/-- 'laws.FnExactSplitCount': WHATEVER THE INPUT: true; the input reads as it did. -/
def fnExactSplitCountSpec : ChangeSpec := { name := "fnExactSplitCount", fn := fun _ => fun
  | [d1, d2] => { results := [.lit (.bool true)], args := [d1, d2] }
  | _ => none }
def fnExactSplitCountRow : OpenClaim := { program := "ytgkedbhpeafbbaa", sum := "da5107de6ab7c3bb1d1f52367fd0885e3e94b866be0795933e562198280fb2e8", func := "loop.example/g03312/laws.FnExactSplitCount", spec := "fnExactSplitCount", apart := false }
def FnExactSplitCountSaid : Prop := fnExactSplitCountRow.holds Try.pinned (OpenSpec.ofChange fnExactSplitCountSpec)

/-- ITS FALSE NEIGHBOUR: 'it returns false'. Refute it at one input. -/
def fnExactSplitCountWrong : ChangeSpec := { name := "fnExactSplitCount", fn := fun _ => fun
  | [d1, d2] => { results := [.lit (.bool false)], args := [d1, d2] }
  | _ => none }
def FnExactSplitCountWrongFalsely : Prop := fnExactSplitCountRow.holds Try.pinned (OpenSpec.ofChange fnExactSplitCountWrong)

/-- 'laws.FnExactCanJoin': WHATEVER THE INPUT: true; the input reads as it did. -/
def fnExactCanJoinSpec : ChangeSpec := { name := "fnExactCanJoin", fn := fun _ => fun
  | [d1, d2] => { results := [.lit (.bool true)], args := [d1, d2] }
  | _ => none }
def fnExactCanJoinRow : OpenClaim := { program := "ytgkedbhpeafbbaa", sum := "da5107de6ab7c3bb1d1f52367fd0885e3e94b866be0795933e562198280fb2e8", func := "loop.example/g03312/laws.FnExactCanJoin", spec := "fnExactCanJoin", apart := false }
def FnExactCanJoinSaid : Prop := fnExactCanJoinRow.holds Try.pinned (OpenSpec.ofChange fnExactCanJoinSpec)

/-- ITS FALSE NEIGHBOUR: 'it returns false'. Refute it at one input. -/
def fnExactCanJoinWrong : ChangeSpec := { name := "fnExactCanJoin", fn := fun _ => fun
  | [d1, d2] => { results := [.lit (.bool false)], args := [d1, d2] }
  | _ => none }
def FnExactCanJoinWrongFalsely : Prop := fnExactCanJoinRow.holds Try.pinned (OpenSpec.ofChange fnExactCanJoinWrong)

/-- 'laws.FnCoalesceJoins': WHATEVER THE INPUT: true; the input reads as it did. -/
def fnCoalesceJoinsSpec : ChangeSpec := { name := "fnCoalesceJoins", fn := fun _ => fun
  | [d] => { results := [.lit (.bool true)], args := [d] }
  | _ => none }
def fnCoalesceJoinsRow : OpenClaim := { program := "ytgkedbhpeafbbaa", sum := "da5107de6ab7c3bb1d1f52367fd0885e3e94b866be0795933e562198280fb2e8", func := "loop.example/g03312/laws.FnCoalesceJoins", spec := "fnCoalesceJoins", apart := false }
def FnCoalesceJoinsSaid : Prop := fnCoalesceJoinsRow.holds Try.pinned (OpenSpec.ofChange fnCoalesceJoinsSpec)

/-- ITS FALSE NEIGHBOUR: 'it returns false'. Refute it at one input. -/
def fnCoalesceJoinsWrong : ChangeSpec := { name := "fnCoalesceJoins", fn := fun _ => fun
  | [d] => { results := [.lit (.bool false)], args := [d] }
  | _ => none }
def FnCoalesceJoinsWrongFalsely : Prop := fnCoalesceJoinsRow.holds Try.pinned (OpenSpec.ofChange fnCoalesceJoinsWrong)

/-- 'laws.FnStreamsApart': WHATEVER THE INPUT: true; the input reads as it did. -/
def fnStreamsApartSpec : ChangeSpec := { name := "fnStreamsApart", fn := fun _ => fun
  | [d] => { results := [.lit (.bool true)], args := [d] }
  | _ => none }
def fnStreamsApartRow : OpenClaim := { program := "ytgkedbhpeafbbaa", sum := "da5107de6ab7c3bb1d1f52367fd0885e3e94b866be0795933e562198280fb2e8", func := "loop.example/g03312/laws.FnStreamsApart", spec := "fnStreamsApart", apart := false }
def FnStreamsApartSaid : Prop := fnStreamsApartRow.holds Try.pinned (OpenSpec.ofChange fnStreamsApartSpec)

/-- ITS FALSE NEIGHBOUR: 'it returns false'. Refute it at one input. -/
def fnStreamsApartWrong : ChangeSpec := { name := "fnStreamsApart", fn := fun _ => fun
  | [d] => { results := [.lit (.bool false)], args := [d] }
  | _ => none }
def FnStreamsApartWrongFalsely : Prop := fnStreamsApartRow.holds Try.pinned (OpenSpec.ofChange fnStreamsApartWrong)

/-- 'laws.FnExactJoin': WHATEVER THE INPUT: true; the input reads as it did. -/
def fnExactJoinSpec : ChangeSpec := { name := "fnExactJoin", fn := fun _ => fun
  | [d1, d2] => { results := [.lit (.bool true)], args := [d1, d2] }
  | _ => none }
def fnExactJoinRow : OpenClaim := { program := "ytgkedbhpeafbbaa", sum := "da5107de6ab7c3bb1d1f52367fd0885e3e94b866be0795933e562198280fb2e8", func := "loop.example/g03312/laws.FnExactJoin", spec := "fnExactJoin", apart := false }
def FnExactJoinSaid : Prop := fnExactJoinRow.holds Try.pinned (OpenSpec.ofChange fnExactJoinSpec)

/-- ITS FALSE NEIGHBOUR: 'it returns false'. Refute it at one input. -/
def fnExactJoinWrong : ChangeSpec := { name := "fnExactJoin", fn := fun _ => fun
  | [d1, d2] => { results := [.lit (.bool false)], args := [d1, d2] }
  | _ => none }
def FnExactJoinWrongFalsely : Prop := fnExactJoinRow.holds Try.pinned (OpenSpec.ofChange fnExactJoinWrong)

/-- 'laws.FnSplitStreams': WHATEVER THE INPUT: true; the input reads as it did. -/
def fnSplitStreamsSpec : ChangeSpec := { name := "fnSplitStreams", fn := fun _ => fun
  | [d] => { results := [.lit (.bool true)], args := [d] }
  | _ => none }
def fnSplitStreamsRow : OpenClaim := { program := "ytgkedbhpeafbbaa", sum := "da5107de6ab7c3bb1d1f52367fd0885e3e94b866be0795933e562198280fb2e8", func := "loop.example/g03312/laws.FnSplitStreams", spec := "fnSplitStreams", apart := false }
def FnSplitStreamsSaid : Prop := fnSplitStreamsRow.holds Try.pinned (OpenSpec.ofChange fnSplitStreamsSpec)

/-- ITS FALSE NEIGHBOUR: 'it returns false'. Refute it at one input. -/
def fnSplitStreamsWrong : ChangeSpec := { name := "fnSplitStreams", fn := fun _ => fun
  | [d] => { results := [.lit (.bool false)], args := [d] }
  | _ => none }
def FnSplitStreamsWrongFalsely : Prop := fnSplitStreamsRow.holds Try.pinned (OpenSpec.ofChange fnSplitStreamsWrong)

/-- 'laws.FnSplitAgain': WHATEVER THE INPUT: true; the input reads as it did. -/
def fnSplitAgainSpec : ChangeSpec := { name := "fnSplitAgain", fn := fun _ => fun
  | [d] => { results := [.lit (.bool true)], args := [d] }
  | _ => none }
def fnSplitAgainRow : OpenClaim := { program := "ytgkedbhpeafbbaa", sum := "da5107de6ab7c3bb1d1f52367fd0885e3e94b866be0795933e562198280fb2e8", func := "loop.example/g03312/laws.FnSplitAgain", spec := "fnSplitAgain", apart := false }
def FnSplitAgainSaid : Prop := fnSplitAgainRow.holds Try.pinned (OpenSpec.ofChange fnSplitAgainSpec)

/-- ITS FALSE NEIGHBOUR: 'it returns false'. Refute it at one input. -/
def fnSplitAgainWrong : ChangeSpec := { name := "fnSplitAgain", fn := fun _ => fun
  | [d] => { results := [.lit (.bool false)], args := [d] }
  | _ => none }
def FnSplitAgainWrongFalsely : Prop := fnSplitAgainRow.holds Try.pinned (OpenSpec.ofChange fnSplitAgainWrong)

/-- 'laws.FnSplitWhole': WHATEVER THE INPUT: true; the input reads as it did. -/
def fnSplitWholeSpec : ChangeSpec := { name := "fnSplitWhole", fn := fun _ => fun
  | [d] => { results := [.lit (.bool true)], args := [d] }
  | _ => none }
def fnSplitWholeRow : OpenClaim := { program := "ytgkedbhpeafbbaa", sum := "da5107de6ab7c3bb1d1f52367fd0885e3e94b866be0795933e562198280fb2e8", func := "loop.example/g03312/laws.FnSplitWhole", spec := "fnSplitWhole", apart := false }
def FnSplitWholeSaid : Prop := fnSplitWholeRow.holds Try.pinned (OpenSpec.ofChange fnSplitWholeSpec)

/-- ITS FALSE NEIGHBOUR: 'it returns false'. Refute it at one input. -/
def fnSplitWholeWrong : ChangeSpec := { name := "fnSplitWhole", fn := fun _ => fun
  | [d] => { results := [.lit (.bool false)], args := [d] }
  | _ => none }
def FnSplitWholeWrongFalsely : Prop := fnSplitWholeRow.holds Try.pinned (OpenSpec.ofChange fnSplitWholeWrong)

/-- 'laws.FnExactSplit': WHATEVER THE INPUT: true; the input reads as it did. -/
def fnExactSplitSpec : ChangeSpec := { name := "fnExactSplit", fn := fun _ => fun
  | [d1, d2] => { results := [.lit (.bool true)], args := [d1, d2] }
  | _ => none }
def fnExactSplitRow : OpenClaim := { program := "ytgkedbhpeafbbaa", sum := "da5107de6ab7c3bb1d1f52367fd0885e3e94b866be0795933e562198280fb2e8", func := "loop.example/g03312/laws.FnExactSplit", spec := "fnExactSplit", apart := false }
def FnExactSplitSaid : Prop := fnExactSplitRow.holds Try.pinned (OpenSpec.ofChange fnExactSplitSpec)

/-- ITS FALSE NEIGHBOUR: 'it returns false'. Refute it at one input. -/
def fnExactSplitWrong : ChangeSpec := { name := "fnExactSplit", fn := fun _ => fun
  | [d1, d2] => { results := [.lit (.bool false)], args := [d1, d2] }
  | _ => none }
def FnExactSplitWrongFalsely : Prop := fnExactSplitRow.holds Try.pinned (OpenSpec.ofChange fnExactSplitWrong)

/-- 'laws.FnExactDeliver': WHATEVER THE INPUT: true; the input reads as it did. -/
def fnExactDeliverSpec : ChangeSpec := { name := "fnExactDeliver", fn := fun _ => fun
  | [d1, d2] => { results := [.lit (.bool true)], args := [d1, d2] }
  | _ => none }
def fnExactDeliverRow : OpenClaim := { program := "ytgkedbhpeafbbaa", sum := "da5107de6ab7c3bb1d1f52367fd0885e3e94b866be0795933e562198280fb2e8", func := "loop.example/g03312/laws.FnExactDeliver", spec := "fnExactDeliver", apart := false }
def FnExactDeliverSaid : Prop := fnExactDeliverRow.holds Try.pinned (OpenSpec.ofChange fnExactDeliverSpec)

/-- ITS FALSE NEIGHBOUR: 'it returns false'. Refute it at one input. -/
def fnExactDeliverWrong : ChangeSpec := { name := "fnExactDeliver", fn := fun _ => fun
  | [d1, d2] => { results := [.lit (.bool false)], args := [d1, d2] }
  | _ => none }
def FnExactDeliverWrongFalsely : Prop := fnExactDeliverRow.holds Try.pinned (OpenSpec.ofChange fnExactDeliverWrong)

/-- 'laws.FnExactResegment': WHATEVER THE INPUT: true; the input reads as it did. -/
def fnExactResegmentSpec : ChangeSpec := { name := "fnExactResegment", fn := fun _ => fun
  | [d] => { results := [.lit (.bool true)], args := [d] }
  | _ => none }
def fnExactResegmentRow : OpenClaim := { program := "ytgkedbhpeafbbaa", sum := "da5107de6ab7c3bb1d1f52367fd0885e3e94b866be0795933e562198280fb2e8", func := "loop.example/g03312/laws.FnExactResegment", spec := "fnExactResegment", apart := false }
def FnExactResegmentSaid : Prop := fnExactResegmentRow.holds Try.pinned (OpenSpec.ofChange fnExactResegmentSpec)

/-- ITS FALSE NEIGHBOUR: 'it returns false'. Refute it at one input. -/
def fnExactResegmentWrong : ChangeSpec := { name := "fnExactResegment", fn := fun _ => fun
  | [d] => { results := [.lit (.bool false)], args := [d] }
  | _ => none }
def FnExactResegmentWrongFalsely : Prop := fnExactResegmentRow.holds Try.pinned (OpenSpec.ofChange fnExactResegmentWrong)

/-- 'laws.FnExactCoalesce': WHATEVER THE INPUT: true; the input reads as it did. -/
def fnExactCoalesceSpec : ChangeSpec := { name := "fnExactCoalesce", fn := fun _ => fun
  | [d] => { results := [.lit (.bool true)], args := [d] }
  | _ => none }
def fnExactCoalesceRow : OpenClaim := { program := "ytgkedbhpeafbbaa", sum := "da5107de6ab7c3bb1d1f52367fd0885e3e94b866be0795933e562198280fb2e8", func := "loop.example/g03312/laws.FnExactCoalesce", spec := "fnExactCoalesce", apart := false }
def FnExactCoalesceSaid : Prop := fnExactCoalesceRow.holds Try.pinned (OpenSpec.ofChange fnExactCoalesceSpec)

/-- ITS FALSE NEIGHBOUR: 'it returns false'. Refute it at one input. -/
def fnExactCoalesceWrong : ChangeSpec := { name := "fnExactCoalesce", fn := fun _ => fun
  | [d] => { results := [.lit (.bool false)], args := [d] }
  | _ => none }
def FnExactCoalesceWrongFalsely : Prop := fnExactCoalesceRow.holds Try.pinned (OpenSpec.ofChange fnExactCoalesceWrong)

/-- 'laws.FnExactDeliverAll': WHATEVER THE INPUT: true; the input reads as it did. -/
def fnExactDeliverAllSpec : ChangeSpec := { name := "fnExactDeliverAll", fn := fun _ => fun
  | [d1, d2] => { results := [.lit (.bool true)], args := [d1, d2] }
  | _ => none }
def fnExactDeliverAllRow : OpenClaim := { program := "ytgkedbhpeafbbaa", sum := "da5107de6ab7c3bb1d1f52367fd0885e3e94b866be0795933e562198280fb2e8", func := "loop.example/g03312/laws.FnExactDeliverAll", spec := "fnExactDeliverAll", apart := false }
def FnExactDeliverAllSaid : Prop := fnExactDeliverAllRow.holds Try.pinned (OpenSpec.ofChange fnExactDeliverAllSpec)

/-- ITS FALSE NEIGHBOUR: 'it returns false'. Refute it at one input. -/
def fnExactDeliverAllWrong : ChangeSpec := { name := "fnExactDeliverAll", fn := fun _ => fun
  | [d1, d2] => { results := [.lit (.bool false)], args := [d1, d2] }
  | _ => none }
def FnExactDeliverAllWrongFalsely : Prop := fnExactDeliverAllRow.holds Try.pinned (OpenSpec.ofChange fnExactDeliverAllWrong)

/-- 'laws.FnExactSendFrames': WHATEVER THE INPUT: true; the input reads as it did. -/
def fnExactSendFramesSpec : ChangeSpec := { name := "fnExactSendFrames", fn := fun _ => fun
  | [d1, d2] => { results := [.lit (.bool true)], args := [d1, d2] }
  | _ => none }
def fnExactSendFramesRow : OpenClaim := { program := "ytgkedbhpeafbbaa", sum := "da5107de6ab7c3bb1d1f52367fd0885e3e94b866be0795933e562198280fb2e8", func := "loop.example/g03312/laws.FnExactSendFrames", spec := "fnExactSendFrames", apart := false }
def FnExactSendFramesSaid : Prop := fnExactSendFramesRow.holds Try.pinned (OpenSpec.ofChange fnExactSendFramesSpec)

/-- ITS FALSE NEIGHBOUR: 'it returns false'. Refute it at one input. -/
def fnExactSendFramesWrong : ChangeSpec := { name := "fnExactSendFrames", fn := fun _ => fun
  | [d1, d2] => { results := [.lit (.bool false)], args := [d1, d2] }
  | _ => none }
def FnExactSendFramesWrongFalsely : Prop := fnExactSendFramesRow.holds Try.pinned (OpenSpec.ofChange fnExactSendFramesWrong)

/-- 'laws.FnExactDeliverSupers': WHATEVER THE INPUT: true; the input reads as it did. -/
def fnExactDeliverSupersSpec : ChangeSpec := { name := "fnExactDeliverSupers", fn := fun _ => fun
  | [d1, d2] => { results := [.lit (.bool true)], args := [d1, d2] }
  | _ => none }
def fnExactDeliverSupersRow : OpenClaim := { program := "ytgkedbhpeafbbaa", sum := "da5107de6ab7c3bb1d1f52367fd0885e3e94b866be0795933e562198280fb2e8", func := "loop.example/g03312/laws.FnExactDeliverSupers", spec := "fnExactDeliverSupers", apart := false }
def FnExactDeliverSupersSaid : Prop := fnExactDeliverSupersRow.holds Try.pinned (OpenSpec.ofChange fnExactDeliverSupersSpec)

/-- ITS FALSE NEIGHBOUR: 'it returns false'. Refute it at one input. -/
def fnExactDeliverSupersWrong : ChangeSpec := { name := "fnExactDeliverSupers", fn := fun _ => fun
  | [d1, d2] => { results := [.lit (.bool false)], args := [d1, d2] }
  | _ => none }
def FnExactDeliverSupersWrongFalsely : Prop := fnExactDeliverSupersRow.holds Try.pinned (OpenSpec.ofChange fnExactDeliverSupersWrong)

/-- 'laws.FnExactFrameAll': WHATEVER THE INPUT: true; the input reads as it did. -/
def fnExactFrameAllSpec : ChangeSpec := { name := "fnExactFrameAll", fn := fun _ => fun
  | [d] => { results := [.lit (.bool true)], args := [d] }
  | _ => none }
def fnExactFrameAllRow : OpenClaim := { program := "ytgkedbhpeafbbaa", sum := "da5107de6ab7c3bb1d1f52367fd0885e3e94b866be0795933e562198280fb2e8", func := "loop.example/g03312/laws.FnExactFrameAll", spec := "fnExactFrameAll", apart := false }
def FnExactFrameAllSaid : Prop := fnExactFrameAllRow.holds Try.pinned (OpenSpec.ofChange fnExactFrameAllSpec)

/-- ITS FALSE NEIGHBOUR: 'it returns false'. Refute it at one input. -/
def fnExactFrameAllWrong : ChangeSpec := { name := "fnExactFrameAll", fn := fun _ => fun
  | [d] => { results := [.lit (.bool false)], args := [d] }
  | _ => none }
def FnExactFrameAllWrongFalsely : Prop := fnExactFrameAllRow.holds Try.pinned (OpenSpec.ofChange fnExactFrameAllWrong)

/- THE SECOND FORM. 'bulk': how many values and letters a reading holds, each counted each time it is reached (what is shared counts as often as it is met; a slice's spare places count too). A statement '..UptoSaid' is the law's where the arguments, and the package variables that the reading takes, are together of bulk at most 1048576: NARROWER than '..Said'. Prove '..Said' where nothing that the law and all that it calls make is longer than what came in: it says more and counts as full. Else prove '..UptoSaid'. A law counts once. -/
mutual
def uptoBulk {H : Type} : DataW H → Nat
  | .lit (.string bytes) => bytes.length + 1
  | .lit _ => 1
  | .nil => 1
  | .ptr d => uptoBulk d + 1
  | .slice elems spare => uptoBulkAll elems + uptoBulkAll spare + 1
  | .agg parts => uptoBulkAll parts + 1
  | .iface _ d => uptoBulk d + 1
  | .map entries => uptoBulkEntries entries + 1
  | .held _ => 1
def uptoBulkAll {H : Type} : List (DataW H) → Nat
  | [] => 0
  | d :: r => uptoBulk d + uptoBulkAll r
def uptoBulkEntries {H : Type} : List (Lit × DataW H) → Nat
  | [] => 0
  | x :: r => uptoBulkEntry x + uptoBulkEntries r
def uptoBulkEntry {H : Type} : Lit × DataW H → Nat
  | (.string bytes, d) => bytes.length + uptoBulk d + 1
  | (_, d) => uptoBulk d + 1
 end
def uptoSmall : (H : Type) → List (DataW H) → Bool := fun _ ds => decide (uptoBulkAll ds ≤ 1048576)
def OpenSpec.upto (s : _root_.Go.ChangeSpec) : _root_.Go.OpenSpec := { _root_.Go.OpenSpec.ofChange s with cond := some uptoSmall }

/-- 'laws.FnCoalesceLossless', WHERE WHAT IT READS IS OF BULK AT MOST 1048576: true; the input reads as it did. -/
def fnCoalesceLosslessUptoRow : OpenClaim := { program := "ytgkedbhpeafbbaa", sum := "da5107de6ab7c3bb1d1f52367fd0885e3e94b866be0795933e562198280fb2e8", func := "loop.example/g03312/laws.FnCoalesceLossless", spec := "fnCoalesceLossless", apart := false, narrowed := true }
def FnCoalesceLosslessUptoSaid : Prop := fnCoalesceLosslessUptoRow.holds Try.pinned (OpenSpec.upto fnCoalesceLosslessSpec)

/-- 'laws.FnCoalescedStreams', WHERE WHAT IT READS IS OF BULK AT MOST 1048576: true; the input reads as it did. -/
def fnCoalescedStreamsUptoRow : OpenClaim := { program := "ytgkedbhpeafbbaa", sum := "da5107de6ab7c3bb1d1f52367fd0885e3e94b866be0795933e562198280fb2e8", func := "loop.example/g03312/laws.FnCoalescedStreams", spec := "fnCoalescedStreams", apart := false, narrowed := true }
def FnCoalescedStreamsUptoSaid : Prop := fnCoalescedStreamsUptoRow.holds Try.pinned (OpenSpec.upto fnCoalescedStreamsSpec)

/-- 'laws.FnExactStreamIndex', WHERE WHAT IT READS IS OF BULK AT MOST 1048576: true; the input reads as it did. -/
def fnExactStreamIndexUptoRow : OpenClaim := { program := "ytgkedbhpeafbbaa", sum := "da5107de6ab7c3bb1d1f52367fd0885e3e94b866be0795933e562198280fb2e8", func := "loop.example/g03312/laws.FnExactStreamIndex", spec := "fnExactStreamIndex", apart := false, narrowed := true }
def FnExactStreamIndexUptoSaid : Prop := fnExactStreamIndexUptoRow.holds Try.pinned (OpenSpec.upto fnExactStreamIndexSpec)

/-- 'laws.FnExactSingle', WHERE WHAT IT READS IS OF BULK AT MOST 1048576: true; the input reads as it did. -/
def fnExactSingleUptoRow : OpenClaim := { program := "ytgkedbhpeafbbaa", sum := "da5107de6ab7c3bb1d1f52367fd0885e3e94b866be0795933e562198280fb2e8", func := "loop.example/g03312/laws.FnExactSingle", spec := "fnExactSingle", apart := false, narrowed := true }
def FnExactSingleUptoSaid : Prop := fnExactSingleUptoRow.holds Try.pinned (OpenSpec.upto fnExactSingleSpec)

/-- 'laws.FnExactDataOf', WHERE WHAT IT READS IS OF BULK AT MOST 1048576: true; the input reads as it did. -/
def fnExactDataOfUptoRow : OpenClaim := { program := "ytgkedbhpeafbbaa", sum := "da5107de6ab7c3bb1d1f52367fd0885e3e94b866be0795933e562198280fb2e8", func := "loop.example/g03312/laws.FnExactDataOf", spec := "fnExactDataOf", apart := false, narrowed := true }
def FnExactDataOfUptoSaid : Prop := fnExactDataOfUptoRow.holds Try.pinned (OpenSpec.upto fnExactDataOfSpec)

/-- 'laws.FnExactSplitCount', WHERE WHAT IT READS IS OF BULK AT MOST 1048576: true; the input reads as it did. -/
def fnExactSplitCountUptoRow : OpenClaim := { program := "ytgkedbhpeafbbaa", sum := "da5107de6ab7c3bb1d1f52367fd0885e3e94b866be0795933e562198280fb2e8", func := "loop.example/g03312/laws.FnExactSplitCount", spec := "fnExactSplitCount", apart := false, narrowed := true }
def FnExactSplitCountUptoSaid : Prop := fnExactSplitCountUptoRow.holds Try.pinned (OpenSpec.upto fnExactSplitCountSpec)

/-- 'laws.FnExactCanJoin', WHERE WHAT IT READS IS OF BULK AT MOST 1048576: true; the input reads as it did. -/
def fnExactCanJoinUptoRow : OpenClaim := { program := "ytgkedbhpeafbbaa", sum := "da5107de6ab7c3bb1d1f52367fd0885e3e94b866be0795933e562198280fb2e8", func := "loop.example/g03312/laws.FnExactCanJoin", spec := "fnExactCanJoin", apart := false, narrowed := true }
def FnExactCanJoinUptoSaid : Prop := fnExactCanJoinUptoRow.holds Try.pinned (OpenSpec.upto fnExactCanJoinSpec)

/-- 'laws.FnCoalesceJoins', WHERE WHAT IT READS IS OF BULK AT MOST 1048576: true; the input reads as it did. -/
def fnCoalesceJoinsUptoRow : OpenClaim := { program := "ytgkedbhpeafbbaa", sum := "da5107de6ab7c3bb1d1f52367fd0885e3e94b866be0795933e562198280fb2e8", func := "loop.example/g03312/laws.FnCoalesceJoins", spec := "fnCoalesceJoins", apart := false, narrowed := true }
def FnCoalesceJoinsUptoSaid : Prop := fnCoalesceJoinsUptoRow.holds Try.pinned (OpenSpec.upto fnCoalesceJoinsSpec)

/-- 'laws.FnStreamsApart', WHERE WHAT IT READS IS OF BULK AT MOST 1048576: true; the input reads as it did. -/
def fnStreamsApartUptoRow : OpenClaim := { program := "ytgkedbhpeafbbaa", sum := "da5107de6ab7c3bb1d1f52367fd0885e3e94b866be0795933e562198280fb2e8", func := "loop.example/g03312/laws.FnStreamsApart", spec := "fnStreamsApart", apart := false, narrowed := true }
def FnStreamsApartUptoSaid : Prop := fnStreamsApartUptoRow.holds Try.pinned (OpenSpec.upto fnStreamsApartSpec)

/-- 'laws.FnExactJoin', WHERE WHAT IT READS IS OF BULK AT MOST 1048576: true; the input reads as it did. -/
def fnExactJoinUptoRow : OpenClaim := { program := "ytgkedbhpeafbbaa", sum := "da5107de6ab7c3bb1d1f52367fd0885e3e94b866be0795933e562198280fb2e8", func := "loop.example/g03312/laws.FnExactJoin", spec := "fnExactJoin", apart := false, narrowed := true }
def FnExactJoinUptoSaid : Prop := fnExactJoinUptoRow.holds Try.pinned (OpenSpec.upto fnExactJoinSpec)

/-- 'laws.FnSplitStreams', WHERE WHAT IT READS IS OF BULK AT MOST 1048576: true; the input reads as it did. -/
def fnSplitStreamsUptoRow : OpenClaim := { program := "ytgkedbhpeafbbaa", sum := "da5107de6ab7c3bb1d1f52367fd0885e3e94b866be0795933e562198280fb2e8", func := "loop.example/g03312/laws.FnSplitStreams", spec := "fnSplitStreams", apart := false, narrowed := true }
def FnSplitStreamsUptoSaid : Prop := fnSplitStreamsUptoRow.holds Try.pinned (OpenSpec.upto fnSplitStreamsSpec)

/-- 'laws.FnSplitAgain', WHERE WHAT IT READS IS OF BULK AT MOST 1048576: true; the input reads as it did. -/
def fnSplitAgainUptoRow : OpenClaim := { program := "ytgkedbhpeafbbaa", sum := "da5107de6ab7c3bb1d1f52367fd0885e3e94b866be0795933e562198280fb2e8", func := "loop.example/g03312/laws.FnSplitAgain", spec := "fnSplitAgain", apart := false, narrowed := true }
def FnSplitAgainUptoSaid : Prop := fnSplitAgainUptoRow.holds Try.pinned (OpenSpec.upto fnSplitAgainSpec)

/-- 'laws.FnSplitWhole', WHERE WHAT IT READS IS OF BULK AT MOST 1048576: true; the input reads as it did. -/
def fnSplitWholeUptoRow : OpenClaim := { program := "ytgkedbhpeafbbaa", sum := "da5107de6ab7c3bb1d1f52367fd0885e3e94b866be0795933e562198280fb2e8", func := "loop.example/g03312/laws.FnSplitWhole", spec := "fnSplitWhole", apart := false, narrowed := true }
def FnSplitWholeUptoSaid : Prop := fnSplitWholeUptoRow.holds Try.pinned (OpenSpec.upto fnSplitWholeSpec)

/-- 'laws.FnExactSplit', WHERE WHAT IT READS IS OF BULK AT MOST 1048576: true; the input reads as it did. -/
def fnExactSplitUptoRow : OpenClaim := { program := "ytgkedbhpeafbbaa", sum := "da5107de6ab7c3bb1d1f52367fd0885e3e94b866be0795933e562198280fb2e8", func := "loop.example/g03312/laws.FnExactSplit", spec := "fnExactSplit", apart := false, narrowed := true }
def FnExactSplitUptoSaid : Prop := fnExactSplitUptoRow.holds Try.pinned (OpenSpec.upto fnExactSplitSpec)

/-- 'laws.FnExactDeliver', WHERE WHAT IT READS IS OF BULK AT MOST 1048576: true; the input reads as it did. -/
def fnExactDeliverUptoRow : OpenClaim := { program := "ytgkedbhpeafbbaa", sum := "da5107de6ab7c3bb1d1f52367fd0885e3e94b866be0795933e562198280fb2e8", func := "loop.example/g03312/laws.FnExactDeliver", spec := "fnExactDeliver", apart := false, narrowed := true }
def FnExactDeliverUptoSaid : Prop := fnExactDeliverUptoRow.holds Try.pinned (OpenSpec.upto fnExactDeliverSpec)

/-- 'laws.FnExactResegment', WHERE WHAT IT READS IS OF BULK AT MOST 1048576: true; the input reads as it did. -/
def fnExactResegmentUptoRow : OpenClaim := { program := "ytgkedbhpeafbbaa", sum := "da5107de6ab7c3bb1d1f52367fd0885e3e94b866be0795933e562198280fb2e8", func := "loop.example/g03312/laws.FnExactResegment", spec := "fnExactResegment", apart := false, narrowed := true }
def FnExactResegmentUptoSaid : Prop := fnExactResegmentUptoRow.holds Try.pinned (OpenSpec.upto fnExactResegmentSpec)

/-- 'laws.FnExactCoalesce', WHERE WHAT IT READS IS OF BULK AT MOST 1048576: true; the input reads as it did. -/
def fnExactCoalesceUptoRow : OpenClaim := { program := "ytgkedbhpeafbbaa", sum := "da5107de6ab7c3bb1d1f52367fd0885e3e94b866be0795933e562198280fb2e8", func := "loop.example/g03312/laws.FnExactCoalesce", spec := "fnExactCoalesce", apart := false, narrowed := true }
def FnExactCoalesceUptoSaid : Prop := fnExactCoalesceUptoRow.holds Try.pinned (OpenSpec.upto fnExactCoalesceSpec)

/-- 'laws.FnExactDeliverAll', WHERE WHAT IT READS IS OF BULK AT MOST 1048576: true; the input reads as it did. -/
def fnExactDeliverAllUptoRow : OpenClaim := { program := "ytgkedbhpeafbbaa", sum := "da5107de6ab7c3bb1d1f52367fd0885e3e94b866be0795933e562198280fb2e8", func := "loop.example/g03312/laws.FnExactDeliverAll", spec := "fnExactDeliverAll", apart := false, narrowed := true }
def FnExactDeliverAllUptoSaid : Prop := fnExactDeliverAllUptoRow.holds Try.pinned (OpenSpec.upto fnExactDeliverAllSpec)

/-- 'laws.FnExactSendFrames', WHERE WHAT IT READS IS OF BULK AT MOST 1048576: true; the input reads as it did. -/
def fnExactSendFramesUptoRow : OpenClaim := { program := "ytgkedbhpeafbbaa", sum := "da5107de6ab7c3bb1d1f52367fd0885e3e94b866be0795933e562198280fb2e8", func := "loop.example/g03312/laws.FnExactSendFrames", spec := "fnExactSendFrames", apart := false, narrowed := true }
def FnExactSendFramesUptoSaid : Prop := fnExactSendFramesUptoRow.holds Try.pinned (OpenSpec.upto fnExactSendFramesSpec)

/-- 'laws.FnExactDeliverSupers', WHERE WHAT IT READS IS OF BULK AT MOST 1048576: true; the input reads as it did. -/
def fnExactDeliverSupersUptoRow : OpenClaim := { program := "ytgkedbhpeafbbaa", sum := "da5107de6ab7c3bb1d1f52367fd0885e3e94b866be0795933e562198280fb2e8", func := "loop.example/g03312/laws.FnExactDeliverSupers", spec := "fnExactDeliverSupers", apart := false, narrowed := true }
def FnExactDeliverSupersUptoSaid : Prop := fnExactDeliverSupersUptoRow.holds Try.pinned (OpenSpec.upto fnExactDeliverSupersSpec)

/-- 'laws.FnExactFrameAll', WHERE WHAT IT READS IS OF BULK AT MOST 1048576: true; the input reads as it did. -/
def fnExactFrameAllUptoRow : OpenClaim := { program := "ytgkedbhpeafbbaa", sum := "da5107de6ab7c3bb1d1f52367fd0885e3e94b866be0795933e562198280fb2e8", func := "loop.example/g03312/laws.FnExactFrameAll", spec := "fnExactFrameAll", apart := false, narrowed := true }
def FnExactFrameAllUptoSaid : Prop := fnExactFrameAllUptoRow.holds Try.pinned (OpenSpec.upto fnExactFrameAllSpec)

end Rows
end Go.Proofs.Ytgkedbhpeafbbaa
