/-
  No cell of these rows narrows 'for every input' (looked for: loops, veiled, ifaces, maps, wideKeys, modest, calm, conditions, laid).
  DERIVED. THE GIVEN ROWS OF THIS SEAT. 22 by the template 'for every input the law returns true; each argument reads behind the call as it read before'; 0 by the template 'total and deterministic' (their statements: YtnmmgegnioihmaaTotals.lean).
  GIVEN WITH THE SEED: the statements are not yours to turn. If you find one false, say at which input.
  Laid BY PROGRAM, IN A SANDBOX (cutbox-rows.mjs): the forced cells as the released guide's own fill.sh prints them over the translation 63e2e9b902f17e04… (all of the seat's roots in one cut). By AI agents, Wed Nov 11 2026. No macro, syntax, notation, axiom, sorry.
-/
import Derived.Test.YtnmmgegnioihmaaChecked
import GoSem.Claim
import GoSem.ClaimJoined
import GoSem.ClaimMapViews
import Derived.JoinedTies
import Derived.KernelRfl
namespace Go.Proofs.Ytnmmgegnioihmaa
/- THE CELL 'sum', in the pinned program and in every row, IS THE sha256 OF THE DUMP (.gsa) THAT YtnmmgegnioihmaaProg.lean LOADS. Nothing in Lean hashes anything: it is a label: what it is worth is what the hold of that sum in a sandbox is worth. -/
noncomputable def Try.pinned : Pinned := { name := "ytnmmgegnioihmaa", sum := "63e2e9b902f17e049b7f9ca6299d40b3c5dc938a6cb1aacc66bf31d3705c130d", checked := Try.checked }
namespace Rows
def none {H : Type} : Left H := { results := [], args := [] }

/-- 'pylonlaw36.SettleMatches': WHATEVER THE INPUT: true; the input reads as it did. -/
def settleMatchesSpec : ChangeSpec := { name := "settleMatches", fn := fun _ => fun
  | [d1, d2, d3, d4] => { results := [.lit (.bool true)], args := [d1, d2, d3, d4] }
  | _ => none }
def settleMatchesRow : OpenClaim := { program := "ytnmmgegnioihmaa", sum := "63e2e9b902f17e049b7f9ca6299d40b3c5dc938a6cb1aacc66bf31d3705c130d", func := "pylon/pylonlaw36.SettleMatches", spec := "settleMatches", unfollowed := true, recurses := true, apart := false }
def SettleMatchesSaid : Prop := settleMatchesRow.holds Try.pinned (OpenSpec.ofChange settleMatchesSpec)

/-- ITS FALSE NEIGHBOUR: 'it returns false'. Refute it at one input. -/
def settleMatchesWrong : ChangeSpec := { name := "settleMatches", fn := fun _ => fun
  | [d1, d2, d3, d4] => { results := [.lit (.bool false)], args := [d1, d2, d3, d4] }
  | _ => none }
def SettleMatchesWrongFalsely : Prop := settleMatchesRow.holds Try.pinned (OpenSpec.ofChange settleMatchesWrong)

/-- 'pylonlaw36.SettleNoDeviation': WHATEVER THE INPUT: true; the input reads as it did. -/
def settleNoDeviationSpec : ChangeSpec := { name := "settleNoDeviation", fn := fun _ => fun
  | [d1, d2, d3, d4] => { results := [.lit (.bool true)], args := [d1, d2, d3, d4] }
  | _ => none }
def settleNoDeviationRow : OpenClaim := { program := "ytnmmgegnioihmaa", sum := "63e2e9b902f17e049b7f9ca6299d40b3c5dc938a6cb1aacc66bf31d3705c130d", func := "pylon/pylonlaw36.SettleNoDeviation", spec := "settleNoDeviation", unfollowed := true, recurses := true, apart := false }
def SettleNoDeviationSaid : Prop := settleNoDeviationRow.holds Try.pinned (OpenSpec.ofChange settleNoDeviationSpec)

/-- ITS FALSE NEIGHBOUR: 'it returns false'. Refute it at one input. -/
def settleNoDeviationWrong : ChangeSpec := { name := "settleNoDeviation", fn := fun _ => fun
  | [d1, d2, d3, d4] => { results := [.lit (.bool false)], args := [d1, d2, d3, d4] }
  | _ => none }
def SettleNoDeviationWrongFalsely : Prop := settleNoDeviationRow.holds Try.pinned (OpenSpec.ofChange settleNoDeviationWrong)

/-- 'pylonlaw36.SettleSplit': WHATEVER THE INPUT: true; the input reads as it did. -/
def settleSplitSpec : ChangeSpec := { name := "settleSplit", fn := fun _ => fun
  | [d1, d2, d3, d4, d5, d6, d7] => { results := [.lit (.bool true)], args := [d1, d2, d3, d4, d5, d6, d7] }
  | _ => none }
def settleSplitRow : OpenClaim := { program := "ytnmmgegnioihmaa", sum := "63e2e9b902f17e049b7f9ca6299d40b3c5dc938a6cb1aacc66bf31d3705c130d", func := "pylon/pylonlaw36.SettleSplit", spec := "settleSplit", unfollowed := true, recurses := true, apart := false }
def SettleSplitSaid : Prop := settleSplitRow.holds Try.pinned (OpenSpec.ofChange settleSplitSpec)

/-- ITS FALSE NEIGHBOUR: 'it returns false'. Refute it at one input. -/
def settleSplitWrong : ChangeSpec := { name := "settleSplit", fn := fun _ => fun
  | [d1, d2, d3, d4, d5, d6, d7] => { results := [.lit (.bool false)], args := [d1, d2, d3, d4, d5, d6, d7] }
  | _ => none }
def SettleSplitWrongFalsely : Prop := settleSplitRow.holds Try.pinned (OpenSpec.ofChange settleSplitWrong)

/-- 'pylonlaw36.SettlePriceChange': WHATEVER THE INPUT: true; the input reads as it did. -/
def settlePriceChangeSpec : ChangeSpec := { name := "settlePriceChange", fn := fun _ => fun
  | [d1, d2, d3, d4, d5] => { results := [.lit (.bool true)], args := [d1, d2, d3, d4, d5] }
  | _ => none }
def settlePriceChangeRow : OpenClaim := { program := "ytnmmgegnioihmaa", sum := "63e2e9b902f17e049b7f9ca6299d40b3c5dc938a6cb1aacc66bf31d3705c130d", func := "pylon/pylonlaw36.SettlePriceChange", spec := "settlePriceChange", unfollowed := true, recurses := true, apart := false }
def SettlePriceChangeSaid : Prop := settlePriceChangeRow.holds Try.pinned (OpenSpec.ofChange settlePriceChangeSpec)

/-- ITS FALSE NEIGHBOUR: 'it returns false'. Refute it at one input. -/
def settlePriceChangeWrong : ChangeSpec := { name := "settlePriceChange", fn := fun _ => fun
  | [d1, d2, d3, d4, d5] => { results := [.lit (.bool false)], args := [d1, d2, d3, d4, d5] }
  | _ => none }
def SettlePriceChangeWrongFalsely : Prop := settlePriceChangeRow.holds Try.pinned (OpenSpec.ofChange settlePriceChangeWrong)

/-- 'pylonlaw36.SettleRents': WHATEVER THE INPUT: true; the input reads as it did. -/
def settleRentsSpec : ChangeSpec := { name := "settleRents", fn := fun _ => fun
  | [d1, d2, d3, d4] => { results := [.lit (.bool true)], args := [d1, d2, d3, d4] }
  | _ => none }
def settleRentsRow : OpenClaim := { program := "ytnmmgegnioihmaa", sum := "63e2e9b902f17e049b7f9ca6299d40b3c5dc938a6cb1aacc66bf31d3705c130d", func := "pylon/pylonlaw36.SettleRents", spec := "settleRents", unfollowed := true, recurses := true, apart := false }
def SettleRentsSaid : Prop := settleRentsRow.holds Try.pinned (OpenSpec.ofChange settleRentsSpec)

/-- ITS FALSE NEIGHBOUR: 'it returns false'. Refute it at one input. -/
def settleRentsWrong : ChangeSpec := { name := "settleRents", fn := fun _ => fun
  | [d1, d2, d3, d4] => { results := [.lit (.bool false)], args := [d1, d2, d3, d4] }
  | _ => none }
def SettleRentsWrongFalsely : Prop := settleRentsRow.holds Try.pinned (OpenSpec.ofChange settleRentsWrong)

/-- 'pylonlaw36.SettleExamples': WHATEVER THE INPUT: true; the input reads as it did. -/
def settleExamplesSpec : ChangeSpec := { name := "settleExamples", fn := fun _ => fun
  | [] => { results := [.lit (.bool true)], args := [] }
  | _ => none }
def settleExamplesRow : OpenClaim := { program := "ytnmmgegnioihmaa", sum := "63e2e9b902f17e049b7f9ca6299d40b3c5dc938a6cb1aacc66bf31d3705c130d", func := "pylon/pylonlaw36.SettleExamples", spec := "settleExamples", unfollowed := true, recurses := true, apart := false }
def SettleExamplesSaid : Prop := settleExamplesRow.holds Try.pinned (OpenSpec.ofChange settleExamplesSpec)

/-- ITS FALSE NEIGHBOUR: 'it returns false'. Refute it at one input. -/
def settleExamplesWrong : ChangeSpec := { name := "settleExamples", fn := fun _ => fun
  | [] => { results := [.lit (.bool false)], args := [] }
  | _ => none }
def SettleExamplesWrongFalsely : Prop := settleExamplesRow.holds Try.pinned (OpenSpec.ofChange settleExamplesWrong)

/-- 'pylonlaw36.SettleDays': WHATEVER THE INPUT: true; the input reads as it did. -/
def settleDaysSpec : ChangeSpec := { name := "settleDays", fn := fun _ => fun
  | [d1, d2, d3, d4] => { results := [.lit (.bool true)], args := [d1, d2, d3, d4] }
  | _ => none }
def settleDaysRow : OpenClaim := { program := "ytnmmgegnioihmaa", sum := "63e2e9b902f17e049b7f9ca6299d40b3c5dc938a6cb1aacc66bf31d3705c130d", func := "pylon/pylonlaw36.SettleDays", spec := "settleDays", unfollowed := true, recurses := true, apart := false }
def SettleDaysSaid : Prop := settleDaysRow.holds Try.pinned (OpenSpec.ofChange settleDaysSpec)

/-- ITS FALSE NEIGHBOUR: 'it returns false'. Refute it at one input. -/
def settleDaysWrong : ChangeSpec := { name := "settleDays", fn := fun _ => fun
  | [d1, d2, d3, d4] => { results := [.lit (.bool false)], args := [d1, d2, d3, d4] }
  | _ => none }
def SettleDaysWrongFalsely : Prop := settleDaysRow.holds Try.pinned (OpenSpec.ofChange settleDaysWrong)

/-- 'pylonlaw33.NodeTrades': WHATEVER THE INPUT: true; the input reads as it did. -/
def nodeTradesSpec : ChangeSpec := { name := "nodeTrades", fn := fun _ => fun
  | [d1, d2, d3, d4, d5] => { results := [.lit (.bool true)], args := [d1, d2, d3, d4, d5] }
  | _ => none }
def nodeTradesRow : OpenClaim := { program := "ytnmmgegnioihmaa", sum := "63e2e9b902f17e049b7f9ca6299d40b3c5dc938a6cb1aacc66bf31d3705c130d", func := "pylon/pylonlaw33.NodeTrades", spec := "nodeTrades", unfollowed := true, recurses := true, apart := false }
def NodeTradesSaid : Prop := nodeTradesRow.holds Try.pinned (OpenSpec.ofChange nodeTradesSpec)

/-- ITS FALSE NEIGHBOUR: 'it returns false'. Refute it at one input. -/
def nodeTradesWrong : ChangeSpec := { name := "nodeTrades", fn := fun _ => fun
  | [d1, d2, d3, d4, d5] => { results := [.lit (.bool false)], args := [d1, d2, d3, d4, d5] }
  | _ => none }
def NodeTradesWrongFalsely : Prop := nodeTradesRow.holds Try.pinned (OpenSpec.ofChange nodeTradesWrong)

/-- 'pylonlaw03.VecExamples': WHATEVER THE INPUT: true; the input reads as it did. -/
def vecExamplesSpec : ChangeSpec := { name := "vecExamples", fn := fun _ => fun
  | [] => { results := [.lit (.bool true)], args := [] }
  | _ => none }
def vecExamplesRow : OpenClaim := { program := "ytnmmgegnioihmaa", sum := "63e2e9b902f17e049b7f9ca6299d40b3c5dc938a6cb1aacc66bf31d3705c130d", func := "pylon/pylonlaw03.VecExamples", spec := "vecExamples", unfollowed := true, recurses := true, apart := false }
def VecExamplesSaid : Prop := vecExamplesRow.holds Try.pinned (OpenSpec.ofChange vecExamplesSpec)

/-- ITS FALSE NEIGHBOUR: 'it returns false'. Refute it at one input. -/
def vecExamplesWrong : ChangeSpec := { name := "vecExamples", fn := fun _ => fun
  | [] => { results := [.lit (.bool false)], args := [] }
  | _ => none }
def VecExamplesWrongFalsely : Prop := vecExamplesRow.holds Try.pinned (OpenSpec.ofChange vecExamplesWrong)

/-- 'pylonlaw03.VecLimit': WHATEVER THE INPUT: true; the input reads as it did. -/
def vecLimitSpec : ChangeSpec := { name := "vecLimit", fn := fun _ => fun
  | [d1, d2] => { results := [.lit (.bool true)], args := [d1, d2] }
  | _ => none }
def vecLimitRow : OpenClaim := { program := "ytnmmgegnioihmaa", sum := "63e2e9b902f17e049b7f9ca6299d40b3c5dc938a6cb1aacc66bf31d3705c130d", func := "pylon/pylonlaw03.VecLimit", spec := "vecLimit", unfollowed := true, recurses := true, apart := false }
def VecLimitSaid : Prop := vecLimitRow.holds Try.pinned (OpenSpec.ofChange vecLimitSpec)

/-- ITS FALSE NEIGHBOUR: 'it returns false'. Refute it at one input. -/
def vecLimitWrong : ChangeSpec := { name := "vecLimit", fn := fun _ => fun
  | [d1, d2] => { results := [.lit (.bool false)], args := [d1, d2] }
  | _ => none }
def VecLimitWrongFalsely : Prop := vecLimitRow.holds Try.pinned (OpenSpec.ofChange vecLimitWrong)

/-- 'pylonlaw03.VecCompareMatches': WHATEVER THE INPUT: true; the input reads as it did. -/
def vecCompareMatchesSpec : ChangeSpec := { name := "vecCompareMatches", fn := fun _ => fun
  | [d1, d2] => { results := [.lit (.bool true)], args := [d1, d2] }
  | _ => none }
def vecCompareMatchesRow : OpenClaim := { program := "ytnmmgegnioihmaa", sum := "63e2e9b902f17e049b7f9ca6299d40b3c5dc938a6cb1aacc66bf31d3705c130d", func := "pylon/pylonlaw03.VecCompareMatches", spec := "vecCompareMatches", unfollowed := true, recurses := true, apart := false }
def VecCompareMatchesSaid : Prop := vecCompareMatchesRow.holds Try.pinned (OpenSpec.ofChange vecCompareMatchesSpec)

/-- ITS FALSE NEIGHBOUR: 'it returns false'. Refute it at one input. -/
def vecCompareMatchesWrong : ChangeSpec := { name := "vecCompareMatches", fn := fun _ => fun
  | [d1, d2] => { results := [.lit (.bool false)], args := [d1, d2] }
  | _ => none }
def VecCompareMatchesWrongFalsely : Prop := vecCompareMatchesRow.holds Try.pinned (OpenSpec.ofChange vecCompareMatchesWrong)

/-- 'pylonlaw33.NodeMatches': WHATEVER THE INPUT: true; the input reads as it did. -/
def nodeMatchesSpec : ChangeSpec := { name := "nodeMatches", fn := fun _ => fun
  | [d1, d2, d3, d4] => { results := [.lit (.bool true)], args := [d1, d2, d3, d4] }
  | _ => none }
def nodeMatchesRow : OpenClaim := { program := "ytnmmgegnioihmaa", sum := "63e2e9b902f17e049b7f9ca6299d40b3c5dc938a6cb1aacc66bf31d3705c130d", func := "pylon/pylonlaw33.NodeMatches", spec := "nodeMatches", unfollowed := true, recurses := true, apart := false }
def NodeMatchesSaid : Prop := nodeMatchesRow.holds Try.pinned (OpenSpec.ofChange nodeMatchesSpec)

/-- ITS FALSE NEIGHBOUR: 'it returns false'. Refute it at one input. -/
def nodeMatchesWrong : ChangeSpec := { name := "nodeMatches", fn := fun _ => fun
  | [d1, d2, d3, d4] => { results := [.lit (.bool false)], args := [d1, d2, d3, d4] }
  | _ => none }
def NodeMatchesWrongFalsely : Prop := nodeMatchesRow.holds Try.pinned (OpenSpec.ofChange nodeMatchesWrong)

/-- 'pylonlaw33.NodeInjectionsMatch': WHATEVER THE INPUT: true; the input reads as it did. -/
def nodeInjectionsMatchSpec : ChangeSpec := { name := "nodeInjectionsMatch", fn := fun _ => fun
  | [d1, d2, d3, d4, d5] => { results := [.lit (.bool true)], args := [d1, d2, d3, d4, d5] }
  | _ => none }
def nodeInjectionsMatchRow : OpenClaim := { program := "ytnmmgegnioihmaa", sum := "63e2e9b902f17e049b7f9ca6299d40b3c5dc938a6cb1aacc66bf31d3705c130d", func := "pylon/pylonlaw33.NodeInjectionsMatch", spec := "nodeInjectionsMatch", unfollowed := true, recurses := true, apart := false }
def NodeInjectionsMatchSaid : Prop := nodeInjectionsMatchRow.holds Try.pinned (OpenSpec.ofChange nodeInjectionsMatchSpec)

/-- ITS FALSE NEIGHBOUR: 'it returns false'. Refute it at one input. -/
def nodeInjectionsMatchWrong : ChangeSpec := { name := "nodeInjectionsMatch", fn := fun _ => fun
  | [d1, d2, d3, d4, d5] => { results := [.lit (.bool false)], args := [d1, d2, d3, d4, d5] }
  | _ => none }
def NodeInjectionsMatchWrongFalsely : Prop := nodeInjectionsMatchRow.holds Try.pinned (OpenSpec.ofChange nodeInjectionsMatchWrong)

/-- 'pylonlaw33.NodeExamples': WHATEVER THE INPUT: true; the input reads as it did. -/
def nodeExamplesSpec : ChangeSpec := { name := "nodeExamples", fn := fun _ => fun
  | [] => { results := [.lit (.bool true)], args := [] }
  | _ => none }
def nodeExamplesRow : OpenClaim := { program := "ytnmmgegnioihmaa", sum := "63e2e9b902f17e049b7f9ca6299d40b3c5dc938a6cb1aacc66bf31d3705c130d", func := "pylon/pylonlaw33.NodeExamples", spec := "nodeExamples", unfollowed := true, recurses := true, apart := false }
def NodeExamplesSaid : Prop := nodeExamplesRow.holds Try.pinned (OpenSpec.ofChange nodeExamplesSpec)

/-- ITS FALSE NEIGHBOUR: 'it returns false'. Refute it at one input. -/
def nodeExamplesWrong : ChangeSpec := { name := "nodeExamples", fn := fun _ => fun
  | [] => { results := [.lit (.bool false)], args := [] }
  | _ => none }
def NodeExamplesWrongFalsely : Prop := nodeExamplesRow.holds Try.pinned (OpenSpec.ofChange nodeExamplesWrong)

/-- 'pylonlaw33.NodeLevels': WHATEVER THE INPUT: true; the input reads as it did. -/
def nodeLevelsSpec : ChangeSpec := { name := "nodeLevels", fn := fun _ => fun
  | [d1, d2, d3, d4] => { results := [.lit (.bool true)], args := [d1, d2, d3, d4] }
  | _ => none }
def nodeLevelsRow : OpenClaim := { program := "ytnmmgegnioihmaa", sum := "63e2e9b902f17e049b7f9ca6299d40b3c5dc938a6cb1aacc66bf31d3705c130d", func := "pylon/pylonlaw33.NodeLevels", spec := "nodeLevels", unfollowed := true, recurses := true, apart := false }
def NodeLevelsSaid : Prop := nodeLevelsRow.holds Try.pinned (OpenSpec.ofChange nodeLevelsSpec)

/-- ITS FALSE NEIGHBOUR: 'it returns false'. Refute it at one input. -/
def nodeLevelsWrong : ChangeSpec := { name := "nodeLevels", fn := fun _ => fun
  | [d1, d2, d3, d4] => { results := [.lit (.bool false)], args := [d1, d2, d3, d4] }
  | _ => none }
def NodeLevelsWrongFalsely : Prop := nodeLevelsRow.holds Try.pinned (OpenSpec.ofChange nodeLevelsWrong)

/-- 'pylonlaw33.NodeExtremes': WHATEVER THE INPUT: true; the input reads as it did. -/
def nodeExtremesSpec : ChangeSpec := { name := "nodeExtremes", fn := fun _ => fun
  | [d1, d2] => { results := [.lit (.bool true)], args := [d1, d2] }
  | _ => none }
def nodeExtremesRow : OpenClaim := { program := "ytnmmgegnioihmaa", sum := "63e2e9b902f17e049b7f9ca6299d40b3c5dc938a6cb1aacc66bf31d3705c130d", func := "pylon/pylonlaw33.NodeExtremes", spec := "nodeExtremes", unfollowed := true, recurses := true, apart := false }
def NodeExtremesSaid : Prop := nodeExtremesRow.holds Try.pinned (OpenSpec.ofChange nodeExtremesSpec)

/-- ITS FALSE NEIGHBOUR: 'it returns false'. Refute it at one input. -/
def nodeExtremesWrong : ChangeSpec := { name := "nodeExtremes", fn := fun _ => fun
  | [d1, d2] => { results := [.lit (.bool false)], args := [d1, d2] }
  | _ => none }
def NodeExtremesWrongFalsely : Prop := nodeExtremesRow.holds Try.pinned (OpenSpec.ofChange nodeExtremesWrong)

/-- 'pylonlaw03.VecBuildMatches': WHATEVER THE INPUT: true; the input reads as it did. -/
def vecBuildMatchesSpec : ChangeSpec := { name := "vecBuildMatches", fn := fun _ => fun
  | [d1, d2, d3, d4, d5] => { results := [.lit (.bool true)], args := [d1, d2, d3, d4, d5] }
  | _ => none }
def vecBuildMatchesRow : OpenClaim := { program := "ytnmmgegnioihmaa", sum := "63e2e9b902f17e049b7f9ca6299d40b3c5dc938a6cb1aacc66bf31d3705c130d", func := "pylon/pylonlaw03.VecBuildMatches", spec := "vecBuildMatches", unfollowed := true, recurses := true, apart := false }
def VecBuildMatchesSaid : Prop := vecBuildMatchesRow.holds Try.pinned (OpenSpec.ofChange vecBuildMatchesSpec)

/-- ITS FALSE NEIGHBOUR: 'it returns false'. Refute it at one input. -/
def vecBuildMatchesWrong : ChangeSpec := { name := "vecBuildMatches", fn := fun _ => fun
  | [d1, d2, d3, d4, d5] => { results := [.lit (.bool false)], args := [d1, d2, d3, d4, d5] }
  | _ => none }
def VecBuildMatchesWrongFalsely : Prop := vecBuildMatchesRow.holds Try.pinned (OpenSpec.ofChange vecBuildMatchesWrong)

/-- 'pylonlaw03.VecBasis': WHATEVER THE INPUT: true; the input reads as it did. -/
def vecBasisSpec : ChangeSpec := { name := "vecBasis", fn := fun _ => fun
  | [d] => { results := [.lit (.bool true)], args := [d] }
  | _ => none }
def vecBasisRow : OpenClaim := { program := "ytnmmgegnioihmaa", sum := "63e2e9b902f17e049b7f9ca6299d40b3c5dc938a6cb1aacc66bf31d3705c130d", func := "pylon/pylonlaw03.VecBasis", spec := "vecBasis", unfollowed := true, recurses := true, apart := false }
def VecBasisSaid : Prop := vecBasisRow.holds Try.pinned (OpenSpec.ofChange vecBasisSpec)

/-- ITS FALSE NEIGHBOUR: 'it returns false'. Refute it at one input. -/
def vecBasisWrong : ChangeSpec := { name := "vecBasis", fn := fun _ => fun
  | [d] => { results := [.lit (.bool false)], args := [d] }
  | _ => none }
def VecBasisWrongFalsely : Prop := vecBasisRow.holds Try.pinned (OpenSpec.ofChange vecBasisWrong)

/-- 'pylonlaw33.NodeLinear': WHATEVER THE INPUT: true; the input reads as it did. -/
def nodeLinearSpec : ChangeSpec := { name := "nodeLinear", fn := fun _ => fun
  | [d1, d2, d3, d4, d5, d6, d7] => { results := [.lit (.bool true)], args := [d1, d2, d3, d4, d5, d6, d7] }
  | _ => none }
def nodeLinearRow : OpenClaim := { program := "ytnmmgegnioihmaa", sum := "63e2e9b902f17e049b7f9ca6299d40b3c5dc938a6cb1aacc66bf31d3705c130d", func := "pylon/pylonlaw33.NodeLinear", spec := "nodeLinear", unfollowed := true, recurses := true, apart := false }
def NodeLinearSaid : Prop := nodeLinearRow.holds Try.pinned (OpenSpec.ofChange nodeLinearSpec)

/-- ITS FALSE NEIGHBOUR: 'it returns false'. Refute it at one input. -/
def nodeLinearWrong : ChangeSpec := { name := "nodeLinear", fn := fun _ => fun
  | [d1, d2, d3, d4, d5, d6, d7] => { results := [.lit (.bool false)], args := [d1, d2, d3, d4, d5, d6, d7] }
  | _ => none }
def NodeLinearWrongFalsely : Prop := nodeLinearRow.holds Try.pinned (OpenSpec.ofChange nodeLinearWrong)

/-- 'pylonlaw03.VecOrder': WHATEVER THE INPUT: true; the input reads as it did. -/
def vecOrderSpec : ChangeSpec := { name := "vecOrder", fn := fun _ => fun
  | [d1, d2, d3, d4] => { results := [.lit (.bool true)], args := [d1, d2, d3, d4] }
  | _ => none }
def vecOrderRow : OpenClaim := { program := "ytnmmgegnioihmaa", sum := "63e2e9b902f17e049b7f9ca6299d40b3c5dc938a6cb1aacc66bf31d3705c130d", func := "pylon/pylonlaw03.VecOrder", spec := "vecOrder", unfollowed := true, recurses := true, apart := false }
def VecOrderSaid : Prop := vecOrderRow.holds Try.pinned (OpenSpec.ofChange vecOrderSpec)

/-- ITS FALSE NEIGHBOUR: 'it returns false'. Refute it at one input. -/
def vecOrderWrong : ChangeSpec := { name := "vecOrder", fn := fun _ => fun
  | [d1, d2, d3, d4] => { results := [.lit (.bool false)], args := [d1, d2, d3, d4] }
  | _ => none }
def VecOrderWrongFalsely : Prop := vecOrderRow.holds Try.pinned (OpenSpec.ofChange vecOrderWrong)

/-- 'pylonlaw33.NodeRentIdentity': WHATEVER THE INPUT: true; the input reads as it did. -/
def nodeRentIdentitySpec : ChangeSpec := { name := "nodeRentIdentity", fn := fun _ => fun
  | [d1, d2, d3, d4, d5] => { results := [.lit (.bool true)], args := [d1, d2, d3, d4, d5] }
  | _ => none }
def nodeRentIdentityRow : OpenClaim := { program := "ytnmmgegnioihmaa", sum := "63e2e9b902f17e049b7f9ca6299d40b3c5dc938a6cb1aacc66bf31d3705c130d", func := "pylon/pylonlaw33.NodeRentIdentity", spec := "nodeRentIdentity", unfollowed := true, recurses := true, apart := false }
def NodeRentIdentitySaid : Prop := nodeRentIdentityRow.holds Try.pinned (OpenSpec.ofChange nodeRentIdentitySpec)

/-- ITS FALSE NEIGHBOUR: 'it returns false'. Refute it at one input. -/
def nodeRentIdentityWrong : ChangeSpec := { name := "nodeRentIdentity", fn := fun _ => fun
  | [d1, d2, d3, d4, d5] => { results := [.lit (.bool false)], args := [d1, d2, d3, d4, d5] }
  | _ => none }
def NodeRentIdentityWrongFalsely : Prop := nodeRentIdentityRow.holds Try.pinned (OpenSpec.ofChange nodeRentIdentityWrong)

/-- 'pylonlaw33.NodeInjections': WHATEVER THE INPUT: true; the input reads as it did. -/
def nodeInjectionsSpec : ChangeSpec := { name := "nodeInjections", fn := fun _ => fun
  | [d1, d2, d3, d4, d5, d6, d7] => { results := [.lit (.bool true)], args := [d1, d2, d3, d4, d5, d6, d7] }
  | _ => none }
def nodeInjectionsRow : OpenClaim := { program := "ytnmmgegnioihmaa", sum := "63e2e9b902f17e049b7f9ca6299d40b3c5dc938a6cb1aacc66bf31d3705c130d", func := "pylon/pylonlaw33.NodeInjections", spec := "nodeInjections", unfollowed := true, recurses := true, apart := false }
def NodeInjectionsSaid : Prop := nodeInjectionsRow.holds Try.pinned (OpenSpec.ofChange nodeInjectionsSpec)

/-- ITS FALSE NEIGHBOUR: 'it returns false'. Refute it at one input. -/
def nodeInjectionsWrong : ChangeSpec := { name := "nodeInjections", fn := fun _ => fun
  | [d1, d2, d3, d4, d5, d6, d7] => { results := [.lit (.bool false)], args := [d1, d2, d3, d4, d5, d6, d7] }
  | _ => none }
def NodeInjectionsWrongFalsely : Prop := nodeInjectionsRow.holds Try.pinned (OpenSpec.ofChange nodeInjectionsWrong)

/- THE SECOND FORM. 'bulk': how many values and letters a reading holds, each counted each time it is reached (what is shared counts as often as it is met; a slice's spare places count too). A statement '..UptoSaid' is the law's where the arguments, and the package variables that the reading takes, are together of bulk at most 1048576: NARROWER than '..Said'. Prove '..Said' where nothing that the law and all that it calls make is longer than what came in: it says more and counts as full. Else prove '..UptoSaid'. A law counts once. -/
mutual
def uptoBulk {H : Type} : DataW H → Nat
  | .lit (.string bytes) => bytes.length + 1
  | .lit _ => 1
  | .nil => 1
  | .ptr d => uptoBulk d + 1
  | .slice elems spare => uptoBulkAll elems + uptoBulkAll spare + 1
  | .agg parts => uptoBulkAll parts + 1
  | .iface _ d => uptoBulk d + 1
  | .map entries => uptoBulkEntries entries + 1
  | .held _ => 1
def uptoBulkAll {H : Type} : List (DataW H) → Nat
  | [] => 0
  | d :: r => uptoBulk d + uptoBulkAll r
def uptoBulkEntries {H : Type} : List (Lit × DataW H) → Nat
  | [] => 0
  | x :: r => uptoBulkEntry x + uptoBulkEntries r
def uptoBulkEntry {H : Type} : Lit × DataW H → Nat
  | (.string bytes, d) => bytes.length + uptoBulk d + 1
  | (_, d) => uptoBulk d + 1
 end
def uptoSmall : (H : Type) → List (DataW H) → Bool := fun _ ds => decide (uptoBulkAll ds ≤ 1048576)
def OpenSpec.upto (s : _root_.Go.ChangeSpec) : _root_.Go.OpenSpec := { _root_.Go.OpenSpec.ofChange s with cond := some uptoSmall }

/-- 'pylonlaw36.SettleMatches', WHERE WHAT IT READS IS OF BULK AT MOST 1048576: true; the input reads as it did. -/
def settleMatchesUptoRow : OpenClaim := { program := "ytnmmgegnioihmaa", sum := "63e2e9b902f17e049b7f9ca6299d40b3c5dc938a6cb1aacc66bf31d3705c130d", func := "pylon/pylonlaw36.SettleMatches", spec := "settleMatches", unfollowed := true, recurses := true, apart := false, narrowed := true }
def SettleMatchesUptoSaid : Prop := settleMatchesUptoRow.holds Try.pinned (OpenSpec.upto settleMatchesSpec)

/-- 'pylonlaw36.SettleNoDeviation', WHERE WHAT IT READS IS OF BULK AT MOST 1048576: true; the input reads as it did. -/
def settleNoDeviationUptoRow : OpenClaim := { program := "ytnmmgegnioihmaa", sum := "63e2e9b902f17e049b7f9ca6299d40b3c5dc938a6cb1aacc66bf31d3705c130d", func := "pylon/pylonlaw36.SettleNoDeviation", spec := "settleNoDeviation", unfollowed := true, recurses := true, apart := false, narrowed := true }
def SettleNoDeviationUptoSaid : Prop := settleNoDeviationUptoRow.holds Try.pinned (OpenSpec.upto settleNoDeviationSpec)

/-- 'pylonlaw36.SettleSplit', WHERE WHAT IT READS IS OF BULK AT MOST 1048576: true; the input reads as it did. -/
def settleSplitUptoRow : OpenClaim := { program := "ytnmmgegnioihmaa", sum := "63e2e9b902f17e049b7f9ca6299d40b3c5dc938a6cb1aacc66bf31d3705c130d", func := "pylon/pylonlaw36.SettleSplit", spec := "settleSplit", unfollowed := true, recurses := true, apart := false, narrowed := true }
def SettleSplitUptoSaid : Prop := settleSplitUptoRow.holds Try.pinned (OpenSpec.upto settleSplitSpec)

/-- 'pylonlaw36.SettlePriceChange', WHERE WHAT IT READS IS OF BULK AT MOST 1048576: true; the input reads as it did. -/
def settlePriceChangeUptoRow : OpenClaim := { program := "ytnmmgegnioihmaa", sum := "63e2e9b902f17e049b7f9ca6299d40b3c5dc938a6cb1aacc66bf31d3705c130d", func := "pylon/pylonlaw36.SettlePriceChange", spec := "settlePriceChange", unfollowed := true, recurses := true, apart := false, narrowed := true }
def SettlePriceChangeUptoSaid : Prop := settlePriceChangeUptoRow.holds Try.pinned (OpenSpec.upto settlePriceChangeSpec)

/-- 'pylonlaw36.SettleRents', WHERE WHAT IT READS IS OF BULK AT MOST 1048576: true; the input reads as it did. -/
def settleRentsUptoRow : OpenClaim := { program := "ytnmmgegnioihmaa", sum := "63e2e9b902f17e049b7f9ca6299d40b3c5dc938a6cb1aacc66bf31d3705c130d", func := "pylon/pylonlaw36.SettleRents", spec := "settleRents", unfollowed := true, recurses := true, apart := false, narrowed := true }
def SettleRentsUptoSaid : Prop := settleRentsUptoRow.holds Try.pinned (OpenSpec.upto settleRentsSpec)

/-- 'pylonlaw36.SettleExamples', WHERE WHAT IT READS IS OF BULK AT MOST 1048576: true; the input reads as it did. -/
def settleExamplesUptoRow : OpenClaim := { program := "ytnmmgegnioihmaa", sum := "63e2e9b902f17e049b7f9ca6299d40b3c5dc938a6cb1aacc66bf31d3705c130d", func := "pylon/pylonlaw36.SettleExamples", spec := "settleExamples", unfollowed := true, recurses := true, apart := false, narrowed := true }
def SettleExamplesUptoSaid : Prop := settleExamplesUptoRow.holds Try.pinned (OpenSpec.upto settleExamplesSpec)

/-- 'pylonlaw36.SettleDays', WHERE WHAT IT READS IS OF BULK AT MOST 1048576: true; the input reads as it did. -/
def settleDaysUptoRow : OpenClaim := { program := "ytnmmgegnioihmaa", sum := "63e2e9b902f17e049b7f9ca6299d40b3c5dc938a6cb1aacc66bf31d3705c130d", func := "pylon/pylonlaw36.SettleDays", spec := "settleDays", unfollowed := true, recurses := true, apart := false, narrowed := true }
def SettleDaysUptoSaid : Prop := settleDaysUptoRow.holds Try.pinned (OpenSpec.upto settleDaysSpec)

/-- 'pylonlaw33.NodeTrades', WHERE WHAT IT READS IS OF BULK AT MOST 1048576: true; the input reads as it did. -/
def nodeTradesUptoRow : OpenClaim := { program := "ytnmmgegnioihmaa", sum := "63e2e9b902f17e049b7f9ca6299d40b3c5dc938a6cb1aacc66bf31d3705c130d", func := "pylon/pylonlaw33.NodeTrades", spec := "nodeTrades", unfollowed := true, recurses := true, apart := false, narrowed := true }
def NodeTradesUptoSaid : Prop := nodeTradesUptoRow.holds Try.pinned (OpenSpec.upto nodeTradesSpec)

/-- 'pylonlaw03.VecExamples', WHERE WHAT IT READS IS OF BULK AT MOST 1048576: true; the input reads as it did. -/
def vecExamplesUptoRow : OpenClaim := { program := "ytnmmgegnioihmaa", sum := "63e2e9b902f17e049b7f9ca6299d40b3c5dc938a6cb1aacc66bf31d3705c130d", func := "pylon/pylonlaw03.VecExamples", spec := "vecExamples", unfollowed := true, recurses := true, apart := false, narrowed := true }
def VecExamplesUptoSaid : Prop := vecExamplesUptoRow.holds Try.pinned (OpenSpec.upto vecExamplesSpec)

/-- 'pylonlaw03.VecLimit', WHERE WHAT IT READS IS OF BULK AT MOST 1048576: true; the input reads as it did. -/
def vecLimitUptoRow : OpenClaim := { program := "ytnmmgegnioihmaa", sum := "63e2e9b902f17e049b7f9ca6299d40b3c5dc938a6cb1aacc66bf31d3705c130d", func := "pylon/pylonlaw03.VecLimit", spec := "vecLimit", unfollowed := true, recurses := true, apart := false, narrowed := true }
def VecLimitUptoSaid : Prop := vecLimitUptoRow.holds Try.pinned (OpenSpec.upto vecLimitSpec)

/-- 'pylonlaw03.VecCompareMatches', WHERE WHAT IT READS IS OF BULK AT MOST 1048576: true; the input reads as it did. -/
def vecCompareMatchesUptoRow : OpenClaim := { program := "ytnmmgegnioihmaa", sum := "63e2e9b902f17e049b7f9ca6299d40b3c5dc938a6cb1aacc66bf31d3705c130d", func := "pylon/pylonlaw03.VecCompareMatches", spec := "vecCompareMatches", unfollowed := true, recurses := true, apart := false, narrowed := true }
def VecCompareMatchesUptoSaid : Prop := vecCompareMatchesUptoRow.holds Try.pinned (OpenSpec.upto vecCompareMatchesSpec)

/-- 'pylonlaw33.NodeMatches', WHERE WHAT IT READS IS OF BULK AT MOST 1048576: true; the input reads as it did. -/
def nodeMatchesUptoRow : OpenClaim := { program := "ytnmmgegnioihmaa", sum := "63e2e9b902f17e049b7f9ca6299d40b3c5dc938a6cb1aacc66bf31d3705c130d", func := "pylon/pylonlaw33.NodeMatches", spec := "nodeMatches", unfollowed := true, recurses := true, apart := false, narrowed := true }
def NodeMatchesUptoSaid : Prop := nodeMatchesUptoRow.holds Try.pinned (OpenSpec.upto nodeMatchesSpec)

/-- 'pylonlaw33.NodeInjectionsMatch', WHERE WHAT IT READS IS OF BULK AT MOST 1048576: true; the input reads as it did. -/
def nodeInjectionsMatchUptoRow : OpenClaim := { program := "ytnmmgegnioihmaa", sum := "63e2e9b902f17e049b7f9ca6299d40b3c5dc938a6cb1aacc66bf31d3705c130d", func := "pylon/pylonlaw33.NodeInjectionsMatch", spec := "nodeInjectionsMatch", unfollowed := true, recurses := true, apart := false, narrowed := true }
def NodeInjectionsMatchUptoSaid : Prop := nodeInjectionsMatchUptoRow.holds Try.pinned (OpenSpec.upto nodeInjectionsMatchSpec)

/-- 'pylonlaw33.NodeExamples', WHERE WHAT IT READS IS OF BULK AT MOST 1048576: true; the input reads as it did. -/
def nodeExamplesUptoRow : OpenClaim := { program := "ytnmmgegnioihmaa", sum := "63e2e9b902f17e049b7f9ca6299d40b3c5dc938a6cb1aacc66bf31d3705c130d", func := "pylon/pylonlaw33.NodeExamples", spec := "nodeExamples", unfollowed := true, recurses := true, apart := false, narrowed := true }
def NodeExamplesUptoSaid : Prop := nodeExamplesUptoRow.holds Try.pinned (OpenSpec.upto nodeExamplesSpec)

/-- 'pylonlaw33.NodeLevels', WHERE WHAT IT READS IS OF BULK AT MOST 1048576: true; the input reads as it did. -/
def nodeLevelsUptoRow : OpenClaim := { program := "ytnmmgegnioihmaa", sum := "63e2e9b902f17e049b7f9ca6299d40b3c5dc938a6cb1aacc66bf31d3705c130d", func := "pylon/pylonlaw33.NodeLevels", spec := "nodeLevels", unfollowed := true, recurses := true, apart := false, narrowed := true }
def NodeLevelsUptoSaid : Prop := nodeLevelsUptoRow.holds Try.pinned (OpenSpec.upto nodeLevelsSpec)

/-- 'pylonlaw33.NodeExtremes', WHERE WHAT IT READS IS OF BULK AT MOST 1048576: true; the input reads as it did. -/
def nodeExtremesUptoRow : OpenClaim := { program := "ytnmmgegnioihmaa", sum := "63e2e9b902f17e049b7f9ca6299d40b3c5dc938a6cb1aacc66bf31d3705c130d", func := "pylon/pylonlaw33.NodeExtremes", spec := "nodeExtremes", unfollowed := true, recurses := true, apart := false, narrowed := true }
def NodeExtremesUptoSaid : Prop := nodeExtremesUptoRow.holds Try.pinned (OpenSpec.upto nodeExtremesSpec)

/-- 'pylonlaw03.VecBuildMatches', WHERE WHAT IT READS IS OF BULK AT MOST 1048576: true; the input reads as it did. -/
def vecBuildMatchesUptoRow : OpenClaim := { program := "ytnmmgegnioihmaa", sum := "63e2e9b902f17e049b7f9ca6299d40b3c5dc938a6cb1aacc66bf31d3705c130d", func := "pylon/pylonlaw03.VecBuildMatches", spec := "vecBuildMatches", unfollowed := true, recurses := true, apart := false, narrowed := true }
def VecBuildMatchesUptoSaid : Prop := vecBuildMatchesUptoRow.holds Try.pinned (OpenSpec.upto vecBuildMatchesSpec)

/-- 'pylonlaw03.VecBasis', WHERE WHAT IT READS IS OF BULK AT MOST 1048576: true; the input reads as it did. -/
def vecBasisUptoRow : OpenClaim := { program := "ytnmmgegnioihmaa", sum := "63e2e9b902f17e049b7f9ca6299d40b3c5dc938a6cb1aacc66bf31d3705c130d", func := "pylon/pylonlaw03.VecBasis", spec := "vecBasis", unfollowed := true, recurses := true, apart := false, narrowed := true }
def VecBasisUptoSaid : Prop := vecBasisUptoRow.holds Try.pinned (OpenSpec.upto vecBasisSpec)

/-- 'pylonlaw33.NodeLinear', WHERE WHAT IT READS IS OF BULK AT MOST 1048576: true; the input reads as it did. -/
def nodeLinearUptoRow : OpenClaim := { program := "ytnmmgegnioihmaa", sum := "63e2e9b902f17e049b7f9ca6299d40b3c5dc938a6cb1aacc66bf31d3705c130d", func := "pylon/pylonlaw33.NodeLinear", spec := "nodeLinear", unfollowed := true, recurses := true, apart := false, narrowed := true }
def NodeLinearUptoSaid : Prop := nodeLinearUptoRow.holds Try.pinned (OpenSpec.upto nodeLinearSpec)

/-- 'pylonlaw03.VecOrder', WHERE WHAT IT READS IS OF BULK AT MOST 1048576: true; the input reads as it did. -/
def vecOrderUptoRow : OpenClaim := { program := "ytnmmgegnioihmaa", sum := "63e2e9b902f17e049b7f9ca6299d40b3c5dc938a6cb1aacc66bf31d3705c130d", func := "pylon/pylonlaw03.VecOrder", spec := "vecOrder", unfollowed := true, recurses := true, apart := false, narrowed := true }
def VecOrderUptoSaid : Prop := vecOrderUptoRow.holds Try.pinned (OpenSpec.upto vecOrderSpec)

/-- 'pylonlaw33.NodeRentIdentity', WHERE WHAT IT READS IS OF BULK AT MOST 1048576: true; the input reads as it did. -/
def nodeRentIdentityUptoRow : OpenClaim := { program := "ytnmmgegnioihmaa", sum := "63e2e9b902f17e049b7f9ca6299d40b3c5dc938a6cb1aacc66bf31d3705c130d", func := "pylon/pylonlaw33.NodeRentIdentity", spec := "nodeRentIdentity", unfollowed := true, recurses := true, apart := false, narrowed := true }
def NodeRentIdentityUptoSaid : Prop := nodeRentIdentityUptoRow.holds Try.pinned (OpenSpec.upto nodeRentIdentitySpec)

/-- 'pylonlaw33.NodeInjections', WHERE WHAT IT READS IS OF BULK AT MOST 1048576: true; the input reads as it did. -/
def nodeInjectionsUptoRow : OpenClaim := { program := "ytnmmgegnioihmaa", sum := "63e2e9b902f17e049b7f9ca6299d40b3c5dc938a6cb1aacc66bf31d3705c130d", func := "pylon/pylonlaw33.NodeInjections", spec := "nodeInjections", unfollowed := true, recurses := true, apart := false, narrowed := true }
def NodeInjectionsUptoSaid : Prop := nodeInjectionsUptoRow.holds Try.pinned (OpenSpec.upto nodeInjectionsSpec)

end Rows
end Go.Proofs.Ytnmmgegnioihmaa
