/-
  NARROWER THAN 'FOR EVERY INPUT', by the rows' own cells (each row's printed sentence says how): PoolAll: laid · MeansAll: laid · MeansStill: laid · PoolTurn: laid · PoolLeast: laid · VectEdges: laid · VectRow: laid · MetricTurn: laid · QuantOrder: laid · QuantTurn: laid · MeansNear: laid · MeansOne: laid · VectAll: laid · MetricAll: laid · PoolWhole: laid.
  DERIVED. THE GIVEN ROWS OF THIS SEAT. 15 by the template 'for every input the law returns true; each argument reads behind the call as it read before'; 0 by the template 'total and deterministic' (their statements: YtaegmplbkbaniaaGreatDoorTotals.lean).
  GIVEN WITH THE SEED: the statements are not yours to turn. If you find one false, say at which input.
  Laid BY PROGRAM, IN A SANDBOX (cutbox-rows.mjs): the forced cells as the released guide's own fill.sh prints them over the translation 6e20e0ec4c4d5732… (all of the seat's roots in one cut). By AI agents, Wed Nov 11 2026. No macro, syntax, notation, axiom, sorry.
-/
import Derived.Test.YtaegmplbkbaniaaGreatDoorChecked
import GoSem.Claim
import GoSem.ClaimJoined
import GoSem.ClaimMapViews
import Derived.JoinedTies
import Derived.KernelRfl
namespace Go.Proofs.YtaegmplbkbaniaaGreatDoor
/- THE CELL 'sum', in the pinned program and in every row, IS THE sha256 OF THE DUMP (.gsa) THAT YtaegmplbkbaniaaGreatDoorProg.lean LOADS. Nothing in Lean hashes anything: it is a label: what it is worth is what the hold of that sum in a sandbox is worth. -/
noncomputable def Tryz.pinned : Pinned := { name := "ytaegmplbkbaniaagreatdoor", sum := "6e20e0ec4c4d57329916409cfa22226d977d3ec9600937b20b4a3980c813ba78", checked := Tryz.checked }
namespace Rows
def none {H : Type} : Left H := { results := [], args := [] }

/- WHAT THE LISTED PACKAGE-LEVEL VARIABLES READ AS WHEN THE CALL BEGINS. Each datum BY PROGRAM (the guide's laid-datum.mjs) off the statement by which the dump's own 'gosem.cut.vars' lays the variable. In a bare row this is a premise. The card (YtaegmplbkbaniaaGreatDoorCards.lean) ties it to the program's text. -/
def laid_errors_errorType {H : Type} : DataW H := .iface "internal/reflectlite.rtype" (.agg [.ptr (.lit (.string [101, 114, 114, 111, 114]))])

/-- 'fieldfarelaw7.PoolAll': WHATEVER THE INPUT: true; the input reads as it did. -/
def poolAllSpec : ChangeSpec := { name := "poolAll", fn := fun _ => fun
  | [d1, d2] => { results := [.lit (.bool true)], args := [d1, d2] }
  | _ => none }
def poolAllRow : OpenClaim := { program := "ytaegmplbkbaniaagreatdoor", sum := "6e20e0ec4c4d57329916409cfa22226d977d3ec9600937b20b4a3980c813ba78", func := "fieldfare/fieldfarelaw7.PoolAll", spec := "poolAll", inPlace := ["slices.overlaps[fieldfare/api.Hit]", "internal/reflectlite.ValueOf", "(internal/reflectlite.Value).Type", "(internal/reflectlite.Value).IsNil", "internal/reflectlite.TypeOf", "(internal/reflectlite.Value).Elem", "(internal/reflectlite.Value).Set"], unfollowed := true, recurses := true, named := ["errors.errorType"], apart := false, laid := [("errors.errorType", laid_errors_errorType)] }
def PoolAllSaid : Prop := poolAllRow.holds Tryz.pinned (OpenSpec.ofChange poolAllSpec)

/-- ITS FALSE NEIGHBOUR: 'it returns false'. Refute it at one input. -/
def poolAllWrong : ChangeSpec := { name := "poolAll", fn := fun _ => fun
  | [d1, d2] => { results := [.lit (.bool false)], args := [d1, d2] }
  | _ => none }
def PoolAllWrongFalsely : Prop := poolAllRow.holds Tryz.pinned (OpenSpec.ofChange poolAllWrong)

/-- 'fieldfarelaw7.MeansAll': WHATEVER THE INPUT: true; the input reads as it did. -/
def meansAllSpec : ChangeSpec := { name := "meansAll", fn := fun _ => fun
  | [d1, d2, d3, d4, d5] => { results := [.lit (.bool true)], args := [d1, d2, d3, d4, d5] }
  | _ => none }
def meansAllRow : OpenClaim := { program := "ytaegmplbkbaniaagreatdoor", sum := "6e20e0ec4c4d57329916409cfa22226d977d3ec9600937b20b4a3980c813ba78", func := "fieldfare/fieldfarelaw7.MeansAll", spec := "meansAll", inPlace := ["slices.overlaps[fieldfare/api.Hit]", "internal/reflectlite.ValueOf", "(internal/reflectlite.Value).Type", "(internal/reflectlite.Value).IsNil", "internal/reflectlite.TypeOf", "(internal/reflectlite.Value).Elem", "(internal/reflectlite.Value).Set"], unfollowed := true, recurses := true, named := ["errors.errorType"], apart := false, laid := [("errors.errorType", laid_errors_errorType)] }
def MeansAllSaid : Prop := meansAllRow.holds Tryz.pinned (OpenSpec.ofChange meansAllSpec)

/-- ITS FALSE NEIGHBOUR: 'it returns false'. Refute it at one input. -/
def meansAllWrong : ChangeSpec := { name := "meansAll", fn := fun _ => fun
  | [d1, d2, d3, d4, d5] => { results := [.lit (.bool false)], args := [d1, d2, d3, d4, d5] }
  | _ => none }
def MeansAllWrongFalsely : Prop := meansAllRow.holds Tryz.pinned (OpenSpec.ofChange meansAllWrong)

/-- 'fieldfarelaw7.MeansStill': WHATEVER THE INPUT: true; the input reads as it did. -/
def meansStillSpec : ChangeSpec := { name := "meansStill", fn := fun _ => fun
  | [d1, d2, d3] => { results := [.lit (.bool true)], args := [d1, d2, d3] }
  | _ => none }
def meansStillRow : OpenClaim := { program := "ytaegmplbkbaniaagreatdoor", sum := "6e20e0ec4c4d57329916409cfa22226d977d3ec9600937b20b4a3980c813ba78", func := "fieldfare/fieldfarelaw7.MeansStill", spec := "meansStill", inPlace := ["slices.overlaps[fieldfare/api.Hit]", "internal/reflectlite.ValueOf", "(internal/reflectlite.Value).Type", "(internal/reflectlite.Value).IsNil", "internal/reflectlite.TypeOf", "(internal/reflectlite.Value).Elem", "(internal/reflectlite.Value).Set"], unfollowed := true, recurses := true, named := ["errors.errorType"], apart := false, laid := [("errors.errorType", laid_errors_errorType)] }
def MeansStillSaid : Prop := meansStillRow.holds Tryz.pinned (OpenSpec.ofChange meansStillSpec)

/-- ITS FALSE NEIGHBOUR: 'it returns false'. Refute it at one input. -/
def meansStillWrong : ChangeSpec := { name := "meansStill", fn := fun _ => fun
  | [d1, d2, d3] => { results := [.lit (.bool false)], args := [d1, d2, d3] }
  | _ => none }
def MeansStillWrongFalsely : Prop := meansStillRow.holds Tryz.pinned (OpenSpec.ofChange meansStillWrong)

/-- 'fieldfarelaw7.PoolTurn': WHATEVER THE INPUT: true; the input reads as it did. -/
def poolTurnSpec : ChangeSpec := { name := "poolTurn", fn := fun _ => fun
  | [d1, d2, d3, d4] => { results := [.lit (.bool true)], args := [d1, d2, d3, d4] }
  | _ => none }
def poolTurnRow : OpenClaim := { program := "ytaegmplbkbaniaagreatdoor", sum := "6e20e0ec4c4d57329916409cfa22226d977d3ec9600937b20b4a3980c813ba78", func := "fieldfare/fieldfarelaw7.PoolTurn", spec := "poolTurn", inPlace := ["slices.overlaps[fieldfare/api.Hit]", "internal/reflectlite.ValueOf", "(internal/reflectlite.Value).Type", "(internal/reflectlite.Value).IsNil", "internal/reflectlite.TypeOf", "(internal/reflectlite.Value).Elem", "(internal/reflectlite.Value).Set"], unfollowed := true, recurses := true, named := ["errors.errorType"], apart := false, laid := [("errors.errorType", laid_errors_errorType)] }
def PoolTurnSaid : Prop := poolTurnRow.holds Tryz.pinned (OpenSpec.ofChange poolTurnSpec)

/-- ITS FALSE NEIGHBOUR: 'it returns false'. Refute it at one input. -/
def poolTurnWrong : ChangeSpec := { name := "poolTurn", fn := fun _ => fun
  | [d1, d2, d3, d4] => { results := [.lit (.bool false)], args := [d1, d2, d3, d4] }
  | _ => none }
def PoolTurnWrongFalsely : Prop := poolTurnRow.holds Tryz.pinned (OpenSpec.ofChange poolTurnWrong)

/-- 'fieldfarelaw7.PoolLeast': WHATEVER THE INPUT: true; the input reads as it did. -/
def poolLeastSpec : ChangeSpec := { name := "poolLeast", fn := fun _ => fun
  | [d1, d2, d3] => { results := [.lit (.bool true)], args := [d1, d2, d3] }
  | _ => none }
def poolLeastRow : OpenClaim := { program := "ytaegmplbkbaniaagreatdoor", sum := "6e20e0ec4c4d57329916409cfa22226d977d3ec9600937b20b4a3980c813ba78", func := "fieldfare/fieldfarelaw7.PoolLeast", spec := "poolLeast", inPlace := ["slices.overlaps[fieldfare/api.Hit]", "internal/reflectlite.ValueOf", "(internal/reflectlite.Value).Type", "(internal/reflectlite.Value).IsNil", "internal/reflectlite.TypeOf", "(internal/reflectlite.Value).Elem", "(internal/reflectlite.Value).Set"], unfollowed := true, recurses := true, named := ["errors.errorType"], apart := false, laid := [("errors.errorType", laid_errors_errorType)] }
def PoolLeastSaid : Prop := poolLeastRow.holds Tryz.pinned (OpenSpec.ofChange poolLeastSpec)

/-- ITS FALSE NEIGHBOUR: 'it returns false'. Refute it at one input. -/
def poolLeastWrong : ChangeSpec := { name := "poolLeast", fn := fun _ => fun
  | [d1, d2, d3] => { results := [.lit (.bool false)], args := [d1, d2, d3] }
  | _ => none }
def PoolLeastWrongFalsely : Prop := poolLeastRow.holds Tryz.pinned (OpenSpec.ofChange poolLeastWrong)

/-- 'fieldfarelaw7.VectEdges': WHATEVER THE INPUT: true; the input reads as it did. -/
def vectEdgesSpec : ChangeSpec := { name := "vectEdges", fn := fun _ => fun
  | [d1, d2, d3] => { results := [.lit (.bool true)], args := [d1, d2, d3] }
  | _ => none }
def vectEdgesRow : OpenClaim := { program := "ytaegmplbkbaniaagreatdoor", sum := "6e20e0ec4c4d57329916409cfa22226d977d3ec9600937b20b4a3980c813ba78", func := "fieldfare/fieldfarelaw7.VectEdges", spec := "vectEdges", inPlace := ["slices.overlaps[fieldfare/api.Hit]", "internal/reflectlite.ValueOf", "(internal/reflectlite.Value).Type", "(internal/reflectlite.Value).IsNil", "internal/reflectlite.TypeOf", "(internal/reflectlite.Value).Elem", "(internal/reflectlite.Value).Set"], unfollowed := true, recurses := true, named := ["errors.errorType"], apart := false, laid := [("errors.errorType", laid_errors_errorType)] }
def VectEdgesSaid : Prop := vectEdgesRow.holds Tryz.pinned (OpenSpec.ofChange vectEdgesSpec)

/-- ITS FALSE NEIGHBOUR: 'it returns false'. Refute it at one input. -/
def vectEdgesWrong : ChangeSpec := { name := "vectEdges", fn := fun _ => fun
  | [d1, d2, d3] => { results := [.lit (.bool false)], args := [d1, d2, d3] }
  | _ => none }
def VectEdgesWrongFalsely : Prop := vectEdgesRow.holds Tryz.pinned (OpenSpec.ofChange vectEdgesWrong)

/-- 'fieldfarelaw7.VectRow': WHATEVER THE INPUT: true; the input reads as it did. -/
def vectRowSpec : ChangeSpec := { name := "vectRow", fn := fun _ => fun
  | [d1, d2] => { results := [.lit (.bool true)], args := [d1, d2] }
  | _ => none }
def vectRowRow : OpenClaim := { program := "ytaegmplbkbaniaagreatdoor", sum := "6e20e0ec4c4d57329916409cfa22226d977d3ec9600937b20b4a3980c813ba78", func := "fieldfare/fieldfarelaw7.VectRow", spec := "vectRow", inPlace := ["slices.overlaps[fieldfare/api.Hit]", "internal/reflectlite.ValueOf", "(internal/reflectlite.Value).Type", "(internal/reflectlite.Value).IsNil", "internal/reflectlite.TypeOf", "(internal/reflectlite.Value).Elem", "(internal/reflectlite.Value).Set"], unfollowed := true, recurses := true, named := ["errors.errorType"], apart := false, laid := [("errors.errorType", laid_errors_errorType)] }
def VectRowSaid : Prop := vectRowRow.holds Tryz.pinned (OpenSpec.ofChange vectRowSpec)

/-- ITS FALSE NEIGHBOUR: 'it returns false'. Refute it at one input. -/
def vectRowWrong : ChangeSpec := { name := "vectRow", fn := fun _ => fun
  | [d1, d2] => { results := [.lit (.bool false)], args := [d1, d2] }
  | _ => none }
def VectRowWrongFalsely : Prop := vectRowRow.holds Tryz.pinned (OpenSpec.ofChange vectRowWrong)

/-- 'fieldfarelaw7.MetricTurn': WHATEVER THE INPUT: true; the input reads as it did. -/
def metricTurnSpec : ChangeSpec := { name := "metricTurn", fn := fun _ => fun
  | [d1, d2, d3, d4] => { results := [.lit (.bool true)], args := [d1, d2, d3, d4] }
  | _ => none }
def metricTurnRow : OpenClaim := { program := "ytaegmplbkbaniaagreatdoor", sum := "6e20e0ec4c4d57329916409cfa22226d977d3ec9600937b20b4a3980c813ba78", func := "fieldfare/fieldfarelaw7.MetricTurn", spec := "metricTurn", inPlace := ["slices.overlaps[fieldfare/api.Hit]", "internal/reflectlite.ValueOf", "(internal/reflectlite.Value).Type", "(internal/reflectlite.Value).IsNil", "internal/reflectlite.TypeOf", "(internal/reflectlite.Value).Elem", "(internal/reflectlite.Value).Set"], unfollowed := true, recurses := true, named := ["errors.errorType"], apart := false, laid := [("errors.errorType", laid_errors_errorType)] }
def MetricTurnSaid : Prop := metricTurnRow.holds Tryz.pinned (OpenSpec.ofChange metricTurnSpec)

/-- ITS FALSE NEIGHBOUR: 'it returns false'. Refute it at one input. -/
def metricTurnWrong : ChangeSpec := { name := "metricTurn", fn := fun _ => fun
  | [d1, d2, d3, d4] => { results := [.lit (.bool false)], args := [d1, d2, d3, d4] }
  | _ => none }
def MetricTurnWrongFalsely : Prop := metricTurnRow.holds Tryz.pinned (OpenSpec.ofChange metricTurnWrong)

/-- 'fieldfarelaw7.QuantOrder': WHATEVER THE INPUT: true; the input reads as it did. -/
def quantOrderSpec : ChangeSpec := { name := "quantOrder", fn := fun _ => fun
  | [d1, d2, d3, d4] => { results := [.lit (.bool true)], args := [d1, d2, d3, d4] }
  | _ => none }
def quantOrderRow : OpenClaim := { program := "ytaegmplbkbaniaagreatdoor", sum := "6e20e0ec4c4d57329916409cfa22226d977d3ec9600937b20b4a3980c813ba78", func := "fieldfare/fieldfarelaw7.QuantOrder", spec := "quantOrder", inPlace := ["slices.overlaps[fieldfare/api.Hit]", "internal/reflectlite.ValueOf", "(internal/reflectlite.Value).Type", "(internal/reflectlite.Value).IsNil", "internal/reflectlite.TypeOf", "(internal/reflectlite.Value).Elem", "(internal/reflectlite.Value).Set"], unfollowed := true, recurses := true, named := ["errors.errorType"], apart := false, laid := [("errors.errorType", laid_errors_errorType)] }
def QuantOrderSaid : Prop := quantOrderRow.holds Tryz.pinned (OpenSpec.ofChange quantOrderSpec)

/-- ITS FALSE NEIGHBOUR: 'it returns false'. Refute it at one input. -/
def quantOrderWrong : ChangeSpec := { name := "quantOrder", fn := fun _ => fun
  | [d1, d2, d3, d4] => { results := [.lit (.bool false)], args := [d1, d2, d3, d4] }
  | _ => none }
def QuantOrderWrongFalsely : Prop := quantOrderRow.holds Tryz.pinned (OpenSpec.ofChange quantOrderWrong)

/-- 'fieldfarelaw7.QuantTurn': WHATEVER THE INPUT: true; the input reads as it did. -/
def quantTurnSpec : ChangeSpec := { name := "quantTurn", fn := fun _ => fun
  | [d1, d2, d3] => { results := [.lit (.bool true)], args := [d1, d2, d3] }
  | _ => none }
def quantTurnRow : OpenClaim := { program := "ytaegmplbkbaniaagreatdoor", sum := "6e20e0ec4c4d57329916409cfa22226d977d3ec9600937b20b4a3980c813ba78", func := "fieldfare/fieldfarelaw7.QuantTurn", spec := "quantTurn", inPlace := ["slices.overlaps[fieldfare/api.Hit]", "internal/reflectlite.ValueOf", "(internal/reflectlite.Value).Type", "(internal/reflectlite.Value).IsNil", "internal/reflectlite.TypeOf", "(internal/reflectlite.Value).Elem", "(internal/reflectlite.Value).Set"], unfollowed := true, recurses := true, named := ["errors.errorType"], apart := false, laid := [("errors.errorType", laid_errors_errorType)] }
def QuantTurnSaid : Prop := quantTurnRow.holds Tryz.pinned (OpenSpec.ofChange quantTurnSpec)

/-- ITS FALSE NEIGHBOUR: 'it returns false'. Refute it at one input. -/
def quantTurnWrong : ChangeSpec := { name := "quantTurn", fn := fun _ => fun
  | [d1, d2, d3] => { results := [.lit (.bool false)], args := [d1, d2, d3] }
  | _ => none }
def QuantTurnWrongFalsely : Prop := quantTurnRow.holds Tryz.pinned (OpenSpec.ofChange quantTurnWrong)

/-- 'fieldfarelaw7.MeansNear': WHATEVER THE INPUT: true; the input reads as it did. -/
def meansNearSpec : ChangeSpec := { name := "meansNear", fn := fun _ => fun
  | [d1, d2] => { results := [.lit (.bool true)], args := [d1, d2] }
  | _ => none }
def meansNearRow : OpenClaim := { program := "ytaegmplbkbaniaagreatdoor", sum := "6e20e0ec4c4d57329916409cfa22226d977d3ec9600937b20b4a3980c813ba78", func := "fieldfare/fieldfarelaw7.MeansNear", spec := "meansNear", inPlace := ["slices.overlaps[fieldfare/api.Hit]", "internal/reflectlite.ValueOf", "(internal/reflectlite.Value).Type", "(internal/reflectlite.Value).IsNil", "internal/reflectlite.TypeOf", "(internal/reflectlite.Value).Elem", "(internal/reflectlite.Value).Set"], unfollowed := true, recurses := true, named := ["errors.errorType"], apart := false, laid := [("errors.errorType", laid_errors_errorType)] }
def MeansNearSaid : Prop := meansNearRow.holds Tryz.pinned (OpenSpec.ofChange meansNearSpec)

/-- ITS FALSE NEIGHBOUR: 'it returns false'. Refute it at one input. -/
def meansNearWrong : ChangeSpec := { name := "meansNear", fn := fun _ => fun
  | [d1, d2] => { results := [.lit (.bool false)], args := [d1, d2] }
  | _ => none }
def MeansNearWrongFalsely : Prop := meansNearRow.holds Tryz.pinned (OpenSpec.ofChange meansNearWrong)

/-- 'fieldfarelaw7.MeansOne': WHATEVER THE INPUT: true; the input reads as it did. -/
def meansOneSpec : ChangeSpec := { name := "meansOne", fn := fun _ => fun
  | [d1, d2] => { results := [.lit (.bool true)], args := [d1, d2] }
  | _ => none }
def meansOneRow : OpenClaim := { program := "ytaegmplbkbaniaagreatdoor", sum := "6e20e0ec4c4d57329916409cfa22226d977d3ec9600937b20b4a3980c813ba78", func := "fieldfare/fieldfarelaw7.MeansOne", spec := "meansOne", inPlace := ["slices.overlaps[fieldfare/api.Hit]", "internal/reflectlite.ValueOf", "(internal/reflectlite.Value).Type", "(internal/reflectlite.Value).IsNil", "internal/reflectlite.TypeOf", "(internal/reflectlite.Value).Elem", "(internal/reflectlite.Value).Set"], unfollowed := true, recurses := true, named := ["errors.errorType"], apart := false, laid := [("errors.errorType", laid_errors_errorType)] }
def MeansOneSaid : Prop := meansOneRow.holds Tryz.pinned (OpenSpec.ofChange meansOneSpec)

/-- ITS FALSE NEIGHBOUR: 'it returns false'. Refute it at one input. -/
def meansOneWrong : ChangeSpec := { name := "meansOne", fn := fun _ => fun
  | [d1, d2] => { results := [.lit (.bool false)], args := [d1, d2] }
  | _ => none }
def MeansOneWrongFalsely : Prop := meansOneRow.holds Tryz.pinned (OpenSpec.ofChange meansOneWrong)

/-- 'fieldfarelaw7.VectAll': WHATEVER THE INPUT: true; the input reads as it did. -/
def vectAllSpec : ChangeSpec := { name := "vectAll", fn := fun _ => fun
  | [d1, d2, d3, d4] => { results := [.lit (.bool true)], args := [d1, d2, d3, d4] }
  | _ => none }
def vectAllRow : OpenClaim := { program := "ytaegmplbkbaniaagreatdoor", sum := "6e20e0ec4c4d57329916409cfa22226d977d3ec9600937b20b4a3980c813ba78", func := "fieldfare/fieldfarelaw7.VectAll", spec := "vectAll", inPlace := ["slices.overlaps[fieldfare/api.Hit]", "internal/reflectlite.ValueOf", "(internal/reflectlite.Value).Type", "(internal/reflectlite.Value).IsNil", "internal/reflectlite.TypeOf", "(internal/reflectlite.Value).Elem", "(internal/reflectlite.Value).Set"], unfollowed := true, recurses := true, named := ["errors.errorType"], apart := false, laid := [("errors.errorType", laid_errors_errorType)] }
def VectAllSaid : Prop := vectAllRow.holds Tryz.pinned (OpenSpec.ofChange vectAllSpec)

/-- ITS FALSE NEIGHBOUR: 'it returns false'. Refute it at one input. -/
def vectAllWrong : ChangeSpec := { name := "vectAll", fn := fun _ => fun
  | [d1, d2, d3, d4] => { results := [.lit (.bool false)], args := [d1, d2, d3, d4] }
  | _ => none }
def VectAllWrongFalsely : Prop := vectAllRow.holds Tryz.pinned (OpenSpec.ofChange vectAllWrong)

/-- 'fieldfarelaw7.MetricAll': WHATEVER THE INPUT: true; the input reads as it did. -/
def metricAllSpec : ChangeSpec := { name := "metricAll", fn := fun _ => fun
  | [d1, d2, d3, d4, d5] => { results := [.lit (.bool true)], args := [d1, d2, d3, d4, d5] }
  | _ => none }
def metricAllRow : OpenClaim := { program := "ytaegmplbkbaniaagreatdoor", sum := "6e20e0ec4c4d57329916409cfa22226d977d3ec9600937b20b4a3980c813ba78", func := "fieldfare/fieldfarelaw7.MetricAll", spec := "metricAll", inPlace := ["slices.overlaps[fieldfare/api.Hit]", "internal/reflectlite.ValueOf", "(internal/reflectlite.Value).Type", "(internal/reflectlite.Value).IsNil", "internal/reflectlite.TypeOf", "(internal/reflectlite.Value).Elem", "(internal/reflectlite.Value).Set"], unfollowed := true, recurses := true, named := ["errors.errorType"], apart := false, laid := [("errors.errorType", laid_errors_errorType)] }
def MetricAllSaid : Prop := metricAllRow.holds Tryz.pinned (OpenSpec.ofChange metricAllSpec)

/-- ITS FALSE NEIGHBOUR: 'it returns false'. Refute it at one input. -/
def metricAllWrong : ChangeSpec := { name := "metricAll", fn := fun _ => fun
  | [d1, d2, d3, d4, d5] => { results := [.lit (.bool false)], args := [d1, d2, d3, d4, d5] }
  | _ => none }
def MetricAllWrongFalsely : Prop := metricAllRow.holds Tryz.pinned (OpenSpec.ofChange metricAllWrong)

/-- 'fieldfarelaw7.PoolWhole': WHATEVER THE INPUT: true; the input reads as it did. -/
def poolWholeSpec : ChangeSpec := { name := "poolWhole", fn := fun _ => fun
  | [d1, d2] => { results := [.lit (.bool true)], args := [d1, d2] }
  | _ => none }
def poolWholeRow : OpenClaim := { program := "ytaegmplbkbaniaagreatdoor", sum := "6e20e0ec4c4d57329916409cfa22226d977d3ec9600937b20b4a3980c813ba78", func := "fieldfare/fieldfarelaw7.PoolWhole", spec := "poolWhole", inPlace := ["slices.overlaps[fieldfare/api.Hit]", "internal/reflectlite.ValueOf", "(internal/reflectlite.Value).Type", "(internal/reflectlite.Value).IsNil", "internal/reflectlite.TypeOf", "(internal/reflectlite.Value).Elem", "(internal/reflectlite.Value).Set"], unfollowed := true, recurses := true, named := ["errors.errorType"], apart := false, laid := [("errors.errorType", laid_errors_errorType)] }
def PoolWholeSaid : Prop := poolWholeRow.holds Tryz.pinned (OpenSpec.ofChange poolWholeSpec)

/-- ITS FALSE NEIGHBOUR: 'it returns false'. Refute it at one input. -/
def poolWholeWrong : ChangeSpec := { name := "poolWhole", fn := fun _ => fun
  | [d1, d2] => { results := [.lit (.bool false)], args := [d1, d2] }
  | _ => none }
def PoolWholeWrongFalsely : Prop := poolWholeRow.holds Tryz.pinned (OpenSpec.ofChange poolWholeWrong)

/- THE SECOND FORM. 'bulk': how many values and letters a reading holds, each counted each time it is reached (what is shared counts as often as it is met; a slice's spare places count too). A statement '..UptoSaid' is the law's where the arguments, and the package variables that the reading takes, are together of bulk at most 1048576: NARROWER than '..Said'. Prove '..Said' where nothing that the law and all that it calls make is longer than what came in: it says more and counts as full. Else prove '..UptoSaid'. A law counts once. -/
mutual
def uptoBulk {H : Type} : DataW H → Nat
  | .lit (.string bytes) => bytes.length + 1
  | .lit _ => 1
  | .nil => 1
  | .ptr d => uptoBulk d + 1
  | .slice elems spare => uptoBulkAll elems + uptoBulkAll spare + 1
  | .agg parts => uptoBulkAll parts + 1
  | .iface _ d => uptoBulk d + 1
  | .map entries => uptoBulkEntries entries + 1
  | .held _ => 1
def uptoBulkAll {H : Type} : List (DataW H) → Nat
  | [] => 0
  | d :: r => uptoBulk d + uptoBulkAll r
def uptoBulkEntries {H : Type} : List (Lit × DataW H) → Nat
  | [] => 0
  | x :: r => uptoBulkEntry x + uptoBulkEntries r
def uptoBulkEntry {H : Type} : Lit × DataW H → Nat
  | (.string bytes, d) => bytes.length + uptoBulk d + 1
  | (_, d) => uptoBulk d + 1
 end
def uptoSmall : (H : Type) → List (DataW H) → Bool := fun _ ds => decide (uptoBulkAll ds ≤ 1048576)
def OpenSpec.upto (s : _root_.Go.ChangeSpec) : _root_.Go.OpenSpec := { _root_.Go.OpenSpec.ofChange s with cond := some uptoSmall }

/-- 'fieldfarelaw7.PoolAll', WHERE WHAT IT READS IS OF BULK AT MOST 1048576: true; the input reads as it did. -/
def poolAllUptoRow : OpenClaim := { program := "ytaegmplbkbaniaagreatdoor", sum := "6e20e0ec4c4d57329916409cfa22226d977d3ec9600937b20b4a3980c813ba78", func := "fieldfare/fieldfarelaw7.PoolAll", spec := "poolAll", inPlace := ["slices.overlaps[fieldfare/api.Hit]", "internal/reflectlite.ValueOf", "(internal/reflectlite.Value).Type", "(internal/reflectlite.Value).IsNil", "internal/reflectlite.TypeOf", "(internal/reflectlite.Value).Elem", "(internal/reflectlite.Value).Set"], unfollowed := true, recurses := true, named := ["errors.errorType"], apart := false, laid := [("errors.errorType", laid_errors_errorType)], narrowed := true }
def PoolAllUptoSaid : Prop := poolAllUptoRow.holds Tryz.pinned (OpenSpec.upto poolAllSpec)

/-- 'fieldfarelaw7.MeansAll', WHERE WHAT IT READS IS OF BULK AT MOST 1048576: true; the input reads as it did. -/
def meansAllUptoRow : OpenClaim := { program := "ytaegmplbkbaniaagreatdoor", sum := "6e20e0ec4c4d57329916409cfa22226d977d3ec9600937b20b4a3980c813ba78", func := "fieldfare/fieldfarelaw7.MeansAll", spec := "meansAll", inPlace := ["slices.overlaps[fieldfare/api.Hit]", "internal/reflectlite.ValueOf", "(internal/reflectlite.Value).Type", "(internal/reflectlite.Value).IsNil", "internal/reflectlite.TypeOf", "(internal/reflectlite.Value).Elem", "(internal/reflectlite.Value).Set"], unfollowed := true, recurses := true, named := ["errors.errorType"], apart := false, laid := [("errors.errorType", laid_errors_errorType)], narrowed := true }
def MeansAllUptoSaid : Prop := meansAllUptoRow.holds Tryz.pinned (OpenSpec.upto meansAllSpec)

/-- 'fieldfarelaw7.MeansStill', WHERE WHAT IT READS IS OF BULK AT MOST 1048576: true; the input reads as it did. -/
def meansStillUptoRow : OpenClaim := { program := "ytaegmplbkbaniaagreatdoor", sum := "6e20e0ec4c4d57329916409cfa22226d977d3ec9600937b20b4a3980c813ba78", func := "fieldfare/fieldfarelaw7.MeansStill", spec := "meansStill", inPlace := ["slices.overlaps[fieldfare/api.Hit]", "internal/reflectlite.ValueOf", "(internal/reflectlite.Value).Type", "(internal/reflectlite.Value).IsNil", "internal/reflectlite.TypeOf", "(internal/reflectlite.Value).Elem", "(internal/reflectlite.Value).Set"], unfollowed := true, recurses := true, named := ["errors.errorType"], apart := false, laid := [("errors.errorType", laid_errors_errorType)], narrowed := true }
def MeansStillUptoSaid : Prop := meansStillUptoRow.holds Tryz.pinned (OpenSpec.upto meansStillSpec)

/-- 'fieldfarelaw7.PoolTurn', WHERE WHAT IT READS IS OF BULK AT MOST 1048576: true; the input reads as it did. -/
def poolTurnUptoRow : OpenClaim := { program := "ytaegmplbkbaniaagreatdoor", sum := "6e20e0ec4c4d57329916409cfa22226d977d3ec9600937b20b4a3980c813ba78", func := "fieldfare/fieldfarelaw7.PoolTurn", spec := "poolTurn", inPlace := ["slices.overlaps[fieldfare/api.Hit]", "internal/reflectlite.ValueOf", "(internal/reflectlite.Value).Type", "(internal/reflectlite.Value).IsNil", "internal/reflectlite.TypeOf", "(internal/reflectlite.Value).Elem", "(internal/reflectlite.Value).Set"], unfollowed := true, recurses := true, named := ["errors.errorType"], apart := false, laid := [("errors.errorType", laid_errors_errorType)], narrowed := true }
def PoolTurnUptoSaid : Prop := poolTurnUptoRow.holds Tryz.pinned (OpenSpec.upto poolTurnSpec)

/-- 'fieldfarelaw7.PoolLeast', WHERE WHAT IT READS IS OF BULK AT MOST 1048576: true; the input reads as it did. -/
def poolLeastUptoRow : OpenClaim := { program := "ytaegmplbkbaniaagreatdoor", sum := "6e20e0ec4c4d57329916409cfa22226d977d3ec9600937b20b4a3980c813ba78", func := "fieldfare/fieldfarelaw7.PoolLeast", spec := "poolLeast", inPlace := ["slices.overlaps[fieldfare/api.Hit]", "internal/reflectlite.ValueOf", "(internal/reflectlite.Value).Type", "(internal/reflectlite.Value).IsNil", "internal/reflectlite.TypeOf", "(internal/reflectlite.Value).Elem", "(internal/reflectlite.Value).Set"], unfollowed := true, recurses := true, named := ["errors.errorType"], apart := false, laid := [("errors.errorType", laid_errors_errorType)], narrowed := true }
def PoolLeastUptoSaid : Prop := poolLeastUptoRow.holds Tryz.pinned (OpenSpec.upto poolLeastSpec)

/-- 'fieldfarelaw7.VectEdges', WHERE WHAT IT READS IS OF BULK AT MOST 1048576: true; the input reads as it did. -/
def vectEdgesUptoRow : OpenClaim := { program := "ytaegmplbkbaniaagreatdoor", sum := "6e20e0ec4c4d57329916409cfa22226d977d3ec9600937b20b4a3980c813ba78", func := "fieldfare/fieldfarelaw7.VectEdges", spec := "vectEdges", inPlace := ["slices.overlaps[fieldfare/api.Hit]", "internal/reflectlite.ValueOf", "(internal/reflectlite.Value).Type", "(internal/reflectlite.Value).IsNil", "internal/reflectlite.TypeOf", "(internal/reflectlite.Value).Elem", "(internal/reflectlite.Value).Set"], unfollowed := true, recurses := true, named := ["errors.errorType"], apart := false, laid := [("errors.errorType", laid_errors_errorType)], narrowed := true }
def VectEdgesUptoSaid : Prop := vectEdgesUptoRow.holds Tryz.pinned (OpenSpec.upto vectEdgesSpec)

/-- 'fieldfarelaw7.VectRow', WHERE WHAT IT READS IS OF BULK AT MOST 1048576: true; the input reads as it did. -/
def vectRowUptoRow : OpenClaim := { program := "ytaegmplbkbaniaagreatdoor", sum := "6e20e0ec4c4d57329916409cfa22226d977d3ec9600937b20b4a3980c813ba78", func := "fieldfare/fieldfarelaw7.VectRow", spec := "vectRow", inPlace := ["slices.overlaps[fieldfare/api.Hit]", "internal/reflectlite.ValueOf", "(internal/reflectlite.Value).Type", "(internal/reflectlite.Value).IsNil", "internal/reflectlite.TypeOf", "(internal/reflectlite.Value).Elem", "(internal/reflectlite.Value).Set"], unfollowed := true, recurses := true, named := ["errors.errorType"], apart := false, laid := [("errors.errorType", laid_errors_errorType)], narrowed := true }
def VectRowUptoSaid : Prop := vectRowUptoRow.holds Tryz.pinned (OpenSpec.upto vectRowSpec)

/-- 'fieldfarelaw7.MetricTurn', WHERE WHAT IT READS IS OF BULK AT MOST 1048576: true; the input reads as it did. -/
def metricTurnUptoRow : OpenClaim := { program := "ytaegmplbkbaniaagreatdoor", sum := "6e20e0ec4c4d57329916409cfa22226d977d3ec9600937b20b4a3980c813ba78", func := "fieldfare/fieldfarelaw7.MetricTurn", spec := "metricTurn", inPlace := ["slices.overlaps[fieldfare/api.Hit]", "internal/reflectlite.ValueOf", "(internal/reflectlite.Value).Type", "(internal/reflectlite.Value).IsNil", "internal/reflectlite.TypeOf", "(internal/reflectlite.Value).Elem", "(internal/reflectlite.Value).Set"], unfollowed := true, recurses := true, named := ["errors.errorType"], apart := false, laid := [("errors.errorType", laid_errors_errorType)], narrowed := true }
def MetricTurnUptoSaid : Prop := metricTurnUptoRow.holds Tryz.pinned (OpenSpec.upto metricTurnSpec)

/-- 'fieldfarelaw7.QuantOrder', WHERE WHAT IT READS IS OF BULK AT MOST 1048576: true; the input reads as it did. -/
def quantOrderUptoRow : OpenClaim := { program := "ytaegmplbkbaniaagreatdoor", sum := "6e20e0ec4c4d57329916409cfa22226d977d3ec9600937b20b4a3980c813ba78", func := "fieldfare/fieldfarelaw7.QuantOrder", spec := "quantOrder", inPlace := ["slices.overlaps[fieldfare/api.Hit]", "internal/reflectlite.ValueOf", "(internal/reflectlite.Value).Type", "(internal/reflectlite.Value).IsNil", "internal/reflectlite.TypeOf", "(internal/reflectlite.Value).Elem", "(internal/reflectlite.Value).Set"], unfollowed := true, recurses := true, named := ["errors.errorType"], apart := false, laid := [("errors.errorType", laid_errors_errorType)], narrowed := true }
def QuantOrderUptoSaid : Prop := quantOrderUptoRow.holds Tryz.pinned (OpenSpec.upto quantOrderSpec)

/-- 'fieldfarelaw7.QuantTurn', WHERE WHAT IT READS IS OF BULK AT MOST 1048576: true; the input reads as it did. -/
def quantTurnUptoRow : OpenClaim := { program := "ytaegmplbkbaniaagreatdoor", sum := "6e20e0ec4c4d57329916409cfa22226d977d3ec9600937b20b4a3980c813ba78", func := "fieldfare/fieldfarelaw7.QuantTurn", spec := "quantTurn", inPlace := ["slices.overlaps[fieldfare/api.Hit]", "internal/reflectlite.ValueOf", "(internal/reflectlite.Value).Type", "(internal/reflectlite.Value).IsNil", "internal/reflectlite.TypeOf", "(internal/reflectlite.Value).Elem", "(internal/reflectlite.Value).Set"], unfollowed := true, recurses := true, named := ["errors.errorType"], apart := false, laid := [("errors.errorType", laid_errors_errorType)], narrowed := true }
def QuantTurnUptoSaid : Prop := quantTurnUptoRow.holds Tryz.pinned (OpenSpec.upto quantTurnSpec)

/-- 'fieldfarelaw7.MeansNear', WHERE WHAT IT READS IS OF BULK AT MOST 1048576: true; the input reads as it did. -/
def meansNearUptoRow : OpenClaim := { program := "ytaegmplbkbaniaagreatdoor", sum := "6e20e0ec4c4d57329916409cfa22226d977d3ec9600937b20b4a3980c813ba78", func := "fieldfare/fieldfarelaw7.MeansNear", spec := "meansNear", inPlace := ["slices.overlaps[fieldfare/api.Hit]", "internal/reflectlite.ValueOf", "(internal/reflectlite.Value).Type", "(internal/reflectlite.Value).IsNil", "internal/reflectlite.TypeOf", "(internal/reflectlite.Value).Elem", "(internal/reflectlite.Value).Set"], unfollowed := true, recurses := true, named := ["errors.errorType"], apart := false, laid := [("errors.errorType", laid_errors_errorType)], narrowed := true }
def MeansNearUptoSaid : Prop := meansNearUptoRow.holds Tryz.pinned (OpenSpec.upto meansNearSpec)

/-- 'fieldfarelaw7.MeansOne', WHERE WHAT IT READS IS OF BULK AT MOST 1048576: true; the input reads as it did. -/
def meansOneUptoRow : OpenClaim := { program := "ytaegmplbkbaniaagreatdoor", sum := "6e20e0ec4c4d57329916409cfa22226d977d3ec9600937b20b4a3980c813ba78", func := "fieldfare/fieldfarelaw7.MeansOne", spec := "meansOne", inPlace := ["slices.overlaps[fieldfare/api.Hit]", "internal/reflectlite.ValueOf", "(internal/reflectlite.Value).Type", "(internal/reflectlite.Value).IsNil", "internal/reflectlite.TypeOf", "(internal/reflectlite.Value).Elem", "(internal/reflectlite.Value).Set"], unfollowed := true, recurses := true, named := ["errors.errorType"], apart := false, laid := [("errors.errorType", laid_errors_errorType)], narrowed := true }
def MeansOneUptoSaid : Prop := meansOneUptoRow.holds Tryz.pinned (OpenSpec.upto meansOneSpec)

/-- 'fieldfarelaw7.VectAll', WHERE WHAT IT READS IS OF BULK AT MOST 1048576: true; the input reads as it did. -/
def vectAllUptoRow : OpenClaim := { program := "ytaegmplbkbaniaagreatdoor", sum := "6e20e0ec4c4d57329916409cfa22226d977d3ec9600937b20b4a3980c813ba78", func := "fieldfare/fieldfarelaw7.VectAll", spec := "vectAll", inPlace := ["slices.overlaps[fieldfare/api.Hit]", "internal/reflectlite.ValueOf", "(internal/reflectlite.Value).Type", "(internal/reflectlite.Value).IsNil", "internal/reflectlite.TypeOf", "(internal/reflectlite.Value).Elem", "(internal/reflectlite.Value).Set"], unfollowed := true, recurses := true, named := ["errors.errorType"], apart := false, laid := [("errors.errorType", laid_errors_errorType)], narrowed := true }
def VectAllUptoSaid : Prop := vectAllUptoRow.holds Tryz.pinned (OpenSpec.upto vectAllSpec)

/-- 'fieldfarelaw7.MetricAll', WHERE WHAT IT READS IS OF BULK AT MOST 1048576: true; the input reads as it did. -/
def metricAllUptoRow : OpenClaim := { program := "ytaegmplbkbaniaagreatdoor", sum := "6e20e0ec4c4d57329916409cfa22226d977d3ec9600937b20b4a3980c813ba78", func := "fieldfare/fieldfarelaw7.MetricAll", spec := "metricAll", inPlace := ["slices.overlaps[fieldfare/api.Hit]", "internal/reflectlite.ValueOf", "(internal/reflectlite.Value).Type", "(internal/reflectlite.Value).IsNil", "internal/reflectlite.TypeOf", "(internal/reflectlite.Value).Elem", "(internal/reflectlite.Value).Set"], unfollowed := true, recurses := true, named := ["errors.errorType"], apart := false, laid := [("errors.errorType", laid_errors_errorType)], narrowed := true }
def MetricAllUptoSaid : Prop := metricAllUptoRow.holds Tryz.pinned (OpenSpec.upto metricAllSpec)

/-- 'fieldfarelaw7.PoolWhole', WHERE WHAT IT READS IS OF BULK AT MOST 1048576: true; the input reads as it did. -/
def poolWholeUptoRow : OpenClaim := { program := "ytaegmplbkbaniaagreatdoor", sum := "6e20e0ec4c4d57329916409cfa22226d977d3ec9600937b20b4a3980c813ba78", func := "fieldfare/fieldfarelaw7.PoolWhole", spec := "poolWhole", inPlace := ["slices.overlaps[fieldfare/api.Hit]", "internal/reflectlite.ValueOf", "(internal/reflectlite.Value).Type", "(internal/reflectlite.Value).IsNil", "internal/reflectlite.TypeOf", "(internal/reflectlite.Value).Elem", "(internal/reflectlite.Value).Set"], unfollowed := true, recurses := true, named := ["errors.errorType"], apart := false, laid := [("errors.errorType", laid_errors_errorType)], narrowed := true }
def PoolWholeUptoSaid : Prop := poolWholeUptoRow.holds Tryz.pinned (OpenSpec.upto poolWholeSpec)

end Rows
end Go.Proofs.YtaegmplbkbaniaaGreatDoor
