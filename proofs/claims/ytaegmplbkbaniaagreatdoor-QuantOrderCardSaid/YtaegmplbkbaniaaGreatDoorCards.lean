/-
  DERIVED. GIVEN WITH THE SEED: THE CARDS: each row of YtaegmplbkbaniaaGreatDoorRows.lean that lists a variable, with what it lists TIED to the program's text (the seventh form; the later family's looks); each row that meets fmt, with fmt's text TOLD by the authors' own Lean function (tested against real Go, not proved from fmt's source: count such statements apart). THE CARD IS WHAT COUNTS. Prove the row's statement (the work); the ties are given (YtaegmplbkbaniaaGreatDoorTie.lean); close each card by the builder's one call (the guide's Derived/Test/ToyasCard.lean, 'card_holds'). Laid BY PROGRAM, IN A SANDBOX (cutbox-door.mjs). By AI agents, Wed Nov 11 2026. No macro, syntax, notation, axiom, sorry.
-/
import Derived.Test.YtaegmplbkbaniaaGreatDoorRows
import GoSem.ClaimSeven
namespace Go.Proofs.YtaegmplbkbaniaaGreatDoor
namespace Rows

/-- THE TIED CARD OF 'fieldfarelaw7.PoolAll'. -/
def poolAllCard : Claim7 := { stood := { row := poolAllRow, standIns := [], harness := (true, "b73ac42d4def603c6d777c2e3322df2c7878255ff891589e8cf78bc4d738fc0d"), looks := true }, kinds := [], alts := [], laidByText := true, laidKinds := [.handle], laidTests := true, laidLooks := .later }
def PoolAllCardSaid : Prop := Claim7.holds Tryz.pinned (.plain (OpenSpec.ofChange poolAllSpec)) poolAllCard

/-- THE TIED CARD OF 'fieldfarelaw7.MeansAll'. -/
def meansAllCard : Claim7 := { stood := { row := meansAllRow, standIns := [], harness := (true, "b73ac42d4def603c6d777c2e3322df2c7878255ff891589e8cf78bc4d738fc0d"), looks := true }, kinds := [], alts := [], laidByText := true, laidKinds := [.handle], laidTests := true, laidLooks := .later }
def MeansAllCardSaid : Prop := Claim7.holds Tryz.pinned (.plain (OpenSpec.ofChange meansAllSpec)) meansAllCard

/-- THE TIED CARD OF 'fieldfarelaw7.MeansStill'. -/
def meansStillCard : Claim7 := { stood := { row := meansStillRow, standIns := [], harness := (true, "b73ac42d4def603c6d777c2e3322df2c7878255ff891589e8cf78bc4d738fc0d"), looks := true }, kinds := [], alts := [], laidByText := true, laidKinds := [.handle], laidTests := true, laidLooks := .later }
def MeansStillCardSaid : Prop := Claim7.holds Tryz.pinned (.plain (OpenSpec.ofChange meansStillSpec)) meansStillCard

/-- THE TIED CARD OF 'fieldfarelaw7.PoolTurn'. -/
def poolTurnCard : Claim7 := { stood := { row := poolTurnRow, standIns := [], harness := (true, "b73ac42d4def603c6d777c2e3322df2c7878255ff891589e8cf78bc4d738fc0d"), looks := true }, kinds := [], alts := [], laidByText := true, laidKinds := [.handle], laidTests := true, laidLooks := .later }
def PoolTurnCardSaid : Prop := Claim7.holds Tryz.pinned (.plain (OpenSpec.ofChange poolTurnSpec)) poolTurnCard

/-- THE TIED CARD OF 'fieldfarelaw7.PoolLeast'. -/
def poolLeastCard : Claim7 := { stood := { row := poolLeastRow, standIns := [], harness := (true, "b73ac42d4def603c6d777c2e3322df2c7878255ff891589e8cf78bc4d738fc0d"), looks := true }, kinds := [], alts := [], laidByText := true, laidKinds := [.handle], laidTests := true, laidLooks := .later }
def PoolLeastCardSaid : Prop := Claim7.holds Tryz.pinned (.plain (OpenSpec.ofChange poolLeastSpec)) poolLeastCard

/-- THE TIED CARD OF 'fieldfarelaw7.VectEdges'. -/
def vectEdgesCard : Claim7 := { stood := { row := vectEdgesRow, standIns := [], harness := (true, "b73ac42d4def603c6d777c2e3322df2c7878255ff891589e8cf78bc4d738fc0d"), looks := true }, kinds := [], alts := [], laidByText := true, laidKinds := [.handle], laidTests := true, laidLooks := .later }
def VectEdgesCardSaid : Prop := Claim7.holds Tryz.pinned (.plain (OpenSpec.ofChange vectEdgesSpec)) vectEdgesCard

/-- THE TIED CARD OF 'fieldfarelaw7.VectRow'. -/
def vectRowCard : Claim7 := { stood := { row := vectRowRow, standIns := [], harness := (true, "b73ac42d4def603c6d777c2e3322df2c7878255ff891589e8cf78bc4d738fc0d"), looks := true }, kinds := [], alts := [], laidByText := true, laidKinds := [.handle], laidTests := true, laidLooks := .later }
def VectRowCardSaid : Prop := Claim7.holds Tryz.pinned (.plain (OpenSpec.ofChange vectRowSpec)) vectRowCard

/-- THE TIED CARD OF 'fieldfarelaw7.MetricTurn'. -/
def metricTurnCard : Claim7 := { stood := { row := metricTurnRow, standIns := [], harness := (true, "b73ac42d4def603c6d777c2e3322df2c7878255ff891589e8cf78bc4d738fc0d"), looks := true }, kinds := [], alts := [], laidByText := true, laidKinds := [.handle], laidTests := true, laidLooks := .later }
def MetricTurnCardSaid : Prop := Claim7.holds Tryz.pinned (.plain (OpenSpec.ofChange metricTurnSpec)) metricTurnCard

/-- THE TIED CARD OF 'fieldfarelaw7.QuantOrder'. -/
def quantOrderCard : Claim7 := { stood := { row := quantOrderRow, standIns := [], harness := (true, "b73ac42d4def603c6d777c2e3322df2c7878255ff891589e8cf78bc4d738fc0d"), looks := true }, kinds := [], alts := [], laidByText := true, laidKinds := [.handle], laidTests := true, laidLooks := .later }
def QuantOrderCardSaid : Prop := Claim7.holds Tryz.pinned (.plain (OpenSpec.ofChange quantOrderSpec)) quantOrderCard

/-- THE TIED CARD OF 'fieldfarelaw7.QuantTurn'. -/
def quantTurnCard : Claim7 := { stood := { row := quantTurnRow, standIns := [], harness := (true, "b73ac42d4def603c6d777c2e3322df2c7878255ff891589e8cf78bc4d738fc0d"), looks := true }, kinds := [], alts := [], laidByText := true, laidKinds := [.handle], laidTests := true, laidLooks := .later }
def QuantTurnCardSaid : Prop := Claim7.holds Tryz.pinned (.plain (OpenSpec.ofChange quantTurnSpec)) quantTurnCard

/-- THE TIED CARD OF 'fieldfarelaw7.MeansNear'. -/
def meansNearCard : Claim7 := { stood := { row := meansNearRow, standIns := [], harness := (true, "b73ac42d4def603c6d777c2e3322df2c7878255ff891589e8cf78bc4d738fc0d"), looks := true }, kinds := [], alts := [], laidByText := true, laidKinds := [.handle], laidTests := true, laidLooks := .later }
def MeansNearCardSaid : Prop := Claim7.holds Tryz.pinned (.plain (OpenSpec.ofChange meansNearSpec)) meansNearCard

/-- THE TIED CARD OF 'fieldfarelaw7.MeansOne'. -/
def meansOneCard : Claim7 := { stood := { row := meansOneRow, standIns := [], harness := (true, "b73ac42d4def603c6d777c2e3322df2c7878255ff891589e8cf78bc4d738fc0d"), looks := true }, kinds := [], alts := [], laidByText := true, laidKinds := [.handle], laidTests := true, laidLooks := .later }
def MeansOneCardSaid : Prop := Claim7.holds Tryz.pinned (.plain (OpenSpec.ofChange meansOneSpec)) meansOneCard

/-- THE TIED CARD OF 'fieldfarelaw7.VectAll'. -/
def vectAllCard : Claim7 := { stood := { row := vectAllRow, standIns := [], harness := (true, "b73ac42d4def603c6d777c2e3322df2c7878255ff891589e8cf78bc4d738fc0d"), looks := true }, kinds := [], alts := [], laidByText := true, laidKinds := [.handle], laidTests := true, laidLooks := .later }
def VectAllCardSaid : Prop := Claim7.holds Tryz.pinned (.plain (OpenSpec.ofChange vectAllSpec)) vectAllCard

/-- THE TIED CARD OF 'fieldfarelaw7.MetricAll'. -/
def metricAllCard : Claim7 := { stood := { row := metricAllRow, standIns := [], harness := (true, "b73ac42d4def603c6d777c2e3322df2c7878255ff891589e8cf78bc4d738fc0d"), looks := true }, kinds := [], alts := [], laidByText := true, laidKinds := [.handle], laidTests := true, laidLooks := .later }
def MetricAllCardSaid : Prop := Claim7.holds Tryz.pinned (.plain (OpenSpec.ofChange metricAllSpec)) metricAllCard

/-- THE TIED CARD OF 'fieldfarelaw7.PoolWhole'. -/
def poolWholeCard : Claim7 := { stood := { row := poolWholeRow, standIns := [], harness := (true, "b73ac42d4def603c6d777c2e3322df2c7878255ff891589e8cf78bc4d738fc0d"), looks := true }, kinds := [], alts := [], laidByText := true, laidKinds := [.handle], laidTests := true, laidLooks := .later }
def PoolWholeCardSaid : Prop := Claim7.holds Tryz.pinned (.plain (OpenSpec.ofChange poolWholeSpec)) poolWholeCard

/-- THE SECOND FORM's CARD OF 'fieldfarelaw7.PoolAll'. -/
def poolAllUptoCard : Claim7 := { stood := { row := poolAllUptoRow, standIns := [], harness := (true, "b73ac42d4def603c6d777c2e3322df2c7878255ff891589e8cf78bc4d738fc0d"), looks := true }, kinds := [], alts := [], laidByText := true, laidKinds := [.handle], laidTests := true, laidLooks := .later }
def PoolAllUptoCardSaid : Prop := Claim7.holds Tryz.pinned (.plain (OpenSpec.upto poolAllSpec)) poolAllUptoCard

/-- THE SECOND FORM's CARD OF 'fieldfarelaw7.MeansAll'. -/
def meansAllUptoCard : Claim7 := { stood := { row := meansAllUptoRow, standIns := [], harness := (true, "b73ac42d4def603c6d777c2e3322df2c7878255ff891589e8cf78bc4d738fc0d"), looks := true }, kinds := [], alts := [], laidByText := true, laidKinds := [.handle], laidTests := true, laidLooks := .later }
def MeansAllUptoCardSaid : Prop := Claim7.holds Tryz.pinned (.plain (OpenSpec.upto meansAllSpec)) meansAllUptoCard

/-- THE SECOND FORM's CARD OF 'fieldfarelaw7.MeansStill'. -/
def meansStillUptoCard : Claim7 := { stood := { row := meansStillUptoRow, standIns := [], harness := (true, "b73ac42d4def603c6d777c2e3322df2c7878255ff891589e8cf78bc4d738fc0d"), looks := true }, kinds := [], alts := [], laidByText := true, laidKinds := [.handle], laidTests := true, laidLooks := .later }
def MeansStillUptoCardSaid : Prop := Claim7.holds Tryz.pinned (.plain (OpenSpec.upto meansStillSpec)) meansStillUptoCard

/-- THE SECOND FORM's CARD OF 'fieldfarelaw7.PoolTurn'. -/
def poolTurnUptoCard : Claim7 := { stood := { row := poolTurnUptoRow, standIns := [], harness := (true, "b73ac42d4def603c6d777c2e3322df2c7878255ff891589e8cf78bc4d738fc0d"), looks := true }, kinds := [], alts := [], laidByText := true, laidKinds := [.handle], laidTests := true, laidLooks := .later }
def PoolTurnUptoCardSaid : Prop := Claim7.holds Tryz.pinned (.plain (OpenSpec.upto poolTurnSpec)) poolTurnUptoCard

/-- THE SECOND FORM's CARD OF 'fieldfarelaw7.PoolLeast'. -/
def poolLeastUptoCard : Claim7 := { stood := { row := poolLeastUptoRow, standIns := [], harness := (true, "b73ac42d4def603c6d777c2e3322df2c7878255ff891589e8cf78bc4d738fc0d"), looks := true }, kinds := [], alts := [], laidByText := true, laidKinds := [.handle], laidTests := true, laidLooks := .later }
def PoolLeastUptoCardSaid : Prop := Claim7.holds Tryz.pinned (.plain (OpenSpec.upto poolLeastSpec)) poolLeastUptoCard

/-- THE SECOND FORM's CARD OF 'fieldfarelaw7.VectEdges'. -/
def vectEdgesUptoCard : Claim7 := { stood := { row := vectEdgesUptoRow, standIns := [], harness := (true, "b73ac42d4def603c6d777c2e3322df2c7878255ff891589e8cf78bc4d738fc0d"), looks := true }, kinds := [], alts := [], laidByText := true, laidKinds := [.handle], laidTests := true, laidLooks := .later }
def VectEdgesUptoCardSaid : Prop := Claim7.holds Tryz.pinned (.plain (OpenSpec.upto vectEdgesSpec)) vectEdgesUptoCard

/-- THE SECOND FORM's CARD OF 'fieldfarelaw7.VectRow'. -/
def vectRowUptoCard : Claim7 := { stood := { row := vectRowUptoRow, standIns := [], harness := (true, "b73ac42d4def603c6d777c2e3322df2c7878255ff891589e8cf78bc4d738fc0d"), looks := true }, kinds := [], alts := [], laidByText := true, laidKinds := [.handle], laidTests := true, laidLooks := .later }
def VectRowUptoCardSaid : Prop := Claim7.holds Tryz.pinned (.plain (OpenSpec.upto vectRowSpec)) vectRowUptoCard

/-- THE SECOND FORM's CARD OF 'fieldfarelaw7.MetricTurn'. -/
def metricTurnUptoCard : Claim7 := { stood := { row := metricTurnUptoRow, standIns := [], harness := (true, "b73ac42d4def603c6d777c2e3322df2c7878255ff891589e8cf78bc4d738fc0d"), looks := true }, kinds := [], alts := [], laidByText := true, laidKinds := [.handle], laidTests := true, laidLooks := .later }
def MetricTurnUptoCardSaid : Prop := Claim7.holds Tryz.pinned (.plain (OpenSpec.upto metricTurnSpec)) metricTurnUptoCard

/-- THE SECOND FORM's CARD OF 'fieldfarelaw7.QuantOrder'. -/
def quantOrderUptoCard : Claim7 := { stood := { row := quantOrderUptoRow, standIns := [], harness := (true, "b73ac42d4def603c6d777c2e3322df2c7878255ff891589e8cf78bc4d738fc0d"), looks := true }, kinds := [], alts := [], laidByText := true, laidKinds := [.handle], laidTests := true, laidLooks := .later }
def QuantOrderUptoCardSaid : Prop := Claim7.holds Tryz.pinned (.plain (OpenSpec.upto quantOrderSpec)) quantOrderUptoCard

/-- THE SECOND FORM's CARD OF 'fieldfarelaw7.QuantTurn'. -/
def quantTurnUptoCard : Claim7 := { stood := { row := quantTurnUptoRow, standIns := [], harness := (true, "b73ac42d4def603c6d777c2e3322df2c7878255ff891589e8cf78bc4d738fc0d"), looks := true }, kinds := [], alts := [], laidByText := true, laidKinds := [.handle], laidTests := true, laidLooks := .later }
def QuantTurnUptoCardSaid : Prop := Claim7.holds Tryz.pinned (.plain (OpenSpec.upto quantTurnSpec)) quantTurnUptoCard

/-- THE SECOND FORM's CARD OF 'fieldfarelaw7.MeansNear'. -/
def meansNearUptoCard : Claim7 := { stood := { row := meansNearUptoRow, standIns := [], harness := (true, "b73ac42d4def603c6d777c2e3322df2c7878255ff891589e8cf78bc4d738fc0d"), looks := true }, kinds := [], alts := [], laidByText := true, laidKinds := [.handle], laidTests := true, laidLooks := .later }
def MeansNearUptoCardSaid : Prop := Claim7.holds Tryz.pinned (.plain (OpenSpec.upto meansNearSpec)) meansNearUptoCard

/-- THE SECOND FORM's CARD OF 'fieldfarelaw7.MeansOne'. -/
def meansOneUptoCard : Claim7 := { stood := { row := meansOneUptoRow, standIns := [], harness := (true, "b73ac42d4def603c6d777c2e3322df2c7878255ff891589e8cf78bc4d738fc0d"), looks := true }, kinds := [], alts := [], laidByText := true, laidKinds := [.handle], laidTests := true, laidLooks := .later }
def MeansOneUptoCardSaid : Prop := Claim7.holds Tryz.pinned (.plain (OpenSpec.upto meansOneSpec)) meansOneUptoCard

/-- THE SECOND FORM's CARD OF 'fieldfarelaw7.VectAll'. -/
def vectAllUptoCard : Claim7 := { stood := { row := vectAllUptoRow, standIns := [], harness := (true, "b73ac42d4def603c6d777c2e3322df2c7878255ff891589e8cf78bc4d738fc0d"), looks := true }, kinds := [], alts := [], laidByText := true, laidKinds := [.handle], laidTests := true, laidLooks := .later }
def VectAllUptoCardSaid : Prop := Claim7.holds Tryz.pinned (.plain (OpenSpec.upto vectAllSpec)) vectAllUptoCard

/-- THE SECOND FORM's CARD OF 'fieldfarelaw7.MetricAll'. -/
def metricAllUptoCard : Claim7 := { stood := { row := metricAllUptoRow, standIns := [], harness := (true, "b73ac42d4def603c6d777c2e3322df2c7878255ff891589e8cf78bc4d738fc0d"), looks := true }, kinds := [], alts := [], laidByText := true, laidKinds := [.handle], laidTests := true, laidLooks := .later }
def MetricAllUptoCardSaid : Prop := Claim7.holds Tryz.pinned (.plain (OpenSpec.upto metricAllSpec)) metricAllUptoCard

/-- THE SECOND FORM's CARD OF 'fieldfarelaw7.PoolWhole'. -/
def poolWholeUptoCard : Claim7 := { stood := { row := poolWholeUptoRow, standIns := [], harness := (true, "b73ac42d4def603c6d777c2e3322df2c7878255ff891589e8cf78bc4d738fc0d"), looks := true }, kinds := [], alts := [], laidByText := true, laidKinds := [.handle], laidTests := true, laidLooks := .later }
def PoolWholeUptoCardSaid : Prop := Claim7.holds Tryz.pinned (.plain (OpenSpec.upto poolWholeSpec)) poolWholeUptoCard
end Rows
end Go.Proofs.YtaegmplbkbaniaaGreatDoor
