/-
  Closed facts on the program that every row asks; by the kernel. No condition.
-/
import Derived.Test.YtaegmplbkbaniaaGreatDoorRow
set_option linter.all false
namespace Go.Proofs.YtaegmplbkbaniaaGreatDoor
open Go
set_option maxRecDepth 100000
theorem pf_mapsRowed : mapsRowed Tryz.prog = true := by kernel_rfl
theorem pf_stops : (Tryz.prog.stops == []) = true := by kernel_rfl
theorem pf_stopKnobs : (Tryz.prog.stopKnobs == []) = true := by kernel_rfl
theorem pf_plainKeys : (Rows.vectEdgesRow.plainKeys == Tryz.prog.plainKeys) = true := by kernel_rfl
theorem pf_stopsHeard : Tryz.prog.stopsHeard = true := by kernel_rfl
theorem pf_mayEnter : Tryz.prog.mayEnter = true := by kernel_rfl
theorem pf_lifted : (Rows.vectEdgesRow.lifted == Tryz.prog.liftsFinal) = true := by kernel_rfl
theorem pf_make : (Tryz.prog.make == some Rows.vectEdgesRow.make) = true := by kernel_rfl
theorem andT {a b : Bool} (ha : a = true) (hb : b = true) : (a && b) = true := by rw [ha, hb]; rfl
end Go.Proofs.YtaegmplbkbaniaaGreatDoor
