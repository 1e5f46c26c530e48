/-
  fieldfarelaw7.begun answers true: the kernel runs it in the machine. No condition.
-/
import Derived.Test.YtaegmplbkbaniaaGreatDoorBegb
set_option linter.all false
namespace Go.Proofs.YtaegmplbkbaniaaGreatDoor
open Go
set_option maxRecDepth 100000
noncomputable def extBc (f : FuncId) : Option GF := match f with
  | 93 => some (closedA (.bool true))
  | f => extB f
theorem extBc_ok {f : FuncId} {g : GF} (h : extBc f = some g) : FnOk Tryz.prog g f := by
  unfold extBc at h
  split at h
  · cases h; exact ok93
  · exact extB_ok h
theorem run18 : ansB (callA (envT extBc) 3000 18 [] H00) = true := by kernel_rfl
/-- begun() is true, and turns nothing. -/
theorem ok18 : FnOk Tryz.prog (closedA (.bool true)) 18 := by
  obtain ⟨H, h⟩ := ansB_some run18
  exact closed_ok (callA_sound (envT_ok extBc) (envT_x (fun _ _ h => extBc_ok h)) 3000 18) rfl h

end Go.Proofs.YtaegmplbkbaniaaGreatDoor
