/-
  fieldfarelaw4.begun answers true: the kernel runs it in the machine. No condition.
-/
import Derived.Test.YtaegmplbkbaniaaGreatDoorBega
set_option linter.all false
namespace Go.Proofs.YtaegmplbkbaniaaGreatDoor
open Go
set_option maxRecDepth 100000
noncomputable def extBb (f : FuncId) : Option GF := match f with
  | 152 => some (closedA (.bool true))
  | f => extB f
theorem extBb_ok {f : FuncId} {g : GF} (h : extBb f = some g) : FnOk Tryz.prog g f := by
  unfold extBb at h
  split at h
  · cases h; exact ok152
  · exact extB_ok h
theorem run93 : ansB (callA (envT extBb) 3000 93 [] H00) = true := by kernel_rfl
theorem ok93 : FnOk Tryz.prog (closedA (.bool true)) 93 := by
  obtain ⟨H, h⟩ := ansB_some run93
  exact closed_ok (callA_sound (envT_ok extBb) (envT_x (fun _ _ h => extBb_ok h)) 3000 93) rfl h

end Go.Proofs.YtaegmplbkbaniaaGreatDoor
