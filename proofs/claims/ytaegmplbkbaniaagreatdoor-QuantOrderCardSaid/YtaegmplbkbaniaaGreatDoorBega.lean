/-
  fieldfarelaw1.begun answers true: the kernel runs it in the machine. No condition.
-/
import Derived.Test.YtaegmplbkbaniaaGreatDoorSeqC
import Derived.Test.YtaegmplbkbaniaaGreatDoorInsB
set_option linter.all false
namespace Go.Proofs.YtaegmplbkbaniaaGreatDoor
open Go
set_option maxRecDepth 100000
def extB (f : FuncId) : Option GF := match f with
  | 121 => some g121
  | 91 => some insertA
  | f => extR f
theorem extB_ok {f : FuncId} {g : GF} (h : extB f = some g) : FnOk Tryz.prog g f := by
  unfold extB at h
  split at h
  · cases h; exact ok121
  · cases h; exact ok91
  · exact extR_ok h
def ansB : Option (Value × Hp) → Bool
  | some (.bool true, _) => true
  | _ => false
theorem ansB_some {o : Option (Value × Hp)} (h : ansB o = true) : ∃ H, o = some (.bool true, H) := by
  unfold ansB at h
  split at h
  · exact ⟨_, rfl⟩
  · cases h
theorem run152 : ansB (callA (envT extB) 3000 152 [] H00) = true := by kernel_rfl
theorem ok152 : FnOk Tryz.prog (closedA (.bool true)) 152 := by
  obtain ⟨H, h⟩ := ansB_some run152
  exact closed_ok (callA_sound (envT_ok extB) (envT_x (fun _ _ h => extB_ok h)) 3000 152) rfl h

end Go.Proofs.YtaegmplbkbaniaaGreatDoor
