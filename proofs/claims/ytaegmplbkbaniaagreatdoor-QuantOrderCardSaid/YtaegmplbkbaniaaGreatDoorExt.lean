/-
  THE ABSTRACT MACHINE: the functions of internal/reflectlite that errors.As and errors.Is come to, as given functions. No condition.
-/
import Derived.Test.YtaegmplbkbaniaaGreatDoorEnv
import Derived.Laws.Externs
import Derived.Stop.Asserts
set_option linter.all false
namespace Go.Proofs.YtaegmplbkbaniaaGreatDoor
open Go Go.Extern
/-! types: 30 api.Errno · 228 *fail.at · 232 *api.Errno · 216 error · 251 reflectlite's rtype -/
def hT (T : Nat) : Value := .pointer (some ⟨1, T, none⟩)
def rT (T : Nat) : Value := .iface 251 (.agg ⟨[hT T]⟩)
def rV (T : Nat) (a : Addr) (fl : Int) : Value := .agg ⟨[hT T, .pointer (some a), .int .u64 fl]⟩

theorem valueOf232 (v : Value) (w : World) : (ReflectliteValue.unpack (.iface 232 v)).run Tryz.prog w = .ok (rV 232 ⟨w.heap.size, 0, none⟩ 150) (w.alloc (.cells v.cells 232)) := by kernel_rfl
theorem valueOf228 (v : Value) (w : World) : (ReflectliteValue.unpack (.iface 228 v)).run Tryz.prog w = .ok (rV 228 ⟨w.heap.size, 0, none⟩ 150) (w.alloc (.cells v.cells 228)) := by kernel_rfl
theorem valueOf30 (v : Value) (w : World) : (ReflectliteValue.unpack (.iface 30 v)).run Tryz.prog w = .ok (rV 30 ⟨w.heap.size, 0, none⟩ 130) (w.alloc (.cells v.cells 30)) := by kernel_rfl
theorem type232 (a : Addr) (w : World) : (ReflectliteValue.methodAny (ReflectliteValue.valueError "reflectlite.Value.Type" 0) (fun t _ _ _ => ReflectliteType.toType t) #[rV 232 a 150]).run Tryz.prog w = .ok (rT 232) w := by kernel_rfl
theorem methodKind (h : Value) (w : World) : (Go.method (Tryz.prog.types.size + Made.depth) 251 (.agg ⟨[h]⟩) "Kind").run Tryz.prog w = .ok (208, h) w := by kernel_rfl
theorem methodElem (h : Value) (w : World) : (Go.method (Tryz.prog.types.size + Made.depth) 251 (.agg ⟨[h]⟩) "Elem").run Tryz.prog w = .ok (222, .agg ⟨[h]⟩) w := by kernel_rfl
theorem methodImplements (h : Value) (w : World) : (Go.method (Tryz.prog.types.size + Made.depth) 251 (.agg ⟨[h]⟩) "Implements").run Tryz.prog w = .ok (223, .agg ⟨[h]⟩) w := by kernel_rfl
theorem methodAssignableTo (h : Value) (w : World) : (Go.method (Tryz.prog.types.size + Made.depth) 251 (.agg ⟨[h]⟩) "AssignableTo").run Tryz.prog w = .ok (220, .agg ⟨[h]⟩) w := by kernel_rfl
theorem methodComparable (h : Value) (w : World) : (Go.method (Tryz.prog.types.size + Made.depth) 251 (.agg ⟨[h]⟩) "Comparable").run Tryz.prog w = .ok (221, .agg ⟨[h]⟩) w := by kernel_rfl
theorem kind232 (w : World) : ((ReflectliteType.abiMethod fun t => do pure (.int .u8 (← Rtype.kind t))) #[hT 232]).run Tryz.prog w = .ok (.int .u8 22) w := by kernel_rfl
theorem kind30 (w : World) : ((ReflectliteType.abiMethod fun t => do pure (.int .u8 (← Rtype.kind t))) #[hT 30]).run Tryz.prog w = .ok (.int .u8 2) w := by kernel_rfl
theorem elem232 (w : World) : (ReflectliteType.method ReflectliteType.elem #[.agg ⟨[hT 232]⟩]).run Tryz.prog w = .ok (rT 30) w := by kernel_rfl
theorem implements30 (w : World) : (ReflectliteType.relation "Implements" ReflectliteType.implements_ #[.agg ⟨[hT 30]⟩, rT 216]).run Tryz.prog w = .ok (.bool true) w := by kernel_rfl
theorem typeOf30 (v : Value) (w : World) : (ReflectliteType.typeOf #[.iface 30 v]).run Tryz.prog w = .ok (rT 30) w := by kernel_rfl
theorem typeOf228 (v : Value) (w : World) : (ReflectliteType.typeOf #[.iface 228 v]).run Tryz.prog w = .ok (rT 228) w := by kernel_rfl
theorem assignable30 (w : World) : (ReflectliteType.relation "AssignableTo" ReflectliteType.assignableTo #[.agg ⟨[hT 30]⟩, rT 30]).run Tryz.prog w = .ok (.bool true) w := by kernel_rfl
theorem assignable228 (w : World) : (ReflectliteType.relation "AssignableTo" ReflectliteType.assignableTo #[.agg ⟨[hT 228]⟩, rT 30]).run Tryz.prog w = .ok (.bool false) w := by kernel_rfl
theorem parts232 (a : Addr) (w : World) : (ReflectliteValue.parts (rV 232 a 150)).run Tryz.prog w = .ok (some (232, a, 150)) w := by kernel_rfl
theorem parts30 (a : Addr) (w : World) : (ReflectliteValue.parts (rV 30 a 130)).run Tryz.prog w = .ok (some (30, a, 130)) w := by kernel_rfl
theorem parts30a (a : Addr) (w : World) : (ReflectliteValue.parts (rV 30 a 386)).run Tryz.prog w = .ok (some (30, a, 386)) w := by kernel_rfl
theorem mk30 (p : Addr) (w : World) : (ReflectliteValue.mk 30 p ReflectliteValue.flagAddr).run Tryz.prog w = .ok (rV 30 p 386) w := by kernel_rfl
theorem elemOf232 (w : World) : (Rtype.elem? 232).run Tryz.prog w = .ok (some 30) w := by kernel_rfl
theorem direct30 (w : World) : (Rtype.directlyAssignable 30 30).run Tryz.prog w = .ok true w := by kernel_rfl

theorem x186 (args : Array Value) (w : World) : (callFunc 186 args).run Tryz.prog w = ((ReflectliteValue.unpack (args.getD 0 (.tuple #[]))).run Tryz.prog w).andThen fun v w' => .ok (.value v) w' :=
  @run_callFunc_extern Tryz.prog 186 _ (fun args => ReflectliteValue.unpack (args.getD 0 (.tuple #[]))) Tryz.func186 (by kernel_rfl) (by kernel_rfl) (by kernel_rfl) (by kernel_rfl) args w
theorem x187 (args : Array Value) (w : World) : (callFunc 187 args).run Tryz.prog w = ((ReflectliteValue.methodAny (ReflectliteValue.valueError "reflectlite.Value.Type" 0) (fun t _ _ _ => ReflectliteType.toType t) args).run Tryz.prog w).andThen fun v w' => .ok (.value v) w' :=
  @run_callFunc_extern Tryz.prog 187 _ (ReflectliteValue.methodAny (ReflectliteValue.valueError "reflectlite.Value.Type" 0) (fun t _ _ _ => ReflectliteType.toType t)) Tryz.func187 (by kernel_rfl) (by kernel_rfl) (by kernel_rfl) (by kernel_rfl) args w
theorem x188 (args : Array Value) (w : World) : (callFunc 188 args).run Tryz.prog w = ((ReflectliteValue.method (ReflectliteValue.valueError "reflectlite.Value.IsNil" 0) ReflectliteValue.isNil args).run Tryz.prog w).andThen fun v w' => .ok (.value v) w' :=
  @run_callFunc_extern Tryz.prog 188 _ (ReflectliteValue.method (ReflectliteValue.valueError "reflectlite.Value.IsNil" 0) ReflectliteValue.isNil) Tryz.func188 (by kernel_rfl) (by kernel_rfl) (by kernel_rfl) (by kernel_rfl) args w
theorem x190 (args : Array Value) (w : World) : (callFunc 190 args).run Tryz.prog w = ((ReflectliteType.typeOf args).run Tryz.prog w).andThen fun v w' => .ok (.value v) w' :=
  @run_callFunc_extern Tryz.prog 190 _ ReflectliteType.typeOf Tryz.func190 (by kernel_rfl) (by kernel_rfl) (by kernel_rfl) (by kernel_rfl) args w
theorem x192 (args : Array Value) (w : World) : (callFunc 192 args).run Tryz.prog w = ((ReflectliteValue.method (ReflectliteValue.valueError "reflectlite.Value.Elem" 0) ReflectliteValue.elem args).run Tryz.prog w).andThen fun v w' => .ok (.value v) w' :=
  @run_callFunc_extern Tryz.prog 192 _ (ReflectliteValue.method (ReflectliteValue.valueError "reflectlite.Value.Elem" 0) ReflectliteValue.elem) Tryz.func192 (by kernel_rfl) (by kernel_rfl) (by kernel_rfl) (by kernel_rfl) args w
theorem x193 (args : Array Value) (w : World) : (callFunc 193 args).run Tryz.prog w = ((ReflectliteValue.set args).run Tryz.prog w).andThen fun v w' => .ok (.value v) w' :=
  @run_callFunc_extern Tryz.prog 193 _ ReflectliteValue.set Tryz.func193 (by kernel_rfl) (by kernel_rfl) (by kernel_rfl) (by kernel_rfl) args w
theorem x208 (args : Array Value) (w : World) : (callFunc 208 args).run Tryz.prog w = (((ReflectliteType.abiMethod fun t => do pure (.int .u8 (← Rtype.kind t))) args).run Tryz.prog w).andThen fun v w' => .ok (.value v) w' :=
  @run_callFunc_extern Tryz.prog 208 _ (ReflectliteType.abiMethod fun t => do pure (.int .u8 (← Rtype.kind t))) Tryz.func208 (by kernel_rfl) (by kernel_rfl) (by kernel_rfl) (by kernel_rfl) args w
theorem x220 (args : Array Value) (w : World) : (callFunc 220 args).run Tryz.prog w = ((ReflectliteType.relation "AssignableTo" ReflectliteType.assignableTo args).run Tryz.prog w).andThen fun v w' => .ok (.value v) w' :=
  @run_callFunc_extern Tryz.prog 220 _ (ReflectliteType.relation "AssignableTo" ReflectliteType.assignableTo) Tryz.func220 (by kernel_rfl) (by kernel_rfl) (by kernel_rfl) (by kernel_rfl) args w
theorem x222 (args : Array Value) (w : World) : (callFunc 222 args).run Tryz.prog w = ((ReflectliteType.method ReflectliteType.elem args).run Tryz.prog w).andThen fun v w' => .ok (.value v) w' :=
  @run_callFunc_extern Tryz.prog 222 _ (ReflectliteType.method ReflectliteType.elem) Tryz.func222 (by kernel_rfl) (by kernel_rfl) (by kernel_rfl) (by kernel_rfl) args w
theorem x223 (args : Array Value) (w : World) : (callFunc 223 args).run Tryz.prog w = ((ReflectliteType.relation "Implements" ReflectliteType.implements_ args).run Tryz.prog w).andThen fun v w' => .ok (.value v) w' :=
  @run_callFunc_extern Tryz.prog 223 _ (ReflectliteType.relation "Implements" ReflectliteType.implements_) Tryz.func223 (by kernel_rfl) (by kernel_rfl) (by kernel_rfl) (by kernel_rfl) args w

end Go.Proofs.YtaegmplbkbaniaaGreatDoor
