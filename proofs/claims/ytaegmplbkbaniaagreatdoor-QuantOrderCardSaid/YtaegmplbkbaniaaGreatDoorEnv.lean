/-
  THE ABSTRACT MACHINE at this program: its types, its code, its methods. No condition.
-/
import Derived.Test.YtaegmplbkbaniaaGreatDoorAmRun
import Derived.Test.YtaegmplbkbaniaaGreatDoorProg
import Derived.Stop.Asserts
set_option linter.all false
namespace Go.Proofs.YtaegmplbkbaniaaGreatDoor
open Go
/-- A method of a type's own, of a receiver that is handed on as it is. -/
def mth (P : Program) (t : TypeId) (m : String) (v : Value) : Option (FuncId × Value) :=
  match P.info? t with
  | some i => match i.methods.find? (fun x => x.name == m) with
    | some mm => match mm.path.toList, mm.func, dkOf P t with
      | [], some (f, true), .ptr _ => some (f, v)
      | [], some (f, false), .int _ => some (f, v)
      | _, _, _ => none
    | none => none
  | none => none
def imp (P : Program) (t U : TypeId) : Option Bool :=
  match P.underlying U, P.info? t with
  | some (.interface w), some i => match Go.lacking w i.methods with
    | [] => some true
    | _ :: _ => some false
  | _, _ => none
theorem mth_sound {P : Program} {t : TypeId} {m : String} {v : Value} {g : FuncId} {r : Value} (h : mth P t m v = some (g, r)) (ρ : Nat → Option Pl) (w : World) (v' : Value) (hv : VR ρ v v') :
    ∃ r', (Go.method (P.types.size + Made.depth) t v' m).run P w = .ok (g, r') w ∧ VR ρ r r' := by
  unfold mth at h
  split at h
  · rename_i i hi
    split at h
    · rename_i mm hm
      have hd : P.types.size + Made.depth = (P.types.size + Made.depth - 1) + 1 := by have : 0 < Made.depth := by decide
                                                                                      omega
      have start : ∀ (f : FuncId) (b : Bool), mm.path.toList = [] → mm.func = some (f, b) → (Go.method (P.types.size + Made.depth) t v' m).run P w =
          ((receiverAt t (.val v') b (some ((m.splitOn ".").getLastD m))).run P w).andThen fun x w' => .ok (f, x) w' := fun f b hp hf => by
        have hpe : mm.path.isEmpty = true := by simpa using hp
        rw [hd]
        simp only [Go.method, Sem.run_bind, run_info hi, Result.andThen_ok, hm, hp, follow, Sem.run_pure, hf, hpe, if_true]
      split at h
      · rename_i f e hp hf hk
        cases h
        obtain ⟨d, g1, g2⟩ := dk_under hk (by simp)
        have := dk_ptr g2.symm; subst this
        refine ⟨v', ?_, hv⟩
        rw [start _ _ hp hf]
        simp only [receiverAt, Sem.run_bind, run_underlying g1, Result.andThen_ok, Place.get, Sem.run_pure]
      · rename_i f k hp hf hk
        cases h
        obtain ⟨d, g1, g2⟩ := dk_under hk (by simp)
        have := dk_int g2.symm; subst this
        refine ⟨v', ?_, hv⟩
        rw [start _ _ hp hf]
        simp only [receiverAt, Sem.run_bind, run_underlying g1, Result.andThen_ok, Place.get, Sem.run_pure]
      · cases h
    · cases h
  · cases h
theorem imp_sound {P : Program} {d U : TypeId} {b : Bool} (h : imp P d U = some b) : ∃ want info, P.underlying U = some (.interface want) ∧ P.info? d = some info ∧ (Instr.missingMethod want info.methods).isNone = b := by
  unfold imp at h
  split at h
  · rename_i want i h1 h2
    split at h
    · rename_i hl
      cases h
      exact ⟨want, i, h1, h2, by rw [Go.missingMethod_none hl]; rfl⟩
    · rename_i x r hl
      cases h
      obtain ⟨m, hm⟩ := Go.missingMethod_some (want := want) (got := i.methods) (by rw [hl]; simp)
      exact ⟨want, i, h1, h2, by rw [hm]; rfl⟩
  · cases h
/-- The machine at a program, but for what is given to it. -/
noncomputable def envOf (P : Program) (ext : FuncId → Option (List Value → Hp → Option (Value × Hp))) : Env := Env.mk (tyOf P) (P.globals.size + 1) (progOf P) ext (mth P) (imp P)
theorem envOf_ok {P : Program} (ext : FuncId → Option (List Value → Hp → Option (Value × Hp))) (hm : P.follows .mixedOrders = true) : EOk P (envOf P ext) where
  ty := fun _ _ h => h
  ns := rfl
  prog := fun _ _ _ h => h
  meth := fun _ _ _ _ _ h ρ w v' hv => mth_sound h ρ w v' hv
  impl := fun _ _ _ h => imp_sound h
  mixed := hm
theorem names_ok {P : Program} (h : (P.funcs.all fun fn => fn.body.isNone || !(fn.name == "runtime.NumGoroutine")) = true) (f : FuncId) (fn : Func) (hf : P.funcs[f]? = some fn) (hb : fn.body.isSome = true) : (fn.name == "runtime.NumGoroutine") = false := by
  have := Array.all_eq_true_iff_forall_mem.1 h fn (Array.mem_of_getElem? hf)
  cases hq : fn.body with
  | none => rw [hq] at hb; cases hb
  | some c => rw [hq] at this; simpa using this
theorem tryz_mixed : Tryz.prog.follows .mixedOrders = true := by kernel_rfl
theorem tryz_names : (Tryz.prog.funcs.all fun fn => fn.body.isNone || !(fn.name == "runtime.NumGoroutine")) = true := by kernel_rfl
theorem tryz_ns : Tryz.prog.globals.size + 1 = 2 := by kernel_rfl

end Go.Proofs.YtaegmplbkbaniaaGreatDoor
