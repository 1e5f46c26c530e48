/-
  THE ABSTRACT MACHINE: what is given to it at this program, all together. No condition.
-/
import Derived.Test.YtaegmplbkbaniaaGreatDoorExtB
set_option linter.all false
namespace Go.Proofs.YtaegmplbkbaniaaGreatDoor
open Go Go.Extern
set_option maxRecDepth 100000
theorem rls (v x : Value) : ReflectliteValue.set #[v, x] = (do
    let (some (dst, a, fl), some (src, b, _)) := (← ReflectliteValue.parts v, ← ReflectliteValue.parts x)
      | unsupported (.noEntry "extern/(internal/reflectlite.Value).Set.zeroValue")
    if fl / ReflectliteValue.flagAddr % 2 == 0 then unsupported (.noEntry "extern/(internal/reflectlite.Value).Set.unaddressable")
    let val ← loadVar src b
    if ← Rtype.directlyAssignable dst src then storeVar dst a val
    else if ← Rtype.implements dst src then
      if (← Rtype.kind src) == 20 then
        match val with
        | .nilIface => unsupported (.noEntry "extern/reflectlite: a nil value of one interface type handed on as a value of another")
        | _ => storeVar dst a val
      else storeVar dst a (.iface src val)
    else panicString ("reflectlite.Set: value of type " ++ (← Rtype.spelt src) ++ " is not assignable to type " ++ (← Rtype.spelt dst))
    pure (.tuple #[])) := rfl
theorem size30 (w : World) : (sizeOf 30).run Tryz.prog w = .ok 1 w := by kernel_rfl
theorem ok193 : FnOk Tryz.prog g193 193 := by
  intro ρ H w args args' v H' hH hl hg
  unfold g193 at hg
  split at hg
  · obtain ⟨y, r, e, k1, k2⟩ := hl.inv
    obtain ⟨z, r2, e2, k3, k4⟩ := k2.inv
    have := k4.inv0; subst this; subst e2; subst e
    refine lands_eq (x193 _ _) ?_
    split at hg
    · rename_i b o b' o' h1 h2
      obtain ⟨p, p1, p2⟩ := valOf_inv hH h1 k1
      obtain ⟨p', p3, p4⟩ := valOf_inv hH h2 k3
      subst p2; subst p4
      split at hg
      · rename_i k n hrd
        split at hg
        · rename_i H2 hw
          cases hg
          obtain ⟨q, v', g1, g2, g3⟩ := cell_rd hH hrd
          rw [p3] at g1; cases g1
          cases g2
          obtain ⟨q2, w', s1, s2, s3⟩ := hH.wrRun Tryz.prog hw (.one (.int k n))
          rw [p1] at s1; cases s1
          have hst : (storeVar 30 ⟨p.blk, p.off + o, none⟩ (.int k n)).run Tryz.prog w = .ok () w' := by
            simp only [storeVar, Sem.run_bind, size30, Result.andThen_ok]
            exact s2
          have hrun : (ReflectliteValue.set #[rV 30 ⟨p.blk, p.off + o, none⟩ 386, rV 30 ⟨p'.blk, p'.off + o', none⟩ 130]).run Tryz.prog w = .ok (.tuple #[]) w' := by
            rw [rls]
            simp only [Sem.run_bind, parts30a, parts30, Result.andThen]
            simp [ReflectliteValue.flagAddr, loadVar, isAgg, underlying, Tryz.underlying30, g3, Result.andThen, direct30, hst]
          show Lands _ _ (Result.andThen (Sem.run Tryz.prog (ReflectliteValue.set #[rV 30 ⟨p.blk, p.off + o, none⟩ 386, rV 30 ⟨p'.blk, p'.off + o', none⟩ 130]) w) _)
          rw [hrun]
          exact ⟨ρ, .undef, s3⟩
        · cases hg
      · cases hg
    · cases hg
  · cases hg

/-- The methods: rtype's Kind comes by the pointer that it holds. -/
noncomputable def mthT (t : TypeId) (m : String) (v : Value) : Option (FuncId × Value) :=
  match Nat.beq t 251 with
  | true => match v with
    | .agg cs => match cs.toList with
      | [h] => if m = "Kind" then some (208, h) else if m = "Elem" then some (222, .agg ⟨[h]⟩) else if m = "Implements" then some (223, .agg ⟨[h]⟩)
          else if m = "AssignableTo" then some (220, .agg ⟨[h]⟩) else if m = "Comparable" then some (221, .agg ⟨[h]⟩) else none
      | _ => none
    | _ => none
  | false => mth Tryz.prog t m v
theorem mthT_sound {t : TypeId} {m : String} {v : Value} {g : FuncId} {r : Value} (h : mthT t m v = some (g, r)) (ρ : Nat → Option Pl) (w : World) (v' : Value) (hv : VR ρ v v') :
    ∃ r', (Go.method (Tryz.prog.types.size + Made.depth) t v' m).run Tryz.prog w = .ok (g, r') w ∧ VR ρ r r' := by
  unfold mthT at h
  split at h
  · rename_i ht
    have : t = 251 := by simpa using ht
    subst this
    split at h
    · rename_i cs
      split at h
      · rename_i x hx
        obtain ⟨l', e, hl⟩ := lr_of_agg hv
        rw [hx] at hl
        obtain ⟨y, r', e2, k1, k2⟩ := hl.inv
        have := k2.inv0; subst this; subst e2; subst e
        split at h
        · rename_i hm; subst hm; cases h; exact ⟨_, methodKind y w, k1⟩
        · split at h
          · rename_i hm; subst hm; cases h; exact ⟨_, methodElem y w, vr_list1 k1⟩
          · split at h
            · rename_i hm; subst hm; cases h; exact ⟨_, methodImplements y w, vr_list1 k1⟩
            · split at h
              · rename_i hm; subst hm; cases h; exact ⟨_, methodAssignableTo y w, vr_list1 k1⟩
              · split at h
                · rename_i hm; subst hm; cases h; exact ⟨_, methodComparable y w, vr_list1 k1⟩
                · cases h
      · cases h
    · cases h
  · exact mth_sound h ρ w v' hv
/-- Reflectlite's functions. -/
def extR (f : FuncId) : Option GF :=
  match f with
  | 186 => some g186
  | 187 => some g187
  | 188 => some g188
  | 190 => some g190
  | 192 => some g192
  | 193 => some g193
  | 208 => some g208
  | 220 => some g220
  | 221 => some g221
  | 222 => some g222
  | 223 => some g223
  | _ => none
theorem extR_ok {f : FuncId} {g : GF} (h : extR f = some g) : FnOk Tryz.prog g f := by
  unfold extR at h
  split at h <;> first
    | (cases h; first | exact ok186 | exact ok187 | exact ok188 | exact ok190 | exact ok192 | exact ok193 | exact ok208 | exact ok220 | exact ok221 | exact ok222 | exact ok223)
    | cases h
/-- The machine at this program, with more that is given. -/
noncomputable def envT (ext : FuncId → Option GF) : Env := Env.mk (tyOf Tryz.prog) (Tryz.prog.globals.size + 1) (progOf Tryz.prog) ext mthT (imp Tryz.prog)
theorem envT_ok (ext : FuncId → Option GF) : EOk Tryz.prog (envT ext) where
  ty := fun _ _ h => h
  ns := rfl
  prog := fun _ _ _ h => h
  meth := fun _ _ _ _ _ h ρ w v' hv => mthT_sound h ρ w v' hv
  impl := fun _ _ _ h => imp_sound h
  mixed := tryz_mixed
theorem envT_x {ext : FuncId → Option GF} (h : ∀ f g, ext f = some g → FnOk Tryz.prog g f) : XOk Tryz.prog (envT ext) := ⟨h, fun f fn hf hb => names_ok tryz_names f fn hf hb⟩

/-- A call without arguments that is told once for all: it begins in a memory where nothing is known but the package's variable. -/
def H00 : Hp := ⟨2, (Tr.nil.put 0 (some (.row (.lst [rT 216]) 0 false)))⟩
def hasDoor (H : Hp) : Bool :=
  match H.get 0 with
  | some (.row c _ false) => match c.rd 0 1 with
    | some [v] => isRT 216 v
    | _ => false
  | _ => false
def closedA (b : Value) : GF := fun args H =>
  match args with
  | [] => match hasDoor H, Nat.ble 2 H.n with
    | true, true => some (b, H)
    | _, _ => none
  | _ => none
theorem closed_ok {g : GF} {f : FuncId} (hg : FnOk Tryz.prog g f) {b : Value} (hb : scal b = true) {H' : Hp} (hrun : g [] H00 = some (b, H')) : FnOk Tryz.prog (closedA b) f := by
  intro ρ H w args args' v H1 hH hl hr
  unfold closedA at hr
  split at hr
  · have := hl.inv0; subst this
    split at hr
    · rename_i hd hn
      cases hr
      -- what is known of the door alone
      let ρ0 : Nat → Option Pl := fun i => if i < 2 then ρ i else none
      have hst : ∀ i, i < Tryz.prog.globals.size + 1 → ∃ p, ρ0 i = some p ∧ p.blk = i ∧ p.off = 0 := fun i hi => by
        have h2 : i < 2 := by rw [tryz_ns] at hi; exact hi
        obtain ⟨p, q1, q2⟩ := hH.st i hi
        exact ⟨p, by simp only [ρ0, if_pos h2]; exact q1, q2⟩
      have get00 : ∀ i, H00.get i = if i = 0 then some (.row (.lst [rT 216]) 0 false) else none := fun i => by
        show (Tr.put .nil 0 _).get i = _
        rw [Tr.get_put, Tr.get_nil]
      have hH0 : HR ρ0 (Tryz.prog.globals.size + 1) H00 w := by
        refine ⟨fun id p h => ?_, hst, fun id c s rw h => ?_, fun id es h => ?_, fun id id' o o' p p' hne h1 h2 h3 => ?_⟩
        · show id < 2
          by_cases h2 : id < 2
          · exact h2
          · simp only [ρ0, if_neg h2] at h; cases h
        · rw [get00] at h
          split at h
          · rename_i h0
            subst h0
            cases h
            unfold hasDoor at hd
            split at hd
            · rename_i c' s' hgo
              split at hd
              · rename_i u hu
                obtain ⟨p, cs, e, fz, q1, q2, q3, q4, q5, q6⟩ := hH.row _ _ _ _ hgo
                obtain ⟨r1, r2⟩ := Cl.rd_spec hu
                obtain ⟨r3, r4⟩ := r2 0 (by omega)
                obtain ⟨x, x', y1, y2, y3⟩ := q5 0 (by omega)
                simp only [Nat.zero_add] at r3
                rw [y1] at r3; cases r3
                have hx := isRT_inv hH hd y3
                subst hx
                refine ⟨p, cs, e, fz, by simp only [ρ0]; exact q1, q2, q3, by simp only [Cl.len]; simp; omega, fun j hj => ?_, fun h => by cases h⟩
                have : j = 0 := by simp only [Cl.len] at hj; simp at hj; exact hj
                subst this
                refine ⟨rT 216, rT 216, rfl, y2, .iface _ _ _ (vr_list1 ?_)⟩
                obtain ⟨p1, z1, z2, z3⟩ := hst 1 (by rw [tryz_ns]; decide)
                have := VR.ptr (ρ := ρ0) 1 216 p1 z1
                rw [z2, z3, Nat.zero_add] at this; exact this
              · cases hd
            · cases hd
          · cases h
        · rw [get00] at h; split at h <;> cases h
        · rw [get00] at h1; split at h1
          · cases h1; cases h2
          · cases h1
      refine (hg ρ0 H00 w [] [] b H' hH0 .nil hrun).mono fun v' w' hh => ?_
      obtain ⟨ρ', k1, k2⟩ := hh
      have : v' = b := vr_ofScal hb k1
      subst this
      have keep : ∀ i, i < w.heap.size → w'.heap[i]? = w.heap[i]? := fun i hi => k2.fr.blk i hi fun id o p h1 h2 => by
        rw [get00] at h1; split at h1
        · cases h1; cases h2
        · cases h1
      refine ⟨ρ, vr_scal hb, ⟨⟨hH.lt, hH.st, fun id c s rw h => ?_, fun id es h => ?_, hH.sep⟩, Nat.le_refl _, fun _ _ => rfl, ⟨k2.fr.os, k2.fr.tape, k2.fr.output, k2.fr.size, fun i hi _ => keep i hi⟩, fun id o p h1 h2 => .inr ⟨id, o, p, h1, h2, fun x => x, rfl⟩⟩⟩
      · obtain ⟨p, cs, e, fz, q1, q2, q3⟩ := hH.row id c s rw h
        exact ⟨p, cs, e, fz, q1, by rw [keep _ (Array.getElem?_eq_some_iff.1 q2).1]; exact q2, q3⟩
      · obtain ⟨p, en, clk, q1, q2, q3⟩ := hH.map id es h
        exact ⟨p, en, clk, q1, by rw [keep _ (Array.getElem?_eq_some_iff.1 q2).1]; exact q2, q3⟩
    · cases hr
  · cases hr

end Go.Proofs.YtaegmplbkbaniaaGreatDoor
