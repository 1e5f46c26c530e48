/-
  THE ABSTRACT MACHINE: one operation, whatever it is, against the model's; what a call comes to. No condition.
-/
import Derived.Test.YtaegmplbkbaniaaGreatDoorAmEffB
import Derived.Tactics
set_option linter.all false
namespace Go.Proofs.YtaegmplbkbaniaaGreatDoor
open Go

/-- What an operation or a call comes to: a value, at once or when the called function has returned. -/
def Lands (P : Program) (R : Value → World → Prop) : Result Next → Prop
  | .ok (.value v) w => R v w
  | .ok .skip w => R undef w
  | .ok (.enter f args) w => Calls P f args w fun
    | .returned v, w' => R v w'
    | _, _ => False
  | _ => False
theorem Lands.mono {P : Program} {R R' : Value → World → Prop} {r : Result Next} (h : Lands P R r) (hr : ∀ v w, R v w → R' v w) : Lands P R' r := by
  cases r with
  | ok n w =>
    cases n <;> simp only [Lands] at h ⊢ <;> first
      | exact hr _ _ h
      | exact Calls.mono h fun e w' he => by cases e <;> first | exact hr _ _ he | exact he
      | exact h
  | halt x w => exact h
theorem Lands.wp {P : Program} {o : Oper} {a : Act} {w : World} {next : Act → World → Prop} {Q : Exit → Act → World → Prop}
    (h : Lands P (fun v w' => next (a.put o.dst v) w') ((execOp a.eval o).run P w)) : o.wp P a w next Q := by
  unfold Oper.wp
  generalize (execOp a.eval o).run P w = r at h ⊢
  cases r with
  | ok n w' =>
    cases n <;> simp only [Lands] at h <;> simp only [Oper.upon] <;> first
      | exact h
      | exact Calls.mono h fun e w' he => by cases e <;> first | exact he | exact he.elim
      | exact h.elim
  | halt x w' => exact h.elim

/-- An abstract function stands for a function of the program. -/
def FnOk (P : Program) (g : List Value → Hp → Option (Value × Hp)) (f : FuncId) : Prop :=
  ∀ (ρ : Nat → Option Pl) (H : Hp) (w : World) (args args' : List Value) (v : Value) (H' : Hp), HR ρ (P.globals.size + 1) H w → LR ρ args args' → g args H = some (v, H') →
    Lands P (fun v' w' => ∃ ρ', VR ρ' v v' ∧ PR (P.globals.size + 1) ρ H w ρ' H' w') ((callFunc f args'.toArray).run P w)
def CallOk (P : Program) (call : CallF) : Prop := ∀ f, FnOk P (call f) f

section
variable {P : Program} {E : Env} {ρ : Nat → Option Pl} {H : Hp} {w : World} {t : Tr Value} {a : Act}
theorem HR.sr (h : HR ρ (P.globals.size + 1) H w) : SR P ρ := h.st

theorem builtin_not_call {b : Builtin} {as : List Od} {ts : Array TypeId} {x : Ai} (h : cBuiltin P b as ts = some x) : (∀ f as, x ≠ .call f as) ∧ (∀ f m as, x ≠ .inv f m as) := by
  unfold cBuiltin at h
  split at h <;> (try split at h) <;> (try split at h) <;> first
    | (cases h; done)
    | (cases h; exact ⟨fun _ _ h => (by cases h), fun _ _ _ h => (by cases h)⟩)
theorem cOp_calls {op : Op} {x : Ai} (hc : cOp P op = x) : (∀ f as, x = .call f as → ∃ c y, op = .call c ∧ c.callee = .value y ∧ cOd P y = some f ∧ cOds P c.args.toList = some as) ∧
    (∀ f m as, x = .inv f m as → ∃ c y, op = .call c ∧ c.callee = .invoke y m ∧ cOd P y = some f ∧ cOds P c.args.toList = some as) := by
  unfold cOp at hc
  split at hc
  case h_2 => subst hc; exact ⟨fun _ _ h => (by cases h), fun _ _ _ h => (by cases h)⟩
  rename_i b hb
  subst hc
  cases op
  case call c =>
    obtain ⟨callee, args, tys⟩ := c
    cases hcs : cOds P args.toList with
    | none => cases callee <;> (simp only [cOp1, hcs] at hb; cases hb)
    | some as =>
      cases callee with
      | value f =>
        simp only [cOp1, hcs] at hb
        obtain ⟨y, h1, h2⟩ := map_some_inv hb; subst h2
        exact ⟨fun _ _ h => by cases h; exact ⟨_, f, rfl, rfl, h1, hcs⟩, fun _ _ _ h => (by cases h)⟩
      | invoke x m =>
        simp only [cOp1, hcs] at hb
        obtain ⟨y, h1, h2⟩ := map_some_inv hb; subst h2
        exact ⟨fun _ _ h => (by cases h), fun _ _ _ h => by cases h; exact ⟨_, x, rfl, rfl, h1, hcs⟩⟩
      | builtin bi =>
        simp only [cOp1, hcs] at hb
        obtain ⟨h1, h2⟩ := builtin_not_call hb
        exact ⟨fun _ _ h => absurd h (h1 _ _), fun _ _ _ h => absurd h (h2 _ _ _)⟩
  case makeFunc fn first caps =>
    refine ⟨fun _ _ h => ?_, fun _ _ _ h => ?_⟩ <;> subst h <;> cases fn <;> simp only [cOp1] at hb <;> first | (cases hb; done) | (split at hb <;> cases hb; done)
  case makeMap T r =>
    refine ⟨fun _ _ h => ?_, fun _ _ _ h => ?_⟩ <;> subst h <;> cases r <;> simp only [cOp1] at hb <;> cases hb
  all_goals
    refine ⟨fun _ _ h => ?_, fun _ _ _ h => ?_⟩ <;> subst h <;> first
      | (simp only [cOp1] at hb; cases hb; done)
      | (obtain ⟨_, _, h2⟩ := map_some_inv hb; cases h2; done)
      | (simp only [cOp1] at hb; split at hb <;> cases hb; done)
      | (simp only [cOp1] at hb; split at hb <;> first | (cases hb; done) | (split at hb <;> first | (cases hb; done) | (split at hb <;> cases hb)); done)

/-- ONE OPERATION. -/
theorem op_sound (hE : EOk P E) {call : CallF} (hC : CallOk P call) (hT : TR ρ t a.tmps) (hH : HR ρ (P.globals.size + 1) H w) {o : Oper} {v : Value} {H' : Hp}
    (hv : execO E call (cOp P o.op) t H = some (v, H')) :
    Lands P (fun v' w' => ∃ ρ', VR ρ' v v' ∧ PR (P.globals.size + 1) ρ H w ρ' H' w') ((execOp a.eval o).run P w) := by
  have hS := hH.sr
  cases hc : cOp P o.op with
  | p p =>
    simp only [execO, hc] at hv
    split at hv
    · rename_i u hu
      cases hv
      obtain ⟨v', h1, h2⟩ := pure_sound (w := w) hE hT hS hc hu
      rw [h1]; exact ⟨ρ, h2, .refl hH⟩
    · cases hv
  | r p =>
    simp only [execO, hc] at hv
    split at hv
    · rename_i u hu
      cases hv
      obtain ⟨v', h1, h2⟩ := read_sound hE hT hS hH hc hu
      rw [h1]; exact ⟨ρ, h2, .refl hH⟩
    · cases hv
  | a p =>
    simp only [execO, hc] at hv
    split at hv
    · rename_i ob f hu
      rw [fO_eq] at hv
      cases hv
      have hid : ρ H.n = none := hH.fresh (Nat.le_refl _)
      obtain ⟨v', w', q, h1, h2, h3, h4, h5⟩ := alloc_sound (id := H.n) hE hT hS (PR.reserve hH 1).hr hid (by simp [Hp.reserve]) hc hu
      rw [h1]
      refine ⟨_, h3, ⟨h2, by simp [Hp.alloc], fun id hi => upd_ne _ _ (by omega), ⟨h5.os, h5.tape, h5.output, h5.size, h5.blk⟩, fun id o' p' g1 g2 => ?_⟩⟩
      rw [Hp.get_alloc] at g1
      by_cases e : id = H.n
      · subst e; rw [upd_same] at g2; cases g2; exact .inl (by omega)
      · rw [if_neg e] at g1; rw [upd_ne _ _ e] at g2; exact .inr ⟨id, o', p', g1, g2, fun x => x, rfl⟩
    · cases hv
  | e p =>
    simp only [execO, hc] at hv
    obtain ⟨nx, w', ρ', h1, h2, h3⟩ := eff_sound hE hT hS hH hc hv
    rw [h1]
    rcases h3 with ⟨rfl, rfl⟩ | ⟨v', rfl, h4⟩
    · exact ⟨ρ', .undef, h2⟩
    · exact ⟨ρ', h4, h2⟩
  | call f as =>
    obtain ⟨c, y, h1, h2, h3, h4⟩ := (cOp_calls hc).1 _ _ rfl
    simp only [execO, hc] at hv
    split at hv
    · rename_i g bs hg
      unfold calleeA at hg
      split at hg
      · rename_i g' first caps hf
        cases hg
        have vf := od_sound hT hS h3
        have va := ods_sound hT hS h4
        rw [hf] at vf
        obtain ⟨dst, op, type, pos, after, guard⟩ := o
        simp only at h1; subst h1
        simp only [execOp, resolve, h2]
        generalize a.eval y = y' at vf ⊢
        cases vf with
        | func _ _ _ f' c' hfs hcs k1 k2 =>
        have := hC g ρ H w _ (f'.toList ++ c.args.toList.map a.eval ++ c'.toList) v H' hH (((LR.arr hfs k1).append va).append (LR.arr hcs k2)) hv
        simp only [Deferred.ofValue, Sem.run_bind, Sem.run_pure, Result.andThen_ok, invoke]
        have e : f' ++ c.args.map a.eval ++ c' = (f'.toList ++ c.args.toList.map a.eval ++ c'.toList).toArray := by
          apply Array.toList_inj.1; simp
        rw [e]; exact this
      · cases hg
    · cases hv
  | inv x m as =>
    obtain ⟨c, y, h1, h2, h3, h4⟩ := (cOp_calls hc).2 _ _ _ rfl
    simp only [execO, hc] at hv
    split at hv
    · rename_i g bs hg
      unfold invokeA at hg
      split at hg
      · rename_i T u hx
        split at hg
        · rename_i g' r hm
          cases hg
          have vx := od_sound hT hS h3
          have va := ods_sound hT hS h4
          rw [hx] at vx
          obtain ⟨dst, op, type, pos, after, guard⟩ := o
          simp only at h1; subst h1
          simp only [execOp, resolve, h2]
          generalize a.eval y = y' at vx ⊢
          cases vx with
          | iface _ _ u' hu =>
          obtain ⟨r', m1, m2⟩ := hE.meth _ _ _ _ _ hm ρ w u' hu
          have := hC g ρ H w _ (r' :: c.args.toList.map a.eval) v H' hH (.cons m2 va) hv
          have e : #[r'] ++ (#[Value.iface T u'] ++ c.args.map a.eval).extract 1 (#[Value.iface T u'] ++ c.args.map a.eval).size = (r' :: c.args.toList.map a.eval).toArray := by
            apply Array.toList_inj.1; simp [List.take_of_length_le]
          rw [← e] at this
          have h0 : (#[Value.iface T u'] ++ c.args.map a.eval)[0]? = some (.iface T u') := by rw [Array.getElem?_append_left (by simp)]; rfl
          simp only [Sem.run_bind, Sem.run_pure, Result.andThen_ok, invoke, h0]
          unfold callMethod
          simp only [Sem.run_bind, run_program, Result.andThen_ok, m1]
          exact this
        · cases hg
      · cases hg
    · cases hv
end

end Go.Proofs.YtaegmplbkbaniaaGreatDoor
