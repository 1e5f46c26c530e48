/-
  THE ABSTRACT MACHINE, reasoned about: more rounds give the same answer; what code must show of itself (VC), and that this suffices. No condition.
-/
import Derived.Test.YtaegmplbkbaniaaGreatDoorAmRun
set_option linter.all false
namespace Go.Proofs.YtaegmplbkbaniaaGreatDoor
open Go

/-! ### More rounds give the same answer -/
section mono
variable {E : Env}
abbrev RunF := Ac → Tr Value → Hp → Option (Ax × St)
def UpR (r r' : RunF) : Prop := ∀ c t H x, r c t H = some x → r' c t H = some x
def UpC (c c' : CallF) : Prop := ∀ f a H x, c f a H = some x → c' f a H = some x
theorem callBy_mono {r r' : RunF} (h : UpR r r') : UpC (callBy E r) (callBy E r') := by
  intro f args H x hx
  unfold callBy at hx ⊢
  cases he : E.ext f with
  | some g => simp only [he] at hx ⊢; exact hx
  | none =>
    simp only [he] at hx ⊢
    cases hp : E.prog f with
    | none => simp only [hp] at hx; cases hx
    | some af =>
      simp only [hp] at hx ⊢
      cases hb : Nat.ble args.length af.nt with
      | false => simp only [hb] at hx; cases hx
      | true =>
        simp only [hb, fT_eq] at hx ⊢
        cases hr : r af.code (ofArgs args 0 .nil) H with
        | none => simp only [hr] at hx; cases hx
        | some q =>
          rw [h _ _ _ _ hr]
          simp only [hr] at hx; exact hx
theorem execO_mono {c c' : CallF} (h : UpC c c') {o : Ai} {t : Tr Value} {H : Hp} {x : Value × Hp} (hx : execO E c o t H = some x) : execO E c' o t H = some x := by
  cases o with
  | call f args =>
    simp only [execO] at hx ⊢
    cases hc : calleeA t f args with
    | none => simp only [hc] at hx; cases hx
    | some q => simp only [hc] at hx ⊢; exact h _ _ _ _ hx
  | inv f m args =>
    simp only [execO] at hx ⊢
    cases hc : invokeA E t f m args with
    | none => simp only [hc] at hx; cases hx
    | some q => simp only [hc] at hx ⊢; exact h _ _ _ _ hx
  | _ => exact hx
theorem execOps_mono {c c' : CallF} (h : UpC c c') : ∀ (ops : List Lo) {t : Tr Value} {H : Hp} {x : St}, execOps E c ops t H = some x → execOps E c' ops t H = some x
  | [], _, _, _, hx => hx
  | o :: r, t, H, x, hx => by
    unfold execOps at hx ⊢
    cases hw : wants o.g t with
    | false => simp only [hw, fT_eq] at hx ⊢; exact execOps_mono h r hx
    | true =>
      simp only [hw] at hx ⊢
      cases ho : execO E c o.o t H with
      | none => simp only [ho] at hx; cases hx
      | some q =>
        rw [execO_mono h ho]
        simp only [ho, fV_eq, fH_eq, fT_eq] at hx ⊢
        exact execOps_mono h r hx
theorem execD1_mono {c c' : CallF} (h : UpC c c') {base : Nat} {o : Dl} {D x : Ds} (hx : execD1 E c base o D = some x) : execD1 E c' base o D = some x := by
  unfold execD1 at hx ⊢
  simp only [fT_eq] at hx ⊢
  cases hw : wants o.lo.g (rst o.ls D.t) with
  | false => simp only [hw] at hx ⊢; exact hx
  | true =>
    simp only [hw] at hx ⊢
    cases ho : o.lo.o with
    | p p => simp only [ho] at hx ⊢; exact hx
    | r p => simp only [ho] at hx ⊢; exact hx
    | a p => simp only [ho] at hx ⊢; exact hx
    | e p =>
      simp only [ho] at hx ⊢
      cases he : execO E c (.e p) (rst o.ls D.t) D.H with
      | none => simp only [he] at hx; cases hx
      | some q => rw [execO_mono h he]; simp only [he] at hx ⊢; exact hx
    | call f as =>
      simp only [ho] at hx ⊢
      cases he : execO E c (.call f as) (rst o.ls D.t) D.H with
      | none => simp only [he] at hx; cases hx
      | some q => rw [execO_mono h he]; simp only [he] at hx ⊢; exact hx
    | inv f m as =>
      simp only [ho] at hx ⊢
      cases he : execO E c (.inv f m as) (rst o.ls D.t) D.H with
      | none => simp only [he] at hx; cases hx
      | some q => rw [execO_mono h he]; simp only [he] at hx ⊢; exact hx
theorem execD_mono {c c' : CallF} (h : UpC c c') {base : Nat} : ∀ (ops : List Dl) {D x : Ds}, execD E c base ops D = some x → execD E c' base ops D = some x
  | [], _, _, hx => hx
  | o :: r, D, x, hx => by
    unfold execD at hx ⊢
    cases ho : execD1 E c base o D with
    | none => simp only [ho] at hx; cases hx
    | some q => rw [execD1_mono h ho]; simp only [ho] at hx ⊢; exact execD_mono h r hx
theorem exec_mono (n : Nat) : ∀ m, n ≤ m → UpR (exec E n) (exec E m) := by
  induction n with
  | zero => intro m _ c t H x hx; cases hx
  | succ n ih =>
    intro m hm c t H x hx
    obtain ⟨m, rfl⟩ : ∃ k, m = k + 1 := ⟨m - 1, by omega⟩
    have ih := ih m (by omega)
    cases c with
    | skip => exact hx
    | reg ops =>
      simp only [exec] at hx ⊢
      cases ho : execOps E (callBy E (exec E n)) ops t H with
      | none => simp only [ho] at hx; cases hx
      | some q => rw [execOps_mono (callBy_mono ih) _ ho]; simp only [ho] at hx ⊢; exact hx
    | dreg na ops =>
      simp only [exec] at hx ⊢
      cases ho : execD E (callBy E (exec E n)) H.n ops { t, H := H.reserve na, K := H.reserve na, sn := [], rd := [] } with
      | none => simp only [ho] at hx; cases hx
      | some q => rw [execD_mono (callBy_mono ih) _ ho]; simp only [ho] at hx ⊢; exact hx
    | seq a b =>
      simp only [exec] at hx ⊢
      cases ho : exec E n a t H with
      | none => simp only [ho] at hx; cases hx
      | some q =>
        rw [ih _ _ _ _ ho]; simp only [ho] at hx ⊢
        obtain ⟨ax, s⟩ := q
        cases ax with
        | nrm => exact ih _ _ _ _ hx
        | exit i => exact hx
        | ret => exact hx
    | cond c a b =>
      simp only [exec] at hx ⊢
      split at hx
      · exact ih _ _ _ _ hx
      · exact ih _ _ _ _ hx
      · cases hx
    | blk id b =>
      simp only [exec] at hx ⊢
      cases ho : exec E n b t H with
      | none => simp only [ho] at hx; cases hx
      | some q => rw [ih _ _ _ _ ho]; simp only [ho] at hx ⊢; exact hx
    | loop b =>
      simp only [exec] at hx ⊢
      cases ho : exec E n b t H with
      | none => simp only [ho] at hx; cases hx
      | some q =>
        rw [ih _ _ _ _ ho]; simp only [ho] at hx ⊢
        obtain ⟨ax, s⟩ := q
        cases ax with
        | nrm => exact ih _ _ _ _ hx
        | exit i => exact hx
        | ret => exact hx
    | exit id => exact hx
    | ret => exact hx
theorem callA_mono {n m : Nat} (h : n ≤ m) : UpC (callA E n) (callA E m) := callBy_mono (exec_mono n m h)
end mono

/-! ### What is to be shown -/
section
variable {E : Env}
/-- Code comes to an end of which Q holds. -/
def WC (E : Env) (c : Ac) (t : Tr Value) (H : Hp) (Q : Ax → Tr Value → Hp → Prop) : Prop := ∃ n ax s, exec E n c t H = some (ax, s) ∧ Q ax s.t s.H
/-- A call comes to an answer of which Q holds. -/
def WF (E : Env) (f : FuncId) (args : List Value) (H : Hp) (Q : Value → Hp → Prop) : Prop := ∃ n v H', callA E n f args H = some (v, H') ∧ Q v H'
def W1 (E : Env) (o : Ai) (t : Tr Value) (H : Hp) (Q : Value → Hp → Prop) : Prop := ∃ n v H', execO E (callA E n) o t H = some (v, H') ∧ Q v H'
def WO (E : Env) (ops : List Lo) (t : Tr Value) (H : Hp) (Q : Tr Value → Hp → Prop) : Prop := ∃ n s, execOps E (callA E n) ops t H = some s ∧ Q s.t s.H
def WD (E : Env) (base : Nat) (ops : List Dl) (D : Ds) (Q : Tr Value → Hp → Prop) : Prop := ∃ n s, execD E (callA E n) base ops D = some s ∧ Q s.t s.H

/-- What one operation must show. -/
def V1 (E : Env) (o : Ai) (t : Tr Value) (H : Hp) (Q : Value → Hp → Prop) : Prop :=
  match o with
  | .p o => match pureA E t o with
    | some v => Q v H
    | none => False
  | .r o => match readA E t H o with
    | some v => Q v H
    | none => False
  | .a o => match allocA E t o with
    | some q => Q (q.2 H.n) (H.alloc q.1)
    | none => False
  | .e o => match effA E t H o with
    | some q => Q q.1 q.2
    | none => False
  | .call f args => match calleeA t f args with
    | some q => WF E q.1 q.2 H Q
    | none => False
  | .inv x m args => match invokeA E t x m args with
    | some q => WF E q.1 q.2 H Q
    | none => False
theorem V1.w {o : Ai} {t : Tr Value} {H : Hp} {Q : Value → Hp → Prop} (h : V1 E o t H Q) : W1 E o t H Q := by
  cases o with
  | p o =>
    simp only [V1] at h
    split at h
    · rename_i v hv; exact ⟨0, v, H, by simp only [execO, hv], h⟩
    · exact h.elim
  | r o =>
    simp only [V1] at h
    split at h
    · rename_i v hv; exact ⟨0, v, H, by simp only [execO, hv], h⟩
    · exact h.elim
  | a o =>
    simp only [V1] at h
    split at h
    · rename_i q hv; exact ⟨0, _, _, by simp only [execO, hv, fO_eq], h⟩
    · exact h.elim
  | e o =>
    simp only [V1] at h
    split at h
    · rename_i q hv; exact ⟨0, _, _, by simp only [execO, hv], h⟩
    · exact h.elim
  | call f args =>
    simp only [V1] at h
    split at h
    · rename_i q hv; obtain ⟨n, v, H', h1, h2⟩ := h; exact ⟨n, v, H', by simp only [execO, hv]; exact h1, h2⟩
    · exact h.elim
  | inv x m args =>
    simp only [V1] at h
    split at h
    · rename_i q hv; obtain ⟨n, v, H', h1, h2⟩ := h; exact ⟨n, v, H', by simp only [execO, hv]; exact h1, h2⟩
    · exact h.elim
def VO (E : Env) : List Lo → Tr Value → Hp → (Tr Value → Hp → Prop) → Prop
  | [], t, H, Q => Q t H
  | o :: r, t, H, Q => match wants o.g t with
    | true => V1 E o.o t H fun v H' => VO E r (putD t o.d v) H' Q
    | false => VO E r (putD t o.d undef) H Q
theorem VO.w : ∀ {ops : List Lo} {t : Tr Value} {H : Hp} {Q : Tr Value → Hp → Prop}, VO E ops t H Q → WO E ops t H Q
  | [], t, H, Q, h => ⟨0, ⟨t, H⟩, rfl, h⟩
  | o :: r, t, H, Q, h => by
    unfold VO at h
    split at h
    · rename_i hw
      obtain ⟨n, v, H', h1, h2⟩ := h.w
      obtain ⟨m, s, h3, h4⟩ := VO.w h2
      refine ⟨n + m, s, ?_, h4⟩
      unfold execOps
      simp only [hw]
      rw [execO_mono (callA_mono (by omega)) h1]
      simp only [fV_eq, fH_eq, fT_eq]
      exact execOps_mono (callA_mono (by omega)) _ h3
    · rename_i hw
      obtain ⟨m, s, h3, h4⟩ := VO.w h
      refine ⟨m, s, ?_, h4⟩
      unfold execOps
      simp only [hw, fT_eq]
      exact h3
/-- A region that draws its order, one operation. -/
def VD1 (E : Env) (base : Nat) (o : Dl) (D : Ds) (Q : Ds → Prop) : Prop :=
  match wants o.lo.g (rst o.ls D.t) with
  | false => Q { D with t := putD D.t o.lo.d undef }
  | true => match o.lo.o with
    | .p p => match pureA E (rst o.ls D.t) p with
      | some v => Q { D with t := putD D.t o.lo.d v }
      | none => False
    | .r r => match readA E (rst o.ls D.t) D.K r with
      | some v => (D.sn.take o.back).all (alike E (rst o.ls D.t) r v) = true ∧
          Q { D with t := putD D.t o.lo.d v, rd := match o.keep with | true => (o.i, r, rst o.ls D.t, v) :: D.rd | false => D.rd }
      | none => False
    | .a a => match allocA E (rst o.ls D.t) a with
      | some q => (((D.K :: D.sn).all fun S => (S.get (base + o.slot)).isNone) && q.1.rw) = true ∧
          Q { D with t := putD D.t o.lo.d (q.2 (base + o.slot)), H := D.H.put (base + o.slot) (some q.1) }
      | none => False
    | op => V1 E op (rst o.ls D.t) D.H fun v H' =>
        (D.rd.all fun q => !(o.chk.contains q.1) || alike E q.2.2.1 q.2.1 q.2.2.2 H') = true ∧
        Q { t := putD D.t o.lo.d v, H := H', K := H', sn := D.K :: D.sn, rd := D.rd }
theorem VD1.w {base : Nat} {o : Dl} {D : Ds} {Q : Ds → Prop} (h : VD1 E base o D Q) : ∃ n D', execD1 E (callA E n) base o D = some D' ∧ Q D' := by
  unfold VD1 at h
  split at h
  · rename_i hw
    exact ⟨0, _, by unfold execD1; simp only [fT_eq, hw], h⟩
  · rename_i hw
    split at h
    · rename_i p hp
      split at h
      · rename_i v hv; exact ⟨0, _, by unfold execD1; simp only [fT_eq, hw, hp, hv, fV_eq], h⟩
      · exact h.elim
    · rename_i p hp
      split at h
      · rename_i v hv; refine ⟨0, _, ?_, h.2⟩; unfold execD1; simp only [fT_eq, hw, hp, hv, fV_eq]; rw [h.1]; rfl
      · exact h.elim
    · rename_i p hp
      split at h
      · rename_i q hv
        obtain ⟨ob, f⟩ := q
        exact ⟨0, _, by unfold execD1; simp only [fT_eq, hw, hp, hv, fO_eq, fV_eq, fH_eq]; rw [h.1], h.2⟩
      · exact h.elim
    · rename_i x1 x2 x3
      obtain ⟨n, v, H', h1, h2, h3⟩ := h.w
      refine ⟨n, _, ?_, h3⟩
      unfold execD1; simp only [fT_eq, hw]
      cases ho : o.lo.o with
      | p p => exact absurd ho (x1 p)
      | r p => exact absurd ho (x2 p)
      | a p => exact absurd ho (x3 p)
      | e p => rw [ho] at h1; simp only [h1, fV_eq, fH_eq, fT_eq]; rw [h2]
      | call f as => rw [ho] at h1; simp only [h1, fV_eq, fH_eq, fT_eq]; rw [h2]
      | inv f m as => rw [ho] at h1; simp only [h1, fV_eq, fH_eq, fT_eq]; rw [h2]
def VD (E : Env) (base : Nat) : List Dl → Ds → (Tr Value → Hp → Prop) → Prop
  | [], D, Q => Q D.t D.H
  | o :: r, D, Q => VD1 E base o D fun D' => VD E base r D' Q
theorem VD.w {base : Nat} : ∀ {ops : List Dl} {D : Ds} {Q : Tr Value → Hp → Prop}, VD E base ops D Q → WD E base ops D Q
  | [], D, Q, h => ⟨0, D, rfl, h⟩
  | o :: r, D, Q, h => by
    unfold VD at h
    obtain ⟨n, D', h1, h2⟩ := h.w
    obtain ⟨m, s, h3, h4⟩ := VD.w h2
    refine ⟨n + m, s, ?_, h4⟩
    unfold execD
    rw [execD1_mono (callA_mono (by omega)) h1]
    exact execD_mono (callA_mono (by omega)) _ h3

/-! ### Code -/
theorem WC.mono {c : Ac} {t : Tr Value} {H : Hp} {Q Q' : Ax → Tr Value → Hp → Prop} (h : WC E c t H Q) (hq : ∀ ax t H, Q ax t H → Q' ax t H) : WC E c t H Q' := by
  obtain ⟨n, ax, s, h1, h2⟩ := h; exact ⟨n, ax, s, h1, hq _ _ _ h2⟩
theorem WC.skip {t : Tr Value} {H : Hp} {Q : Ax → Tr Value → Hp → Prop} (h : Q .nrm t H) : WC E .skip t H Q := ⟨1, .nrm, ⟨t, H⟩, rfl, h⟩
theorem WC.exit {id : Nat} {t : Tr Value} {H : Hp} {Q : Ax → Tr Value → Hp → Prop} (h : Q (.exit id) t H) : WC E (.exit id) t H Q := ⟨1, .exit id, ⟨t, H⟩, rfl, h⟩
theorem WC.ret {t : Tr Value} {H : Hp} {Q : Ax → Tr Value → Hp → Prop} (h : Q .ret t H) : WC E .ret t H Q := ⟨1, .ret, ⟨t, H⟩, rfl, h⟩
theorem WC.regW {ops : List Lo} {t : Tr Value} {H : Hp} {Q : Ax → Tr Value → Hp → Prop} (h : WO E ops t H (Q .nrm)) : WC E (.reg ops) t H Q := by
  obtain ⟨n, s, h1, h2⟩ := h
  refine ⟨n + 1, .nrm, s, ?_, h2⟩
  simp only [exec]
  have : execOps E (callBy E (exec E n)) ops t H = some s := h1
  rw [this]
theorem WC.reg {ops : List Lo} {t : Tr Value} {H : Hp} {Q : Ax → Tr Value → Hp → Prop} (h : VO E ops t H (Q .nrm)) : WC E (.reg ops) t H Q := WC.regW h.w
theorem WC.dreg {na : Nat} {ops : List Dl} {t : Tr Value} {H : Hp} {Q : Ax → Tr Value → Hp → Prop}
    (h : VD E H.n ops { t, H := H.reserve na, K := H.reserve na, sn := [], rd := [] } (Q .nrm)) : WC E (.dreg na ops) t H Q := by
  obtain ⟨n, s, h1, h2⟩ := h.w
  refine ⟨n + 1, .nrm, ⟨s.t, s.H⟩, ?_, h2⟩
  simp only [exec]
  have : execD E (callBy E (exec E n)) H.n ops { t, H := H.reserve na, K := H.reserve na, sn := [], rd := [] } = some s := h1
  rw [this]
theorem WC.seq {a b : Ac} {t : Tr Value} {H : Hp} {Q : Ax → Tr Value → Hp → Prop}
    (h : WC E a t H fun ax t' H' => match ax with | .nrm => WC E b t' H' Q | ax => Q ax t' H') : WC E (.seq a b) t H Q := by
  obtain ⟨n, ax, s, h1, h2⟩ := h
  cases ax with
  | nrm =>
    obtain ⟨m, ax', s', h3, h4⟩ := h2
    refine ⟨n + m + 1, ax', s', ?_, h4⟩
    simp only [exec]
    rw [exec_mono n (n + m) (by omega) _ _ _ _ h1]
    exact exec_mono m (n + m) (by omega) _ _ _ _ h3
  | exit i => exact ⟨n + 1, _, s, by simp only [exec]; rw [h1], h2⟩
  | ret => exact ⟨n + 1, _, s, by simp only [exec]; rw [h1], h2⟩
theorem WC.cond {c : Od} {a b : Ac} {t : Tr Value} {H : Hp} {Q : Ax → Tr Value → Hp → Prop} (x : Bool) (hc : c.ev t = .bool x)
    (ht : x = true → WC E a t H Q) (hf : x = false → WC E b t H Q) : WC E (.cond c a b) t H Q := by
  cases x with
  | true =>
    obtain ⟨n, ax, s, h1, h2⟩ := ht rfl
    exact ⟨n + 1, ax, s, by simp only [exec, hc]; exact h1, h2⟩
  | false =>
    obtain ⟨n, ax, s, h1, h2⟩ := hf rfl
    exact ⟨n + 1, ax, s, by simp only [exec, hc]; exact h1, h2⟩
/-- What lies behind a block. -/
def outB (id : Nat) (Q : Ax → Tr Value → Hp → Prop) : Ax → Tr Value → Hp → Prop
  | .exit i, t, H => match Nat.beq i id with
    | true => Q .nrm t H
    | false => Q (.exit i) t H
  | ax, t, H => Q ax t H
theorem WC.blk {id : Nat} {b : Ac} {t : Tr Value} {H : Hp} {Q : Ax → Tr Value → Hp → Prop} (h : WC E b t H (outB id Q)) : WC E (.blk id b) t H Q := by
  obtain ⟨n, ax, s, h1, h2⟩ := h
  cases ax with
  | nrm => exact ⟨n + 1, _, s, by simp only [exec]; rw [h1], h2⟩
  | ret => exact ⟨n + 1, _, s, by simp only [exec]; rw [h1], h2⟩
  | exit i =>
    simp only [outB] at h2
    split at h2
    · rename_i hi; exact ⟨n + 1, .nrm, s, by simp only [exec]; rw [h1]; simp only [hi], h2⟩
    · rename_i hi; exact ⟨n + 1, .exit i, s, by simp only [exec]; rw [h1]; simp only [hi], h2⟩
/-- One round of a loop. -/
theorem WC.round {b : Ac} {t : Tr Value} {H : Hp} {Q : Ax → Tr Value → Hp → Prop}
    (h : WC E b t H fun ax t' H' => match ax with | .nrm => WC E (.loop b) t' H' Q | ax => Q ax t' H') : WC E (.loop b) t H Q := by
  obtain ⟨n, ax, s, h1, h2⟩ := h
  cases ax with
  | nrm =>
    obtain ⟨m, ax', s', h3, h4⟩ := h2
    refine ⟨n + m + 1, ax', s', ?_, h4⟩
    simp only [exec]
    rw [exec_mono n (n + m) (by omega) _ _ _ _ h1]
    exact exec_mono m (n + m) (by omega) _ _ _ _ h3
  | exit i => exact ⟨n + 1, _, s, by simp only [exec]; rw [h1], h2⟩
  | ret => exact ⟨n + 1, _, s, by simp only [exec]; rw [h1], h2⟩
/-- A loop with what holds at its head: d tells what is left. -/
theorem WC.loop {b : Ac} (I : Nat → Tr Value → Hp → Prop) {Q : Ax → Tr Value → Hp → Prop}
    (step : ∀ d t H, I d t H → WC E b t H fun ax t' H' => match ax with | .nrm => ∃ d', d' < d ∧ I d' t' H' | ax => Q ax t' H')
    {d : Nat} {t : Tr Value} {H : Hp} (h : I d t H) : WC E (.loop b) t H Q := by
  induction d using Nat.strongRecOn generalizing t H with
  | _ d ih =>
    refine WC.round ((step d t H h).mono fun ax t' H' hq => ?_)
    cases ax with
    | nrm => obtain ⟨d', h1, h2⟩ := hq; exact ih d' h1 h2
    | exit i => exact hq
    | ret => exact hq
/-- A call that is given to the machine. -/
theorem WF.ext {f : FuncId} {g : List Value → Hp → Option (Value × Hp)} (he : E.ext f = some g) {args : List Value} {H : Hp} {v : Value} {H' : Hp} (hg : g args H = some (v, H')) {Q : Value → Hp → Prop} (hq : Q v H') : WF E f args H Q :=
  ⟨0, v, H', by unfold callA callBy; simp only [he]; exact hg, hq⟩
/-- A call of the program's code. -/
theorem WF.code {f : FuncId} {af : AFun} (hx : E.ext f = none) (hp : E.prog f = some af) {args : List Value} (hl : Nat.ble args.length af.nt = true) {H : Hp} {Q : Value → Hp → Prop}
    (h : WC E af.code (ofArgs args 0 .nil) H fun ax t' H' => match ax with
      | .exit _ => False
      | _ => match resA E t' H' af.res with
        | some [v] => Q v H'
        | some l => Q (.tuple ⟨l⟩) H'
        | none => False) : WF E f args H Q := by
  obtain ⟨n, ax, s, h1, h2⟩ := h
  cases ax with
  | exit i => exact h2.elim
  | nrm =>
    simp only at h2
    split at h2
    · rename_i v hv; exact ⟨n, v, s.H, by unfold callA callBy; simp only [hx, hp, hl, fT_eq, h1, hv, fV_eq], h2⟩
    · rename_i l hl2 hv
      refine ⟨n, .tuple ⟨l⟩, s.H, ?_, h2⟩
      unfold callA callBy; simp only [hx, hp, hl, fT_eq, h1, hv]
    · exact h2.elim
  | ret =>
    simp only at h2
    split at h2
    · rename_i v hv; exact ⟨n, v, s.H, by unfold callA callBy; simp only [hx, hp, hl, fT_eq, h1, hv, fV_eq], h2⟩
    · rename_i l hl2 hv
      refine ⟨n, .tuple ⟨l⟩, s.H, ?_, h2⟩
      unfold callA callBy; simp only [hx, hp, hl, fT_eq, h1, hv]
    · exact h2.elim
theorem WF.mono {f : FuncId} {args : List Value} {H : Hp} {Q Q' : Value → Hp → Prop} (h : WF E f args H Q) (hq : ∀ v H, Q v H → Q' v H) : WF E f args H Q' := by
  obtain ⟨n, v, H', h1, h2⟩ := h; exact ⟨n, v, H', h1, hq _ _ h2⟩
end

end Go.Proofs.YtaegmplbkbaniaaGreatDoor
