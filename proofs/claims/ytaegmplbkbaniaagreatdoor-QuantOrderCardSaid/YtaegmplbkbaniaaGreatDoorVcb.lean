/-
  THE ABSTRACT MACHINE, reasoned about by rewriting: whole code. No condition.
-/
import Derived.Test.YtaegmplbkbaniaaGreatDoorSl
set_option linter.all false
namespace Go.Proofs.YtaegmplbkbaniaaGreatDoor
open Go
/-- By a condition. -/
def oIf (v : Value) (P Q : Prop) : Prop := match v with
  | .bool true => P
  | .bool false => Q
  | _ => False
@[congr] theorem oIf_congr {v v' : Value} {P Q : Prop} (h : v = v') : oIf v P Q = oIf v' P Q := by rw [h]
theorem oIf_true (P Q : Prop) : oIf (.bool true) P Q = P := rfl
theorem oIf_false (P Q : Prop) : oIf (.bool false) P Q = Q := rfl
theorem oIf_yes {b : Prop} [Decidable b] (h : b) (P Q : Prop) : oIf (.bool (decide b)) P Q = P := by rw [decide_eq_true h]; rfl
theorem oIf_no {b : Prop} [Decidable b] (h : ¬ b) (P Q : Prop) : oIf (.bool (decide b)) P Q = Q := by rw [decide_eq_false h]; rfl
/-- What code must show. -/
def VC (E : Env) : Ac → Tr Value → Hp → (Ax → Tr Value → Hp → Prop) → Prop
  | .skip, t, H, Q => Q .nrm t H
  | .reg ops, t, H, Q => VO E ops t H (Q .nrm)
  | .dreg na ops, t, H, Q => VD E H.n ops { t, H := H.reserve na, K := H.reserve na, sn := [], rd := [] } (Q .nrm)
  | .seq a b, t, H, Q => VC E a t H fun ax t' H' => match ax with
    | .nrm => VC E b t' H' Q
    | ax => Q ax t' H'
  | .cond c a b, t, H, Q => oIf (c.ev t) (VC E a t H Q) (VC E b t H Q)
  | .blk id b, t, H, Q => VC E b t H (outB id Q)
  | .loop b, t, H, Q => WC E (.loop b) t H Q
  | .exit id, t, H, Q => Q (.exit id) t H
  | .ret, t, H, Q => Q .ret t H
theorem VC.w {E : Env} : ∀ {c : Ac} {t : Tr Value} {H : Hp} {Q : Ax → Tr Value → Hp → Prop}, VC E c t H Q → WC E c t H Q
  | .skip, _, _, _, h => WC.skip h
  | .reg _, _, _, _, h => WC.reg h
  | .dreg _ _, _, _, _, h => WC.dreg h
  | .seq a b, t, H, Q, h => by
    refine WC.seq ((VC.w (c := a) h).mono fun ax t' H' hq => ?_)
    cases ax with
    | nrm => exact VC.w hq
    | exit i => exact hq
    | ret => exact hq
  | .cond c a b, t, H, Q, h => by
    unfold VC at h
    unfold oIf at h
    split at h
    · rename_i hv; exact WC.cond true hv (fun _ => VC.w h) (fun h => by cases h)
    · rename_i hv; exact WC.cond false hv (fun h => by cases h) (fun _ => VC.w h)
    · exact h.elim
  | .blk id b, t, H, Q, h => WC.blk (VC.w (c := b) h)
  | .loop _, _, _, _, h => h
  | .exit _, _, _, _, h => WC.exit h
  | .ret, _, _, _, h => WC.ret h
@[congr] theorem VC_congr {E : Env} {c : Ac} {t t' : Tr Value} {H H' : Hp} {Q : Ax → Tr Value → Hp → Prop} (h : t = t') (h2 : H = H') : VC E c t H Q = VC E c t' H' Q := by rw [h, h2]
@[congr] theorem VO_congr {E : Env} {c c' : List Lo} {t : Tr Value} {H : Hp} {K : Tr Value → Hp → Prop} (h : c = c') : VO E c t H K = VO E c' t H K := by rw [h]
/-- Behind the first part of a row of code. -/
def sq (E : Env) (b : Ac) (Q : Ax → Tr Value → Hp → Prop) : Ax → Tr Value → Hp → Prop
  | .nrm, t, H => VC E b t H Q
  | ax, t, H => Q ax t H
/-- Behind a round. -/
def rd' (E : Env) (I : Nat → Tr Value → Hp → Prop) (d : Nat) (Q : Ax → Tr Value → Hp → Prop) : Ax → Tr Value → Hp → Prop
  | .nrm, t, H => ∃ d', d' < d ∧ I d' t H
  | ax, t, H => Q ax t H
section
variable {E : Env} {t : Tr Value} {H : Hp} {Q : Ax → Tr Value → Hp → Prop}
theorem C_skip : VC E .skip t H Q = Q .nrm t H := rfl
theorem C_reg (ops : List Lo) : VC E (.reg ops) t H Q = VO E ops t H (Q .nrm) := rfl
theorem C_dreg (na : Nat) (ops : List Dl) : VC E (.dreg na ops) t H Q = VD E H.n ops ⟨t, H.reserve na, H.reserve na, [], []⟩ (Q .nrm) := rfl
theorem C_seq (a b : Ac) : VC E (.seq a b) t H Q = VC E a t H (sq E b Q) := by
  show VC E a t H _ = _
  congr 1
  funext ax t' H'
  cases ax <;> rfl
def cIf (v : Value) (E : Env) (a b : Ac) (t : Tr Value) (H : Hp) (Q : Ax → Tr Value → Hp → Prop) : Prop := oIf v (VC E a t H Q) (VC E b t H Q)
theorem cIf_true (a b : Ac) : cIf (.bool true) E a b t H Q = VC E a t H Q := rfl
theorem cIf_false (a b : Ac) : cIf (.bool false) E a b t H Q = VC E b t H Q := rfl
theorem cIf_yes {p : Prop} [Decidable p] (h : p) (a b : Ac) : cIf (.bool (decide p)) E a b t H Q = VC E a t H Q := by rw [decide_eq_true h]; rfl
theorem cIf_no {p : Prop} [Decidable p] (h : ¬ p) (a b : Ac) : cIf (.bool (decide p)) E a b t H Q = VC E b t H Q := by rw [decide_eq_false h]; rfl
theorem C_cond (c : Od) (a b : Ac) : VC E (.cond c a b) t H Q = cIf (c.ev t) E a b t H Q := rfl
theorem C_blk (id : Nat) (b : Ac) : VC E (.blk id b) t H Q = VC E b t H (outB id Q) := rfl
theorem C_loop (b : Ac) : VC E (.loop b) t H Q = WC E (.loop b) t H Q := rfl
theorem C_exit (id : Nat) : VC E (.exit id) t H Q = Q (.exit id) t H := rfl
theorem C_ret : VC E .ret t H Q = Q .ret t H := rfl
theorem sq_nrm (b : Ac) : sq E b Q .nrm t H = VC E b t H Q := rfl
theorem sq_exit (b : Ac) (i : Nat) : sq E b Q (.exit i) t H = Q (.exit i) t H := rfl
theorem sq_ret (b : Ac) : sq E b Q .ret t H = Q .ret t H := rfl
theorem outB_nrm (id : Nat) : outB id Q .nrm t H = Q .nrm t H := rfl
theorem outB_ret (id : Nat) : outB id Q .ret t H = Q .ret t H := rfl
theorem outB_exit (id i : Nat) : outB id Q (.exit i) t H = if i = id then Q .nrm t H else Q (.exit i) t H := by
  show (match Nat.beq i id with | true => Q .nrm t H | false => Q (.exit i) t H) = _
  by_cases h : i = id
  · subst h
    rw [if_pos rfl, Nat.beq_refl]
  · rw [if_neg h]
    have : Nat.beq i id = false := Bool.eq_false_iff.2 fun e => h (Nat.eq_of_beq_eq_true e)
    rw [this]
variable {I : Nat → Tr Value → Hp → Prop}
theorem rd_nrm (d : Nat) : rd' E I d Q .nrm t H = ∃ d', d' < d ∧ I d' t H := rfl
theorem rd_exit (d i : Nat) : rd' E I d Q (.exit i) t H = Q (.exit i) t H := rfl
theorem rd_ret (d : Nat) : rd' E I d Q .ret t H = Q .ret t H := rfl
/-- A loop, by what holds at its head. -/
theorem VC.loop {b : Ac} (I : Nat → Tr Value → Hp → Prop) (step : ∀ d t H, I d t H → VC E b t H (rd' E I d Q)) {d : Nat} (h : I d t H) : WC E (.loop b) t H Q := by
  refine WC.loop I (fun d t H h => (step d t H h).w.mono fun ax t' H' hq => ?_) h
  cases ax <;> exact hq
/-- Loop, then what lies behind it. -/
theorem WC.then {c : Ac} {Q' : Ax → Tr Value → Hp → Prop} (h : WC E c t H Q') (k : ∀ ax t H, Q' ax t H → Q ax t H) : WC E c t H Q := h.mono k
/-- What a call's code must show at its end. -/
def fin (E : Env) (res : List Rv) (Q : Value → Hp → Prop) : Ax → Tr Value → Hp → Prop
  | .exit _, _, _ => False
  | _, t, H => match resA E t H res with
    | some [v] => Q v H
    | some l => Q (.tuple ⟨l⟩) H
    | none => False
theorem WF.go {f : FuncId} {af : AFun} (hx : E.ext f = none) (hp : E.prog f = some af) {args : List Value} (hl : Nat.ble args.length af.nt = true) {Q : Value → Hp → Prop}
    (h : VC E af.code (ofArgs args 0 .nil) H (fin E af.res Q)) : WF E f args H Q := by
  refine WF.code hx hp hl (h.w.mono fun ax t' H' hq => ?_)
  cases ax <;> exact hq
theorem fin_nrm (Q : Value → Hp → Prop) (n : Nat) : fin E [.t n] Q .nrm t H = Q (Od.ev t (.t n)) H := rfl
theorem fin_ret (Q : Value → Hp → Prop) (n : Nat) : fin E [.t n] Q .ret t H = Q (Od.ev t (.t n)) H := rfl
theorem fin_ret0 (Q : Value → Hp → Prop) : fin E [] Q .ret t H = Q (.tuple ⟨[]⟩) H := rfl
theorem fin_nrm0 (Q : Value → Hp → Prop) : fin E [] Q .nrm t H = Q (.tuple ⟨[]⟩) H := rfl
theorem fin_ret2 (Q : Value → Hp → Prop) (n m : Nat) : fin E [.t n, .t m] Q .ret t H = Q (.tuple ⟨[Od.ev t (.t n), Od.ev t (.t m)]⟩) H := rfl
theorem reserve0 : H.reserve 0 = H := rfl
/-! regions that draw their order -/
def oV (o : Option Value) (Q : Value → Prop) : Prop := match o with
  | some v => Q v
  | none => False
@[congr] theorem oV_congr {o o' : Option Value} {Q : Value → Prop} (h : o = o') : oV o Q = oV o' Q := by rw [h]
theorem oV_some (v : Value) (Q : Value → Prop) : oV (some v) Q = Q v := rfl
def nd (E : Env) (base : Nat) (d : Option Nat) (r : List Dl) (D : Ds) (K : Tr Value → Hp → Prop) : Value → Prop := fun v => VD E base r { D with t := putD D.t d v } K
theorem nd_some (base d : Nat) (r : List Dl) (H1 K1 : Hp) (sn : List Hp) (rd : List (Nat × Ri × Tr Value × Value)) (K : Tr Value → Hp → Prop) (v : Value) : nd E base (some d) r ⟨t, H1, K1, sn, rd⟩ K v = VD E base r ⟨t.put d (some v), H1, K1, sn, rd⟩ K := rfl
theorem D_nil (base : Nat) (H1 K1 : Hp) (sn : List Hp) (rd : List (Nat × Ri × Tr Value × Value)) (K : Tr Value → Hp → Prop) : VD E base [] ⟨t, H1, K1, sn, rd⟩ K = K t H1 := rfl
theorem D_p (base : Nat) (d : Option Nat) (p : Pi) (i s b : Nat) (k : Bool) (c ls : List Nat) (r : List Dl) (H1 K1 : Hp) (sn : List Hp) (rd : List (Nat × Ri × Tr Value × Value)) (K : Tr Value → Hp → Prop) :
    VD E base (⟨⟨d, .p p, none⟩, i, s, b, k, c, ls⟩ :: r) ⟨t, H1, K1, sn, rd⟩ K = oV (pureA E (rst ls t) p) (nd E base d r ⟨t, H1, K1, sn, rd⟩ K) := rfl
def ndr (E : Env) (base : Nat) (d : Option Nat) (r : List Dl) (D : Ds) (K : Tr Value → Hp → Prop) (k : Bool) (q : Nat × Ri × Tr Value) (S : List Hp) : Value → Prop := fun v =>
  (S.all (alike E q.2.2 q.2.1 v)) = true ∧ VD E base r { D with t := putD D.t d v, rd := match k with | true => (q.1, q.2.1, q.2.2, v) :: D.rd | false => D.rd } K
theorem D_r (base : Nat) (d : Option Nat) (p : Ri) (i s b : Nat) (k : Bool) (c ls : List Nat) (r : List Dl) (H1 K1 : Hp) (sn : List Hp) (rd : List (Nat × Ri × Tr Value × Value)) (K : Tr Value → Hp → Prop) :
    VD E base (⟨⟨d, .r p, none⟩, i, s, b, k, c, ls⟩ :: r) ⟨t, H1, K1, sn, rd⟩ K = oV (readA E (rst ls t) K1 p) (ndr E base d r ⟨t, H1, K1, sn, rd⟩ K k (i, p, rst ls t) (sn.take b)) := rfl
/-- A reading in a region that nothing writes in. -/
theorem ndr_some (base d : Nat) (r : List Dl) (H1 K1 : Hp) (rd : List (Nat × Ri × Tr Value × Value)) (K : Tr Value → Hp → Prop) (q : Nat × Ri × Tr Value) (b : Nat) (v : Value) :
    ndr E base (some d) r ⟨t, H1, K1, [], rd⟩ K false q (([] : List Hp).take b) v = VD E base r ⟨t.put d (some v), H1, K1, [], rd⟩ K := by
  unfold ndr
  simp only [List.take_nil, List.all_nil, true_and]
  rfl
theorem ev_rst (ls : List Nat) (n : Nat) : Od.ev (rst ls t) (.t n) = if ls.contains n then Od.ev t (.t n) else undef := by
  show (match (rst ls t).get n with | some v => v | none => undef) = if ls.contains n then (match t.get n with | some v => v | none => undef) else undef
  rw [rst_get]
  by_cases h : n ∈ ls
  · have : ls.contains n = true := by simpa using h
    rw [if_pos h, if_pos this]
  · have : ¬ ls.contains n = true := by simpa using h
    rw [if_neg h, if_neg this]
theorem has_cons (n a : Nat) (r : List Nat) : (a :: r).contains n = (n == a || r.contains n) := by
  simp only [List.contains, List.elem]; cases (n == a) <;> rfl
theorem has_nil (n : Nat) : ([] : List Nat).contains n = false := rfl
end
end Go.Proofs.YtaegmplbkbaniaaGreatDoor
