/-
  THE ABSTRACT MACHINE: code, results, functions: what the machine answers, the program answers. No condition.
-/
import Derived.Test.YtaegmplbkbaniaaGreatDoorAmDrawD
import Derived.LoopN
set_option linter.all false
namespace Go.Proofs.YtaegmplbkbaniaaGreatDoor
open Go

/-- A state of the machine and a state of the program, since a beginning. -/
structure SRel (P : Program) (ρ0 : Nat → Option Pl) (H0 : Hp) (w0 : World) (nt : Nat) (t : Tr Value) (H : Hp) (a : Act) (w : World) : Prop where
  st : ∃ ρ, PR (P.globals.size + 1) ρ0 H0 w0 ρ H w ∧ TR ρ t a.tmps
  sz : a.tmps.size = nt
  df : a.defers = []
section
variable {P : Program} {E : Env} {ρ0 : Nat → Option Pl} {H0 : Hp} {w0 : World} {nt : Nat} {call : CallF}

theorem SRel.put {t : Tr Value} {H H' : Hp} {a : Act} {w w' : World} {ρ ρ' : Nat → Option Pl} (hp : PR (P.globals.size + 1) ρ0 H0 w0 ρ H w) (hT : TR ρ t a.tmps) (hz : a.tmps.size = nt) (hd : a.defers = [])
    {v v' : Value} (hv : VR ρ' v v') (hp' : PR (P.globals.size + 1) ρ H w ρ' H' w') {d : Option Nat} (hlt : ∀ n, d = some n → n < nt) : SRel P ρ0 H0 w0 nt (putD t d v) H' (a.put d v') w' := by
  refine ⟨⟨ρ', hp.trans hp', fun x => ?_⟩, ?_, ?_⟩
  · rw [ev_put, getD_put _ _ _ _ fun n hn => by rw [hz]; exact hlt n hn]
    split
    · exact hv
    · exact (hT x).mono (PR.up hp.hr hp')
  · cases d <;> simp [Act.put, hz]
  · cases d <;> simp [Act.put, hd]

/-- Regions in the order of the text. -/
theorem ops_sound (hE : EOk P E) (hC : CallOk P call) {ops : Array Oper} {Q : Exit → Act → World → Prop} : ∀ {l : List Oper} {los : List Lo}, cLos P nt ops l = some los →
    ∀ {t : Tr Value} {H : Hp} {s : St}, execOps E call los t H = some s → (∀ a w, SRel P ρ0 H0 w0 nt s.t s.H a w → Q .normal a w) →
    ∀ {a : Act} {w : World}, SRel P ρ0 H0 w0 nt t H a w → wpList P ops Q l a w := by
  intro l
  induction l with
  | nil =>
    intro los hc t H s hx hQ a w hr
    simp only [cLos] at hc; cases hc
    simp only [execOps] at hx; cases hx
    exact hQ a w hr
  | cons o l ih =>
    intro los hc t H s hx hQ a w hr
    simp only [cLos] at hc
    split at hc
    · rename_i x los' h1 h2
      cases hc
      obtain ⟨g1, g2, g3, g4⟩ := cLo_spec h1
      obtain ⟨ρ, hp, hT⟩ := hr.st
      have hw : Region.wanted o (yielded ops a.tmps) = wants x.g t := wants_sound g2 fun d w _ => hT d
      simp only [execOps] at hx
      simp only [wpList, hw]
      split at hx
      · rename_i hwt
        rw [hwt]
        split at hx
        · rename_i v H' hv
          rw [fV_eq, fH_eq, fT_eq] at hx
          simp only [if_true]
          have := op_sound (o := o) hE hC hT hp.hr (by rw [← g1]; exact hv)
          refine .inl (Lands.wp (this.mono fun v' w' hh => ?_))
          obtain ⟨ρ', k1, k2⟩ := hh
          exact ih h2 hx hQ (by rw [← g3]; exact SRel.put hp hT hr.sz hr.df k1 k2 (by rw [g3]; exact g4))
        · cases hx
      · rename_i hwt
        rw [hwt, fT_eq] at *
        simp only [Bool.false_eq_true, if_false]
        exact ih h2 hx hQ (by rw [← g3]; exact SRel.put hp hT hr.sz hr.df .undef (.refl hp.hr) (by rw [g3]; exact g4))
    · cases hc

/-- Regions that draw their order. -/
theorem dreg_sound (hE : EOk P E) (hC : CallOk P call) {ops : Array Oper} {los : List Lo} (hc : cLos P nt ops ops.toList = some los) (hd : drawOk ops (predsOf ops.toList) los = true)
    {t : Tr Value} {H : Hp} {Dn : Ds} (hx : execD E call H.n (cDls ops (predsOf ops.toList) los los 0) { t, H := H.reserve (los.filter (·.o.isAl)).length, K := H.reserve (los.filter (·.o.isAl)).length, sn := [], rd := [] } = some Dn)
    {Q : Exit → Act → World → Prop} (hQ : ∀ a w, SRel P ρ0 H0 w0 nt Dn.t Dn.H a w → Q .normal a w) {id : Nat} {a : Act} {w : World} (hr : SRel P ρ0 H0 w0 nt t H a w) : (Code.region id ops true).wp P Q a w := by
  have hs := stat_of (nt := nt) hc hd
  obtain ⟨D, k0, k1, k2⟩ := trace_of _ hx
  have hlen : (cDls ops (predsOf ops.toList) los los 0).length = ops.size := by rw [cDls_len, (cLos_spec hc).1]; simp
  have hch : ∀ i, ∃ p : Value × Fx, i < ops.size → Rec E call H.n (dlAt (cDls ops (predsOf ops.toList) los los 0) i) (D i) (D (i + 1)) p.1 p.2 := fun i => by
    by_cases hi : i < ops.size
    · have hi' : i < (cDls ops (predsOf ops.toList) los los 0).length := by omega
      have e : (cDls ops (predsOf ops.toList) los los 0)[i]? = some (cDls ops (predsOf ops.toList) los los 0)[i] := List.getElem?_eq_getElem hi'
      obtain ⟨p, hp⟩ := k2 i _ e
      refine ⟨p, fun _ => ?_⟩
      simp only [dlAt, e, Option.getD_some]
      exact hp
    · exact ⟨(undef, .no), fun h => absurd h hi⟩
  obtain ⟨p, hp⟩ := Classical.axiomOfChoice hch
  have hrun : Run P E call H (los.filter (·.o.isAl)).length ops (opAt ops) (dlAt (cDls ops (predsOf ops.toList) los los 0)) D (fun i => (p i).1) (fun i => (p i).2) t :=
    ⟨fun i hi => hp i hi, by rw [k0], by rw [k0], by rw [k0], by rw [k0]⟩
  obtain ⟨ρ, q1, q2⟩ := hr.st
  refine wp_region_any hE.mixed ?_
  have start : PR (P.globals.size + 1) ρ H w ρ (H.reserve (los.filter (·.o.isAl)).length) { w with drawn := w.drawn + 1 } :=
    (PR.draw q1.hr _).trans (PR.reserve (PR.draw q1.hr _).hr _)
  have hf : ∀ i, (Array.replicate ops.size false).getD i false = false := fun i => by
    simp only [Array.getD_eq_getD_getElem?, Array.getElem?_replicate]; split <;> rfl
  have e1 : ∀ k, XE (fun i => (p i).2) (fun i => (Array.replicate ops.size false).getD i false) (H.reserve (los.filter (·.o.isAl)).length) k = H.reserve (los.filter (·.o.isAl)).length := by
    intro k
    induction k with
    | zero => rfl
    | succ k ih => exact (if_neg (fun h => by have h : (Array.replicate ops.size false).getD k false = true := h; rw [hf k] at h; cases h)).trans ih
  have e2 : ∀ x k, TE (fun i => (p i).1) (fun i => (opAt ops i).dst) (fun i => (Array.replicate ops.size false).getD i false) (fun x => Od.ev t (.t x)) k x = Od.ev t (.t x) := by
    intro x k
    induction k with
    | zero => rfl
    | succ k ih => exact (if_neg (fun h => by have h : (Array.replicate ops.size false).getD k false = true := h.1; rw [hf k] at h; cases h)).trans ih
  refine draw_any (ρ0 := ρ) (H := H) (w0 := w) hE hC hs hrun (fun a' w' hI => ?_) ops.size _ a _ (by simp) (cntE_le _) ?_
  · obtain ⟨ρ', g1, g2, g3⟩ := hI.st
    refine hQ a' w' ⟨⟨ρ', q1.trans ?_, fun x => ?_⟩, hI.sz, hI.df⟩
    · have := (run_XE hrun ops.size (Nat.le_refl _)).1
      rw [← this] at g1
      rw [← k1, hlen]; exact g1
    · have := g2 x
      rw [run_TE hs hrun ops.size (Nat.le_refl _) (fun _ _ _ => rfl)] at this
      rw [← k1, hlen]; exact this
  · refine ⟨fun j hj h => (by have h : (Array.replicate ops.size false).getD j false = true := h; rw [hf j] at h; cases h), ⟨ρ, ?_, fun x => ?_, fun j hj _ s o hf => ?_⟩, ?_, hr.sz, hr.df⟩
    · rw [e1]; exact start
    · rw [e2]; exact q2 x
    · have hri := hp j hj
      rw [hf] at hri
      have := (rec_al hri).1
      exact q1.hr.fresh (by omega)
    · rw [e1]; exact Nat.le_refl _

/-! ### Code -/
def exOf : Ax → Exit
  | .nrm => .normal
  | .exit id => .exit id
  | .ret => .ret
/-- The code ends as the machine says, in a state that the machine's stands for. -/
def Post (P : Program) (ρ0 : Nat → Option Pl) (H0 : Hp) (w0 : World) (nt : Nat) (r : Ax × St) : Exit → Act → World → Prop :=
  fun e a w => e = exOf r.1 ∧ SRel P ρ0 H0 w0 nt r.2.t r.2.H a w
def CodeOk (P : Program) (E : Env) (n : Nat) : Prop := ∀ (ρ0 : Nat → Option Pl) (H0 : Hp) (w0 : World) (nt : Nat) (c : Code) (ac : Ac) (t : Tr Value) (H : Hp) (r : Ax × St), cCode P nt c = some ac → exec E n ac t H = some r →
  ∀ (a : Act) (w : World), SRel P ρ0 H0 w0 nt t H a w → c.wp P (Post P ρ0 H0 w0 nt r) a w
def LoopOk (P : Program) (E : Env) (n : Nat) : Prop := ∀ (ρ0 : Nat → Option Pl) (H0 : Hp) (w0 : World) (nt : Nat) (c : Code) (ac : Ac) (t : Tr Value) (H : Hp) (r : Ax × St), cCode P nt c = some ac → exec E n (.loop ac) t H = some r →
  ∀ (a : Act) (w : World), SRel P ρ0 H0 w0 nt t H a w → Code.rounds P c (Post P ρ0 H0 w0 nt r) n a w
/-- What lies beside the machine: functions that are taken as proved, and the names of the rest. -/
structure XOk (P : Program) (E : Env) : Prop where
  ext : ∀ f g, E.ext f = some g → FnOk P g f
  name : ∀ (f : FuncId) (fn : Func), P.funcs[f]? = some fn → fn.body.isSome = true → (fn.name == "runtime.NumGoroutine") = false
theorem ofArgs_get : ∀ (l : List Value) (i : Nat) (t : Tr Value) (x : Nat), (ofArgs l i t).get x = if i ≤ x ∧ x < i + l.length then l[x - i]? else t.get x := by
  intro l
  induction l with
  | nil => intro i t x; simp only [ofArgs, List.length_nil]; rw [if_neg (by omega)]
  | cons v r ih =>
    intro i t x
    simp only [ofArgs, ih, List.length_cons, Tr.get_put]
    by_cases h1 : i + 1 ≤ x ∧ x < i + 1 + r.length
    · rw [if_pos h1, if_pos (by omega), show x - i = (x - (i + 1)) + 1 by omega]; rfl
    · rw [if_neg h1]
      by_cases h2 : x = i
      · subst h2; rw [if_pos rfl, if_pos (by omega), Nat.sub_self]; rfl
      · rw [if_neg h2, if_neg (by omega)]
def resF (tm : Array Value) : ResultVar → Sem Value
  | .tmp t => pure (tm.getD t undef)
  | .cell a t => do loadVar t (← asAddr (tm.getD a undef))
theorem results_eq (fn : Func) (tm : Array Value) : results fn tm = (do let vs ← fn.results.mapM (resF tm); pure (if h : vs.size = 1 then vs[0] else .tuple vs)) := by
  unfold results
  congr 1
theorem res_sound (hE : EOk P E) {ρ : Nat → Option Pl} {t : Tr Value} {H : Hp} {tm : Array Value} {w : World} (hT : TR ρ t tm) (hH : HR ρ (P.globals.size + 1) H w) :
    ∀ {l : List ResultVar} {vs : List Value}, resA E t H (cRes l) = some vs → ∃ vs' : List Value, (l.mapM (resF tm)).run P w = .ok vs' w ∧ LR ρ vs vs' := by
  intro l
  induction l with
  | nil => intro vs h; simp only [cRes, resA] at h; cases h; exact ⟨[], rfl, .nil⟩
  | cons x l ih =>
    intro vs h
    cases x with
    | tmp n =>
      simp only [cRes, resA] at h
      split at h
      · rename_i vs' h1
        cases h
        obtain ⟨ws, k1, k2⟩ := ih h1
        refine ⟨_ :: ws, ?_, .cons (hT n) k2⟩
        simp only [List.mapM_cons, resF, Sem.run_bind, Sem.run_pure, Result.andThen_ok, k1]
      · cases h
    | cell n T =>
      simp only [cRes, resA] at h
      split at h
      · rename_i u vs' h0 h1
        cases h
        obtain ⟨ws, k1, k2⟩ := ih h1
        let o : Oper := { (default : Oper) with op := .load T (.tmp n) }
        have hc : cOp P o.op = .r (.load T (.t n)) := rfl
        obtain ⟨u', g1, g2⟩ := read_sound (a := { tmps := tm, defers := [] }) (w := w) hE hT hH.sr hH hc h0
        refine ⟨u' :: ws, ?_, .cons g2 k2⟩
        have g3 : (Instr.loadAt T (tm.getD n undef)).run P w = .ok u' w := by
          have g1 : ((do pure (.value (← Instr.loadAt T (tm.getD n undef))) : Sem Next)).run P w = .ok (.value u') w := g1
          simp only [Sem.run_bind, Sem.run_pure] at g1
          cases hq : (Instr.loadAt T (tm.getD n undef)).run P w with
          | ok x w2 => rw [hq] at g1; simp only [Result.andThen_ok] at g1; cases g1; rfl
          | halt x w2 => rw [hq] at g1; cases g1
        have g4 : (resF tm (.cell n T)).run P w = .ok u' w := by
          simp only [resF]
          have hv := hT n
          simp only [readA] at h0
          split at h0
          · rename_i ti b o' hti hx
            rw [hx] at hv
            generalize tm.getD n undef = y at hv g3 ⊢
            cases hv with
            | ptr _ _ p hp => exact g3
          · cases h0
        simp only [List.mapM_cons, Sem.run_bind, Sem.run_pure, g4, Result.andThen_ok, k1]
      · cases h
theorem call_sound (hE : EOk P E) (hX : XOk P E) {n : Nat} (h : CodeOk P E n) : CallOk P (callBy E (exec E n)) := by
  intro f ρ H w args args' v H' hH hl hg
  unfold callBy at hg
  split at hg
  · rename_i g hx
    exact hX.ext f g hx ρ H w args args' v H' hH hl hg
  · rename_i hx
    split at hg
    · cases hg
    · rename_i af hp
      split at hg
      · cases hg
      · rename_i hle
        rw [fT_eq] at hg
        have hpo := hE.prog f af hx hp
        unfold progOf at hpo
        split at hpo
        · rename_i fn hf
          unfold cFun at hpo
          split at hpo
          · cases hpo
          · rename_i c hb
            split at hpo
            · rename_i ac hc
              cases hpo
              simp only at hle hg
              have hle : args'.length ≤ fn.ntmps := by rw [← hl.1]; exact Nat.le_of_ble_eq_true hle
              have hnm := hX.name f fn hf (by rw [hb]; rfl)
              have hent : (callFunc f args'.toArray).run P w = .ok (.enter f args'.toArray) w := by
                have h1 : fn.name ≠ "runtime.NumGoroutine" := by simpa using hnm
                simp [callFunc, hf, h1, hb]
              rw [hent]
              simp only [Lands]
              -- the frame
              have hS : SRel P ρ H w fn.ntmps (ofArgs args 0 .nil) H { tmps := args'.toArray ++ Array.replicate (fn.ntmps - args'.toArray.size) undef, defers := [] } w := by
                refine ⟨⟨ρ, .refl hH, fun x => ?_⟩, by simp; omega, rfl⟩
                simp only [Od.ev, ofArgs_get, Tr.get_nil, Nat.zero_add, Nat.zero_le, true_and, Nat.sub_zero, Array.getD_eq_getD_getElem?]
                by_cases hx : x < args.length
                · have hx' : x < args'.length := by rw [← hl.1]; exact hx
                  rw [if_pos hx, Array.getElem?_append_left (by simpa using hx'), List.getElem?_eq_getElem hx]
                  simp only [List.getElem?_toArray, List.getElem?_eq_getElem hx', Option.getD_some]
                  exact hl.2 x _ _ (List.getElem?_eq_getElem hx) (List.getElem?_eq_getElem hx')
                · rw [if_neg hx, Array.getElem?_append_right (by simp; rw [← hl.1]; omega), Array.getElem?_replicate]
                  have e : ∀ c : Prop, ∀ [Decidable c], (if c then some undef else none : Option Value).getD undef = undef := fun c _ => by split <;> rfl
                  rw [e]; exact .undef
              cases hr : exec E n ac (ofArgs args 0 .nil) H with
              | none => rw [hr] at hg; cases hg
              | some r =>
                refine calls_of_wp hf hb (wp_mono (h ρ H w fn.ntmps c ac _ H r hc hr _ w hS) fun e a' w' ⟨g1, g2⟩ => ?_)
                rw [hr] at hg
                obtain ⟨ax, s⟩ := r
                obtain ⟨ρ', p1, p2⟩ := g2.st
                have key : (match resA E s.t s.H (cRes fn.results.toList) with
                    | some [v] => fV v fun v => some (v, s.H)
                    | some l => some (.tuple ⟨l⟩, s.H)
                    | none => none) = some (v, H') → ∃ v', (results fn a'.tmps).run P w' = .ok v' w' ∧ ∃ ρ', VR ρ' v v' ∧ PR (P.globals.size + 1) ρ H w ρ' H' w' := fun hg => by
                  have hres : ∀ {vs : List Value}, resA E s.t s.H (cRes fn.results.toList) = some vs → ∃ vs' : List Value, (results fn a'.tmps).run P w' = .ok (if h : vs'.toArray.size = 1 then vs'.toArray[0] else .tuple vs'.toArray) w' ∧ LR ρ' vs vs' := fun hvs => by
                    obtain ⟨vs', k1, k2⟩ := res_sound hE p2 p1.hr hvs
                    refine ⟨vs', ?_, k2⟩
                    rw [results_eq, Array.mapM_eq_mapM_toList]
                    simp only [Sem.run_bind, Sem.run_pure, bind_map_left, k1, Result.andThen_ok]
                  split at hg
                  · rename_i u hu
                    rw [fV_eq] at hg; cases hg
                    obtain ⟨vs', k1, k2⟩ := hres hu
                    obtain ⟨u', r, e, k3, k4⟩ := k2.inv
                    have := k4.inv0; subst this; subst e
                    exact ⟨u', k1, ρ', k3, p1⟩
                  · rename_i l hne hu
                    cases hg
                    obtain ⟨vs', k1, k2⟩ := hres hu
                    refine ⟨_, k1, ρ', ?_, p1⟩
                    have : vs'.toArray.size ≠ 1 := fun h1 => by
                      have : l.length = 1 := by rw [k2.1]; simpa using h1
                      match l, this with
                      | [u], _ => exact hne u rfl
                    rw [dif_neg this]
                    exact .tuple _ _ (by simpa using k2.1) (fun i a b ha hb => k2.2 i a b (by simpa using ha) (by simpa using hb))
                  · cases hg
                cases ax <;> simp only at hg g1 <;> subst g1
                · obtain ⟨v', k1, k2⟩ := key hg
                  exact ⟨g2.df, v', k1, k2⟩
                · cases hg
                · obtain ⟨v', k1, k2⟩ := key hg
                  exact ⟨g2.df, v', k1, k2⟩
            · cases hpo
        · cases hpo
theorem code_sound (hE : EOk P E) (hX : XOk P E) : ∀ (n : Nat), CodeOk P E n ∧ LoopOk P E n := by
  intro n
  induction n with
  | zero => exact ⟨fun _ _ _ _ c ac t H r _ h => by simp [exec] at h, fun _ _ _ _ c ac t H r _ h => by simp [exec] at h⟩
  | succ n ih =>
    obtain ⟨ihc, ihl⟩ := ih
    have hCn := call_sound hE hX ihc
    have loopStep : LoopOk P E (n + 1) := fun ρ0 H0 w0 nt c ac t H r hc hx a w hr => by
      simp only [exec] at hx
      rw [rounds_succ]
      cases hb : exec E n ac t H with
      | none => rw [hb] at hx; cases hx
      | some q =>
        refine wp_mono (ihc ρ0 H0 w0 nt c ac t H q hc hb a w hr) fun e a' w' ⟨h1, h2⟩ => ?_
        rw [hb] at hx
        obtain ⟨ax, s⟩ := q
        cases ax <;> simp only at hx h1 <;> subst h1
        · exact ihl ρ0 H0 w0 nt c ac s.t s.H r hc hx a' w' h2
        · cases hx; exact ⟨rfl, h2⟩
        · cases hx; exact ⟨rfl, h2⟩
    refine ⟨fun ρ0 H0 w0 nt c ac t H r hc hx a w hr => ?_, loopStep⟩
    cases c
    case skip =>
      simp only [cCode] at hc; cases hc
      simp only [exec] at hx; cases hx
      exact wp_skip ⟨rfl, hr⟩
    case region id ops draw =>
      simp only [cCode, cRegion] at hc
      split at hc
      · cases hc
      · rename_i los hlo
        split at hc
        · cases hc
          simp only [exec] at hx
          split at hx
          · rename_i s hs
            cases hx
            exact wp_region_list (ops_sound hE hCn hlo hs (fun a' w' h => ⟨rfl, h⟩) hr)
          · cases hx
        · split at hc
          · rename_i hd
            cases hc
            simp only [exec] at hx
            split at hx
            · rename_i Dn hs
              cases hx
              exact dreg_sound hE hCn hlo hd hs (fun a' w' h => ⟨rfl, h⟩) hr
            · cases hx
          · cases hc
    case seq x y =>
      simp only [cCode] at hc
      split at hc
      · rename_i ax ay h1 h2
        cases hc
        simp only [exec] at hx
        cases hb : exec E n ax t H with
        | none => rw [hb] at hx; cases hx
        | some q =>
          refine wp_seq (wp_mono (ihc ρ0 H0 w0 nt x ax t H q h1 hb a w hr) fun e a' w' ⟨g1, g2⟩ => ?_)
          rw [hb] at hx
          obtain ⟨ax', s⟩ := q
          cases ax' <;> simp only at hx g1 <;> subst g1
          · exact ihc ρ0 H0 w0 nt y ay s.t s.H r h2 hx a' w' g2
          · cases hx; exact ⟨rfl, g2⟩
          · cases hx; exact ⟨rfl, g2⟩
      · cases hc
    case cond c x y =>
      simp only [cCode] at hc
      split at hc
      · rename_i oc ax ay h0 h1 h2
        cases hc
        obtain ⟨ρ, q1, q2⟩ := hr.st
        have vc := od_sound q2 q1.hr.sr h0
        simp only [exec] at hx
        split at hx
        · rename_i he
          rw [he] at vc
          refine wp_cond_true ?_ (ihc ρ0 H0 w0 nt x ax t H r h1 hx a w hr)
          generalize a.eval c = c' at vc ⊢; cases vc; rfl
        · rename_i he
          rw [he] at vc
          refine wp_cond_false ?_ (ihc ρ0 H0 w0 nt y ay t H r h2 hx a w hr)
          generalize a.eval c = c' at vc ⊢; cases vc; rfl
        · cases hx
      · cases hc
    case block id x =>
      simp only [cCode] at hc
      obtain ⟨ax, h1, h2⟩ := map_some_inv hc
      subst h2
      simp only [exec] at hx
      cases hb : exec E n ax t H with
      | none => rw [hb] at hx; cases hx
      | some q =>
        refine wp_block (wp_mono (ihc ρ0 H0 w0 nt x ax t H q h1 hb a w hr) fun e a' w' ⟨g1, g2⟩ => ?_)
        rw [hb] at hx
        obtain ⟨ax', s⟩ := q
        cases ax' <;> simp only at hx g1 <;> subst g1
        · cases hx; exact ⟨rfl, g2⟩
        · rename_i i
          split at hx
          · rename_i hi
            cases hx
            simp only [exOf, Exit.inBlock]
            rw [if_pos (by simpa using hi)]; exact ⟨rfl, g2⟩
          · rename_i hi
            cases hx
            simp only [exOf, Exit.inBlock]
            rw [if_neg (by intro e; subst e; simp at hi)]; exact ⟨rfl, g2⟩
        · cases hx; exact ⟨rfl, g2⟩
    case loop x =>
      simp only [cCode] at hc
      obtain ⟨ax, h1, h2⟩ := map_some_inv hc
      subst h2
      exact wp_loop_rounds (n + 1) (loopStep ρ0 H0 w0 nt x ax t H r h1 hx a w hr)
    case exit id =>
      simp only [cCode] at hc; cases hc
      simp only [exec] at hx; cases hx
      exact wp_exit ⟨rfl, hr⟩
    case ret =>
      simp only [cCode] at hc; cases hc
      simp only [exec] at hx; cases hx
      exact wp_ret ⟨rfl, hr⟩
    all_goals
      simp only [cCode] at hc; cases hc
      simp only [exec, execOps, wants, execO, pureA] at hx
      cases hx
/-- THE MACHINE IS SOUND: what it answers of a function, the program answers. -/
theorem callA_sound (hE : EOk P E) (hX : XOk P E) (n : Nat) : CallOk P (callA E n) := call_sound hE hX (code_sound hE hX n).1
end

end Go.Proofs.YtaegmplbkbaniaaGreatDoor
