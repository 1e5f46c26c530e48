/-
  THE ABSTRACT MACHINE: all operations that ask nothing of memory, in one statement. No condition.
-/
import Derived.Test.YtaegmplbkbaniaaGreatDoorAmPureC
set_option linter.all false
namespace Go.Proofs.YtaegmplbkbaniaaGreatDoor
open Go
section
variable {P : Program} {E : Env} {ρ : Nat → Option Pl} {w : World} {t : Tr Value} {a : Act}

theorem map_some_inv {α β : Type} {f : α → β} {o : Option α} {b : β} (h : o.map f = some b) : ∃ x, o = some x ∧ f x = b := by
  cases o with
  | none => cases h
  | some x => exact ⟨x, rfl, by simpa using h⟩
/-- What the sum of all that an operation does says. -/
def Gives (P : Program) (ρ : Nat → Option Pl) (w : World) (v : Value) (s : Sem Next) : Prop := ∃ v', s.run P w = .ok (.value v') w ∧ VR ρ v v'
theorem gives_of {v : Value} {s : Sem Value} (h : ∃ v', s.run P w = .ok v' w ∧ VR ρ v v') : Gives P ρ w v (do pure (.value (← s))) := by
  obtain ⟨v', h1, h2⟩ := h
  exact ⟨v', by simp only [Sem.run_bind, h1, Result.andThen_ok, Sem.run_pure], h2⟩

theorem eqGuard_scal (op : BinOp) (T : TypeId) (x y : Operand) {u v : Value} (h1 : ¬ (u = .nilIface ∧ v = .nilIface)) (h2 : ∀ cs, u ≠ .agg cs) : (eqGuard op T x y u v).run P w = .ok () w := by
  cases op <;> first
    | rfl
    | (unfold eqGuard
       simp only [Bool.not_true, Bool.false_eq_true, if_false]
       split
       · exact absurd ⟨rfl, rfl⟩ h1
       · exact absurd rfl (h2 _)
       · rfl)
theorem eqGuard_const (op : BinOp) (T : TypeId) {x y : Operand} (h : (∃ v, x = .const v) ∨ (∃ v, y = .const v)) : (eqGuard op T x y .nilIface .nilIface).run P w = .ok () w := by
  rcases h with ⟨v, rfl⟩ | ⟨v, rfl⟩
  · cases op <;> rfl
  · cases op <;> first | rfl | (cases x <;> rfl)

theorem bin_sound (hE : EOk P E) (hT : TR ρ t a.tmps) (hS : SR P ρ) {op : BinOp} {T : TypeId} {x y : Operand} {ox oy : Od} (hx : cOd P x = some ox) (hy : cOd P y = some oy) {v : Value}
    (hv : binA E op T (ox.isC || oy.isC) (ox.ev t) (oy.ev t) = some v) : ∃ v', ((do eqGuard op T x y (a.eval x) (a.eval y); binOp op T (a.eval x) (a.eval y)) : Sem Value).run P w = .ok v' w ∧ VR ρ v v' := by
  have vx := od_sound hT hS hx
  have vy := od_sound hT hS hy
  have cx := isC_sound hx
  have cy := isC_sound hy
  generalize a.eval x = x' at vx ⊢
  generalize a.eval y = y' at vy ⊢
  generalize ox.ev t = u at hv vx
  generalize oy.ev t = z at hv vy
  unfold binA at hv
  split at hv
  · cases vx; cases vy
    obtain ⟨h1, h2⟩ := run_intBin hv P T w
    refine ⟨v, ?_, vr_scal h2⟩
    rw [Sem.run_bind, eqGuard_scal op T x y (by simp) (by simp)]; exact h1
  · cases vx; cases vy
    obtain ⟨h1, h2⟩ := run_strBin hv P T w
    refine ⟨v, ?_, vr_scal h2⟩
    rw [Sem.run_bind, eqGuard_scal op T x y (by simp) (by simp)]; exact h1
  · rename_i hni hns
    split at hv
    · cases hv
    · rename_i ti hti
      have guard : ∀ {c : Bool} {b : Bool}, eqA E ti.k (ox.isC || oy.isC) u z = some b → (Op.equal T x' y').run P w = .ok b w ∧ (eqGuard op T x y x' y').run P w = .ok () w := fun {c b} h => by
        obtain ⟨k1, k2, k3⟩ := run_eqA (w := w) hE hti h vx vy 9998
        refine ⟨k1, ?_⟩
        by_cases hn : x' = .nilIface ∧ y' = .nilIface
        · obtain ⟨rfl, rfl⟩ := hn
          apply eqGuard_const
          cases hc : (ox.isC || oy.isC) with
          | false => exact absurd ⟨rfl, rfl⟩ (k2 hc)
          | true =>
            simp only [Bool.or_eq_true] at hc
            exact hc.imp cx cy
        · exact eqGuard_scal op T x y hn k3
      have nin : ∀ k i k' j, ¬ (x' = .int k i ∧ y' = .int k' j) := fun k i k' j hh => by
        obtain ⟨rfl, rfl⟩ := hh
        cases vx; cases vy; exact hni _ _ _ _ rfl rfl
      have nst : ∀ i j, ¬ (x' = .string i ∧ y' = .string j) := fun i j hh => by
        obtain ⟨rfl, rfl⟩ := hh
        cases vx; cases vy; exact hns _ _ rfl rfl
      split at hv
      · obtain ⟨b, hb, rfl⟩ := map_some_inv hv
        obtain ⟨k1, k2⟩ := guard (c := true) hb
        refine ⟨.bool b, ?_, .bool b⟩
        rw [Sem.run_bind, k2]
        simp only [Result.andThen_ok]
        have : binOp .eql T x' y' = (do pure (.bool (← Op.equal T x' y'))) := by
          unfold binOp
          cases vx <;> cases vy <;> first | rfl | (exact absurd ⟨rfl, rfl⟩ (nin _ _ _ _)) | (exact absurd ⟨rfl, rfl⟩ (nst _ _))
        rw [this]
        simp only [Sem.run_bind, k1, Result.andThen_ok, Sem.run_pure]
      · obtain ⟨b, hb, rfl⟩ := map_some_inv hv
        obtain ⟨k1, k2⟩ := guard (c := true) hb
        refine ⟨.bool !b, ?_, .bool _⟩
        rw [Sem.run_bind, k2]
        simp only [Result.andThen_ok]
        have : binOp .neq T x' y' = (do pure (.bool (!(← Op.equal T x' y')))) := by
          unfold binOp
          cases vx <;> cases vy <;> first | rfl | (exact absurd ⟨rfl, rfl⟩ (nin _ _ _ _)) | (exact absurd ⟨rfl, rfl⟩ (nst _ _))
        rw [this]
        simp only [Sem.run_bind, k1, Result.andThen_ok, Sem.run_pure]
      · cases hv

theorem conv_sound (hT : TR ρ t a.tmps) (hS : SR P ρ) {s d : TypeId} {x : Operand} {p : Pi} (hc : cOp1 P (.convert s d x) = some (.p p)) {v : Value} (hv : pureA E t p = some v) :
    ∃ v', (convert s d (a.eval x)).run P w = .ok v' w ∧ VR ρ v v' := by
  have du : ∀ {T : TypeId} {k : DK}, dkOf P T = k → k ≠ .oth → ∃ d, P.underlying T = some d ∧ dk d = k := fun {T k} h hne => by
    unfold dkOf at h
    split at h
    · rename_i d hd; exact ⟨d, hd, h⟩
    · exact absurd h.symm hne
  simp only [cOp1] at hc
  split at hc
  · rename_i k1 k2 ox h1 h2 hx
    cases hc
    obtain ⟨ds, g1, g2⟩ := du h1 (by simp)
    obtain ⟨dd, g3, g4⟩ := du h2 (by simp)
    have := dk_int g2.symm; subst this
    have := dk_int g4.symm; subst this
    have vx := od_sound hT hS hx
    simp only [pureA] at hv
    split at hv
    · rename_i he
      rw [he] at vx
      cases hv
      generalize a.eval x = x' at vx ⊢
      cases vx
      refine ⟨_, ?_, .int _ _⟩
      simp only [convert, Sem.run_bind, run_underlying g1, run_underlying g3, Result.andThen_ok]; rfl
    · cases hv
  · rename_i ox h1 h2 hx
    cases hc
    obtain ⟨ds, g1, g2⟩ := du h1 (by simp)
    obtain ⟨dd, g3, g4⟩ := du h2 (by simp)
    have := dk_str g2.symm; subst this
    have := dk_str g4.symm; subst this
    have vx := od_sound hT hS hx
    simp only [pureA] at hv
    split at hv
    · rename_i he
      rw [he] at vx
      cases hv
      generalize a.eval x = x' at vx ⊢
      cases vx
      refine ⟨_, ?_, .string _⟩
      simp only [convert, Sem.run_bind, run_underlying g1, run_underlying g3, Result.andThen_ok]; rfl
    · cases hv
  · split at hc <;> cases hc
  · split at hc <;> cases hc
  · split at hc
    · split at hc <;> cases hc
    · cases hc
  · cases hc

theorem builtin_sound (hE : EOk P E) (hT : TR ρ t a.tmps) (hS : SR P ρ) {b : Builtin} {args : List Operand} {ts : Array TypeId} {os : List Od} {p : Pi} {ty : TypeId} {cs : Array Bool}
    (ho : cOds P args = some os) (hc : cBuiltin P b os ts = some (.p p)) {v : Value} (hv : pureA E t p = some v) :
    Gives P ρ w v (builtin b ts ty cs (args.map a.eval).toArray) := by
  have du : ∀ {T : TypeId} {k : DK}, dkOf P T = k → k ≠ .oth → ∃ d, P.underlying T = some d ∧ dk d = k := fun {T k} h hne => by
    unfold dkOf at h
    split at h
    · rename_i d hd; exact ⟨d, hd, h⟩
    · exact absurd h.symm hne
  have hl := ods_sound hT hS ho
  unfold cBuiltin at hc
  split at hc
  · -- append
    split at hc
    · split at hc <;> cases hc
    · cases hc
  · -- len
    rename_i x T ht
    simp only [List.map_cons, List.map_nil] at hl
    obtain ⟨x', r, e, vx, hr⟩ := hl.inv
    have := hr.inv0; subst this
    rw [e]
    split at hc
    · cases hc
    all_goals first
      | cases hc; done
      | skip
    · rename_i e1 h1
      cases hc
      obtain ⟨d, g1, g2⟩ := du h1 (by simp)
      have := dk_slc g2.symm; subst this
      simp only [pureA] at hv
      split at hv
      · rename_i hti hx2
        obtain ⟨d2, k1, k2⟩ := ty_under hE hti
        rw [g1] at k1; cases k1; cases k2
      · rename_i hti hx2
        cases hv
        rw [hx2] at vx
        refine gives_of ⟨_, ?_, .int _ _⟩
        cases vx <;> simp only [Builtin.len_, List.getElem?_toArray, ht, List.getElem?_cons_zero, Sem.run_bind, run_underlying g1, Result.andThen_ok, goInt, Sem.run_pure] <;> rfl
      · cases hv
    · rename_i h1
      cases hc
      obtain ⟨d, g1, g2⟩ := du h1 (by simp)
      have := dk_str g2.symm; subst this
      simp only [pureA] at hv
      split at hv
      · rename_i hti hx2
        cases hv
        rw [hx2] at vx
        refine gives_of ⟨_, ?_, .int _ _⟩
        cases vx <;> simp only [Builtin.len_, List.getElem?_toArray, ht, List.getElem?_cons_zero, Sem.run_bind, run_underlying g1, Result.andThen_ok, goInt, Sem.run_pure] <;> rfl
      · rename_i hti hx2
        obtain ⟨d2, k1, k2⟩ := ty_under hE hti
        rw [g1] at k1; cases k1; cases k2
      · cases hv
  · -- cap
    rename_i x T ht
    simp only [List.map_cons, List.map_nil] at hl
    obtain ⟨x', r, e, vx, hr⟩ := hl.inv
    have := hr.inv0; subst this
    rw [e]
    split at hc
    · rename_i e1 h1
      cases hc
      obtain ⟨d, g1, g2⟩ := du h1 (by simp)
      have := dk_slc g2.symm; subst this
      simp only [pureA] at hv
      split at hv
      · rename_i hti hx2
        cases hv
        rw [hx2] at vx
        refine gives_of ⟨.int .i64 0, ?_, .int _ _⟩
        cases vx
        simp only [Builtin.cap_, List.getElem?_toArray, ht, List.getElem?_cons_zero, Sem.run_bind, run_underlying g1, Result.andThen_ok, goInt, Sem.run_pure]; rfl
      · rename_i s n c hti hx2
        split at hv
        · cases hv
        · rename_i hm
          cases hv
          rw [hx2] at vx
          generalize hq : x' = q at vx
          cases vx with
          | sl id off s len cap o' cap' p hp hl hc he ho hlo hhi =>
          have hm' : s % 2 = _ + 1 := hm
          have hcc := he (by omega)
          refine gives_of ⟨_, ?_, .int _ _⟩
          simp only [Builtin.cap_, List.getElem?_toArray, ht, List.getElem?_cons_zero, Sem.run_bind, run_underlying g1, Result.andThen_ok, goInt, Sem.run_pure, hcc]
      · cases hv
    · cases hc
  · cases hc
  · split at hc <;> cases hc
  · cases hc
    simp only [pureA] at hv
    split at hv
    · cases hv
    · rename_i x r hxr
      rw [hxr] at hl
      obtain ⟨x', r', e, vx, hr⟩ := hl.inv
      rw [e]
      exact gives_of (foldO_mn r x v vx hr hv)
  · cases hc
    simp only [pureA] at hv
    split at hv
    · cases hv
    · rename_i x r hxr
      rw [hxr] at hl
      obtain ⟨x', r', e, vx, hr⟩ := hl.inv
      rw [e]
      exact gives_of (foldO_mx r x v vx hr hv)
  · cases hc

theorem cParts_pos {ps : Array (Nat × Operand)} : (ps.map fun (i, x) => (i, a.eval x)).toList = ps.toList.map fun x => (x.1, a.eval x.2) := by simp

/-- ALL OF THEM. -/
theorem pure_sound (hE : EOk P E) (hT : TR ρ t a.tmps) (hS : SR P ρ) {o : Oper} {p : Pi} (hc : cOp P o.op = .p p) {v : Value} (hv : pureA E t p = some v) :
    Gives P ρ w v (execOp a.eval o) := by
  unfold cOp at hc
  split at hc
  case h_2 => cases hc; simp only [pureA] at hv; cases hv
  rename_i b hb
  subst hc
  obtain ⟨dst, op, type, pos, after, guard⟩ := o
  simp only at hb
  cases op
  case move x =>
    obtain ⟨ox, h1, h2⟩ := map_some_inv hb; cases h2
    simp only [pureA] at hv; cases hv
    exact ⟨_, rfl, od_sound hT hS h1⟩
  case assign x =>
    obtain ⟨ox, h1, h2⟩ := map_some_inv hb; cases h2
    simp only [pureA] at hv; cases hv
    exact ⟨_, rfl, od_sound hT hS h1⟩
  case pick c x y =>
    simp only [cOp1] at hb
    split at hb
    · rename_i oc ox oy h1 h2 h3
      cases hb
      have vc := od_sound hT hS h1
      simp only [pureA] at hv
      split at hv
      · rename_i he
        rw [he] at vc
        cases hv
        refine ⟨_, ?_, od_sound hT hS h2⟩
        simp only [execOp]
        generalize a.eval c = c' at vc ⊢
        cases vc
        simp only [asBool, Sem.run_bind, Sem.run_pure, Result.andThen_ok, if_true]
      · rename_i he
        rw [he] at vc
        cases hv
        refine ⟨_, ?_, od_sound hT hS h3⟩
        simp only [execOp]
        generalize a.eval c = c' at vc ⊢
        cases vc
        simp only [asBool, Sem.run_bind, Sem.run_pure, Result.andThen_ok, Bool.false_eq_true, if_false]
      · cases hv
    · cases hb
  case build T ps =>
    obtain ⟨ops, h1, h2⟩ := map_some_inv hb; cases h2
    simp only [pureA] at hv
    split at hv
    · rename_i fs _ _ z _ hti
      split at hv
      · rename_i L hL
        split at hv
        · rename_i l hl
          split at hv
          · rename_i r hr
            cases hv
            refine gives_of (run_build hE hti rfl rfl hL ?_ hr)
            rw [cParts_pos]
            exact parts_sound hT hS (fun _ _ h => h) h1 hl
          · cases hv
        · cases hv
      · cases hv
    · cases hv
  case nilCheck x =>
    obtain ⟨ox, h1, h2⟩ := map_some_inv hb; cases h2
    have vx := od_sound hT hS h1
    simp only [pureA] at hv
    split at hv
    · rename_i he
      rw [he] at vx; cases hv
      simp only [Gives, execOp]
      generalize a.eval x = x' at vx ⊢
      cases vx with
      | ptr _ _ q hq => exact ⟨_, rfl, .ptr _ _ q hq⟩
    · rename_i he
      rw [he] at vx; cases hv
      simp only [Gives, execOp]
      generalize a.eval x = x' at vx ⊢
      cases vx with
      | iface _ _ v' h => exact ⟨_, rfl, .iface _ _ _ h⟩
    · rename_i he
      rw [he] at vx; cases hv
      simp only [Gives, execOp]
      generalize a.eval x = x' at vx ⊢
      cases vx with
      | func _ _ _ _ _ k1 k2 k3 k4 => exact ⟨_, rfl, .func _ _ _ _ _ k1 k2 k3 k4⟩
    · cases hv
  case binOp op T x y u =>
    simp only [cOp1] at hb
    split at hb
    · rename_i ox oy h1 h2
      cases hb
      simp only [pureA] at hv
      exact gives_of (bin_sound hE hT hS h1 h2 hv)
    · cases hb
  case unOp op T x =>
    obtain ⟨ox, h1, h2⟩ := map_some_inv hb; cases h2
    have vx := od_sound hT hS h1
    simp only [pureA, unA] at hv
    split at hv
    · rename_i he
      rw [he] at vx; cases hv
      simp only [execOp]
      generalize a.eval x = x' at vx ⊢
      cases vx
      exact gives_of ⟨_, rfl, .int _ _⟩
    · rename_i he
      rw [he] at vx; cases hv
      simp only [execOp]
      generalize a.eval x = x' at vx ⊢
      cases vx
      exact gives_of ⟨_, rfl, .bool _⟩
    · cases hv
  case convert s d x => exact gives_of (conv_sound hT hS hb hv)
  case makeInterface T x =>
    simp only [cOp1] at hb
    split at hb
    · cases hb
    · rename_i ox d h1 h2 hk
      cases hb
      simp only [pureA] at hv; cases hv
      refine gives_of ⟨_, ?_, .iface _ _ _ (od_sound hT hS h1)⟩
      simp only [dkOf, h2] at hk
      cases d <;> first
        | (exact absurd rfl hk)
        | simp only [Instr.makeInterface, Sem.run_bind, run_underlying h2, Result.andThen_ok, Sem.run_pure]
    · cases hb
  case makeFunc fn x y =>
    cases fn <;> simp only [cOp1] at hb <;> first | cases hb; done | skip
    split at hb
    · rename_i ox oy h1 h2
      cases hb
      simp only [pureA] at hv; cases hv
      have k1 := ods_sound hT hS h1
      have k2 := ods_sound hT hS h2
      refine gives_of ⟨_, rfl, .func _ _ _ _ _ (by simpa using k1.1) (by simpa using k2.1) (fun i u u' hu hu' => k1.2 i u u' (by simpa using hu) (by simpa using hu')) (fun i u u' hu hu' => k2.2 i u u' (by simpa using hu) (by simpa using hu'))⟩
    · cases hb
  case slice T x l h m =>
    simp only [cOp1] at hb
    split at hb
    · rename_i ox ol oh om h1 h2 h3 h4
      split at hb
      · cases hb
      · rename_i hno
        cases hb
        exact gives_of (slice_sound hE hT hS h1 h2 h3 h4 (by simpa using hno) hv)
    · cases hb
  case fieldAddr T x i =>
    obtain ⟨ox, h1, h2⟩ := map_some_inv hb; cases h2
    simp only [pureA] at hv
    exact gives_of (fadr_sound hE (od_sound hT hS h1) hv)
  case field T x i =>
    obtain ⟨ox, h1, h2⟩ := map_some_inv hb; cases h2
    simp only [pureA] at hv
    exact gives_of (fld_sound hE (od_sound hT hS h1) hv)
  case indexAddr T x i =>
    simp only [cOp1] at hb
    split at hb
    · rename_i ox oi h1 h2
      cases hb
      simp only [pureA] at hv
      exact gives_of (iadr_sound hE (od_sound hT hS h1) (od_sound hT hS h2) hv)
    · cases hb
  case index T x i =>
    simp only [cOp1] at hb
    split at hb
    · rename_i ox oi h1 h2
      cases hb
      simp only [pureA] at hv
      exact gives_of (idx_sound hE (od_sound hT hS h1) (od_sound hT hS h2) hv)
    · cases hb
  case typeAssert x T U ok =>
    obtain ⟨ox, h1, h2⟩ := map_some_inv hb; cases h2
    simp only [pureA] at hv
    split at hv
    · cases hv
    · rename_i ti hti
      exact gives_of (tas_sound hE hti (od_sound hT hS h1) hv)
  case extract x i =>
    obtain ⟨ox, h1, h2⟩ := map_some_inv hb; cases h2
    have vx := od_sound hT hS h1
    simp only [pureA] at hv
    split at hv
    · rename_i vs he
      rw [he] at vx
      simp only [execOp]
      generalize a.eval x = x' at vx ⊢
      cases vx with
      | tuple _ c' hcs hk =>
        have hv2 : vs[i]? = some v := by simpa using hv
        have hi : i < c'.size := by rw [← hcs]; exact (Array.getElem?_eq_some_iff.1 hv2).1
        refine gives_of ⟨c'[i], ?_, hk i v _ hv2 (Array.getElem?_eq_getElem hi)⟩
        simp only [Instr.extract, Array.getElem?_eq_getElem hi, Sem.run_pure]
    · cases hv
  case call c =>
    obtain ⟨callee, args, tys⟩ := c
    cases hcs : cOds P args.toList with
    | none => cases callee <;> (simp only [cOp1, hcs] at hb; cases hb)
    | some as =>
      cases callee with
      | value f => simp only [cOp1, hcs] at hb; obtain ⟨_, _, h2⟩ := map_some_inv hb; cases h2
      | invoke x m => simp only [cOp1, hcs] at hb; obtain ⟨_, _, h2⟩ := map_some_inv hb; cases h2
      | builtin bi =>
        simp only [cOp1, hcs] at hb
        have := builtin_sound (w := w) (ty := type) (cs := args.map fun | .const _ => true | _ => false) hE hT hS hcs hb hv
        have e : (args.toList.map a.eval).toArray = args.map a.eval := by
          apply Array.toList_inj.1; rw [Array.toList_map]
        rw [e] at this
        simp only [Gives, execOp, resolve, Sem.run_bind, Sem.run_pure, Result.andThen_ok, invoke]
        exact this
  all_goals first
    | (simp only [cOp1] at hb; cases hb; done)
    | (obtain ⟨_, _, h2⟩ := map_some_inv hb; cases h2; done)
    | (simp only [cOp1] at hb; split at hb <;> cases hb; done)
    | (rename_i T r; cases r <;> (simp only [cOp1] at hb; cases hb); done)
end

end Go.Proofs.YtaegmplbkbaniaaGreatDoor
