/-
  THE ABSTRACT MACHINE: the operations that ask nothing of memory, against the model's. No condition.
-/
import Derived.Test.YtaegmplbkbaniaaGreatDoorAmMem
set_option linter.all false
namespace Go.Proofs.YtaegmplbkbaniaaGreatDoor
open Go

/-! ### Types -/
theorem scal_cells {v : Value} (h : scal v = true) : v.cells.toList = [v] := by cases v <;> first | rfl | (simp [scal] at h)
theorem tyOf_info {P : Program} {T : TypeId} {ti : Ti} (h : tyOf P T = some ti) :
    ∃ i d, P.info? T = some i ∧ P.underlying T = some d ∧ ti.k = dk d ∧ ti.size = i.size ∧ ti.bytes = i.bytes ∧ ti.zero = i.zero.bind (zeroOf ti.k.agg) ∧ ti.cmp = i.comparable := by
  unfold tyOf at h
  split at h
  · cases h
  · rename_i i hi
    split at h
    · cases h
    · rename_i hk
      cases h
      unfold dkOf at hk ⊢
      cases hu : P.underlying T with
      | none => rw [hu] at hk; exact absurd rfl hk
      | some d => exact ⟨i, d, hi, rfl, rfl, rfl, rfl, rfl, rfl⟩
theorem run_sizeOf {P : Program} {T : TypeId} {ti : Ti} (h : tyOf P T = some ti) (w : World) : (sizeOf T).run P w = .ok ti.size w := by
  obtain ⟨i, d, h1, h2, h3, h4, h5, h6, h7⟩ := tyOf_info h
  simp [sizeOf, typeInfo, h1, h4]
theorem run_info {P : Program} {T : TypeId} {i : TypeInfo} (h : P.info? T = some i) (w : World) : (typeInfo T).run P w = .ok i w := by
  simp [typeInfo, h]
theorem run_isAgg {P : Program} {T : TypeId} {ti : Ti} (h : tyOf P T = some ti) (w : World) : (isAgg T).run P w = .ok ti.k.agg w := by
  obtain ⟨i, d, h1, h2, h3, h4, h5, h6, h7⟩ := tyOf_info h
  rw [h3]
  simp only [isAgg, Sem.run_bind, run_underlying h2, Result.andThen_ok]
  cases d <;> rfl
theorem run_zero {P : Program} {T : TypeId} {ti : Ti} (h : tyOf P T = some ti) {l : List Value} (hz : ti.zero = some l) (w : World) :
    ∃ z, (zeroValue T).run P w = .ok z w ∧ z.cells.toList = l ∧ l.all scal = true ∧ ti.zv = some z := by
  obtain ⟨i, d, h1, h2, h3, h4, h5, h6, h7⟩ := tyOf_info h
  rw [hz] at h6
  cases hi : i.zero with
  | none => rw [hi] at h6; cases h6
  | some z =>
    rw [hi] at h6
    simp only [Option.bind_some] at h6
    refine ⟨z, by simp [zeroValue, typeInfo, h1, hi], ?_⟩
    unfold zeroOf at h6
    unfold Ti.zv
    rw [hz]
    split at h6
    · rename_i cs ha
      split at h6
      · rename_i hs; cases h6; exact ⟨rfl, hs, by simp [ha]⟩
      · cases h6
    · cases h6
    · rename_i v0 ha
      split at h6
      · rename_i hs
        cases h6
        refine ⟨scal_cells hs, by simpa using hs, by simp [ha]⟩
      · cases h6
theorem run_zv {P : Program} {T : TypeId} {ti : Ti} (h : tyOf P T = some ti) {z : Value} (hz : ti.zv = some z) (ρ : Nat → Option Pl) (w : World) :
    (zeroValue T).run P w = .ok z w ∧ VR ρ z z := by
  cases hl : ti.zero with
  | none => simp [Ti.zv, hl] at hz
  | some l =>
    obtain ⟨z', h1, h2, h3, h4⟩ := run_zero h hl w
    rw [hz] at h4; cases h4
    refine ⟨h1, ?_⟩
    unfold Ti.zv at hz
    rw [hl] at hz
    split at hz
    · cases hz
    · rename_i l0 he
      cases he
      split at hz
      · cases hz; exact LR.agg (lr_scal h3)
      · cases hz; simp at h3; exact vr_scal h3
      · cases hz
theorem asV_agg {ti : Ti} (h : ti.k.agg = true) (l : List Value) : asV ti l = some (.agg ⟨l⟩) := by simp [asV, h]
theorem asV_one {ti : Ti} (h : ti.k.agg = false) {l : List Value} {v : Value} (hv : asV ti l = some v) : l = [v] := by
  unfold asV at hv
  rw [h] at hv
  split at hv
  · rename_i he; cases he
  · cases hv; rfl
  · cases hv
/-- A part of an aggregate. -/
theorem run_part {P : Program} {T : TypeId} {ti : Ti} (h : tyOf P T = some ti) {ρ : Nat → Option Pl} {l l' : List Value} (hl : LR ρ l l') (off : Nat) {v : Value}
    (hlen : ((l.drop off).take ti.size).length = ti.size) (hv : asV ti ((l.drop off).take ti.size) = some v) (w : World) :
    ∃ v', (part T ⟨l'⟩ off).run P w = .ok v' w ∧ VR ρ v v' := by
  have hr := (hl.drop off).take ti.size
  cases ha : ti.k.agg with
  | true =>
    rw [asV_agg ha] at hv; cases hv
    refine ⟨_, ?_, LR.agg hr⟩
    simp only [part, Sem.run_bind, run_isAgg h, ha, Result.andThen_ok, if_true, run_sizeOf h, Sem.run_pure]
    congr 2
    apply Array.toList_inj.1
    simp
  | false =>
    have h1 := asV_one ha hv
    rw [h1] at hr
    obtain ⟨v', r, e, hv', hr'⟩ := hr.inv
    have : r = [] := hr'.inv0
    subst this
    refine ⟨v', ?_, hv'⟩
    simp only [part, Sem.run_bind, run_isAgg h, ha, Result.andThen_ok]
    have h2 : l'[off]? = some v' := by
      have := congrArg (fun x => x[0]?) e
      simp only [List.getElem?_take, List.getElem?_drop] at this
      have hs : 0 < ti.size := by rw [h1] at hlen; simp at hlen; omega
      rw [if_pos hs] at this
      simpa using this
    simp [h2]

/-! ### Operands -/
structure EOk (P : Program) (E : Env) : Prop where
  ty : ∀ T ti, E.ty T = some ti → tyOf P T = some ti
  ns : E.ns = P.globals.size + 1
  prog : ∀ f af, E.ext f = none → E.prog f = some af → progOf P f = some af
  meth : ∀ t m v g r, E.meth t m v = some (g, r) → ∀ (ρ : Nat → Option Pl) (w : World) v', VR ρ v v' →
    ∃ r', (Go.method (P.types.size + Made.depth) t v' m).run P w = .ok (g, r') w ∧ VR ρ r r'
  impl : ∀ d U b, E.impl d U = some b → ∃ want info, P.underlying U = some (.interface want) ∧ P.info? d = some info ∧ (Instr.missingMethod want info.methods).isNone = b
  mixed : P.follows .mixedOrders = true

/-- Temporaries. -/
def TR (ρ : Nat → Option Pl) (t : Tr Value) (tm : Array Value) : Prop := ∀ i, VR ρ (Od.ev t (.t i)) (tm.getD i undef)
/-- The numbers that stand for the package-level variables. -/
def SR (P : Program) (ρ : Nat → Option Pl) : Prop := ∀ i, i < P.globals.size + 1 → ∃ p, ρ i = some p ∧ p.blk = i ∧ p.off = 0

section
variable {P : Program} {E : Env} {ρ : Nat → Option Pl} {t : Tr Value} {a : Act} {w : World}
theorem od_sound (hT : TR ρ t a.tmps) (hS : SR P ρ) {x : Operand} {o : Od} (h : cOd P x = some o) : VR ρ (o.ev t) (a.eval x) := by
  cases x with
  | tmp n => simp only [cOd] at h; cases h; exact hT n
  | const v =>
    simp only [cOd] at h
    split at h
    · rename_i hc; cases h; exact vr_constOk hc
    · cases h
  | global n =>
    simp only [cOd] at h
    split at h
    · rename_i hn; cases h
      obtain ⟨p, h1, h2, h3⟩ := hS n (by omega)
      have := VR.ptr (ρ := ρ) n 0 p h1
      rw [h2, h3] at this
      exact this
    · cases h
  | func n => simp only [cOd] at h; cases h; exact .func n _ _ _ _ rfl rfl (fun i v v' h => by simp at h) (fun i v v' h => by simp at h)
theorem ods_sound (hT : TR ρ t a.tmps) (hS : SR P ρ) : ∀ {xs : List Operand} {os : List Od}, cOds P xs = some os → LR ρ (os.map (Od.ev t)) (xs.map a.eval)
  | [], os, h => by simp only [cOds] at h; cases h; exact .nil
  | x :: r, os, h => by
    simp only [cOds] at h
    split at h
    · rename_i y l hy hl; cases h; exact .cons (od_sound hT hS hy) (ods_sound hT hS hl)
    · cases h
theorem isC_sound {x : Operand} {o : Od} (h : cOd P x = some o) (hc : o.isC = true) : ∃ v, x = .const v := by
  cases x with
  | const v => exact ⟨v, rfl⟩
  | tmp n => simp only [cOd] at h; cases h; simp [Od.isC] at hc
  | global n => simp only [cOd] at h; split at h <;> cases h; simp [Od.isC] at hc
  | func n => simp only [cOd] at h; cases h; simp [Od.isC] at hc
end

/-! ### Integers, strings, bools -/
theorem run_intBin {op : BinOp} {k k' : IntKind} {x y : Int} {v : Value} (h : intBin op k x k' y = some v) (P : Program) (T : TypeId) (w : World) :
    (binOp op T (.int k x) (.int k' y)).run P w = .ok v w ∧ scal v = true := by
  unfold intBin at h
  cases op <;> simp only at h
  case shl =>
    split at h
    · cases h
    · rename_i hy; cases h; simp [binOp, Op.shift, hy, scal]
  case shr =>
    split at h
    · cases h
    · rename_i hy; cases h; simp [binOp, Op.shift, hy, scal]
  all_goals
    split at h
    · cases h
    · rename_i hk
      have hk' : k = k' := by simpa using hk
      subst hk'
      first
        | (cases h; simp [binOp, Op.intArith, Op.intBits, Op.intCmp, scal, ltI_eq, leI_eq]; done)
        | (split at h
           · cases h
           · rename_i hy; cases h; simp [binOp, Op.intDiv, hy, scal])
theorem run_strBin {op : BinOp} {x y : ByteArray} {v : Value} (h : strBin op x y = some v) (P : Program) (T : TypeId) (w : World) :
    (binOp op T (.string x) (.string y)).run P w = .ok v w ∧ scal v = true := by
  unfold strBin at h
  cases op <;> simp only at h
  case add =>
    split at h
    · rename_i hlt
      cases h
      have : ¬ (((x.size + y.size : Nat) : Int) > IntKind.i64.max) := by
        have : IntKind.i64.max = 9223372036854775807 := by decide
        rw [this]; omega
      simp only [binOp, Op.stringOp]
      rw [if_neg this]; exact ⟨rfl, rfl⟩
    · cases h
  all_goals first
    | (cases h; exact ⟨rfl, rfl⟩)
    | cases h
section
variable {P : Program} {E : Env} {ρ : Nat → Option Pl} {w : World}
section eqs
variable {T : TypeId} (n : Nat)
theorem eq_bool (h : P.underlying T = some .bool) (a b : Bool) : (Op.equalIn (n + 1) T (.bool a) (.bool b)).run P w = .ok (a == b) w := by simp [Op.equalIn, run_underlying h]
theorem eq_int {k : IntKind} (h : P.underlying T = some (.int k)) (j : IntKind) (a b : Int) : (Op.equalIn (n + 1) T (.int j a) (.int j b)).run P w = .ok (a == b) w := by simp [Op.equalIn, run_underlying h]
theorem eq_ptrL {e : TypeId} (h : P.underlying T = some (.pointer e)) (b : Option Addr) : (Op.equalIn (n + 1) T (.pointer none) (.pointer b)).run P w = .ok b.isNone w := by simp [Op.equalIn, run_underlying h]
theorem eq_ptrR {e : TypeId} (h : P.underlying T = some (.pointer e)) (b : Addr) : (Op.equalIn (n + 1) T (.pointer (some b)) (.pointer none)).run P w = .ok false w := by simp [Op.equalIn, run_underlying h]
theorem eq_slL {e : TypeId} (h : P.underlying T = some (.slice e)) (l c l' c' : Nat) (b : Option Addr) : (Op.equalIn (n + 1) T (.slice none l c) (.slice b l' c')).run P w = .ok b.isNone w := by simp [Op.equalIn, run_underlying h]
theorem eq_slR {e : TypeId} (h : P.underlying T = some (.slice e)) (l c l' c' : Nat) (b : Addr) : (Op.equalIn (n + 1) T (.slice (some b) l c) (.slice none l' c')).run P w = .ok false w := by simp [Op.equalIn, run_underlying h]
theorem eq_mapL {k e : TypeId} (h : P.underlying T = some (.map k e)) (b : Option Nat) : (Op.equalIn (n + 1) T (.map none) (.map b)).run P w = .ok b.isNone w := by simp [Op.equalIn, run_underlying h]
theorem eq_mapR {k e : TypeId} (h : P.underlying T = some (.map k e)) (b : Nat) : (Op.equalIn (n + 1) T (.map (some b)) (.map none)).run P w = .ok false w := by simp [Op.equalIn, run_underlying h]
theorem eq_fnN {a b : Array TypeId} {v : Bool} (h : P.underlying T = some (.func a b v)) : (Op.equalIn (n + 1) T .nilFunc .nilFunc).run P w = .ok true w := by simp [Op.equalIn, run_underlying h]
theorem eq_fnL {a b : Array TypeId} {v : Bool} (h : P.underlying T = some (.func a b v)) (f : Fn) (x y : Array Value) : (Op.equalIn (n + 1) T .nilFunc (.func f x y)).run P w = .ok false w := by simp [Op.equalIn, run_underlying h]
theorem eq_fnR {a b : Array TypeId} {v : Bool} (h : P.underlying T = some (.func a b v)) (f : Fn) (x y : Array Value) : (Op.equalIn (n + 1) T (.func f x y) .nilFunc).run P w = .ok false w := by simp [Op.equalIn, run_underlying h]
theorem eq_ifN {ms : Array (String × TypeId)} (h : P.underlying T = some (.interface ms)) : (Op.equalIn (n + 1) T .nilIface .nilIface).run P w = .ok true w := by simp [Op.equalIn, run_underlying h]
theorem eq_ifL {ms : Array (String × TypeId)} (h : P.underlying T = some (.interface ms)) (t : TypeId) (v : Value) : (Op.equalIn (n + 1) T .nilIface (.iface t v)).run P w = .ok false w := by simp [Op.equalIn, run_underlying h]
theorem eq_ifR {ms : Array (String × TypeId)} (h : P.underlying T = some (.interface ms)) (t : TypeId) (v : Value) : (Op.equalIn (n + 1) T (.iface t v) .nilIface).run P w = .ok false w := by simp [Op.equalIn, run_underlying h]
theorem eq_ifNe {ms : Array (String × TypeId)} (h : P.underlying T = some (.interface ms)) {t u : TypeId} (hne : t ≠ u) (v x : Value) : (Op.equalIn (n + 1) T (.iface t v) (.iface u x)).run P w = .ok false w := by simp [Op.equalIn, run_underlying h, hne]
theorem eq_ifEq {ms : Array (String × TypeId)} (h : P.underlying T = some (.interface ms)) {t : TypeId} {i : TypeInfo} (hi : P.info? t = some i) (hc : i.comparable = true) (v x : Value) : (Op.equalIn (n + 1) T (.iface t v) (.iface t x)).run P w = (Op.equalIn n t v x).run P w := by simp [Op.equalIn, run_underlying h, run_info hi, hc]
end eqs
/-- '==' where the machine answers. -/
theorem run_eqA (hE : EOk P E) {T : TypeId} {ti : Ti} (hT : E.ty T = some ti) {c : Bool} {x y x' y' : Value} {b : Bool} (h : eqA E ti.k c x y = some b) (hx : VR ρ x x') (hy : VR ρ y y') (n : Nat) :
    (Op.equalIn (n + 2) T x' y').run P w = .ok b w ∧ (c = false → ¬ (x' = .nilIface ∧ y' = .nilIface)) ∧ (∀ cs, x' ≠ .agg cs) := by
  obtain ⟨i, d, h1, h2, h3, h4, h5, h6, h7⟩ := tyOf_info (hE.ty _ _ hT)
  rw [h3] at h
  clear h4 h5 h6 h3 h7
  unfold eqA at h
  split at h
  case h_1 =>
    rename_i hk; cases h; cases hx; cases hy
    cases d <;> simp only [dk] at hk <;> cases hk
    exact ⟨eq_bool _ h2 _ _, by simp, by simp⟩
  case h_2 =>
    rename_i hk; cases h; cases hx
    cases d <;> simp only [dk] at hk <;> cases hk
    cases hy <;> exact ⟨eq_ptrL _ h2 _, by simp, by simp⟩
  case h_3 =>
    rename_i hk; cases h; cases hy; cases hx
    cases d <;> simp only [dk] at hk <;> cases hk
    exact ⟨eq_ptrR _ h2 _, by simp, by simp⟩
  case h_4 =>
    rename_i hk; cases h; cases hx
    cases d <;> simp only [dk] at hk <;> cases hk
    cases hy <;> exact ⟨eq_slL _ h2 _ _ _ _ _, by simp, by simp⟩
  case h_5 =>
    rename_i hk; cases h; cases hy
    cases hx <;> (cases d <;> simp only [dk] at hk <;> cases hk) <;> exact ⟨eq_slR _ h2 _ _ _ _ _, by simp, by simp⟩
  case h_6 =>
    rename_i hk; cases h; cases hx
    cases d <;> simp only [dk] at hk <;> cases hk
    cases hy <;> exact ⟨eq_mapL _ h2 _, by simp, by simp⟩
  case h_7 =>
    rename_i hk; cases h; cases hy; cases hx
    cases d <;> simp only [dk] at hk <;> cases hk
    exact ⟨eq_mapR _ h2 _, by simp, by simp⟩
  case h_8 =>
    rename_i hk; cases h; cases hx; cases hy
    cases d <;> simp only [dk] at hk <;> cases hk
    exact ⟨eq_fnN _ h2, by simp, by simp⟩
  case h_9 =>
    rename_i hk; cases h; cases hx; cases hy
    cases d <;> simp only [dk] at hk <;> cases hk
    exact ⟨eq_fnL _ h2 _ _ _, by simp, by simp⟩
  case h_10 =>
    rename_i hk; cases h; cases hx; cases hy
    cases d <;> simp only [dk] at hk <;> cases hk
    exact ⟨eq_fnR _ h2 _ _ _, by simp, by simp⟩
  case h_11 =>
    rename_i hk; cases hx; cases hy
    cases d <;> simp only [dk] at hk <;> cases hk
    split at h
    · rename_i hc; cases h
      exact ⟨eq_ifN _ h2, by simp [hc], by simp⟩
    · cases h
  case h_12 =>
    rename_i hk; cases h; cases hx; cases hy
    cases d <;> simp only [dk] at hk <;> cases hk
    exact ⟨eq_ifL _ h2 _ _, by simp, by simp⟩
  case h_13 =>
    rename_i hk; cases h; cases hx; cases hy
    cases d <;> simp only [dk] at hk <;> cases hk
    exact ⟨eq_ifR _ h2 _ _, by simp, by simp⟩
  case h_14 =>
    rename_i t v u x0 hk
    cases hx with
    | iface _ _ v' hv =>
    cases hy with
    | iface _ _ u' hu =>
    cases d <;> simp only [dk] at hk <;> cases hk
    split at h
    · rename_i hne; cases h
      exact ⟨eq_ifNe _ h2 hne _ _, by simp, by simp⟩
    · rename_i hne
      have hne' : t = u := by simpa using hne
      subst hne'
      split at h
      · rename_i kk _ _ _ _ hty
        split at h
        · rename_i hj; subst hj
          cases h; cases hv; cases hu
          obtain ⟨i2, d2, g1, g2, g3, _, _, _, g7⟩ := tyOf_info (hE.ty _ _ hty)
          cases d2 <;> simp only [dk] at g3 <;> cases g3
          have hcmp : i2.comparable = true := g7.symm
          exact ⟨by rw [eq_ifEq _ h2 g1 hcmp]; exact eq_int _ g2 _ _ _, by simp, by simp⟩
        · cases h
      · cases h
  case h_15 => cases h
end

/-! ### Composite values -/
theorem fill_foldl (cs : List Value) : ∀ (off : Nat) (k : Nat) (A : Array Value), off + k + cs.length ≤ A.size →
    ((cs.zipIdx k).foldl (fun (B : Array Value) (x : Value × Nat) => B.setIfInBounds (off + x.2) x.1) A).size = A.size ∧
    ∀ j, ((cs.zipIdx k).foldl (fun (B : Array Value) (x : Value × Nat) => B.setIfInBounds (off + x.2) x.1) A)[j]? = if off + k ≤ j ∧ j < off + k + cs.length then cs[j - (off + k)]? else A[j]? := by
  induction cs with
  | nil => intro off k A h; exact ⟨rfl, fun j => by rw [if_neg (by simp)]; rfl⟩
  | cons c cs ih =>
    intro off k A h
    simp only [List.zipIdx_cons, List.foldl_cons, List.length_cons] at h ⊢
    obtain ⟨h1, h2⟩ := ih off (k + 1) (A.setIfInBounds (off + k) c) (by simp; omega)
    refine ⟨by rw [h1]; simp, fun j => ?_⟩
    rw [h2 j]
    by_cases h3 : off + (k + 1) ≤ j ∧ j < off + (k + 1) + cs.length
    · rw [if_pos h3, if_pos (by omega), show j - (off + k) = (j - (off + (k + 1))) + 1 by omega, List.getElem?_cons_succ]
    · rw [if_neg h3, Array.getElem?_setIfInBounds]
      by_cases h4 : off + k = j
      · subst h4; rw [if_pos rfl, if_pos (by omega), if_pos (by omega), Nat.sub_self]; rfl
      · rw [if_neg h4, if_neg (by omega)]
theorem getElem?_splice (l vs : List Value) (off m j : Nat) (hm : vs.length = m) (hl : off + m ≤ l.length) :
    (l.take off ++ (vs ++ l.drop (off + m)))[j]? = if off ≤ j ∧ j < off + m then vs[j - off]? else l[j]? := by
  have ht : (l.take off).length = off := by simp; omega
  by_cases h1 : j < off
  · rw [List.getElem?_append_left (by omega), List.getElem?_take, if_pos h1, if_neg (by omega)]
  · rw [List.getElem?_append_right (by omega), ht]
    by_cases h2 : j < off + m
    · rw [List.getElem?_append_left (by omega), if_pos (by omega)]
    · rw [List.getElem?_append_right (by omega), List.getElem?_drop, if_neg (by omega)]
      congr 1; omega
section
variable {P : Program} {E : Env} {ρ : Nat → Option Pl} {w : World}
/-- The parts, as the model has them. -/
def PartsR (ρ : Nat → Option Pl) (pl : Nat → Option (Nat × Nat)) : List (Nat × Nat × Value) → List (Nat × Value) → Prop
  | [], [] => True
  | (off, size, v) :: r, (i, v') :: r' => pl i = some (off, size) ∧ VR ρ v v' ∧ PartsR ρ pl r r'
  | _, _ => False
theorem fill_sound {pl : Nat → Option (Nat × Nat)} : ∀ {ps : List (Nat × Nat × Value)} {qs : List (Nat × Value)} {z r : List Value} {A : Array Value}, PartsR ρ pl ps qs → LR ρ z A.toList → fillA z ps = some r →
    ∃ B : Array Value, Instr.fill pl A qs = some B ∧ LR ρ r B.toList
  | [], [], z, r, A, _, hz, h => by simp only [fillA] at h; cases h; exact ⟨A, rfl, hz⟩
  | (off, size, v) :: ps, (i, v') :: qs, z, r, A, hp, hz, h => by
    obtain ⟨h1, h2, h3⟩ := hp
    simp only [fillA] at h
    split at h
    · rename_i hc
      have hv := h2.cells
      have hvl : v.cells.toList.length = size := by simpa using hc.1
      have hsz : v'.cells.size = size := by
        have := hv.1; simp only [Array.length_toList] at this hvl; omega
      have hzl := hz.1
      simp only [Array.length_toList] at hzl
      obtain ⟨k1, k2⟩ := fill_foldl v'.cells.toList off 0 A (by simp only [Array.length_toList]; omega)
      have hfold : v'.cells.zipIdx.foldl (fun cs (x : Value × Nat) => cs.setIfInBounds (off + x.2) x.1) A = (v'.cells.toList.zipIdx 0).foldl (fun (B : Array Value) (x : Value × Nat) => B.setIfInBounds (off + x.2) x.1) A := by
        rw [← Array.foldl_toList, Array.toList_zipIdx]
      have hz' : LR ρ (z.take off ++ (v.cells.toList ++ z.drop (off + size))) (v'.cells.zipIdx.foldl (fun cs (x : Value × Nat) => cs.setIfInBounds (off + x.2) x.1) A).toList := by
        rw [hfold]
        refine ⟨by simp only [Array.length_toList, k1]; simp only [List.length_append, List.length_take, List.length_drop, hvl]; omega, fun j u u' hu hu' => ?_⟩
        rw [getElem?_splice _ _ _ _ _ hvl (by omega)] at hu
        rw [Array.getElem?_toList, k2 j] at hu'
        simp only [Array.length_toList, hsz, Nat.add_zero] at hu'
        by_cases hj : off ≤ j ∧ j < off + size
        · rw [if_pos hj] at hu hu'; exact hv.2 _ _ _ hu hu'
        · rw [if_neg hj] at hu hu'; exact hz.2 _ _ _ hu (by simpa using hu')
      obtain ⟨B, hB, hr⟩ := fill_sound h3 hz' h
      refine ⟨B, ?_, hr⟩
      simp only [Instr.fill, h1]
      have hno : ¬ ((v'.cells.size ≠ size || off + v'.cells.size > A.size) = true) := by
        have hcl := hc.2
        simp; omega
      rw [if_neg hno]
      exact hB
    · cases h
  | [], _ :: _, _, _, _, hp, _, _ => hp.elim
  | _ :: _, [], _, _, _, hp, _, _ => hp.elim
theorem parts_sound {t : Tr Value} {a : Act} (hT : TR ρ t a.tmps) (hS : SR P ρ) {pl pl' : Nat → Option (Nat × Nat)} (hpl : ∀ i x, pl i = some x → pl' i = some x) :
    ∀ {ps : List (Nat × Operand)} {qs : List (Nat × Od)} {l : List (Nat × Nat × Value)}, cParts P ps = some qs → parts pl t qs = some l →
      PartsR ρ pl' l (ps.map fun x => (x.1, a.eval x.2))
  | [], qs, l, h, k => by simp only [cParts] at h; cases h; simp only [parts] at k; cases k; trivial
  | (i, x) :: ps, qs, l, h, k => by
    simp only [cParts] at h
    split at h
    · rename_i y q hy hq
      cases h
      simp only [parts] at k
      split at k
      · rename_i off size l' hp hl
        cases k
        exact ⟨hpl _ _ hp, od_sound hT hS hy, parts_sound hT hS hpl hq hl⟩
      · cases k
    · cases h
theorem plcs_run (hE : EOk P E) (f : List Field) : ∀ {L : List (Nat × Nat)}, plcs E (f.map fun f => (f.offset, f.type)) = some L →
    (f.mapM fun f => (do pure (f.offset, ← sizeOf f.type) : Sem (Nat × Nat))).run P w = .ok L w := by
  induction f with
  | nil => intro L h; simp only [List.map_nil, plcs] at h; cases h; rfl
  | cons x f ih =>
    intro L h
    simp only [List.map_cons, plcs] at h
    split at h
    · rename_i ti l hti hl
      cases h
      rw [List.mapM_cons]
      simp only [Sem.run_bind, run_sizeOf (hE.ty _ _ hti), Result.andThen_ok, Sem.run_pure, ih hl]
    · cases h
theorem run_build (hE : EOk P E) {T : TypeId} {ti : Ti} (hT : E.ty T = some ti) {fs : List (Nat × TypeId)} (hk : ti.k = .strc fs) {z l : List Value} (hz : ti.zero = some z) {L : List (Nat × Nat)} (hL : plcs E fs = some L)
    {ps : List (Nat × Nat × Value)} {qs : Array (Nat × Value)} (hp : PartsR ρ (fun i => L[i]?) ps qs.toList) (hf : fillA z ps = some l) :
    ∃ v', (Instr.build T qs).run P w = .ok v' w ∧ VR ρ (.agg ⟨l⟩) v' := by
  obtain ⟨i, d, h1, h2, h3, h4, h5, h6, h7⟩ := tyOf_info (hE.ty _ _ hT)
  obtain ⟨zv, g1, g2, g3, g4⟩ := run_zero (hE.ty _ _ hT) hz w
  rw [h3] at hk
  cases d <;> simp only [dk] at hk <;> cases hk
  rename_i flds
  have hm := plcs_run (w := w) hE flds.toList hL
  have hm' : (flds.mapM fun f => (do pure (f.offset, ← sizeOf f.type) : Sem (Nat × Nat))).run P w = .ok L.toArray w := by
    rw [Array.mapM_eq_mapM_toList]
    simp only [Sem.run_map, hm, Result.andThen_ok]
  obtain ⟨B, hB, hr⟩ := fill_sound (A := zv.cells) hp (by rw [g2]; exact lr_scal g3) hf
  refine ⟨.agg B, ?_, LR.agg hr⟩
  simp only [Instr.build, Sem.run_bind, g1, run_underlying h2, Result.andThen_ok, hm']
  simp only [List.getElem?_toArray]
  rw [hB]; rfl
end

end Go.Proofs.YtaegmplbkbaniaaGreatDoor
