/-
  THE ABSTRACT MACHINE: reflectlite's functions as given functions, each proved. No condition.
-/
import Derived.Test.YtaegmplbkbaniaaGreatDoorExt
set_option linter.all false
namespace Go.Proofs.YtaegmplbkbaniaaGreatDoor
open Go Go.Extern
set_option maxRecDepth 100000
theorem comparable30 (w : World) : ((ReflectliteType.method fun t => do Rtype.noPackHeld "Comparable" t; pure (.bool (← typeInfo t).comparable)) #[.agg ⟨[hT 30]⟩]).run Tryz.prog w = .ok (.bool true) w := by kernel_rfl
theorem x221 (args : Array Value) (w : World) : (callFunc 221 args).run Tryz.prog w = (((ReflectliteType.method fun t => do Rtype.noPackHeld "Comparable" t; pure (.bool (← typeInfo t).comparable)) args).run Tryz.prog w).andThen fun v w' => .ok (.value v) w' :=
  @run_callFunc_extern Tryz.prog 221 _ (ReflectliteType.method fun t => do Rtype.noPackHeld "Comparable" t; pure (.bool (← typeInfo t).comparable)) Tryz.func221 (by kernel_rfl) (by kernel_rfl) (by kernel_rfl) (by kernel_rfl) args w

abbrev GF := List Value → Hp → Option (Value × Hp)
/-! what they answer -/
def isH (T : Nat) : Value → Bool
  | .pointer (some ⟨1, o, none⟩) => Nat.beq o T
  | _ => false
def isRT (T : Nat) : Value → Bool
  | .iface 251 (.agg cs) => match cs.toList with
    | [h] => isH T h
    | _ => false
  | _ => false
def isRec (T : Nat) : Value → Bool
  | .agg cs => match cs.toList with
    | [h] => isH T h
    | _ => false
  | _ => false
def valOf (T : Nat) (fl : Int) : Value → Option (Nat × Nat)
  | .agg cs => match cs.toList with
    | [h, .pointer (some ⟨b, o, none⟩), .int .u64 f] => match isH T h && decide (f = fl) with
      | true => some (b, o)
      | false => none
    | _ => none
  | _ => none
def g186 : GF := fun args H => match args with
  | [.iface t v] => match Nat.beq t 232 || Nat.beq t 228, Nat.beq t 30 with
    | true, _ => some (.agg ⟨[hT t, .pointer (some ⟨H.n, 0, none⟩), .int .u64 150]⟩, H.alloc (.row (.lst v.cells.toList) 0 true))
    | _, true => some (.agg ⟨[hT t, .pointer (some ⟨H.n, 0, none⟩), .int .u64 130]⟩, H.alloc (.row (.lst v.cells.toList) 0 true))
    | _, _ => none
  | _ => none
def g187 : GF := fun args H => match args with
  | [v] => match valOf 232 150 v with
    | some _ => some (rT 232, H)
    | none => none
  | _ => none
def g188 : GF := fun args H => match args with
  | [v] => match valOf 232 150 v with
    | some (b, o) => match H.rd b o 1 with
      | some [.pointer (some _)] => some (.bool false, H)
      | _ => none
    | none => none
  | _ => none
def g190 : GF := fun args H => match args with
  | [.iface t _] => match Nat.beq t 228 || Nat.beq t 30 with
    | true => some (rT t, H)
    | false => none
  | _ => none
def g192 : GF := fun args H => match args with
  | [v] => match valOf 232 150 v with
    | some (b, o) => match H.rd b o 1 with
      | some [.pointer (some ⟨pb, po, none⟩)] => some (rV 30 ⟨pb, po, none⟩ 386, H)
      | _ => none
    | none => none
  | _ => none
def g193 : GF := fun args H => match args with
  | [v, x] => match valOf 30 386 v, valOf 30 130 x with
    | some (b, o), some (b', o') => match H.rd b' o' 1 with
      | some [.int k n] => match H.wr b o [.int k n] with
        | some H' => some (.tuple #[], H')
        | none => none
      | _ => none
    | _, _ => none
  | _ => none
def g208 : GF := fun args H => match args with
  | [v] => match isH 232 v, isH 30 v with
    | true, _ => some (.int .u8 22, H)
    | _, true => some (.int .u8 2, H)
    | _, _ => none
  | _ => none
def g220 : GF := fun args H => match args with
  | [v, x] => match isRec 30 v, isRec 228 v, isRT 30 x with
    | true, _, true => some (.bool true, H)
    | _, true, true => some (.bool false, H)
    | _, _, _ => none
  | _ => none
def g221 : GF := fun args H => match args with
  | [v] => match isRec 30 v with
    | true => some (.bool true, H)
    | false => none
  | _ => none
def g222 : GF := fun args H => match args with
  | [v] => match isRec 232 v with
    | true => some (rT 30, H)
    | false => none
  | _ => none
def g223 : GF := fun args H => match args with
  | [v, x] => match isRec 30 v, isRT 216 x with
    | true, true => some (.bool true, H)
    | _, _ => none
  | _ => none

section
variable {ρ : Nat → Option Pl} {H : Hp} {w : World}
theorem tz1 (hH : HR ρ (Tryz.prog.globals.size + 1) H w) : ∃ p, ρ 1 = some p ∧ p.blk = 1 ∧ p.off = 0 := hH.st 1 (by rw [tryz_ns]; decide)
theorem vr_hT (hH : HR ρ (Tryz.prog.globals.size + 1) H w) (T : Nat) : VR ρ (hT T) (hT T) := by
  obtain ⟨p, h1, h2, h3⟩ := tz1 hH
  have := VR.ptr (ρ := ρ) 1 T p h1
  rw [h2, h3, Nat.zero_add] at this; exact this
theorem isH_inv (hH : HR ρ (Tryz.prog.globals.size + 1) H w) {T : Nat} {v v' : Value} (h : isH T v = true) (hv : VR ρ v v') : v' = hT T := by
  unfold isH at h
  split at h
  · rename_i o
    have : o = T := by simpa using h
    subst this
    obtain ⟨p, h1, h2, h3⟩ := tz1 hH
    cases hv with
    | ptr _ _ q hq => rw [h1] at hq; cases hq; rw [h2, h3, Nat.zero_add]; rfl
  · cases h
theorem isRec_inv (hH : HR ρ (Tryz.prog.globals.size + 1) H w) {T : Nat} {v v' : Value} (h : isRec T v = true) (hv : VR ρ v v') : v' = .agg ⟨[hT T]⟩ := by
  unfold isRec at h
  split at h
  · rename_i cs
    split at h
    · rename_i x hx
      obtain ⟨l', e, hl⟩ := lr_of_agg hv
      rw [hx] at hl
      obtain ⟨y, r, e2, k1, k2⟩ := hl.inv
      have := k2.inv0; subst this; subst e2; subst e
      rw [isH_inv hH h k1]
    · cases h
  · cases h
theorem isRT_inv (hH : HR ρ (Tryz.prog.globals.size + 1) H w) {T : Nat} {v v' : Value} (h : isRT T v = true) (hv : VR ρ v v') : v' = rT T := by
  unfold isRT at h
  split at h
  · rename_i cs
    cases hv with
    | iface _ _ u hu =>
    have := isRec_inv (T := T) hH (v := .agg cs) (by unfold isRec; exact h) hu
    rw [this]; rfl
  · cases h
theorem valOf_inv (hH : HR ρ (Tryz.prog.globals.size + 1) H w) {T : Nat} {fl : Int} {v v' : Value} {b o : Nat} (h : valOf T fl v = some (b, o)) (hv : VR ρ v v') :
    ∃ p, ρ b = some p ∧ v' = rV T ⟨p.blk, p.off + o, none⟩ fl := by
  unfold valOf at h
  split at h
  · rename_i cs
    split at h
    · rename_i hh b1 o1 f hx
      split at h
      · rename_i hc
        cases h
        rw [Bool.and_eq_true, decide_eq_true_eq] at hc
        obtain ⟨hc, rfl⟩ := hc
        obtain ⟨l', e, hl⟩ := lr_of_agg hv
        rw [hx] at hl
        obtain ⟨y, r, e2, k1, k2⟩ := hl.inv
        obtain ⟨z, r2, e3, k3, k4⟩ := k2.inv
        obtain ⟨u, r3, e4, k5, k6⟩ := k4.inv
        have := k6.inv0; subst this; subst e4; subst e3; subst e2; subst e
        cases k5
        cases k3 with
        | ptr _ _ p hp => exact ⟨p, hp, by rw [isH_inv hH hc k1]; rfl⟩
      · cases h
    · cases h
  · cases h
theorem vr_list1 {v v' : Value} (h : VR ρ v v') : VR ρ (.agg ⟨[v]⟩) (.agg ⟨[v']⟩) :=
  .agg _ _ rfl (fun i a b ha hb => by
    cases i with
    | zero => cases ha; cases hb; exact h
    | succ i => simp at ha)
theorem vr_rT (hH : HR ρ (Tryz.prog.globals.size + 1) H w) (T : Nat) : VR ρ (rT T) (rT T) := .iface _ _ _ (vr_list1 (vr_hT hH T))
theorem vr_list3 {a b c a' b' c' : Value} (h1 : VR ρ a a') (h2 : VR ρ b b') (h3 : VR ρ c c') : VR ρ (.agg ⟨[a, b, c]⟩) (.agg ⟨[a', b', c']⟩) :=
  .agg _ _ rfl (fun i x y hx hy => by
    match i with
    | 0 => cases hx; cases hy; exact h1
    | 1 => cases hx; cases hy; exact h2
    | 2 => cases hx; cases hy; exact h3
    | i + 3 => simp at hx)
theorem cell_rd (hH : HR ρ (Tryz.prog.globals.size + 1) H w) {b o : Nat} {v : Value} (h : H.rd b o 1 = some [v]) : ∃ p v', ρ b = some p ∧ VR ρ v v' ∧ w.cell? ⟨p.blk, p.off + o, none⟩ = some v' := by
  obtain ⟨p, l', h1, h2, h3, h4⟩ := hH.rd h
  obtain ⟨v', r, e, k1, k2⟩ := h2.inv
  have := k2.inv0; subst this; subst e
  refine ⟨p, v', h1, k1, ?_⟩
  have := h4 0 (by omega)
  simpa using this
end

theorem ok186 : FnOk Tryz.prog g186 186 := by
  intro ρ H w args args' v H' hH hl hg
  unfold g186 at hg
  split at hg
  · rename_i t x
    obtain ⟨y, r, e, k1, k2⟩ := hl.inv
    have := k2.inv0; subst this; subst e
    cases k1 with
    | iface _ _ x' hx =>
    rw [x186]
    have mk : ∀ (T : Nat) (fl : Int), (ReflectliteValue.unpack (.iface T x')).run Tryz.prog w = .ok (rV T ⟨w.heap.size, 0, none⟩ fl) (w.alloc (.cells x'.cells T)) →
        ∃ ρ', VR ρ' (.agg ⟨[hT T, .pointer (some ⟨H.n, 0, none⟩), .int .u64 fl]⟩) (rV T ⟨w.heap.size, 0, none⟩ fl) ∧ PR (Tryz.prog.globals.size + 1) ρ H w ρ' (H.alloc (.row (.lst x.cells.toList) 0 true)) (w.alloc (.cells x'.cells T)) := fun T fl _ => by
      obtain ⟨c1, c2⟩ := lst_cells hx.cells
      have hpr := PR.alloc hH (o := .row (.lst x.cells.toList) 0 true) (ob := .cells x'.cells T) (sz := x'.cells.size) ⟨rfl, by omega, c2, fun _ => rfl⟩
      refine ⟨_, vr_list3 (vr_hT hpr.hr T) ?_ (.int _ _), hpr⟩
      have := VR.ptr (ρ := upd ρ H.n ⟨w.heap.size, 0, x'.cells.size⟩) H.n 0 ⟨w.heap.size, 0, x'.cells.size⟩ (upd_same _ _ _)
      simpa using this
    split at hg
    · rename_i h1
      cases hg
      rw [Bool.or_eq_true] at h1
      rcases h1 with h1 | h1
      · have : t = 232 := by simpa using h1
        subst this
        have hr := valueOf232 x' w
        obtain ⟨ρ', m1, m2⟩ := mk 232 150 hr
        show Lands _ _ (Result.andThen (Sem.run Tryz.prog (ReflectliteValue.unpack (.iface 232 x')) w) _)
        rw [hr]; exact ⟨ρ', m1, m2⟩
      · have : t = 228 := by simpa using h1
        subst this
        have hr := valueOf228 x' w
        obtain ⟨ρ', m1, m2⟩ := mk 228 150 hr
        show Lands _ _ (Result.andThen (Sem.run Tryz.prog (ReflectliteValue.unpack (.iface 228 x')) w) _)
        rw [hr]; exact ⟨ρ', m1, m2⟩
    · rename_i h1 h2 h3
      cases hg
      have : t = 30 := by simpa using h2
      subst this
      have hr := valueOf30 x' w
      obtain ⟨ρ', m1, m2⟩ := mk 30 130 hr
      show Lands _ _ (Result.andThen (Sem.run Tryz.prog (ReflectliteValue.unpack (.iface 30 x')) w) _)
      rw [hr]; exact ⟨ρ', m1, m2⟩
    · cases hg
  · cases hg
theorem lands_eq {P : Program} {R : Value → World → Prop} {r r' : Result Next} (h : r = r') (k : Lands P R r') : Lands P R r := h ▸ k
/-- An answer at once that turns nothing. -/
theorem lands_same {ρ : Nat → Option Pl} {H : Hp} {w : World} {v v' : Value} {s : Sem Value} (hH : HR ρ (Tryz.prog.globals.size + 1) H w) (hr : s.run Tryz.prog w = .ok v' w) (hv : VR ρ v v') :
    Lands Tryz.prog (fun v' w' => ∃ ρ', VR ρ' v v' ∧ PR (Tryz.prog.globals.size + 1) ρ H w ρ' H w') ((s.run Tryz.prog w).andThen fun v w' => .ok (.value v) w') := by
  rw [hr]; exact ⟨ρ, hv, .refl hH⟩
theorem ok187 : FnOk Tryz.prog g187 187 := by
  intro ρ H w args args' v H' hH hl hg
  unfold g187 at hg
  split at hg
  · obtain ⟨y, r, e, k1, k2⟩ := hl.inv
    have := k2.inv0; subst this; subst e
    split at hg
    · rename_i q hq
      cases hg
      obtain ⟨p, h1, h2⟩ := valOf_inv hH hq k1
      subst h2
      refine lands_eq (x187 _ _) ?_
      exact lands_same hH (type232 _ w) (vr_rT hH _)
    · cases hg
  · cases hg
theorem rlm (z : Sem Value) (f : TypeId → Addr → Nat → Nat → Sem Value) (v : Value) :
    ReflectliteValue.method z f #[v] = (do match ← ReflectliteValue.parts v with | none => z | some (t, a, fl) => f t a fl (fl % 32)) := rfl
theorem ok188 : FnOk Tryz.prog g188 188 := by
  intro ρ H w args args' v H' hH hl hg
  unfold g188 at hg
  split at hg
  · obtain ⟨y, r, e, k1, k2⟩ := hl.inv
    have := k2.inv0; subst this; subst e
    split at hg
    · rename_i b o hq
      obtain ⟨p, h1, h2⟩ := valOf_inv hH hq k1
      subst h2
      split at hg
      · rename_i q hrd
        cases hg
        obtain ⟨p', v', g1, g2, g3⟩ := cell_rd hH hrd
        rw [h1] at g1; cases g1
        refine lands_eq (x188 _ _) ?_
        refine lands_same hH ?_ (.bool false)
        show (ReflectliteValue.method _ _ #[_]).run _ _ = _
        rw [rlm]
        simp only [Sem.run_bind, parts232, Result.andThen]
        cases g2 with
        | ptr _ _ q' hq' => simp [ReflectliteValue.isNil, loadVar, isAgg, underlying, Tryz.underlying232, g3, Result.andThen]
      · cases hg
    · cases hg
  · cases hg
theorem ok190 : FnOk Tryz.prog g190 190 := by
  intro ρ H w args args' v H' hH hl hg
  unfold g190 at hg
  split at hg
  · rename_i t x
    obtain ⟨y, r, e, k1, k2⟩ := hl.inv
    have := k2.inv0; subst this; subst e
    cases k1 with
    | iface _ _ x' hx =>
    split at hg
    · rename_i h1
      cases hg
      refine lands_eq (x190 _ _) ?_
      rw [Bool.or_eq_true] at h1
      rcases h1 with h1 | h1
      · have : t = 228 := by simpa using h1
        subst this
        exact lands_same hH (typeOf228 x' w) (vr_rT hH _)
      · have : t = 30 := by simpa using h1
        subst this
        exact lands_same hH (typeOf30 x' w) (vr_rT hH _)
    · cases hg
  · cases hg
theorem ok192 : FnOk Tryz.prog g192 192 := by
  intro ρ H w args args' v H' hH hl hg
  unfold g192 at hg
  split at hg
  · obtain ⟨y, r, e, k1, k2⟩ := hl.inv
    have := k2.inv0; subst this; subst e
    split at hg
    · rename_i b o hq
      obtain ⟨p, h1, h2⟩ := valOf_inv hH hq k1
      subst h2
      split at hg
      · rename_i pb po hrd
        cases hg
        obtain ⟨p', v', g1, g2, g3⟩ := cell_rd hH hrd
        rw [h1] at g1; cases g1
        refine lands_eq (x192 _ _) ?_
        cases g2 with
        | ptr _ _ q' hq' =>
        refine lands_same hH (v' := rV 30 ⟨q'.blk, q'.off + po, none⟩ 386) ?_ (vr_list3 (vr_hT hH 30) (.ptr _ _ _ hq') (.int _ _))
        show (ReflectliteValue.method _ _ #[_]).run _ _ = _
        rw [rlm]
        simp only [Sem.run_bind, parts232, Result.andThen]
        simp [ReflectliteValue.elem, loadVar, isAgg, underlying, Tryz.underlying232, g3, Result.andThen, elemOf232, mk30]
      · cases hg
    · cases hg
  · cases hg
theorem ok208 : FnOk Tryz.prog g208 208 := by
  intro ρ H w args args' v H' hH hl hg
  unfold g208 at hg
  split at hg
  · obtain ⟨y, r, e, k1, k2⟩ := hl.inv
    have := k2.inv0; subst this; subst e
    refine lands_eq (x208 _ _) ?_
    split at hg
    · rename_i h1
      cases hg
      rw [isH_inv hH h1 k1]
      exact lands_same hH (kind232 w) (.int _ _)
    · rename_i h1 h2 h3
      cases hg
      rw [isH_inv hH h2 k1]
      exact lands_same hH (kind30 w) (.int _ _)
    · cases hg
  · cases hg
theorem ok220 : FnOk Tryz.prog g220 220 := by
  intro ρ H w args args' v H' hH hl hg
  unfold g220 at hg
  split at hg
  · obtain ⟨y, r, e, k1, k2⟩ := hl.inv
    obtain ⟨z, r2, e2, k3, k4⟩ := k2.inv
    have := k4.inv0; subst this; subst e2; subst e
    refine lands_eq (x220 _ _) ?_
    split at hg
    · rename_i h1 h3
      cases hg
      rw [isRec_inv hH h1 k1, isRT_inv hH h3 k3]
      exact lands_same hH (assignable30 w) (.bool _)
    · rename_i h1 h2 h3 h4
      cases hg
      rw [isRec_inv hH h2 k1, isRT_inv hH h3 k3]
      exact lands_same hH (assignable228 w) (.bool _)
    · cases hg
  · cases hg
theorem ok221 : FnOk Tryz.prog g221 221 := by
  intro ρ H w args args' v H' hH hl hg
  unfold g221 at hg
  split at hg
  · obtain ⟨y, r, e, k1, k2⟩ := hl.inv
    have := k2.inv0; subst this; subst e
    refine lands_eq (x221 _ _) ?_
    split at hg
    · rename_i h1
      cases hg
      rw [isRec_inv hH h1 k1]
      exact lands_same hH (comparable30 w) (.bool _)
    · cases hg
  · cases hg
theorem ok222 : FnOk Tryz.prog g222 222 := by
  intro ρ H w args args' v H' hH hl hg
  unfold g222 at hg
  split at hg
  · obtain ⟨y, r, e, k1, k2⟩ := hl.inv
    have := k2.inv0; subst this; subst e
    refine lands_eq (x222 _ _) ?_
    split at hg
    · rename_i h1
      cases hg
      rw [isRec_inv hH h1 k1]
      exact lands_same hH (elem232 w) (vr_rT hH _)
    · cases hg
  · cases hg
theorem ok223 : FnOk Tryz.prog g223 223 := by
  intro ρ H w args args' v H' hH hl hg
  unfold g223 at hg
  split at hg
  · obtain ⟨y, r, e, k1, k2⟩ := hl.inv
    obtain ⟨z, r2, e2, k3, k4⟩ := k2.inv
    have := k4.inv0; subst this; subst e2; subst e
    refine lands_eq (x223 _ _) ?_
    split at hg
    · rename_i h1 h2
      cases hg
      rw [isRec_inv hH h1 k1, isRT_inv hH h2 k3]
      exact lands_same hH (implements30 w) (.bool _)
    · cases hg
  · cases hg

end Go.Proofs.YtaegmplbkbaniaaGreatDoor
