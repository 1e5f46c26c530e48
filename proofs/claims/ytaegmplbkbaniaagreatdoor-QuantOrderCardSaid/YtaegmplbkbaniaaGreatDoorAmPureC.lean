/-
  THE ABSTRACT MACHINE: fields, elements, assertions, and all operations that ask nothing of memory in one statement. No condition.
-/
import Derived.Test.YtaegmplbkbaniaaGreatDoorAmPureB
set_option linter.all false
namespace Go.Proofs.YtaegmplbkbaniaaGreatDoor
open Go
section
variable {P : Program} {E : Env} {ρ : Nat → Option Pl} {w : World} {t : Tr Value} {a : Act}

theorem fld_at {f : Array Field} {i off : Nat} {ft : TypeId} (h : (f.toList.map fun f => (f.offset, f.type))[i]? = some (off, ft)) : ∃ x, f[i]? = some x ∧ x.offset = off ∧ x.type = ft := by
  rw [List.getElem?_map] at h
  cases hx : f[i]? with
  | none => rw [Array.getElem?_toList, hx] at h; cases h
  | some x => rw [Array.getElem?_toList, hx] at h; cases h; exact ⟨x, rfl, rfl, rfl⟩
theorem fadr_sound (hE : EOk P E) {T : TypeId} {i : Nat} {x x' v : Value} (hx : VR ρ x x')
    (hv : fadrA E T i x = some v) : ∃ v', (Instr.fieldAt T x' i).run P w = .ok v' w ∧ VR ρ v v' := by
  unfold fadrA at hv
  split at hv
  · rename_i fs _ _ _ _ b o hti
    split at hv
    · rename_i off ft hf
      split at hv
      · rename_i tf htf
        split at hv
        · cases hv
        · rename_i hsz
          cases hv
          obtain ⟨d, h1, h2⟩ := ty_under hE hti
          obtain ⟨f, rfl, rfl⟩ := dk_strc h2
          obtain ⟨fd, g1, g2, g3⟩ := fld_at hf
          cases hx with
          | ptr _ _ p hp =>
          refine ⟨.pointer (some ⟨p.blk, p.off + (o + off), none⟩), ?_, .ptr _ _ p hp⟩
          simp only [Instr.fieldAt, Sem.run_bind, run_underlying h1, Result.andThen_ok, g1, Instr.sureAddr, Sem.run_pure, fieldPlace, g3, run_sizeOf (hE.ty _ _ htf)]
          rw [if_neg hsz]
          simp only [Sem.run_pure, Result.andThen_ok, add_plain, g2, Nat.add_assoc]
      · cases hv
    · cases hv
  · cases hv
theorem lr_of_agg {cs : Array Value} {x' : Value} (h : VR ρ (.agg cs) x') : ∃ l' : List Value, x' = .agg ⟨l'⟩ ∧ LR ρ cs.toList l' := by
  cases h with
  | agg _ c' hc h => exact ⟨c'.toList, rfl, LR.arr hc h⟩
theorem fld_sound (hE : EOk P E) {T : TypeId} {i : Nat} {x x' v : Value} (hx : VR ρ x x')
    (hv : fldA E T i x = some v) : ∃ v', (Instr.field T x' i).run P w = .ok v' w ∧ VR ρ v v' := by
  unfold fldA at hv
  split at hv
  · rename_i fs _ _ _ _ cs hti
    split at hv
    · rename_i off ft hf
      split at hv
      · rename_i tf htf
        split at hv
        · rename_i hb
          obtain ⟨d, h1, h2⟩ := ty_under hE hti
          obtain ⟨f, rfl, rfl⟩ := dk_strc h2
          obtain ⟨fd, g1, g2, g3⟩ := fld_at hf
          obtain ⟨l', rfl, hl⟩ := lr_of_agg hx
          obtain ⟨v', k1, k2⟩ := run_part (hE.ty _ _ htf) hl off (Nat.eq_of_beq_eq_true hb) hv w
          refine ⟨v', ?_, k2⟩
          simp only [Instr.field, Sem.run_bind, run_underlying h1, Result.andThen_ok, g1, asAgg, Sem.run_pure, g2, g3, k1]
        · cases hv
      · cases hv
    · cases hv
  · cases hv
theorem iadr_sound (hE : EOk P E) {T : TypeId} {x x' i i' v : Value} (hx : VR ρ x x') (hi : VR ρ i i')
    (hv : iadrA E T x i = some v) : ∃ v', (Instr.indexAt T x' i').run P w = .ok v' w ∧ VR ρ v v' := by
  unfold iadrA at hv
  split at hv
  · rename_i e _ _ _ _ b o s len cap k n hti
    split at hv
    · rename_i te hte
      split at hv
      · rename_i hn
        cases hv
        obtain ⟨d, h1, h2⟩ := ty_under hE hti
        have := dk_slc h2; subst this
        cases hi
        cases hx with
        | sl _ _ _ _ _ o' cap' p hp hl hc he ho hlo hhi =>
        have hpos : 0 < cap := by omega
        have ho' := ho hpos
        refine ⟨.pointer (some ⟨p.blk, p.off + (o + n.toNat * te.size), none⟩), ?_, .ptr _ _ p hp⟩
        simp only [Instr.indexAt, asIntOf, Sem.run_bind, Sem.run_pure, run_underlying h1, Result.andThen_ok]
        rw [if_pos hn]
        simp only [Sem.run_bind, run_sizeOf (hE.ty _ _ hte), Result.andThen_ok, Sem.run_pure, add_plain, ho', Nat.add_assoc]
      · cases hv
    · cases hv
  · rename_i m e _ _ _ _ b o k n hti
    split at hv
    · rename_i te hte
      split at hv
      · rename_i hn
        cases hv
        obtain ⟨d, h1, h2⟩ := ty_under hE hti
        have := dk_arr h2; subst this
        cases hi
        cases hx with
        | ptr _ _ p hp =>
        refine ⟨.pointer (some ⟨p.blk, p.off + (o + n.toNat * te.size), none⟩), ?_, .ptr _ _ p hp⟩
        simp only [Instr.indexAt, asIntOf, Sem.run_bind, Sem.run_pure, run_underlying h1, Result.andThen_ok, Instr.sureAddr]
        rw [if_pos hn]
        simp only [Sem.run_bind, run_sizeOf (hE.ty _ _ hte), Result.andThen_ok, Sem.run_pure, add_plain, Nat.add_assoc]
      · cases hv
    · cases hv
  · cases hv
theorem idx_sound (hE : EOk P E) {T : TypeId} {x x' i i' v : Value} (hx : VR ρ x x') (hi : VR ρ i i')
    (hv : idxA E T x i = some v) : ∃ v', (Instr.index T x' i').run P w = .ok v' w ∧ VR ρ v v' := by
  unfold idxA at hv
  split at hv
  · rename_i _ _ _ _ s k n hti
    split at hv
    · rename_i hn
      split at hv
      · rename_i b hb
        cases hv
        obtain ⟨d, h1, h2⟩ := ty_under hE hti
        have := dk_str h2; subst this
        cases hi; cases hx
        refine ⟨_, ?_, .int _ _⟩
        simp only [Instr.index, asIntOf, Sem.run_bind, Sem.run_pure, run_underlying h1, Result.andThen_ok]
        rw [if_pos hn, hb]; rfl
      · cases hv
    · cases hv
  · rename_i m e _ _ _ _ cs k n hti
    split at hv
    · rename_i te hte
      split at hv
      · rename_i hn
        split at hv
        · rename_i hb
          obtain ⟨d, h1, h2⟩ := ty_under hE hti
          have := dk_arr h2; subst this
          cases hi
          obtain ⟨l', rfl, hl⟩ := lr_of_agg hx
          obtain ⟨v', k1, k2⟩ := run_part (hE.ty _ _ hte) hl _ (Nat.eq_of_beq_eq_true hb) hv w
          refine ⟨v', ?_, k2⟩
          simp only [Instr.index, asIntOf, Sem.run_bind, Sem.run_pure, run_underlying h1, Result.andThen_ok]
          rw [if_pos hn]
          simp only [Sem.run_bind, run_sizeOf (hE.ty _ _ hte), Result.andThen_ok, k1]
        · cases hv
      · cases hv
    · cases hv
  · cases hv
theorem vr_pair {v v' : Value} (h : VR ρ v v') (b : Bool) : VR ρ (.tuple #[v, .bool b]) (.tuple #[v', .bool b]) :=
  LR.tuple (.cons h (.one (.bool b)))
theorem tasF_sound (hE : EOk P E) {U : TypeId} {ti : Ti} (hti : E.ty U = some ti) {ok : Bool} {v : Value} (h : tasF ti ok = some v) :
    ok = true ∧ ∃ z, (zeroValue U).run P w = .ok z w ∧ v = .tuple #[z, .bool false] ∧ VR ρ v v := by
  unfold tasF at h
  split at h
  · rename_i z hz
    cases h
    obtain ⟨h1, h2⟩ := run_zv (hE.ty _ _ hti) hz ρ w
    exact ⟨rfl, z, h1, rfl, vr_pair h2 false⟩
  · cases h
theorem tasH_sound {ok : Bool} {v v' : Value} (h : VR ρ v v') : VR ρ (tasH ok v) (if ok = true then .tuple #[v', .bool true] else v') := by
  cases ok
  · exact h
  · exact vr_pair h true
theorem tas_sound (hE : EOk P E) {T U : TypeId} {ti : Ti} (hti : E.ty U = some ti) {ok : Bool} {x x' v : Value} (hx : VR ρ x x')
    (hv : tasA E ti U ok x = some v) : ∃ v', (Instr.typeAssert x' T U ok).run P w = .ok v' w ∧ VR ρ v v' := by
  obtain ⟨d0, h1, h2⟩ := ty_under hE hti
  unfold tasA at hv
  split at hv
  · cases hx
    obtain ⟨rfl, z, k1, rfl, k3⟩ := tasF_sound (w := w) (ρ := ρ) hE hti hv
    refine ⟨_, ?_, k3⟩
    cases d0 <;> simp only [Instr.typeAssert, Sem.run_bind, run_underlying h1, Result.andThen_ok, if_true, k1, Sem.run_pure]
  · rename_i _ d v0
    cases hx with
    | iface _ _ v1 hv1 =>
    split at hv
    · rename_i hk
      obtain ⟨ms, rfl⟩ := dk_iface (hk ▸ h2)
      split at hv
      · rename_i hi
        cases hv
        obtain ⟨want, info, g1, g2, g3⟩ := hE.impl _ _ _ hi
        rw [h1] at g1; cases g1
        refine ⟨_, ?_, tasH_sound (.iface d v0 v1 hv1)⟩
        cases hm : Instr.missingMethod ms info.methods with
        | none => simp only [Instr.typeAssert, Sem.run_bind, run_underlying h1, Result.andThen_ok, run_info g2, hm, Sem.run_pure]
        | some s => rw [hm] at g3; cases g3
      · rename_i hi
        obtain ⟨want, info, g1, g2, g3⟩ := hE.impl _ _ _ hi
        rw [h1] at g1; cases g1
        obtain ⟨rfl, z, k1, rfl, k3⟩ := tasF_sound (w := w) (ρ := ρ) hE hti hv
        refine ⟨_, ?_, k3⟩
        cases hm : Instr.missingMethod ms info.methods with
        | none => rw [hm] at g3; cases g3
        | some s => simp only [Instr.typeAssert, Sem.run_bind, run_underlying h1, Result.andThen_ok, run_info g2, hm, if_true, k1, Sem.run_pure]
      · cases hv
    · rename_i hk
      have hnot : ∀ ms, d0 ≠ .interface ms := fun ms e => by subst e; exact hk h2
      split at hv
      · rename_i hb
        have := Nat.eq_of_beq_eq_true hb; subst this
        cases hv
        refine ⟨_, ?_, tasH_sound hv1⟩
        cases d0 <;> first
          | (exact absurd rfl (hnot _))
          | simp only [Instr.typeAssert, Sem.run_bind, run_underlying h1, Result.andThen_ok, if_true, Sem.run_pure]
      · rename_i hb
        have hne : d ≠ U := fun e => by subst e; rw [Nat.beq_refl] at hb; cases hb
        obtain ⟨rfl, z, k1, rfl, k3⟩ := tasF_sound (w := w) (ρ := ρ) hE hti hv
        refine ⟨_, ?_, k3⟩
        cases d0 <;> first
          | (exact absurd rfl (hnot _))
          | simp only [Instr.typeAssert, Sem.run_bind, run_underlying h1, Result.andThen_ok, if_neg hne, if_true, k1, Sem.run_pure]
  · cases hv
theorem foldO_mn : ∀ (r : List Value) (x v : Value) {r' : List Value} {x' : Value}, VR ρ x x' → LR ρ r r' → foldO mn2 x r = some v → ∃ v', (r'.foldlM Builtin.min2 x').run P w = .ok v' w ∧ VR ρ v v'
  | [], x, v, r', x', hx, hr, h => by
    simp only [foldO] at h; cases h
    rw [hr.inv0]; exact ⟨x', rfl, hx⟩
  | y :: r, x, v, r', x', hx, hr, h => by
    obtain ⟨y', r2, rfl, hy, hr2⟩ := hr.inv
    simp only [foldO] at h
    split at h
    · rename_i c hc
      unfold mn2 at hc
      split at hc
      · cases hc; cases hx; cases hy
        obtain ⟨v', k1, k2⟩ := foldO_mn r _ v (.int _ _) hr2 h
        refine ⟨v', ?_, k2⟩
        simp only [List.foldlM_cons, Sem.run_bind, Builtin.min2, Sem.run_pure, Result.andThen_ok, k1]
      · cases hc
    · cases h
theorem foldO_mx : ∀ (r : List Value) (x v : Value) {r' : List Value} {x' : Value}, VR ρ x x' → LR ρ r r' → foldO mx2 x r = some v → ∃ v', (r'.foldlM Builtin.max2 x').run P w = .ok v' w ∧ VR ρ v v'
  | [], x, v, r', x', hx, hr, h => by
    simp only [foldO] at h; cases h
    rw [hr.inv0]; exact ⟨x', rfl, hx⟩
  | y :: r, x, v, r', x', hx, hr, h => by
    obtain ⟨y', r2, rfl, hy, hr2⟩ := hr.inv
    simp only [foldO] at h
    split at h
    · rename_i c hc
      unfold mx2 at hc
      split at hc
      · cases hc; cases hx; cases hy
        obtain ⟨v', k1, k2⟩ := foldO_mx r _ v (.int _ _) hr2 h
        refine ⟨v', ?_, k2⟩
        simp only [List.foldlM_cons, Sem.run_bind, Builtin.max2, Sem.run_pure, Result.andThen_ok, k1]
      · cases hc
    · cases h
end

end Go.Proofs.YtaegmplbkbaniaaGreatDoor
