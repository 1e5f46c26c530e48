/-
  THE ABSTRACT MACHINE: every operation that writes memory, against the model's. No condition.
-/
import Derived.Test.YtaegmplbkbaniaaGreatDoorAmEff
set_option linter.all false
namespace Go.Proofs.YtaegmplbkbaniaaGreatDoor
open Go
section
variable {P : Program} {E : Env} {ρ : Nat → Option Pl} {ns : Nat} {H : Hp} {w : World} {t : Tr Value} {a : Act}

theorem under_slc (hE : EOk P E) {T e : TypeId} {n b : Nat} {z : Option (List Value)} {c : Bool} (h : E.ty T = some ⟨.slc e, n, b, z, c⟩) : P.underlying T = some (.slice e) := by
  obtain ⟨d, g1, g2⟩ := ty_under hE h
  have := dk_slc g2; subst this; exact g1
theorem under_map (hE : EOk P E) {T k e : TypeId} {n b : Nat} {z : Option (List Value)} {c : Bool} (h : E.ty T = some ⟨.map k e, n, b, z, c⟩) : P.underlying T = some (.map k e) := by
  obtain ⟨d, g1, g2⟩ := ty_under hE h
  have := dk_map g2; subst this; exact g1

theorem app_sound (hE : EOk P E) (hH : HR ρ ns H w) {T U : TypeId} {k : DK} (hU : dkOf P U = k) (hk : (∃ e, k = .slc e) ∨ k = .str) {ts : Array TypeId} (h0 : ts[0]? = some T) (h1 : ts[1]? = some U) (ty : TypeId)
    {os ox : Od} {s' x' : Value} (vs : VR ρ (os.ev t) s') (vx : VR ρ (ox.ev t) x') {v : Value} {H' : Hp} (h : effA E t H (.app T os ox) = some (v, H')) :
    ∃ v' w' ρ', (Builtin.append_ ts ty #[s', x']).run P w = .ok v' w' ∧ VR ρ' v v' ∧ PR ns ρ H w ρ' H' w' := by
  simp only [effA] at h
  split at h
  · rename_i e z1 z2 z3 z4 hti
    have hu := under_slc hE hti
    split at h
    · rename_i te n hte hn
      split at h
      · rename_i new z hsrc hz
        split at h
        · rename_i hzl
          have hzl : z.length = te.size := by simpa using hzl
          have ht := hE.ty _ _ hte
          obtain ⟨l', g1, g2⟩ := src_sound (P := P) hH hn (Nat.le_refl _) vx hsrc
          obtain ⟨base, sLen, sCap, v', w', ρ', k1, k2, k3, k4⟩ := appA_sound (x := x') (zeros := false) hH ht hz hzl vs h g1 (app := Builtin.firstCells te.size n x') g2
          subst k1
          have hd : ∃ d, P.underlying U = some d ∧ ∀ k, d ≠ .int k := by
            unfold dkOf at hU
            split at hU
            · rename_i d hd
              refine ⟨d, hd, fun j hj => ?_⟩
              subst hj
              rcases hk with ⟨e1, rfl⟩ | rfl <;> cases hU
            · rcases hk with ⟨e1, rfl⟩ | rfl <;> cases hU
          obtain ⟨d, d1, d2⟩ := hd
          refine ⟨v', w', ρ', ?_, k3, k4⟩
          rw [append_core hu ht d1 d2 ts h0 h1 ty base sLen sCap x' n (lenA_sound hn vx w)]
          exact k2
        · cases h
      · cases h
    · cases h
  · cases h

/-- What zeros are appended. -/
def zerosS (elem : TypeId) (size n : Nat) : Sem (Array Value) := if n * size = 0 then pure #[] else do pure (Builtin.zeroCells (← zeroValue elem).cells n)
theorem append_coreZ {sT xT elem : TypeId} {ti : Ti} (hu : P.underlying sT = some (.slice elem)) (ht : tyOf P elem = some ti) {k : IntKind} (hx : P.underlying xT = some (.int k))
    (ts : Array TypeId) (h0 : ts[0]? = some sT) (h1 : ts[1]? = some xT) (ty : TypeId) (base : Option Addr) (sLen sCap : Nat) (j : IntKind) (n : Int) (hn0 : 0 ≤ n) (hn : n ≤ 2 ^ 20) (hb : ti.bytes ≤ 2 ^ 20) :
    (Builtin.append_ ts ty #[.slice base sLen sCap, .int j n]).run P w = (appCore elem ti.size sLen sCap n.toNat base (.slice base sLen sCap) (.int j n) true (zerosS elem ti.size n.toNat)).run P w := by
  obtain ⟨i, d, i1, i2, i3, i4, i5, i6, i7⟩ := tyOf_info ht
  have hw : IntKind.i64.wrap n = n := by
    have : (n + 2 ^ 63).emod (2 ^ 64) = n + 2 ^ 63 := Int.emod_eq_of_lt (by omega) (by omega)
    simp only [IntKind.wrap, IntKind.bits, IntKind.signed] at this ⊢
    simp
    omega
  have h2 : ¬ (n < 0) := by omega
  have h3 : ¬ (n * (i.bytes : Int) > 2 ^ 48) := by
    have hb' : (i.bytes : Int) ≤ 2 ^ 20 := by rw [← i5]; exact_mod_cast hb
    have : n * (i.bytes : Int) ≤ 2 ^ 20 * 2 ^ 20 := Int.mul_le_mul hn hb' (by omega) (by omega)
    omega
  have hai : (asInt (.int j n)).run P w = .ok n w := rfl
  simp only [Builtin.append_, h0, h1, List.getElem?_toArray, List.getElem?_cons_zero, List.getElem?_cons_succ, Sem.run_bind, run_underlying hu, Result.andThen_ok, run_sizeOf ht, run_underlying hx, Sem.run_pure, if_true, hai, hw, if_neg h2, run_info i1, if_neg h3]
  simp only [appCore, zerosS, Bool.not_true, Bool.false_eq_true, if_false, true_or, and_true, if_true]
  rfl
theorem appz_sound (hE : EOk P E) (hH : HR ρ ns H w) {T U : TypeId} {k : IntKind} (hU : dkOf P U = .int k) {ts : Array TypeId} (h0 : ts[0]? = some T) (h1 : ts[1]? = some U) (ty : TypeId)
    {os ox : Od} {s' x' : Value} (vs : VR ρ (os.ev t) s') (vx : VR ρ (ox.ev t) x') {v : Value} {H' : Hp} (h : effA E t H (.appz T os ox) = some (v, H')) :
    ∃ v' w' ρ', (Builtin.append_ ts ty #[s', x']).run P w = .ok v' w' ∧ VR ρ' v v' ∧ PR ns ρ H w ρ' H' w' := by
  simp only [effA] at h
  split at h
  · rename_i e z1 z2 z3 z4 j n hti hx
    have hu := under_slc hE hti
    rw [hx] at vx; cases vx
    split at h
    · rename_i te hte
      split at h
      · rename_i z hz
        split at h
        · rename_i hc
          obtain ⟨c1, c2, c3, c4⟩ := hc
          have ht := hE.ty _ _ hte
          obtain ⟨zv, y1, y2, y3, y4⟩ := run_zero ht hz w
          have hrun : ∀ w2 : World, w2.heap = w.heap → (zerosS e te.size n.toNat).run P w2 = .ok (rep z n.toNat).toArray w2 := fun w2 _ => by
            obtain ⟨zv, y1, y2, y3, y4⟩ := run_zero ht hz w2
            unfold zerosS
            by_cases h0 : n.toNat * te.size = 0
            · rw [if_pos h0]
              have : rep z n.toNat = [] := List.length_eq_zero_iff.1 (by rw [rep_length, c4]; exact h0)
              rw [this]; rfl
            · rw [if_neg h0]
              simp only [Sem.run_bind, y1, Result.andThen_ok, Sem.run_pure]
              congr 1
              apply Array.toList_inj.1
              unfold Builtin.zeroCells
              have := zeros_list (z := zv.cells) n.toNat
              rw [y2] at this
              simpa using this
          obtain ⟨base, sLen, sCap, v', w', ρ', k1, k2, k3, k4⟩ := appA_sound (x := .int j n) (zeros := true) hH ht hz c4 vs h (lr_scal (rep_scal y3 _)) (app := zerosS e te.size n.toNat) hrun
          subst k1
          have hd : P.underlying U = some (.int k) := by
            unfold dkOf at hU
            split at hU
            · rename_i d hd
              have := dk_int hU.symm; subst this; exact hd
            · cases hU
          refine ⟨v', w', ρ', ?_, k3, k4⟩
          rw [append_coreZ hu ht hd ts h0 h1 ty base sLen sCap j n c1 c2 c3]
          exact k2
        · cases h
      · cases h
    · cases h
  · cases h

theorem clr_sound (hE : EOk P E) (hH : HR ρ ns H w) {T : TypeId} {ts : Array TypeId} (h0 : ts[0]? = some T) (ty : TypeId) {ox : Od} {x' : Value} (vx : VR ρ (ox.ev t) x') {v : Value} {H' : Hp} (h : effA E t H (.clr T ox) = some (v, H')) :
    ∃ v' w' ρ', (Builtin.clear_ ts ty #[x']).run P w = .ok v' w' ∧ VR ρ' v v' ∧ PR ns ρ H w ρ' H' w' := by
  have tup : ∀ ρ, VR ρ (.tuple #[]) (.tuple #[]) := fun ρ => VR.undef
  simp only [effA] at h
  split at h
  · rename_i e z1 z2 z3 z4 n c hti hx
    have hu := under_slc hE hti
    rw [hx] at vx; cases h; cases vx
    refine ⟨_, w, ρ, ?_, tup _, .refl hH⟩
    simp only [Builtin.clear_, h0, List.getElem?_toArray, List.getElem?_cons_zero, Sem.run_bind, run_underlying hu, Result.andThen_ok, Sem.run_pure]
  · rename_i e z1 z2 z3 z4 b o sp c hti hx
    have hu := under_slc hE hti
    rw [hx] at vx; cases h; cases vx
    refine ⟨_, w, ρ, ?_, tup _, .refl hH⟩
    simp only [Builtin.clear_, h0, List.getElem?_toArray, List.getElem?_cons_zero, Sem.run_bind, run_underlying hu, Result.andThen_ok, Sem.run_pure]
  · rename_i e z1 z2 z3 z4 b o sp n c hti hx
    have hu := under_slc hE hti
    rw [hx] at vx
    split at h
    · rename_i te hte
      split at h
      · rename_i z hz
        split at h
        · rename_i hc
          split at h
          · rename_i H2 hw
            cases h
            obtain ⟨c1, c2⟩ := hc
            cases vx with
            | sl _ _ _ _ _ o' cap' p hp hlc hcc he ho hlo hhi =>
            obtain ⟨zv, y1, y2, y3, y4⟩ := run_zero (hE.ty _ _ hte) hz w
            obtain ⟨q, w', k1, k2, k3⟩ := hH.wrRun P hw (lr_scal (rep_scal y3 (n + 1)))
            rw [hp] at k1; cases k1
            refine ⟨_, w', ρ, ?_, tup _, k3⟩
            have hzl : (Builtin.zeroCells zv.cells (n + 1)).toList = rep z (n + 1) := by
              unfold Builtin.zeroCells
              have := zeros_list (z := zv.cells) (n + 1)
              rwa [y2] at this
            rw [← ho (by omega)] at k2
            simp only [Builtin.clear_, h0, List.getElem?_toArray, List.getElem?_cons_zero, Sem.run_bind, run_underlying hu, Result.andThen_ok, Sem.run_pure, y1, hzl, k2]
          · cases h
        · cases h
      · cases h
    · cases h
  · cases h

/-- WRITING OPERATIONS. -/
theorem eff_sound (hE : EOk P E) (hT : TR ρ t a.tmps) (hS : SR P ρ) (hH : HR ρ ns H w) {o : Oper} {p : Ei} (hc : cOp P o.op = .e p) {v : Value} {H' : Hp} (hv : effA E t H p = some (v, H')) :
    Eff P ρ ns H w v H' (execOp a.eval o) := by
  unfold cOp at hc
  split at hc
  case h_2 => cases hc
  rename_i b hb
  subst hc
  obtain ⟨dst, op, type, pos, after, guard⟩ := o
  simp only at hb
  cases op
  case store T x y =>
    simp only [cOp1] at hb
    split at hb
    · rename_i ox oy h1 h2
      cases hb
      have vx := od_sound hT hS h1
      have vy := od_sound hT hS h2
      simp only [effA] at hv
      split at hv
      · rename_i ti b o hti hx
        rw [hx] at vx
        split at hv
        · rename_i hsz
          split at hv
          · rename_i H2 hw
            cases hv
            simp only [execOp]
            generalize a.eval x = x' at vx ⊢
            cases vx with
            | ptr _ _ p hp =>
            obtain ⟨q, w', k1, k2, k3⟩ := store_sound hE hH hti vy (by simpa using hsz) hw
            rw [hp] at k1; cases k1
            exact eff_skip (s := Instr.storeAt T (.pointer (some ⟨p.blk, p.off + o, none⟩)) (a.eval y)) ⟨w', ρ, k2, k3⟩
          · cases hv
        · cases hv
      · cases hv
    · cases hb
  case mapUpdate T m k x =>
    simp only [cOp1] at hb
    split at hb
    · rename_i om ok ox h1 h2 h3
      cases hb
      have vm := od_sound hT hS h1
      have vk := od_sound hT hS h2
      have vx := od_sound hT hS h3
      simp only [effA] at hv
      split at hv
      · rename_i kt et z1 z2 z3 z4 r hti hm
        have hu := under_map hE hti
        rw [hm] at vm
        split at hv
        · rename_i kti es hkt hg
          simp only [execOp]
          generalize a.eval m = m' at vm ⊢
          cases vm with
          | map _ p hp =>
          have fin : kti.k.keyOk (ok.ev t) = true → (match findA (ok.ev t) es 0 with
              | some (some (i, _)) => some (H.put r (some (.map (es.set i (ok.ev t, ox.ev t)))))
              | some none => some (H.put r (some (.map (es ++ [(ok.ev t, ox.ev t)]))))
              | none => none) = some H' → v = undef → Eff P ρ ns H w v H' (do Instr.mapUpdate T (.map (some p.blk)) (a.eval k) (a.eval x); pure .skip) := fun hko hh he => by
            subst he
            rw [vr_ofScal (keyOk_scal hko) vk]
            obtain ⟨w', k1, k2⟩ := mupd_sound hE hH hu hkt hg hko vx hp hh
            exact eff_skip ⟨w', ρ, k1, k2⟩
          split at hv
          · rename_i i u hko hf
            cases hv
            exact fin hko (by rw [hf]) rfl
          · rename_i hko hf
            cases hv
            exact fin hko (by rw [hf]) rfl
          · cases hv
        · cases hv
      · cases hv
    · cases hb
  case convert s d x =>
    simp only [cOp1] at hb
    split at hb
    · cases hb
    · cases hb
    · split at hb <;> cases hb
    · split at hb <;> cases hb
    · rename_i e e' ox h1 h2 h3
      split at hb
      · rename_i he
        split at hb
        · rename_i hsd
          obtain ⟨hs, he2⟩ := hsd
          subst hs; subst he2
          cases hb
          obtain ⟨ds, g1, g2⟩ := dk_under h1 (by simp)
          obtain ⟨de, g5, g6⟩ := dk_under he (by simp)
          have := dk_slc g2.symm; subst this
          have := dk_int g6.symm; subst this
          have vx := od_sound hT hS h3
          simp only [effA] at hv
          split at hv
          · rename_i b o sp len cap hx
            rw [hx] at vx
            split at hv
            · rename_i c s0 hg
              cases hv
              obtain ⟨w', k1, k2⟩ := mkb_sound hH hg vx g1 g5
              simp only [execOp]
              exact eff_val ⟨_, w', ρ, k1, vx, k2⟩
            · cases hv
          · cases hv
        · cases hb
      · cases hb
    · cases hb
  case call c =>
    obtain ⟨callee, args, tys⟩ := c
    cases hcs : cOds P args.toList with
    | none => cases callee <;> (simp only [cOp1, hcs] at hb; cases hb)
    | some as =>
      cases callee with
      | value f => simp only [cOp1, hcs] at hb; obtain ⟨_, _, h2⟩ := map_some_inv hb; cases h2
      | invoke x m => simp only [cOp1, hcs] at hb; obtain ⟨_, _, h2⟩ := map_some_inv hb; cases h2
      | builtin bi =>
        simp only [cOp1, hcs] at hb
        have e : args.map a.eval = (args.toList.map a.eval).toArray := by
          apply Array.toList_inj.1; rw [Array.toList_map]
        have hl := ods_sound hT hS hcs
        unfold cBuiltin at hb
        split at hb
        · rename_i os ox T h0
          simp only [List.map_cons, List.map_nil] at hl
          obtain ⟨s', r, e1, vs, hr⟩ := hl.inv
          obtain ⟨x', r, e2, vx, hr⟩ := hr.inv
          have := hr.inv0; subst this
          subst e2
          split at hb
          · rename_i U h1
            split at hb
            · rename_i k9 hU
              cases hb
              simp only [execOp, resolve, Sem.run_bind, Sem.run_pure, Result.andThen_ok, invoke, builtin]
              rw [e, e1]
              exact eff_val (appz_sound hE hH hU h0 h1 _ vs vx hv)
            · rename_i e9 hU
              cases hb
              simp only [execOp, resolve, Sem.run_bind, Sem.run_pure, Result.andThen_ok, invoke, builtin]
              rw [e, e1]
              exact eff_val (app_sound hE hH hU (.inl ⟨_, rfl⟩) h0 h1 _ vs vx hv)
            · rename_i hU
              cases hb
              simp only [execOp, resolve, Sem.run_bind, Sem.run_pure, Result.andThen_ok, invoke, builtin]
              rw [e, e1]
              exact eff_val (app_sound hE hH hU (.inr rfl) h0 h1 _ vs vx hv)
            · cases hb
          · cases hb
        · split at hb <;> cases hb
        · split at hb <;> cases hb
        · rename_i od os T h0
          cases hb
          simp only [List.map_cons, List.map_nil] at hl
          obtain ⟨d', r, e1, vd, hr⟩ := hl.inv
          obtain ⟨s', r, e2, vs, hr⟩ := hr.inv
          have := hr.inv0; subst this
          subst e2
          simp only [execOp, resolve, Sem.run_bind, Sem.run_pure, Result.andThen_ok, invoke, builtin]
          rw [e, e1]
          simp only [effA] at hv
          split at hv
          · rename_i e9 z1 z2 z3 z4 da dl dc hti hd
            have hu := under_slc hE hti
            rw [hd] at vd
            split at hv
            · rename_i te sl hte hsl
              split at hv
              · rename_i H2 hh
                cases hv
                obtain ⟨base, dc', new, w', k1, k2, k3, k4⟩ := cpy_sound (P := P) hH rfl vd vs hsl hh
                subst k1
                exact eff_val ⟨_, w', ρ, run_copy hu (hE.ty _ _ hte) _ h0 _ _ _ _ _ _ (lenA_sound hsl vs w) k2 k3, .int _ _, k4⟩
              · cases hv
            · cases hv
          · cases hv
        · rename_i ox T h0
          split at hb
          · cases hb
            simp only [List.map_cons, List.map_nil] at hl
            obtain ⟨x', r, e1, vx, hr⟩ := hl.inv
            have := hr.inv0; subst this
            simp only [execOp, resolve, Sem.run_bind, Sem.run_pure, Result.andThen_ok, invoke, builtin]
            rw [e, e1]
            exact eff_val (clr_sound hE hH h0 _ vx hv)
          · cases hb
        · cases hb
        · cases hb
        · cases hb
  all_goals first
    | (simp only [cOp1] at hb; cases hb; done)
    | (obtain ⟨_, _, h2⟩ := map_some_inv hb; cases h2; done)
    | (simp only [cOp1] at hb; split at hb <;> cases hb; done)
    | (rename_i T r; cases r <;> (simp only [cOp1] at hb; cases hb); done)
    | (rename_i fn _ _; cases fn <;> simp only [cOp1] at hb <;> first | (cases hb; done) | (split at hb <;> cases hb); done)
    | (simp only [cOp1] at hb; split at hb <;> first | (cases hb; done) | (split at hb <;> cases hb); done)
end

end Go.Proofs.YtaegmplbkbaniaaGreatDoor
