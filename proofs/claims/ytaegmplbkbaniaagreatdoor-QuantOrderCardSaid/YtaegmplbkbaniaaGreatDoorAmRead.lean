/-
  THE ABSTRACT MACHINE: the operations that read memory, against the model's. No condition.
-/
import Derived.Test.YtaegmplbkbaniaaGreatDoorAmPureD
set_option linter.all false
namespace Go.Proofs.YtaegmplbkbaniaaGreatDoor
open Go
section
variable {P : Program} {E : Env} {ρ : Nat → Option Pl} {ns : Nat} {H : Hp} {w : World} {t : Tr Value} {a : Act}

theorem dk_under {T : TypeId} {k : DK} (h : dkOf P T = k) (hne : k ≠ .oth) : ∃ d, P.underlying T = some d ∧ dk d = k := by
  unfold dkOf at h
  split at h
  · rename_i d hd; exact ⟨d, hd, h⟩
  · exact absurd h.symm hne
theorem load_sound (hE : EOk P E) (hH : HR ρ ns H w) {T : TypeId} {ti : Ti} (hti : E.ty T = some ti) {b o : Nat} {l : List Value} (hr : H.rd b o ti.size = some l) {v : Value} (hv : asV ti l = some v) :
    ∃ p v', ρ b = some p ∧ (loadVar T ⟨p.blk, p.off + o, none⟩).run P w = .ok v' w ∧ VR ρ v v' := by
  cases ha : ti.k.agg with
  | true =>
    obtain ⟨p, l', h1, h2, h3, h4⟩ := hH.rdRun P hr
    rw [asV_agg ha] at hv; cases hv
    refine ⟨p, .agg ⟨l'⟩, h1, ?_, LR.agg h2⟩
    simp only [loadVar, Sem.run_bind, run_isAgg (hE.ty _ _ hti), ha, Result.andThen_ok, if_true, run_sizeOf (hE.ty _ _ hti), h4, Sem.run_pure]
  | false =>
    obtain ⟨p, l', h1, h2, h3, h4⟩ := hH.rd hr
    have := asV_one ha hv; subst this
    obtain ⟨v', r, rfl, h5, h6⟩ := h2.inv
    have h7 := h4 0 (by simp at h3; omega)
    refine ⟨p, v', h1, ?_, h5⟩
    simp only [Nat.add_zero, List.getElem?_cons_zero] at h7
    simp only [loadVar, Sem.run_bind, run_isAgg (hE.ty _ _ hti), ha, Result.andThen_ok, Bool.false_eq_true, if_false, run_load, h7]
/-- What was found, and what the model finds. -/
def FR (ρ : Nat → Option Pl) (i n : Nat) : Option (Nat × Value) → Option (Nat × Value) → Prop
  | none, none => True
  | some (j, v), some (j', v') => j = j' ∧ VR ρ v v' ∧ i ≤ j ∧ j < i + n
  | _, _ => False
theorem find_sound (d : TypeDesc) : ∀ {es : List (Value × Value)} {ents : List MapEntry} {k : Value} {i : Nat} {r : Option (Nat × Value)}, (dk d).keyOk k = true → es.length = ents.length →
    (∀ (i : Nat) (k v : Value) (e : MapEntry), es[i]? = some (k, v) → ents[i]? = some e → scal k = true ∧ e.key = k ∧ VR ρ v e.val) → findA k es i = some r →
    ∃ r', Instr.findNow d k ents i = some r' ∧ FR ρ i es.length r r'
  | [], [], k, i, r, _, _, _, h => by simp only [findA] at h; cases h; exact ⟨none, rfl, trivial⟩
  | (k', v0) :: es, e :: ents, k, i, r, hk, hlen, hes, h => by
    obtain ⟨h1, h2, h3⟩ := hes 0 k' v0 e rfl rfl
    have hrest : ∀ (i : Nat) (k v : Value) (e : MapEntry), es[i]? = some (k, v) → ents[i]? = some e → scal k = true ∧ e.key = k ∧ VR ρ v e.val := fun i k v e a b => hes (i + 1) k v e (by simpa using a) (by simpa using b)
    have hl : es.length = ents.length := by simpa using hlen
    have again : findA k es (i + 1) = some r → ∃ r', Instr.findNow d k ents (i + 1) = some r' ∧ FR ρ i ((k', v0) :: es).length r r' := fun hh => by
      obtain ⟨r', g1, g2⟩ := find_sound d hk hl hrest hh
      refine ⟨r', g1, ?_⟩
      revert g2
      cases r <;> cases r' <;> simp only [FR, imp_self]
      rintro ⟨g3, g4, g5, g6⟩
      exact ⟨g3, g4, by omega, by simp; omega⟩
    simp only [findA] at h
    split at h
    · rename_i j x j' y
      split at h
      · rename_i hj; subst hj
        cases d <;> simp only [dk, DK.keyOk] at hk <;> first | cases hk; done | skip
        split at h
        · rename_i hxy; subst hxy
          cases h
          refine ⟨some (i, e.val), ?_, rfl, h3, Nat.le_refl _, by simp⟩
          simp [Instr.findNow, h2, Instr.sameNow]
        · rename_i hxy
          obtain ⟨r', g1, g2⟩ := again h
          refine ⟨r', ?_, g2⟩
          have : (x == y) = false := by simpa using hxy
          simp only [Instr.findNow, h2, Instr.sameNow, if_true, this]; exact g1
      · cases h
    · rename_i x y
      cases d <;> simp only [dk, DK.keyOk] at hk <;> first | cases hk; done | skip
      split at h
      · rename_i hxy
        cases h
        refine ⟨some (i, e.val), ?_, rfl, h3, Nat.le_refl _, by simp⟩
        simp [Instr.findNow, h2, Instr.sameNow, hxy]
      · rename_i hxy
        obtain ⟨r', g1, g2⟩ := again h
        refine ⟨r', ?_, g2⟩
        have : (x == y) = false := by simpa using hxy
        simp only [Instr.findNow, h2, Instr.sameNow, this]; exact g1
    · cases h
  | [], _ :: _, _, _, _, _, hlen, _, _ => by simp at hlen
  | _ :: _, [], _, _, _, _, hlen, _, _ => by simp at hlen
theorem keyOk_scal {k : DK} {v : Value} (h : k.keyOk v = true) : scal v = true := by
  cases k <;> cases v <;> first | rfl | (simp [DK.keyOk] at h)
theorem run_checkKeyN {T : TypeId} {d : TypeDesc} (hu : P.underlying T = some d) {k : Value} (hk : (dk d).keyOk k = true) (e : Bool) (n : Nat) : (Instr.checkKey e (n + 1) T k).run P w = .ok () w := by
  cases d <;> simp only [dk, DK.keyOk] at hk <;> first | cases hk; done | skip
  all_goals cases k <;> first | (cases hk; done) | (simp only [Instr.checkKey, Sem.run_bind, run_underlying hu, Result.andThen_ok]; rfl)
theorem run_checkKey {T : TypeId} {d : TypeDesc} (hu : P.underlying T = some d) {k : Value} (hk : (dk d).keyOk k = true) (e : Bool) : (Instr.checkKey e 10000 T k).run P w = .ok () w := run_checkKeyN hu hk e 9999
theorem run_findKey {T : TypeId} {d : TypeDesc} (hu : P.underlying T = some d) {k : Value} {ents : List MapEntry} {r : Option (Nat × Value)} (h : Instr.findNow d k ents 0 = some r) : (Instr.findKey T k ents).run P w = .ok r w := by
  simp only [Instr.findKey, Sem.run_bind, run_underlying hu, Result.andThen_ok, h, Sem.run_pure]
theorem run_getObj_map {b : Nat} {es : Array MapEntry} {c : Nat} (h : w.heap[b]? = some (.map es c)) : (getObj b).run P w = .ok (.map es c) w := by
  simp [getObj, Sem.run, h]
theorem bytesOf_spec : ∀ {l : List Value} {bs : List UInt8}, bytesOf l = some bs → ∃ ns : List Int, l = ns.map (Value.int .u8) ∧ bs = ns.map fun n => UInt8.ofNat n.toNat
  | [], bs, h => by simp only [bytesOf] at h; cases h; exact ⟨[], rfl, rfl⟩
  | v :: l, bs, h => by
    unfold bytesOf at h
    split at h
    · rename_i he; cases he
    · rename_i n r he
      cases he
      split at h
      · rename_i l' hl
        cases h
        obtain ⟨ns, h1, h2⟩ := bytesOf_spec hl
        exact ⟨n :: ns, by simp [h1], by simp [h2]⟩
      · cases h
    · cases h
theorem fold_push (ns : List Int) : ∀ (s : ByteArray), ns.foldl (fun r n => r.push (UInt8.ofNat n.toNat)) s = ⟨s.data ++ (ns.map fun n => UInt8.ofNat n.toNat).toArray⟩ := by
  induction ns with
  | nil => intro s; simp
  | cons n ns ih =>
    intro s
    simp only [List.foldl_cons, ih, List.map_cons]
    congr 1
    apply Array.toList_inj.1
    simp [ByteArray.push]
theorem ints_scal (ns : List Int) : (ns.map (Value.int .u8)).all scal = true := by
  induction ns with
  | nil => rfl
  | cons n ns ih => simp only [List.map_cons, List.all_cons, ih, Bool.and_true]; rfl

theorem read_sound (hE : EOk P E) (hT : TR ρ t a.tmps) (hS : SR P ρ) (hH : HR ρ ns H w) {o : Oper} {r : Ri} (hc : cOp P o.op = .r r) {v : Value} (hv : readA E t H r = some v) :
    Gives P ρ w v (execOp a.eval o) := by
  unfold cOp at hc
  split at hc
  case h_2 => cases hc
  rename_i b hb
  subst hc
  obtain ⟨dst, op, type, pos, after, guard⟩ := o
  simp only at hb
  cases op
  case load T x =>
    obtain ⟨ox, h1, h2⟩ := map_some_inv hb; cases h2
    have vx := od_sound hT hS h1
    simp only [readA] at hv
    split at hv
    · rename_i ti b o hti he
      rw [he] at vx
      split at hv
      · rename_i l hl
        obtain ⟨p, v', g1, g2, g3⟩ := load_sound hE hH hti hl hv
        simp only [execOp]
        generalize a.eval x = x' at vx ⊢
        cases vx with
        | ptr _ _ q hq =>
        rw [g1] at hq; cases hq
        refine gives_of ⟨v', ?_, g3⟩
        simp only [Instr.loadAt, Instr.sureAddr, Sem.run_bind, Sem.run_pure, Result.andThen_ok, g2]
      · cases hv
    · cases hv
  case lookup T m k ok =>
    simp only [cOp1] at hb
    split at hb
    · rename_i om ok' h1 h2
      cases hb
      have vm := od_sound hT hS h1
      have vk := od_sound hT hS h2
      simp only [readA] at hv
      split at hv
      · rename_i kt et _ _ _ _ hti
        obtain ⟨d, u1, u2⟩ := ty_under hE hti
        have := dk_map u2; subst this
        split at hv
        · rename_i kti eti hk he hm
          rw [hm] at vm
          split at hv
          · rename_i z hko hz
            cases hv
            obtain ⟨dk', w1, w2⟩ := ty_under hE hk
            have hko' := hko
            rw [w2] at hko'
            have ek := vr_ofScal (keyOk_scal hko) vk
            obtain ⟨z1, z2⟩ := run_zv (hE.ty _ _ he) hz ρ w
            simp only [execOp, ek]
            generalize a.eval m = m' at vm ⊢
            cases vm
            refine gives_of ⟨if ok then .tuple #[z, .bool false] else z, ?_, ?_⟩
            · simp only [Instr.lookup, Sem.run_bind, run_underlying u1, Result.andThen_ok, Sem.run_pure]
              rw [run_checkKey w1 hko']
              simp only [Result.andThen_ok]
              rw [run_findKey w1 (r := none) rfl]
              simp only [Result.andThen_ok, Sem.run_bind, z1, Sem.run_pure]
            · split
              · exact vr_pair z2 false
              · exact z2
          · cases hv
        · rename_i kti eti r hk he hm
          rw [hm] at vm
          split at hv
          · rename_i z es hko hz hg
            obtain ⟨dk', w1, w2⟩ := ty_under hE hk
            have hko' := hko
            rw [w2] at hko'
            have ek := vr_ofScal (keyOk_scal hko) vk
            obtain ⟨z1, z2⟩ := run_zv (hE.ty _ _ he) hz ρ w
            obtain ⟨p, ents, clk, g1, g2, g3, g4⟩ := hH.map _ _ hg
            simp only [execOp, ek]
            generalize a.eval m = m' at vm ⊢
            cases vm with
            | map _ q hq =>
            rw [g1] at hq; cases hq
            have fs : ∀ {rr}, findA (ok'.ev t) es 0 = some rr → _ := fun {rr} hh => find_sound (ρ := ρ) dk' (ents := ents.toList) hko' (by simp [g3]) (fun i k v e a b => g4 i k v e a (by simpa using b)) hh
            split at hv
            · rename_i j v0 hf
              cases hv
              obtain ⟨r', f1, f2⟩ := fs hf
              cases r' with
              | none => exact f2.elim
              | some r' =>
                obtain ⟨j', v'⟩ := r'
                obtain ⟨f3, f4, f5, f6⟩ := f2
                refine gives_of ⟨if ok then .tuple #[v', .bool true] else v', ?_, ?_⟩
                · simp only [Instr.lookup, Sem.run_bind, run_underlying u1, Result.andThen_ok, run_getObj_map g2, Sem.run_pure]
                  rw [run_checkKey w1 hko']
                  simp only [Result.andThen_ok]
                  rw [run_findKey w1 f1]
                  simp only [Result.andThen_ok, Sem.run_bind, Sem.run_pure]
                · split
                  · exact vr_pair f4 true
                  · exact f4
            · rename_i hf
              cases hv
              obtain ⟨r', f1, f2⟩ := fs hf
              cases r' with
              | some r' => exact f2.elim
              | none =>
                refine gives_of ⟨if ok then .tuple #[z, .bool false] else z, ?_, ?_⟩
                · simp only [Instr.lookup, Sem.run_bind, run_underlying u1, Result.andThen_ok, run_getObj_map g2, Sem.run_pure]
                  rw [run_checkKey w1 hko']
                  simp only [Result.andThen_ok]
                  rw [run_findKey w1 f1]
                  simp only [Result.andThen_ok, Sem.run_bind, z1, Sem.run_pure]
                · split
                  · exact vr_pair z2 false
                  · exact z2
            · cases hv
          · cases hv
        · cases hv
      · cases hv
    · cases hb
  case convert s d x =>
    simp only [cOp1] at hb
    split at hb
    · cases hb
    · cases hb
    · rename_i e ox h1 h2 h3
      split at hb
      · rename_i he
        cases hb
        obtain ⟨ds, g1, g2⟩ := dk_under h1 (by simp)
        obtain ⟨dd, g3, g4⟩ := dk_under h2 (by simp)
        obtain ⟨de, g5, g6⟩ := dk_under he (by simp)
        have := dk_slc g2.symm; subst this
        have := dk_str g4.symm; subst this
        have := dk_int g6.symm; subst this
        have vx := od_sound hT hS h3
        simp only [readA] at hv
        split at hv
        · rename_i hti hx
          rw [hx] at vx
          cases hv
          simp only [execOp]
          generalize a.eval x = x' at vx ⊢
          cases vx
          refine gives_of ⟨_, ?_, .string _⟩
          rw [run_convert_bytes_string w _ _ _ _ _ _ g1 g5 g3]; rfl
        · rename_i b o s n c hti hx
          rw [hx] at vx
          split at hv
          · rename_i l hl
            split at hv
            · rename_i bs hbs
              cases hv
              simp only [execOp]
              generalize a.eval x = x' at vx ⊢
              cases vx with
              | sl _ _ _ _ _ o' cap' p hp hlc hcc he1 ho hlo hhi =>
              obtain ⟨q, l', k1, k2, k3, k4⟩ := hH.rdRun P hl
              rw [hp] at k1; cases k1
              obtain ⟨nms, m1, m2⟩ := bytesOf_spec hbs
              rw [lr_ofScal (by rw [m1]; exact ints_scal nms) k2] at k4
              have k3 : l.length = n := by rw [k2.1]; exact k3
              refine gives_of ⟨_, ?_, .string _⟩
              rw [run_convert_bytes_string w _ _ _ _ _ _ g1 g5 g3]
              have hld : (loadCells ⟨p.blk, o', none⟩ n).run P w = .ok (nms.map (Value.int .u8)).toArray w := by
                rw [← m1]
                rcases Nat.eq_zero_or_pos n with hn | hn
                · subst hn
                  have : l = [] := List.length_eq_zero_iff.1 k3
                  subst this; rfl
                · rw [ho (by omega)]; exact k4
              rw [run_bytesToString w _ n cap' nms hld, fold_push, m2]
              simp
            · cases hv
          · cases hv
        · cases hv
      · cases hb
    · split at hb <;> cases hb
    · split at hb
      · split at hb <;> cases hb
      · cases hb
    · cases hb
  case call c =>
    obtain ⟨callee, args, tys⟩ := c
    cases hcs : cOds P args.toList with
    | none => cases callee <;> (simp only [cOp1, hcs] at hb; cases hb)
    | some as =>
      cases callee with
      | value f => simp only [cOp1, hcs] at hb; obtain ⟨_, _, h2⟩ := map_some_inv hb; cases h2
      | invoke x m => simp only [cOp1, hcs] at hb; obtain ⟨_, _, h2⟩ := map_some_inv hb; cases h2
      | builtin bi =>
        simp only [cOp1, hcs] at hb
        have e : args.map a.eval = (args.toList.map a.eval).toArray := by
          apply Array.toList_inj.1; rw [Array.toList_map]
        have hl := ods_sound hT hS hcs
        unfold cBuiltin at hb
        split at hb
        · split at hb
          · split at hb <;> cases hb
          · cases hb
        · rename_i x T ht
          simp only [List.map_cons, List.map_nil] at hl
          obtain ⟨x', r, e2, vx, hr⟩ := hl.inv
          have := hr.inv0; subst this
          split at hb
          · rename_i kt et hk
            cases hb
            obtain ⟨d, g1, g2⟩ := dk_under hk (by simp)
            have := dk_map g2.symm; subst this
            simp only [Gives, execOp, resolve, Sem.run_bind, Sem.run_pure, Result.andThen_ok, invoke]
            rw [e, e2]
            simp only [readA] at hv
            split at hv
            · rename_i hti hx
              rw [hx] at vx
              cases hv; cases vx
              refine gives_of (s := Builtin.len_ _ _ _) ⟨_, ?_, .int _ _⟩
              simp only [Builtin.len_, List.getElem?_toArray, ht, List.getElem?_cons_zero, Sem.run_bind, run_underlying g1, Result.andThen_ok, goInt, Sem.run_pure]
            · rename_i r hti hx
              rw [hx] at vx
              split at hv
              · rename_i es hg
                cases hv
                obtain ⟨p, ents, clk, k1, k2, k3, k4⟩ := hH.map _ _ hg
                clear e2
                cases vx with
                | map _ q hq =>
                rw [k1] at hq; cases hq
                refine gives_of (s := Builtin.len_ _ _ _) ⟨_, ?_, .int _ _⟩
                simp only [Builtin.len_, List.getElem?_toArray, ht, List.getElem?_cons_zero, Sem.run_bind, run_underlying g1, Result.andThen_ok, run_getObj_map k2, goInt, Sem.run_pure, k3]
              · cases hv
            · cases hv
          all_goals cases hb
        · split at hb <;> cases hb
        · cases hb
        · split at hb <;> cases hb
        · cases hb
        · cases hb
        · cases hb
  all_goals first
    | (simp only [cOp1] at hb; cases hb; done)
    | (obtain ⟨_, _, h2⟩ := map_some_inv hb; cases h2; done)
    | (simp only [cOp1] at hb; split at hb <;> cases hb; done)
    | (rename_i T r; cases r <;> (simp only [cOp1] at hb; cases hb); done)
    | (rename_i fn _ _; cases fn <;> simp only [cOp1] at hb <;> first | (cases hb; done) | (split at hb <;> cases hb); done)
    | (simp only [cOp1] at hb; split at hb <;> first | (cases hb; done) | (split at hb <;> cases hb); done)
end

end Go.Proofs.YtaegmplbkbaniaaGreatDoor
