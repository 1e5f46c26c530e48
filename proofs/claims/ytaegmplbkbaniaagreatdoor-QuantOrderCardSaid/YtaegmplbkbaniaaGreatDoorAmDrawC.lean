/-
  THE ABSTRACT MACHINE: regions that draw their order, one operation of one order, and all. No condition.
-/
import Derived.Test.YtaegmplbkbaniaaGreatDoorAmDrawB
set_option linter.all false
namespace Go.Proofs.YtaegmplbkbaniaaGreatDoor
open Go
section
variable {P : Program} {E : Env} {call : CallF} {ρ0 : Nat → Option Pl} {H : Hp} {w0 : World} {nt na : Nat} {ops : Array Oper} {O : Nat → Oper} {L : Nat → Dl} {pr : Nat → Nat → Bool}
  {D : Nat → Ds} {v : Nat → Value} {fx : Nat → Fx} {t : Tr Value}

theorem cntE_mono {f g : Nat → Bool} : ∀ k, (∀ i, i < k → f i = true → g i = true) → cntE g k ≤ cntE f k := by
  intro k
  induction k with
  | zero => intro _; exact Nat.le_refl _
  | succ k ih =>
    intro h
    have := ih fun i hi => h i (by omega)
    simp only [cntE]
    by_cases hf : f k = true
    · rw [if_pos hf, if_pos (h k (by omega) hf)]; omega
    · rw [if_neg hf]; split <;> omega
theorem run_fwd (hs : Stat P nt na ops O L pr) (hr : Run P E call H na ops O L D v fx t) {B : Nat → Bool} {j : Nat} : ∀ k, j ≤ k → k ≤ ops.size → (∀ i, j ≤ i → i < k → B i = true → ∀ H, fx i ≠ .im H) →
    ∀ id o, (XE fx B (H.reserve na) j).get id = some o → (XE fx B (H.reserve na) k).get id = some o := by
  intro k
  induction k with
  | zero => intro h _ _ id o ho; have : j = 0 := by omega
            subst this; exact ho
  | succ k ih =>
    intro h hk hno id o ho
    by_cases e : j = k + 1
    · subst e; exact ho
    · have h1 := ih (by omega) (by omega) (fun i a b => hno i a (by omega)) id o ho
      simp only [XE]
      split
      · rename_i hb
        split
        · exact h1
        · rename_i s ob hf
          rw [Hp.get_put]
          by_cases hid : id = s
          · subst hid
            rw [run_fresh hs hr (by omega) hf k (Nat.le_refl _)] at h1; cases h1
          · rw [if_neg hid]; exact h1
        · rename_i H' hf
          exact absurd hf (hno k (by omega) (by omega) hb H')
      · exact h1
theorem run_KE_sub (hs : Stat P nt na ops O L pr) (hr : Run P E call H na ops O L D v fx t) {B : Nat → Bool} : ∀ k, k ≤ ops.size →
    ∀ id o, (KE fx B (H.reserve na) k).get id = some o → (XE fx B (H.reserve na) k).get id = some o := by
  intro k
  induction k with
  | zero => intro _ id o ho; exact ho
  | succ k ih =>
    intro hk id o ho
    have ih := ih (by omega)
    simp only [XE]
    simp only [KE] at ho
    by_cases hb : B k = true
    · rw [if_pos hb] at ho ⊢
      cases hf : fx k with
      | no => rw [hf] at ho; exact ih id o ho
      | al s ob =>
        rw [hf] at ho
        simp only [Hp.get_put]
        have h1 := ih id o ho
        by_cases hid : id = s
        · subst hid
          rw [run_fresh hs hr (by omega) hf k (Nat.le_refl _)] at h1; cases h1
        · rw [if_neg hid]; exact h1
      | im H' => rw [hf] at ho; exact ho
    · rw [if_neg hb] at ho ⊢; exact ih id o ho
theorem rec_rw {base : Nat} {o : Dl} {D D' : Ds} {v : Value} {s : Nat} {ob : AObj} (h : Rec E call base o D D' v (.al s ob)) : ob.rw = true := by
  cases h with | al _ _ _ _ _ _ _ _ hrw _ => exact hrw
/-- ONE OPERATION of one order. -/
theorem draw_step (hE : EOk P E) (hC : CallOk P call) (hs : Stat P nt na ops O L pr) (hr : Run P E call H na ops O L D v fx t) {B : Nat → Bool} {a : Act} {w : World}
    (hI : Inv P ρ0 H w0 nt na ops O (fun x => Od.ev t (.t x)) v fx B a w) {j : Nat} (hj : j < ops.size) (hB : B j = false) (hready : ∀ e ∈ (O j).after, Region.binds .any e = true → B e.on = true) :
    (Region.wanted (O j) (yielded ops a.tmps) = false ∧ Inv P ρ0 H w0 nt na ops O (fun x => Od.ev t (.t x)) v fx (setE B j) (a.put (O j).dst undef) w) ∨
    (Region.wanted (O j) (yielded ops a.tmps) = true ∧ Lands P (fun v' w' => Inv P ρ0 H w0 nt na ops O (fun x => Od.ev t (.t x)) v fx (setE B j) (a.put (O j).dst v') w') ((execOp a.eval (O j)).run P w)) := by
  have pc : ∀ i, pr j i = true → B i = true := pred_closed hs hI.cl j hj (.inr hready)
  have below : ∀ i, i < j → B i = false → (O i).apart ops (O j) = true ∧ ¬ (((L i).lo.o.isIm = true ∨ (L i).lo.o.isAl = true) ∧ (L j).lo.o.isIm = true) := fun i hi hb => by
    rcases hs.pairs i j hi hj with h | h
    · rw [pc i h] at hb; cases hb
    · exact h
  have npr : ∀ i, i < ops.size → B i = true → pr i j = false := fun i h2 hb => by
    cases h : pr i j with
    | false => rfl
    | true => rw [pred_closed hs hI.cl i h2 (.inl hb) j h] at hB; cases hB
  have above : ∀ i, j < i → i < ops.size → B i = true → (O j).apart ops (O i) = true ∧ ¬ (((L j).lo.o.isIm = true ∨ (L j).lo.o.isAl = true) ∧ (L i).lo.o.isIm = true) := fun i h1 h2 hb => by
    rcases hs.pairs j i h1 h2 with h | h
    · rw [npr i h2 hb] at h; cases h
    · exact h
  obtain ⟨ρ, hpr, hte, hfr⟩ := hI.st
  have looked : ∀ x, x ∈ (O j).looksAt ops → TE v (fun i => (O i).dst) B (fun x => Od.ev t (.t x)) ops.size x = Od.ev (D j).t (.t x) := fun x hx => by
    rw [TE_above (j := j) (by omega), run_TE hs hr j (by omega)]
    · intro i hi hd
      by_cases hb : B i = true
      · exact hb
      · exact absurd hx ((Oper.apart_spec (below i hi (by simpa using hb)).1).1 x hd)
    · intro i h1 h2 hd
      by_cases hb : B i = true
      · exfalso
        by_cases e : i = j
        · subst e; rw [hb] at hB; cases hB
        · exact (Oper.apart_spec (above i (by omega) h2 hb).1).2.2 x hd hx
      · simpa using hb
  -- what closes each case
  have fin : ∀ (v' : Value) (w' : World) (ρ' : Nat → Option Pl), PR (P.globals.size + 1) ρ0 H w0 ρ' (XE fx (setE B j) (H.reserve na) ops.size) w' → (∀ i p, ρ i = some p → ρ' i = some p) → VR ρ' (v j) v' →
      (∀ i, i < ops.size → setE B j i = false → ∀ s o, fx i = .al s o → ρ' s = none) → H.n + na ≤ (XE fx (setE B j) (H.reserve na) ops.size).n →
      Inv P ρ0 H w0 nt na ops O (fun x => Od.ev t (.t x)) v fx (setE B j) (a.put (O j).dst v') w' := fun v' w' ρ' h1 h2 h3 h4 h5 => by
    have sb : ∀ i, B i = true → setE B j i = true := fun i h => by unfold setE; split <;> first | rfl | exact h
    refine ⟨fun i hi hb e he hbi => ?_, ⟨ρ', h1, fun x => ?_, h4⟩, h5, ?_, ?_⟩
    · by_cases hij : i = j
      · subst hij; exact sb _ (hready e he hbi)
      · rw [setE_ne B hij] at hb; exact sb _ (hI.cl i hi hb e he hbi)
    · rw [TE_set hj hB fun i h1 h2 hb hd hdj => (Oper.apart_spec (above i h1 h2 hb).1).2.1 x hdj hd]
      rw [getD_put _ _ _ _ fun n hn => by rw [hI.sz]; exact hs.lt j n hj hn]
      split
      · exact h3
      · exact (hte x).mono h2
    · cases (O j).dst <;> simp [Act.put, hI.sz]
    · cases (O j).dst <;> simp [Act.put, hI.df]
  have hw : Region.wanted (O j) (yielded ops a.tmps) = wants (L j).lo.g (rst (L j).ls (D j).t) := by
    refine wants_sound (ρ := ρ) (hs.gd j hj) fun d w hg => ?_
    have hd : d ∈ (O j).looksAt ops := by
      have h := hs.gd j hj
      rw [hg] at h
      cases hgu : (O j).guard with
      | none => rw [hgu] at h; cases h
      | some jw =>
        obtain ⟨k, w'⟩ := jw
        rw [hgu] at h
        simp only [cGuard] at h
        split at h
        · rename_i d' hd'
          cases h
          exact List.mem_append_right _ (by simp only [hgu, hd', Option.toList]; exact List.mem_singleton.2 rfl)
        · cases h
    have : Od.ev (rst (L j).ls (D j).t) (.t d) = Od.ev (D j).t (.t d) := by
      simp only [Od.ev, rst_get, hs.ls j hj, if_pos hd]
    rw [this, ← looked d hd]; exact hte d
  -- the operation asks for nothing but what it looks at
  let a0 : Act := { a with tmps := (Array.range nt).map fun x => if x ∈ (L j).ls then a.tmps.getD x undef else undef }
  have hx0 : ∀ x, a0.tmps.getD x undef = if x ∈ (L j).ls then a.tmps.getD x undef else undef := fun x => by
    simp only [a0, Array.getD_eq_getD_getElem?]
    by_cases hlt : x < nt
    · simp [hlt]
    · have : a.tmps[x]? = none := Array.getElem?_eq_none (by rw [hI.sz]; omega)
      rw [Array.getElem?_eq_none (by simp; omega)]
      simp [this]
  have hT0 : TR ρ (rst (L j).ls (D j).t) a0.tmps := fun x => by
    rw [hx0 x]
    simp only [Od.ev, rst_get]
    by_cases hm : x ∈ (L j).ls
    · rw [if_pos hm, if_pos hm]
      have := looked x (by rw [← hs.ls j hj]; exact hm)
      simp only [Od.ev] at this
      rw [← this]; exact hte x
    · rw [if_neg hm, if_neg hm]; exact .undef
  have heval : (∀ cs b, (O j).op ≠ .select cs b) → execOp a.eval (O j) = execOp a0.eval (O j) := fun hsel => execOp_congr _ hsel fun x hx => by
    cases x with
    | tmp n =>
      have hm : n ∈ (L j).ls := by
        rw [hs.ls j hj]
        exact List.mem_append_left _ (List.mem_filterMap.2 ⟨.tmp n, by simpa using hx, rfl⟩)
      show a.tmps.getD n undef = a0.tmps.getD n undef
      rw [hx0 n, if_pos hm]
    | _ => rfl
  have hop := hs.op j hj
  have nosel : (L j).lo.o ≠ .p .bad → ∀ cs b, (O j).op ≠ .select cs b := fun hne cs b he => by
    rw [hop, he] at hne; exact hne rfl
  have hX := hpr.hr
  have hSR : SR P ρ := hX.sr
  have hrec := hr.r j hj
  rw [hw]
  generalize hfj : fx j = f at hrec
  have same : (∀ s o, f ≠ .al s o) → (∀ H', f ≠ .im H') → XE fx (setE B j) (H.reserve na) ops.size = XE fx B (H.reserve na) ops.size := fun h1 h2 => by
    refine XE_set_no ?_
    rw [hfj]
    cases f with
    | no => rfl
    | al s o => exact absurd rfl (h1 s o)
    | im H' => exact absurd rfl (h2 H')
  have frs : ∀ i, i < ops.size → setE B j i = false → i ≠ j ∧ B i = false := fun i hi h => by
    by_cases e : i = j
    · subst e; rw [setE_same] at h; cases h
    · rw [setE_ne B e] at h; exact ⟨e, h⟩
  cases hrec with
  | off h hv h1 =>
    refine .inl ⟨h, ?_⟩
    have e := same (fun _ _ h => by cases h) (fun _ h => by cases h)
    rw [← hv]
    exact fin (v j) w ρ (by rw [e]; exact hpr) (fun _ _ h => h) (by rw [hv]; exact .undef) (fun i hi hb s o hf => hfr i hi (frs i hi hb).2 s o hf) (by rw [e]; exact hI.nn)
  | pure p h ho hv h1 =>
    refine .inr ⟨h, ?_⟩
    have e := same (fun _ _ h => by cases h) (fun _ h => by cases h)
    have hne : (L j).lo.o ≠ .p .bad := fun hb => by rw [ho] at hb; cases hb; simp only [pureA] at hv; cases hv
    obtain ⟨v', k1, k2⟩ := pure_sound (w := w) hE hT0 hSR (by rw [← hop, ho]) hv
    rw [heval (nosel hne), k1]
    exact fin v' w ρ (by rw [e]; exact hpr) (fun _ _ h => h) k2 (fun i hi hb s o hf => hfr i hi (frs i hi hb).2 s o hf) (by rw [e]; exact hI.nn)
  | read r h ho hv h1 =>
    refine .inr ⟨h, ?_⟩
    have e := same (fun _ _ h => by cases h) (fun _ h => by cases h)
    have hne : (L j).lo.o ≠ .p .bad := fun hb => by rw [ho] at hb; cases hb
    have hbase : readA E (rst (L j).ls (D j).t) (KE fx B (H.reserve na) j) r = some (v j) := by
      have hm := run_SN hr B j (by omega)
      have hcnt : cntE (fun i => !((L i).lo.o.isIm && !B i)) j ≤ (L j).back := by
        refine Nat.le_trans (cntE_mono j fun i hi hf => ?_) (hs.back j hj)
        cases hb : B i with
        | true => simp
        | false =>
          have hp : pr j i = false := by
            cases hp : pr j i with
            | false => rfl
            | true => rw [pc i hp] at hb; cases hb
          rw [hp] at hf
          simpa using hf
      rw [Nat.add_comm, List.take_succ_cons] at hm
      refine hv _ ?_
      rcases List.mem_cons.1 hm with hm | hm
      · rw [hm]; exact List.mem_cons_self ..
      · refine List.mem_cons_of_mem _ ?_
        have : (D j).sn.take (cntE (fun i => !((L i).lo.o.isIm && !B i)) j) = ((D j).sn.take (L j).back).take (cntE (fun i => !((L i).lo.o.isIm && !B i)) j) := by rw [List.take_take, Nat.min_eq_left hcnt]
        rw [this] at hm
        exact List.mem_of_mem_take hm
    have hrd : ∀ k, j ≤ k → k ≤ ops.size → readA E (rst (L j).ls (D j).t) (KE fx B (H.reserve na) k) r = some (v j) := by
      intro k
      induction k with
      | zero => intro hjk hk; have : j = 0 := by omega
                subst this; exact hbase
      | succ k ih =>
        intro hjk hk
        by_cases ejk : j = k + 1
        · subst ejk; exact hbase
        · have ih := ih (by omega) (by omega)
          simp only [KE]
          by_cases hb : B k = true
          · rw [if_pos hb]
            cases hf : fx k with
            | no => exact ih
            | al s o => exact ih
            | im H' =>
              simp only
              have hkr := hr.r k (by omega)
              rw [hf] at hkr
              cases hkr with
              | im _ c1 c2 c3 c4 c5 =>
              have hlt : j < k := by
                rcases Nat.lt_or_ge j k with h | h
                · exact h
                · have : j = k := by omega
                  subst this; rw [hb] at hB; cases hB
              obtain ⟨q1, q2⟩ := hs.keep j k hlt (by omega) (by rw [ho]; rfl) c2 (npr k (by omega) hb)
              have := c4 (j, r, rst (L j).ls (D j).t, v j) (run_rd_mono hr k (i := j + 1) (by omega) (by omega) _ (by rw [h1]; simp only [q1]; rw [hs.ix j hj]; exact List.mem_cons_self ..)) q2
              exact this
          · rw [if_neg hb]; exact ih
    have hrdj := hrd ops.size (by omega) (Nat.le_refl _)
    have hHK : HR ρ (P.globals.size + 1) (KE fx B (H.reserve na) ops.size) w := hX.sub (by rw [XE_n]; exact Nat.le_refl _) (run_KE_sub hs hr _ (Nat.le_refl _))
    obtain ⟨v', k1, k2⟩ := read_sound (w := w) hE hT0 hSR hHK (by rw [← hop, ho]) hrdj
    rw [heval (nosel hne), k1]
    exact fin v' w ρ (by rw [e]; exact hpr) (fun _ _ h => h) k2 (fun i hi hb s o hf => hfr i hi (frs i hi hb).2 s o hf) (by rw [e]; exact hI.nn)
  | al l ob f' h ho hv hfv hn h1 =>
    refine .inr ⟨h, ?_⟩
    have hne : (L j).lo.o ≠ .p .bad := fun hb => by rw [ho] at hb; cases hb
    have hal : (L j).lo.o.isAl = true := by rw [ho]; rfl
    have hid := hfr j hj hB _ _ hfj
    have hslt := hs.slotLt j hj hal
    have hnoim : ∀ i, j < i → i < ops.size → B i = true → ∀ H', fx i ≠ .im H' := fun i h1 h2 hb H' hf => by
      have := hr.r i h2
      rw [hf] at this
      exact (above i h1 h2 hb).2 ⟨.inr hal, rec_im this⟩
    have hslots : ∀ i s' o', i ≠ j → i < ops.size → fx i = .al s' o' → s' ≠ H.n + (L j).slot := fun i s' o' h1 h2 hf => by
      have := hr.r i h2
      rw [hf] at this
      obtain ⟨e1, e2⟩ := rec_al this
      rcases Nat.lt_or_ge i j with hlt | hge
      · have := hs.slot i j hlt hj e2 hal; omega
      · have := hs.slot j i (by omega) h2 hal e2; omega
    obtain ⟨v', w', p, k1, k2, k3, k4, k5⟩ := alloc_sound hE hT0 hSR hX hid (by have := hI.nn; omega) (by rw [← hop, ho]) hv
    rw [heval (nosel hne), k1]
    have hn' : (XE fx (setE B j) (H.reserve na) ops.size).n = (XE fx B (H.reserve na) ops.size).n := by
      rw [XE_n, XE_n, KE_set (fun H' h => by rw [hfj] at h; cases h)]
    have hpr' := hpr.thenAt (Y := XE fx (setE B j) (H.reserve na) ops.size) (by omega) k2 k4 k5 hn' (fun i b hi => by
      rw [XE_set_al hj hfj hnoim (fun i s' o' g1 g2 g3 => hslots i s' o' (by omega) g2 g3)] at hi
      rw [Hp.get_put]; exact hi)
    refine fin v' w' _ hpr' (upd_up hid) (by rw [hfv]; exact k3) (fun i hi hb s o hf => ?_) (by rw [hn']; exact hI.nn)
    obtain ⟨g1, g2⟩ := frs i hi hb
    rw [upd_ne _ _ (hslots i s o g1 hi hf)]
    exact hfr i hi g2 s o hf
  | im H' h ho hv hc h1 =>
    refine .inr ⟨h, ?_⟩
    have hne : (L j).lo.o ≠ .p .bad := fun hb => by rw [hb] at ho; cases ho
    have hnoim : ∀ i, j ≤ i → i < ops.size → B i = true → ∀ H', fx i ≠ .im H' := fun i h1 h2 hb H'' hf => by
      have hlt : j < i := by
        rcases Nat.lt_or_ge j i with h | h
        · exact h
        · have : i = j := by omega
          subst this; rw [hb] at hB; cases hB
      have := hr.r i h2
      rw [hf] at this
      exact (above i hlt h2 hb).2 ⟨.inl ho, rec_im this⟩
    have hall : ∀ i, i < j → fx i ≠ .no → B i = true := fun i hi hf => by
      by_cases hb : B i = true
      · exact hb
      · exfalso
        refine (below i hi (by simpa using hb)).2 ⟨?_, ho⟩
        have := hr.r i (by omega)
        cases hq : fx i with
        | no => exact (hf hq).elim
        | al s o => rw [hq] at this; exact .inr (rec_al this).2
        | im G => rw [hq] at this; exact .inl (rec_im this)
    have hDH : (D j).H = XE fx B (H.reserve na) j := by rw [(run_XE hr j (by omega)).1, XE_all hall]
    have hsub : ∀ id o, (D j).H.get id = some o → (XE fx B (H.reserve na) ops.size).get id = some o := fun id o hid => by
      rw [hDH] at hid
      exact run_fwd hs hr ops.size (by omega) (Nat.le_refl _) hnoim id o hid
    have hn : (D j).H.n = (XE fx B (H.reserve na) ops.size).n := by
      rw [hDH, XE_n, XE_n, KE_above (j := j) (k := ops.size) (by omega) hnoim]
    have hHD : HR ρ (P.globals.size + 1) (D j).H w := hX.sub (by omega) hsub
    have := op_sound (o := O j) hE hC hT0 hHD (by rw [← hop]; exact hv)
    rw [heval (nosel hne)]
    refine this.mono fun v' w' hh => ?_
    obtain ⟨ρ', k1, k2⟩ := hh
    have sB : ∀ i, i ≠ j → setE B j i = B i := fun i h => setE_ne B h
    have hYn : (XE fx (setE B j) (H.reserve na) ops.size).n = H'.n := by
      rw [XE_n, KE_above (j := j + 1) (by omega) (fun i g1 g2 hb => by rw [sB i (by omega)] at hb; exact hnoim i (by omega) g2 hb)]
      simp only [KE, setE_same, if_true, hfj]
    have hY : ∀ id o, (XE fx (setE B j) (H.reserve na) ops.size).get id = some o → H'.get id = some o ∨ ((XE fx B (H.reserve na) ops.size).get id = some o ∧ (D j).H.get id = none ∧ o.rw = true ∧ id < (XE fx B (H.reserve na) ops.size).n) := fun id o hid => by
      rcases XE_back (j := j + 1) (by omega) (fun i g1 g2 hb => by rw [sB i (by omega)] at hb; exact hnoim i (by omega) g2 hb) hid with g | ⟨i, g1, g2, g3, g4⟩
      · simp only [XE, setE_same, if_true, hfj] at g
        exact .inl g
      · rw [sB i (by omega)] at g3
        have hri := hr.r i g2
        rw [g4] at hri
        have hxn : (XE fx B (H.reserve na) ops.size).get id = some o := by
          refine run_fwd hs hr (j := i + 1) ops.size (by omega) (Nat.le_refl _) (fun k q1 q2 hb => hnoim k (by omega) q2 hb) id o ?_
          simp only [XE, g3, if_true, g4, Hp.get_put]
        obtain ⟨p, q1, q2⟩ := hX.has hxn
        refine .inr ⟨hxn, ?_, ?_, hX.lt _ _ q1⟩
        · rw [hDH]; exact run_fresh hs hr g2 g4 j (by omega)
        · exact rec_rw hri
    have hfp := PR.frame hX hsub hn k2 hYn hY
    refine fin v' w' ρ' (hpr.trans hfp) (PR.up hX hfp) k1 (fun i hi hb s o hf => ?_) (by rw [hYn]; have := k2.n; have := hI.nn; omega)
    obtain ⟨g1, g2⟩ := frs i hi hb
    have hri := hr.r i hi
    rw [hf] at hri
    obtain ⟨e1, e2⟩ := rec_al hri
    have := hs.slotLt i hi e2
    have := hI.nn
    rw [k2.ag s (by omega)]
    exact hfr i hi g2 s o hf
end

end Go.Proofs.YtaegmplbkbaniaaGreatDoor
