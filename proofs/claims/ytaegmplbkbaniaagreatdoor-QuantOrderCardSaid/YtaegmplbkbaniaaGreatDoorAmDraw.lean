/-
  THE ABSTRACT MACHINE: regions that draw their order. One run in the order of the text, with its checks, stands for every order. No condition.
-/
import Derived.Test.YtaegmplbkbaniaaGreatDoorAmCall
set_option linter.all false
namespace Go.Proofs.YtaegmplbkbaniaaGreatDoor
open Go

/-! ### Memory: a call beside rows that it does not know -/
section
variable {ρ ρ' ρ0 : Nat → Option Pl} {ns : Nat} {H H' X Y H0 : Hp} {w w' w0 : World}
theorem PR.frame (hX : HR ρ ns X w) (hsub : ∀ id o, H.get id = some o → X.get id = some o) (hn : H.n = X.n) (hp : PR ns ρ H w ρ' H' w') (hYn : Y.n = H'.n)
    (hY : ∀ id o, Y.get id = some o → H'.get id = some o ∨ (X.get id = some o ∧ H.get id = none ∧ o.rw = true ∧ id < X.n)) : PR ns ρ X w ρ' Y w' := by
  have hH : HR ρ ns H w := hX.sub (by omega) hsub
  have up := PR.up hH hp
  -- what is beside
  have side : ∀ id o, X.get id = some o → H.get id = none → o.rw = true → id < X.n → ∃ p, ρ id = some p ∧ ρ' id = some p ∧ p.blk < w.heap.size ∧ w'.heap[p.blk]? = w.heap[p.blk]? := fun id o h1 h2 h3 h4 => by
    obtain ⟨p, k1, k2⟩ := hX.has h1
    refine ⟨p, k1, by rw [hp.ag id (by omega)]; exact k1, k2, hp.fr.blk _ k2 fun i o' q g1 g2 g3 => ?_⟩
    refine hX.sep i id o' o q p (fun e => ?_) (hsub _ _ g1) g2 h1 g3 k1
    subst e; rw [h2] at g1; cases g1
  refine ⟨⟨fun id p h => by rw [hYn]; exact hp.hr.lt id p h, hp.hr.st, fun id c s rw h => ?_, fun id es h => ?_, fun id id' o o' p p' hne h1 h2 h3 h4 h5 => ?_⟩, by have := hp.n; omega, fun id hi => hp.ag id (by omega), ⟨hp.fr.os, hp.fr.tape, hp.fr.output, hp.fr.size, fun b hb hno => hp.fr.blk b hb fun id o p h1 h2 h3 => hno id o p (hsub _ _ h1) h2 h3⟩, fun id o p h1 h2 => ?_⟩
  · rcases hY id _ h with h1 | ⟨h1, h2, h3, h4⟩
    · exact hp.hr.row id c s rw h1
    · obtain ⟨p, k1, k2, k3, k4⟩ := side id _ h1 h2 h3 h4
      obtain ⟨q, cs, e, fz, g1, g2, g3, g4, g5, g6⟩ := hX.row id c s rw h1
      rw [k1] at g1; cases g1
      exact ⟨p, cs, e, fz, k2, by rw [k4]; exact g2, g3, g4, fun j hj => let ⟨v, v', x, y, z⟩ := g5 j hj; ⟨v, v', x, y, z.mono up⟩, g6⟩
  · rcases hY id _ h with h1 | ⟨h1, h2, h3, h4⟩
    · exact hp.hr.map id es h1
    · obtain ⟨p, k1, k2, k3, k4⟩ := side id _ h1 h2 h3 h4
      obtain ⟨q, en, clk, g1, g2, g3, g4⟩ := hX.map id es h1
      rw [k1] at g1; cases g1
      exact ⟨p, en, clk, k2, by rw [k4]; exact g2, g3, fun i k v e a b => let ⟨x, y, z⟩ := g4 i k v e a b; ⟨x, y, z.mono up⟩⟩
  · -- two rows
    have mixed : ∀ i o i' o' q q', H'.get i = some o → X.get i' = some o' → H.get i' = none → o'.rw = true → i' < X.n → ρ' i = some q → ρ' i' = some q' → q.blk ≠ q'.blk := fun i o i' o' q q' a1 a2 a3 a4 a5 a6 a7 => by
      obtain ⟨p, k1, k2, k3, k4⟩ := side i' _ a2 a3 a4 a5
      rw [k2] at a7; cases a7
      rcases hp.nb i o q a1 a6 with b1 | ⟨i0, o0, p0, b1, b2, b3, b4⟩
      · omega
      · rw [← b4]
        exact (hX.sep i' i0 o' o0 q' p0 (fun e => by subst e; rw [a3] at b1; cases b1) a2 a4 (hsub _ _ b1) k1 b2).symm
    rcases hY id _ h1 with g1 | ⟨g1, g2, g3, g4⟩
    · rcases hY id' _ h3 with f1 | ⟨f1, f2, f3, f4⟩
      · exact hp.hr.sep id id' o o' p p' hne g1 h2 f1 h4 h5
      · exact mixed id o id' o' p p' g1 f1 f2 f3 f4 h4 h5
    · rcases hY id' _ h3 with f1 | ⟨f1, f2, f3, f4⟩
      · exact (mixed id' o' id o p' p f1 g1 g2 g3 g4 h5 h4).symm
      · obtain ⟨q, k1, k2, k3, k4⟩ := side id _ g1 g2 g3 g4
        obtain ⟨q', j1, j2, j3, j4⟩ := side id' _ f1 f2 f3 f4
        rw [k2] at h4; cases h4
        rw [j2] at h5; cases h5
        exact hX.sep id id' o o' _ _ hne g1 h2 f1 k1 j1
  · rcases hY id _ h1 with g1 | ⟨g1, g2, g3, g4⟩
    · rcases hp.nb id o p g1 h2 with b1 | ⟨i0, o0, p0, b1, b2, b3, b4⟩
      · exact .inl b1
      · exact .inr ⟨i0, o0, p0, hsub _ _ b1, b2, b3, b4⟩
    · obtain ⟨q, k1, k2, k3, k4⟩ := side id _ g1 g2 g3 g4
      rw [k2] at h2; cases h2
      exact .inr ⟨id, o, p, g1, k1, fun x => x, rfl⟩
/-- A block made under a number that was kept for it. -/
theorem PR.thenAt (h : PR ns ρ0 H0 w0 ρ X w) {id : Nat} (hid : H0.n ≤ id) {p : Pl} {o : AObj} (hr : HR (upd ρ id p) ns (X.put id (some o)) w') (hb : p.blk = w.heap.size) (hf : Fr ρ X w w')
    (hYn : Y.n = X.n) (hY : ∀ i a, Y.get i = some a → (X.put id (some o)).get i = some a) : PR ns ρ0 H0 w0 (upd ρ id p) Y w' := by
  refine ⟨hr.sub (by rw [hYn]; exact Nat.le_refl _) hY, by have := h.n; omega, fun i hi => by rw [upd_ne _ _ (by omega)]; exact h.ag i hi, ⟨hf.os.trans h.fr.os, hf.tape.trans h.fr.tape, hf.output.trans h.fr.output, Nat.le_trans h.fr.size hf.size, fun b hb' hno => ?_⟩, fun i a q h1 h2 => ?_⟩
  · rw [hf.blk b (by have := h.fr.size; omega) (fun i a q g1 g2 g3 => ?_), h.fr.blk b hb' hno]
    rcases h.nb i a q g1 g3 with k | ⟨i0, o0, p0, k1, k2, k3, k4⟩
    · omega
    · rw [← k4]; exact hno i0 o0 p0 k1 (k3 g2) k2
  · have h1 := hY _ _ h1
    rw [Hp.get_put] at h1
    by_cases e : i = id
    · subst e; rw [upd_same] at h2; cases h2; exact .inl (by have := h.fr.size; omega)
    · rw [if_neg e] at h1; rw [upd_ne _ _ e] at h2; exact h.nb i a q h1 h2
end

/-! ### What one run records -/
inductive Fx where
  | no
  | al (s : Nat) (o : AObj)
  | im (H : Hp)
inductive Rec (E : Env) (call : CallF) (base : Nat) (o : Dl) (D D' : Ds) (v : Value) : Fx → Prop
  | off (h : wants o.lo.g (rst o.ls D.t) = false) (hv : v = undef) (h1 : D' = { D with t := putD D.t o.lo.d v }) : Rec E call base o D D' v .no
  | pure (p : Pi) (h : wants o.lo.g (rst o.ls D.t) = true) (ho : o.lo.o = .p p) (hv : pureA E (rst o.ls D.t) p = some v) (h1 : D' = { D with t := putD D.t o.lo.d v }) : Rec E call base o D D' v .no
  | read (r : Ri) (h : wants o.lo.g (rst o.ls D.t) = true) (ho : o.lo.o = .r r) (hv : ∀ S ∈ D.K :: D.sn.take o.back, readA E (rst o.ls D.t) S r = some v)
      (h1 : D' = { D with t := putD D.t o.lo.d v, rd := match o.keep with | true => (o.i, r, rst o.ls D.t, v) :: D.rd | false => D.rd }) : Rec E call base o D D' v .no
  | al (a : Li) (ob : AObj) (f : Nat → Value) (h : wants o.lo.g (rst o.ls D.t) = true) (ho : o.lo.o = .a a) (hv : allocA E (rst o.ls D.t) a = some (ob, f)) (hf : v = f (base + o.slot))
      (hn : ∀ S ∈ D.K :: D.sn, S.get (base + o.slot) = none) (hrw : ob.rw = true) (h1 : D' = { D with t := putD D.t o.lo.d v, H := D.H.put (base + o.slot) (some ob) }) : Rec E call base o D D' v (.al (base + o.slot) ob)
  | im (H' : Hp) (h : wants o.lo.g (rst o.ls D.t) = true) (ho : o.lo.o.isIm = true) (hv : execO E call o.lo.o (rst o.ls D.t) D.H = some (v, H'))
      (hc : ∀ q ∈ D.rd, q.1 ∈ o.chk → readA E q.2.2.1 H' q.2.1 = some q.2.2.2) (h1 : D' = { t := putD D.t o.lo.d v, H := H', K := H', sn := D.K :: D.sn, rd := D.rd }) : Rec E call base o D D' v (.im H')
theorem alike_spec {E : Env} {t : Tr Value} {r : Ri} {v : Value} {S : Hp} (h : alike E t r v S = true) : readA E t S r = some v := by
  unfold alike at h
  split at h
  · rename_i u hu; rw [hu, beqV_sound h]
  · cases h
theorem rec_of {E : Env} {call : CallF} {base : Nat} {o : Dl} {D D' : Ds} (h : execD1 E call base o D = some D') : ∃ p : Value × Fx, Rec E call base o D D' p.1 p.2 := by
  unfold execD1 at h
  rw [fT_eq] at h
  split at h
  · rename_i hw
    rw [fT_eq] at h; cases h
    exact ⟨(undef, .no), .off hw rfl rfl⟩
  · rename_i hw
    split at h
    · rename_i p ho
      split at h
      · rename_i v hv
        rw [fV_eq, fT_eq] at h; cases h
        exact ⟨(v, .no), .pure p hw ho hv rfl⟩
      · cases h
    · rename_i r ho
      split at h
      · rename_i v hv
        rw [fV_eq] at h
        split at h
        · rename_i hb
          rw [fT_eq] at h; cases h
          refine ⟨(v, .no), .read r hw ho (fun S hS => ?_) rfl⟩
          rcases List.mem_cons.1 hS with rfl | hS
          · exact hv
          · exact alike_spec (List.all_eq_true.1 hb S hS)
        · cases h
      · cases h
    · rename_i a ho
      split at h
      · rename_i ob f hv
        rw [fO_eq, fV_eq] at h
        split at h
        · rename_i hn
          rw [Bool.and_eq_true] at hn
          rw [fT_eq, fH_eq] at h; cases h
          refine ⟨(_, .al _ ob), .al a ob f hw ho hv rfl (fun S hS => ?_) hn.2 rfl⟩
          have := List.all_eq_true.1 hn.1 S hS
          simpa using this
        · cases h
      · cases h
    · rename_i n1 n2 n3
      split at h
      · rename_i v H' hv
        rw [fV_eq, fH_eq] at h
        split at h
        · rename_i hc
          rw [fT_eq] at h; cases h
          refine ⟨(v, .im H'), .im H' hw ?_ hv (fun q hq hm => ?_) rfl⟩
          · cases hq : o.lo.o <;> first | rfl | exact absurd hq (n1 _) | exact absurd hq (n2 _) | exact absurd hq (n3 _)
          · have := List.all_eq_true.1 hc q hq
            simp only [Bool.or_eq_true, Bool.not_eq_true', List.contains_eq_mem, decide_eq_false_iff_not] at this
            exact alike_spec (this.resolve_left (fun h => h hm))
        · cases h
      · cases h
/-- The states of one run. -/
theorem trace_of {E : Env} {call : CallF} {base : Nat} : ∀ (dls : List Dl) {D0 Dn : Ds}, execD E call base dls D0 = some Dn →
    ∃ D : Nat → Ds, D 0 = D0 ∧ D dls.length = Dn ∧ ∀ i o, dls[i]? = some o → ∃ p : Value × Fx, Rec E call base o (D i) (D (i + 1)) p.1 p.2 := by
  intro dls
  induction dls with
  | nil => intro D0 Dn h; simp only [execD] at h; cases h; exact ⟨fun _ => D0, rfl, rfl, fun i o h => by simp at h⟩
  | cons o r ih =>
    intro D0 Dn h
    simp only [execD] at h
    split at h
    · rename_i D1 h1
      obtain ⟨D, k0, k1, k2⟩ := ih h
      refine ⟨fun i => match i with | 0 => D0 | i + 1 => D i, rfl, k1, fun i o' hi => ?_⟩
      cases i with
      | zero => simp at hi; subst hi; show ∃ p : Value × Fx, Rec E call base o D0 (D 0) p.1 p.2; rw [k0]; exact rec_of h1
      | succ i => exact k2 i o' (by simpa using hi)
    · cases h

/-! ### States by what has been done -/
section
variable (v : Nat → Value) (d : Nat → Option Nat) (fx : Nat → Fx) (E : Nat → Bool)
def TE (t0 : Nat → Value) : Nat → Nat → Value
  | 0, x => t0 x
  | k + 1, x => if E k = true ∧ d k = some x then v k else TE t0 k x
def XE (H0 : Hp) : Nat → Hp
  | 0 => H0
  | k + 1 => if E k = true then (match fx k with
    | .no => XE H0 k
    | .al s o => (XE H0 k).put s (some o)
    | .im H => H) else XE H0 k
def KE (H0 : Hp) : Nat → Hp
  | 0 => H0
  | k + 1 => if E k = true then (match fx k with
    | .im H => H
    | _ => KE H0 k) else KE H0 k
def cntE : Nat → Nat
  | 0 => 0
  | k + 1 => cntE k + if E k = true then 0 else 1
end
def setE (E : Nat → Bool) (j : Nat) : Nat → Bool := fun i => if i = j then true else E i
section
variable {v : Nat → Value} {d : Nat → Option Nat} {fx : Nat → Fx} {E E' : Nat → Bool} {t0 : Nat → Value} {H0 : Hp}
theorem setE_same (E : Nat → Bool) (j : Nat) : setE E j j = true := if_pos rfl
theorem setE_ne (E : Nat → Bool) {i j : Nat} (h : i ≠ j) : setE E j i = E i := if_neg h
theorem TE_congr {k x : Nat} (h : ∀ i, i < k → E i = E' i) : TE v d E t0 k x = TE v d E' t0 k x := by
  induction k with
  | zero => rfl
  | succ k ih => simp only [TE, ih fun i hi => h i (by omega), h k (by omega)]
theorem XE_congr {k : Nat} (h : ∀ i, i < k → E i = E' i) : XE fx E H0 k = XE fx E' H0 k := by
  induction k with
  | zero => rfl
  | succ k ih => simp only [XE, ih fun i hi => h i (by omega), h k (by omega)]
theorem KE_congr {k : Nat} (h : ∀ i, i < k → E i = E' i) : KE fx E H0 k = KE fx E' H0 k := by
  induction k with
  | zero => rfl
  | succ k ih => simp only [KE, ih fun i hi => h i (by omega), h k (by omega)]
theorem XE_n {k : Nat} : (XE fx E H0 k).n = (KE fx E H0 k).n := by
  induction k with
  | zero => rfl
  | succ k ih =>
    simp only [XE, KE]
    split
    · cases fx k <;> first | exact ih | rfl
    · exact ih
theorem TE_above {j k x : Nat} (hjk : j ≤ k) (h : ∀ i, j ≤ i → i < k → d i = some x → E i = false) : TE v d E t0 k x = TE v d E t0 j x := by
  induction k with
  | zero => have : j = 0 := by omega
            subst this; rfl
  | succ k ih =>
    by_cases e : j = k + 1
    · subst e; rfl
    · simp only [TE]
      rw [if_neg (fun hc => by rw [h k (by omega) (by omega) hc.2] at hc; exact absurd hc.1 (by simp)), ih (by omega) fun i h1 h2 => h i h1 (by omega)]
theorem KE_above {j k : Nat} (hjk : j ≤ k) (h : ∀ i, j ≤ i → i < k → E i = true → ∀ H, fx i ≠ .im H) : KE fx E H0 k = KE fx E H0 j := by
  induction k with
  | zero => have : j = 0 := by omega
            subst this; rfl
  | succ k ih =>
    by_cases e : j = k + 1
    · subst e; rfl
    · simp only [KE]
      rw [← ih (by omega) fun i h1 h2 => h i h1 (by omega)]
      split
      · rename_i he
        cases hf : fx k with
        | im H => exact absurd hf (h k (by omega) (by omega) he H)
        | no => rfl
        | al s o => rfl
      · rfl
theorem KE_all {k : Nat} (h : ∀ i, i < k → ∀ H, fx i = .im H → E i = true) : KE fx E H0 k = KE fx (fun _ => true) H0 k := by
  induction k with
  | zero => rfl
  | succ k ih =>
    simp only [KE, if_true]
    rw [ih fun i hi => h i (by omega)]
    split
    · rfl
    · rename_i he
      cases hf : fx k with
      | im H => exact absurd (h k (by omega) H hf) he
      | no => rfl
      | al s o => rfl
theorem XE_all {k : Nat} (h : ∀ i, i < k → fx i ≠ .no → E i = true) : XE fx E H0 k = XE fx (fun _ => true) H0 k := by
  induction k with
  | zero => rfl
  | succ k ih =>
    simp only [XE, if_true]
    rw [ih fun i hi => h i (by omega)]
    split
    · rfl
    · rename_i he
      cases hf : fx k with
      | no => rfl
      | im H => exact absurd (h k (by omega) (by rw [hf]; simp)) he
      | al s o => exact absurd (h k (by omega) (by rw [hf]; simp)) he
/-- What is known behind an operation was known at it, or has been made since. -/
theorem XE_back {j k : Nat} (hjk : j ≤ k) (h : ∀ i, j ≤ i → i < k → E i = true → ∀ H, fx i ≠ .im H) {id : Nat} {o : AObj} (ho : (XE fx E H0 k).get id = some o) :
    (XE fx E H0 j).get id = some o ∨ ∃ i, j ≤ i ∧ i < k ∧ E i = true ∧ fx i = .al id o := by
  induction k with
  | zero => have : j = 0 := by omega
            subst this; exact .inl ho
  | succ k ih =>
    by_cases e : j = k + 1
    · subst e; exact .inl ho
    · have ih := ih (by omega) fun i h1 h2 => h i h1 (by omega)
      have fin : (XE fx E H0 k).get id = some o → ((XE fx E H0 j).get id = some o ∨ ∃ i, j ≤ i ∧ i < k + 1 ∧ E i = true ∧ fx i = Fx.al id o) := fun h => (ih h).imp (fun x => x) fun ⟨i, a, b, c⟩ => ⟨i, a, by omega, c⟩
      simp only [XE] at ho
      split at ho
      · rename_i he
        split at ho
        · exact fin ho
        · rename_i s ob hf
          rw [Hp.get_put] at ho
          split at ho
          · rename_i hid
            subst hid; cases ho
            exact .inr ⟨k, by omega, by omega, he, hf⟩
          · exact fin ho
        · rename_i H hf
          exact absurd hf (h k (by omega) (by omega) he H)
      · exact fin ho
theorem XE_KE {k : Nat} {id : Nat} {o : AObj} (ho : (XE fx E H0 k).get id = some o) : (KE fx E H0 k).get id = some o ∨ ∃ i, i < k ∧ E i = true ∧ fx i = .al id o := by
  induction k with
  | zero => exact .inl ho
  | succ k ih =>
    simp only [XE] at ho
    have fin : (XE fx E H0 k).get id = some o → (KE fx E H0 k).get id = some o ∨ ∃ i, i < k + 1 ∧ E i = true ∧ fx i = .al id o := fun h => (ih h).imp (fun x => x) fun ⟨i, a, b⟩ => ⟨i, by omega, b⟩
    simp only [KE]
    split at ho
    · rename_i he
      rw [if_pos he]
      split at ho
      · rename_i hf
        rw [hf]; exact fin ho
      · rename_i s ob hf
        rw [hf]
        rw [Hp.get_put] at ho
        split at ho
        · rename_i hid
          subst hid; cases ho
          exact .inr ⟨k, by omega, he, hf⟩
        · exact fin ho
      · rename_i hf
        rw [hf]; exact .inl ho
    · rename_i he
      rw [if_neg he]
      exact fin ho
theorem cntE_zero {k : Nat} (h : cntE E k = 0) {i : Nat} (hi : i < k) : E i = true := by
  induction k with
  | zero => omega
  | succ k ih =>
    simp only [cntE] at h
    by_cases e : i = k
    · subst e
      by_cases he : E i = true
      · exact he
      · rw [if_neg he] at h; omega
    · exact ih (by omega) (by omega)
theorem cntE_set {k j : Nat} (hj : j < k) (he : E j = false) : cntE (setE E j) k + 1 = cntE E k := by
  induction k with
  | zero => omega
  | succ k ih =>
    simp only [cntE]
    by_cases e : j = k
    · subst e
      rw [setE_same, he]
      have : cntE (setE E j) j = cntE E j := by
        have : ∀ m, m ≤ j → cntE (setE E j) m = cntE E m := by
          intro m
          induction m with
          | zero => intro _; rfl
          | succ m ihm => intro hm; simp only [cntE, ihm (by omega), setE_ne E (show m ≠ j by omega)]
        exact this j (Nat.le_refl _)
      rw [this]; simp
    · rw [setE_ne E (show k ≠ j by omega)]
      have := ih (by omega)
      omega
theorem cntE_le (k : Nat) : cntE E k ≤ k := by
  induction k with
  | zero => exact Nat.le_refl _
  | succ k ih => simp only [cntE]; split <;> omega
theorem TE_set {n j x : Nat} (hj : j < n) (he : E j = false) (h : ∀ i, j < i → i < n → E i = true → d i = some x → d j ≠ some x) :
    TE v d (setE E j) t0 n x = if d j = some x then v j else TE v d E t0 n x := by
  have below : ∀ k, k ≤ j → TE v d (setE E j) t0 k x = TE v d E t0 k x := fun k hk => TE_congr fun i hi => setE_ne E (by omega)
  have : ∀ k, j < k → k ≤ n → TE v d (setE E j) t0 k x = if d j = some x then v j else TE v d E t0 k x := by
    intro k
    induction k with
    | zero => intro h; omega
    | succ k ih =>
      intro h1 h2
      simp only [TE]
      by_cases e : k = j
      · subst e
        rw [setE_same, below k (Nat.le_refl _), he]
        simp
      · rw [setE_ne E e, ih (by omega) (by omega)]
        by_cases hc : E k = true ∧ d k = some x
        · rw [if_pos hc, if_pos hc, if_neg (h k (by omega) (by omega) hc.1 hc.2)]
        · rw [if_neg hc, if_neg hc]
  exact this n hj (Nat.le_refl _)
theorem XE_set_no {n j : Nat} (hf : fx j = .no) : XE fx (setE E j) H0 n = XE fx E H0 n := by
  induction n with
  | zero => rfl
  | succ k ih =>
    simp only [XE]
    by_cases e : k = j
    · subst e; rw [setE_same, if_pos rfl, hf, ih]; simp
    · rw [setE_ne E e, ih]
theorem KE_set {n j : Nat} (hf : ∀ H, fx j ≠ .im H) : KE fx (setE E j) H0 n = KE fx E H0 n := by
  induction n with
  | zero => rfl
  | succ k ih =>
    simp only [KE]
    by_cases e : k = j
    · subst e; rw [setE_same, if_pos rfl, ih]
      cases hq : fx k with
      | im H => exact absurd hq (hf H)
      | no => simp
      | al s o => simp
    · rw [setE_ne E e, ih]
theorem XE_set_al {n j s : Nat} {o : AObj} (hj : j < n) (hf : fx j = .al s o) (h1 : ∀ i, j < i → i < n → E i = true → ∀ H, fx i ≠ .im H) (h2 : ∀ i s' o', j < i → i < n → fx i = .al s' o' → s' ≠ s) (id : Nat) :
    (XE fx (setE E j) H0 n).get id = if id = s then some o else (XE fx E H0 n).get id := by
  have : ∀ k, j < k → k ≤ n → (XE fx (setE E j) H0 k).get id = if id = s then some o else (XE fx E H0 k).get id := by
    intro k
    induction k with
    | zero => intro h; omega
    | succ k ih =>
      intro a1 a2
      simp only [XE]
      by_cases e : k = j
      · subst e
        rw [setE_same, if_pos rfl, hf]
        have : XE fx (setE E k) H0 k = XE fx E H0 k := XE_congr fun i hi => setE_ne E (by omega)
        simp only [this, Hp.get_put]
        by_cases hid : id = s
        · rw [if_pos hid, if_pos hid]
        · rw [if_neg hid, if_neg hid]
          split
          · rw [Hp.get_put, if_neg hid]
          · rfl
      · rw [setE_ne E e]
        split
        · rename_i he
          split
          · exact ih (by omega) (by omega)
          · rename_i s' o' hf'
            rw [Hp.get_put, Hp.get_put, ih (by omega) (by omega)]
            by_cases hid : id = s'
            · rw [if_pos hid, if_pos hid, if_neg (by rw [hid]; exact h2 k s' o' (by omega) (by omega) hf')]
            · rw [if_neg hid, if_neg hid]
          · rename_i H hf'
            exact absurd hf' (h1 k (by omega) (by omega) he H)
        · exact ih (by omega) (by omega)
  exact this n hj (Nat.le_refl _)
end

end Go.Proofs.YtaegmplbkbaniaaGreatDoor
