/-
  THE ABSTRACT MACHINE: regions that draw their order, every order of them. No condition.
-/
import Derived.Test.YtaegmplbkbaniaaGreatDoorAmDraw
set_option linter.all false
namespace Go.Proofs.YtaegmplbkbaniaaGreatDoor
open Go

/-- Guards. -/
theorem wants_sound {ρ : Nat → Option Pl} {t : Tr Value} {tm : Array Value} {ops : Array Oper} {o : Oper} {g : Option (Nat × Bool)} (hg : cGuard ops o.guard = some g)
    (h : ∀ d w, g = some (d, w) → VR ρ (Od.ev t (.t d)) (tm.getD d undef)) : Region.wanted o (yielded ops tm) = wants g t := by
  unfold Region.wanted
  cases hgu : o.guard with
  | none => rw [hgu] at hg; simp only [cGuard] at hg; cases hg; rfl
  | some jw =>
    obtain ⟨j, w⟩ := jw
    rw [hgu] at hg
    simp only [cGuard] at hg
    split at hg
    · rename_i d hd
      cases hg
      have := h d w rfl
      simp only [yielded, hd, Option.bind_some, wants]
      simp only [Od.ev] at this
      cases ht : t.get d with
      | none =>
        rw [ht] at this
        have e : tm.getD d undef = undef := by
          generalize tm.getD d undef = x at this
          cases this with
          | tuple c c' hc hh =>
            have : c' = #[] := by apply Array.eq_empty_of_size_eq_zero; rw [← hc]; rfl
            subst this; rfl
        cases hx : tm[d]? with
        | none => rfl
        | some x => rw [Array.getD_eq_getD_getElem?, hx] at e; simp only [Option.getD_some] at e; subst e; rfl
      | some v =>
        rw [ht] at this
        simp only at this
        cases hx : tm[d]? with
        | none =>
          rw [Array.getD_eq_getD_getElem?, hx] at this
          simp only [Option.getD_none] at this
          cases this; rfl
        | some x =>
          rw [Array.getD_eq_getD_getElem?, hx] at this
          simp only [Option.getD_some] at this
          cases this <;> rfl
    · cases hg

theorem rst_get (ls : List Nat) (t : Tr Value) (x : Nat) : (rst ls t).get x = if x ∈ ls then t.get x else none := by
  induction ls with
  | nil => simp only [rst, Tr.get_nil, List.not_mem_nil, if_false]
  | cons y r ih =>
    simp only [rst]
    by_cases e : x = y
    · subst e
      rw [if_pos (List.mem_cons_self ..)]
      split
      · rename_i v hv; rw [Tr.get_put_same, hv]
      · rename_i hv
        rw [ih, hv]; split <;> rfl
    · have : (x ∈ y :: r) ↔ x ∈ r := by simp [e]
      split
      · rw [Tr.get_put_ne _ _ e, ih]; simp only [this]
      · rw [ih]; simp only [this]
theorem ev_put (t : Tr Value) (d : Option Nat) (v : Value) (x : Nat) : Od.ev (putD t d v) (.t x) = if d = some x then v else Od.ev t (.t x) := by
  cases d with
  | none => simp [putD]
  | some n =>
    simp only [putD, Od.ev, Tr.get_put, Option.some.injEq]
    by_cases e : x = n
    · subst e; simp
    · rw [if_neg e, if_neg (Ne.symm e)]
theorem getD_put (a : Act) (d : Option Nat) (v : Value) (x : Nat) (h : ∀ n, d = some n → n < a.tmps.size) : (a.put d v).tmps.getD x undef = if d = some x then v else a.tmps.getD x undef := by
  cases d with
  | none => simp [Act.put]
  | some n =>
    have := h n rfl
    simp only [Act.put, Array.getD_eq_getD_getElem?, Option.some.injEq]
    rw [Array.getElem?_setIfInBounds]
    by_cases e : n = x
    · rw [if_pos e, if_pos e, if_pos (by omega)]; rfl
    · rw [if_neg e, if_neg e]

/-- What the compiler has checked. -/
structure Stat (P : Program) (nt na : Nat) (ops : Array Oper) (O : Nat → Oper) (L : Nat → Dl) (pr : Nat → Nat → Bool) : Prop where
  o : ∀ i, i < ops.size → ops[i]? = some (O i)
  op : ∀ i, i < ops.size → (L i).lo.o = cOp P (O i).op
  gd : ∀ i, i < ops.size → cGuard ops (O i).guard = some (L i).lo.g
  dst : ∀ i, i < ops.size → (L i).lo.d = (O i).dst
  lt : ∀ i x, i < ops.size → (O i).dst = some x → x < nt
  ls : ∀ i, i < ops.size → (L i).ls = (O i).looksAt ops
  ix : ∀ i, i < ops.size → (L i).i = i
  pairs : ∀ i j, i < j → j < ops.size → pr j i = true ∨ ((O i).apart ops (O j) = true ∧ ¬ (((L i).lo.o.isIm = true ∨ (L i).lo.o.isAl = true) ∧ (L j).lo.o.isIm = true))
  closed : ∀ j i, j < ops.size → pr j i = true → ∃ e ∈ (O j).after, Region.binds .any e = true ∧ (i = e.on ∨ pr e.on i = true)
  early : ∀ j, j < ops.size → ∀ e ∈ (O j).after, Region.binds .any e = true → e.on < j
  slot : ∀ i j, i < j → j < ops.size → (L i).lo.o.isAl = true → (L j).lo.o.isAl = true → (L i).slot ≠ (L j).slot
  slotLt : ∀ i, i < ops.size → (L i).lo.o.isAl = true → (L i).slot < na
  back : ∀ j, j < ops.size → cntE (fun k => !((L k).lo.o.isIm && !pr j k)) j ≤ (L j).back
  keep : ∀ j m, j < m → m < ops.size → (L j).lo.o.isRd = true → (L m).lo.o.isIm = true → pr m j = false → (L j).keep = true ∧ j ∈ (L m).chk

section
variable {P : Program} {E : Env} {call : CallF} {ρ0 : Nat → Option Pl} {H : Hp} {w0 : World} {nt na : Nat} {ops : Array Oper} {O : Nat → Oper} {L : Nat → Dl} {pr : Nat → Nat → Bool}
  {D : Nat → Ds} {v : Nat → Value} {fx : Nat → Fx}

/-- What holds between two operations, in whatever order. -/
structure Inv (P : Program) (ρ0 : Nat → Option Pl) (H : Hp) (w0 : World) (nt na : Nat) (ops : Array Oper) (O : Nat → Oper) (t0 : Nat → Value) (v : Nat → Value) (fx : Nat → Fx)
    (B : Nat → Bool) (a : Act) (w : World) : Prop where
  cl : ∀ j, j < ops.size → B j = true → ∀ e ∈ (O j).after, Region.binds .any e = true → B e.on = true
  st : ∃ ρ, PR (P.globals.size + 1) ρ0 H w0 ρ (XE fx B (H.reserve na) ops.size) w ∧ (∀ x, VR ρ (TE v (fun i => (O i).dst) B t0 ops.size x) (a.tmps.getD x undef)) ∧
    (∀ j, j < ops.size → B j = false → ∀ s o, fx j = .al s o → ρ s = none)
  nn : H.n + na ≤ (XE fx B (H.reserve na) ops.size).n
  sz : a.tmps.size = nt
  df : a.defers = []

theorem pred_closed (hs : Stat P nt na ops O L pr) {B : Nat → Bool} (hc : ∀ j, j < ops.size → B j = true → ∀ e ∈ (O j).after, Region.binds .any e = true → B e.on = true) :
    ∀ j, j < ops.size → (B j = true ∨ ∀ e ∈ (O j).after, Region.binds .any e = true → B e.on = true) → ∀ i, pr j i = true → B i = true := by
  intro j
  induction j using Nat.strongRecOn with
  | _ j ih =>
    intro hj hb i hp
    obtain ⟨e, h1, h2, h3⟩ := hs.closed j i hj hp
    have he : B e.on = true := by
      rcases hb with hb | hb
      · exact hc j hj hb e h1 h2
      · exact hb e h1 h2
    have hlt := hs.early j hj e h1 h2
    rcases h3 with rfl | h3
    · exact he
    · exact ih e.on hlt (by omega) (.inl he) i h3

/-! ### Facts of the one run -/
structure Run (P : Program) (E : Env) (call : CallF) (H : Hp) (na : Nat) (ops : Array Oper) (O : Nat → Oper) (L : Nat → Dl) (D : Nat → Ds) (v : Nat → Value) (fx : Nat → Fx) (t : Tr Value) : Prop where
  r : ∀ i, i < ops.size → Rec E call H.n (L i) (D i) (D (i + 1)) (v i) (fx i)
  t0 : (D 0).t = t
  H0 : (D 0).H = H.reserve na
  K0 : (D 0).K = H.reserve na
  rd0 : (D 0).rd = []
variable {t : Tr Value}
theorem rec_t {base : Nat} {o : Dl} {D D' : Ds} {v : Value} {f : Fx} (h : Rec E call base o D D' v f) : D'.t = putD D.t o.lo.d v := by
  cases h <;> rename_i h1 <;> subst h1 <;> rfl
theorem run_TE (hs : Stat P nt na ops O L pr) (hr : Run P E call H na ops O L D v fx t) {B : Nat → Bool} {x : Nat} : ∀ k, k ≤ ops.size → (∀ i, i < k → (O i).dst = some x → B i = true) →
    TE v (fun i => (O i).dst) B (fun x => Od.ev t (.t x)) k x = Od.ev (D k).t (.t x) := by
  intro k
  induction k with
  | zero => intro _ _; simp only [TE, hr.t0]
  | succ k ih =>
    intro hk hb
    simp only [TE]
    rw [rec_t (hr.r k hk), ev_put, hs.dst k hk, ih (by omega) fun i h1 h2 => hb i (by omega) h2]
    by_cases e : (O k).dst = some x
    · rw [if_pos ⟨hb k (by omega) e, e⟩, if_pos e]
    · rw [if_neg (fun h => e h.2), if_neg e]
theorem run_XE (hr : Run P E call H na ops O L D v fx t) : ∀ k, k ≤ ops.size → (D k).H = XE fx (fun _ => true) (H.reserve na) k ∧ (D k).K = KE fx (fun _ => true) (H.reserve na) k := by
  intro k
  induction k with
  | zero => intro _; exact ⟨hr.H0, hr.K0⟩
  | succ k ih =>
    intro hk
    obtain ⟨h1, h2⟩ := ih (by omega)
    have := hr.r k hk
    simp only [XE, KE, if_true]
    generalize fx k = f at this ⊢
    cases this <;> rename_i hd <;> rw [hd] <;> simp only [h1, h2, and_self]
/-- The memories that a later state remembers. -/
theorem run_SN (hr : Run P E call H na ops O L D v fx t) (B : Nat → Bool) : ∀ k, k ≤ ops.size →
    KE fx B (H.reserve na) k ∈ ((D k).K :: (D k).sn).take (1 + cntE (fun i => !((L i).lo.o.isIm && !B i)) k) := by
  intro k
  induction k with
  | zero => intro _; simp [KE, hr.K0, cntE]
  | succ k ih =>
    intro hk
    have ih := ih (by omega)
    have := hr.r k hk
    have mono : ∀ {l : List Hp} {a b : Nat} {x : Hp}, a ≤ b → x ∈ l.take a → x ∈ l.take b := fun {l a b x} hab h => by
      have : l.take a = (l.take b).take a := by rw [List.take_take, Nat.min_eq_left hab]
      rw [this] at h
      exact List.mem_of_mem_take h
    simp only [KE, cntE]
    cases hf : fx k with
    | im H' =>
      rw [hf] at this
      cases this with
      | im _ h ho hv hc h1 =>
      rw [h1]
      simp only
      by_cases hb : B k = true
      · rw [if_pos hb, Nat.add_comm, List.take_succ_cons]; exact List.mem_cons_self ..
      · have hb' : B k = false := by simpa using hb
        rw [if_neg hb, if_neg (by rw [ho, hb']; simp)]
        rw [show 1 + (cntE (fun i => !((L i).lo.o.isIm && !B i)) k + 1) = (1 + cntE (fun i => !((L i).lo.o.isIm && !B i)) k) + 1 by omega, List.take_succ_cons]
        exact List.mem_cons_of_mem _ ih
    | no =>
      rw [hf] at this
      have e : (D (k + 1)).K = (D k).K ∧ (D (k + 1)).sn = (D k).sn := by cases this <;> rename_i hd <;> rw [hd] <;> exact ⟨rfl, rfl⟩
      rw [e.1, e.2]
      have : (if B k = true then KE fx B (H.reserve na) k else KE fx B (H.reserve na) k) = KE fx B (H.reserve na) k := by split <;> rfl
      simp only [this]
      exact mono (by omega) ih
    | al s ob =>
      rw [hf] at this
      have e : (D (k + 1)).K = (D k).K ∧ (D (k + 1)).sn = (D k).sn := by cases this; rename_i hd; rw [hd]; exact ⟨rfl, rfl⟩
      rw [e.1, e.2]
      have : (if B k = true then KE fx B (H.reserve na) k else KE fx B (H.reserve na) k) = KE fx B (H.reserve na) k := by split <;> rfl
      simp only [this]
      exact mono (by omega) ih
theorem run_sn_mono (hr : Run P E call H na ops O L D v fx t) {i : Nat} : ∀ k, i ≤ k → k ≤ ops.size → ∀ S ∈ (D i).K :: (D i).sn, S ∈ (D k).K :: (D k).sn := by
  intro k
  induction k with
  | zero => intro h _ S hS; have : i = 0 := by omega
            subst this; exact hS
  | succ k ih =>
    intro h hk S hS
    by_cases e : i = k + 1
    · subst e; exact hS
    · have := ih (by omega) (by omega) S hS
      have hk := hr.r k hk
      generalize fx k = f at hk
      cases hk <;> rename_i hd <;> rw [hd] <;> first | exact this | exact List.mem_cons_of_mem _ this
theorem run_rd_mono (hr : Run P E call H na ops O L D v fx t) {i : Nat} : ∀ k, i ≤ k → k ≤ ops.size → ∀ q ∈ (D i).rd, q ∈ (D k).rd := by
  intro k
  induction k with
  | zero => intro h _ S hS; have : i = 0 := by omega
            subst this; exact hS
  | succ k ih =>
    intro h hk S hS
    by_cases e : i = k + 1
    · subst e; exact hS
    · have := ih (by omega) (by omega) S hS
      have hk := hr.r k hk
      generalize fx k = f at hk
      cases hk <;> rename_i hd <;> rw [hd] <;> first
        | exact this
        | (simp only; split <;> first | exact List.mem_cons_of_mem _ this | exact this)
/-- A kept number is known nowhere ahead of its making. -/
theorem run_fresh (hs : Stat P nt na ops O L pr) (hr : Run P E call H na ops O L D v fx t) {B : Nat → Bool} {i s : Nat} {o : AObj} (hi : i < ops.size) (hf : fx i = .al s o) : ∀ k, k ≤ i → (XE fx B (H.reserve na) k).get s = none := by
  intro k hk
  cases ho : (XE fx B (H.reserve na) k).get s with
  | none => rfl
  | some ob =>
    exfalso
    have hri := hr.r i hi
    rw [hf] at hri
    cases hri with
    | al a ob' f h hoo hv hfv hn h1 =>
    rcases XE_KE ho with h2 | ⟨j, h2, h3, h4⟩
    · have := run_SN hr B k (by omega)
      have := run_sn_mono hr i hk (by omega) _ (List.mem_of_mem_take this)
      rw [hn _ this] at h2; cases h2
    · have hrj := hr.r j (by omega)
      rw [h4] at hrj
      have hal : (L i).lo.o.isAl = true := by rw [hoo]; rfl
      have key : ∀ {s o}, Rec E call H.n (L j) (D j) (D (j + 1)) (v j) (.al s o) → s = H.n + (L j).slot ∧ (L j).lo.o.isAl = true := fun h => by
        cases h with | al _ _ _ _ ho _ _ _ _ _ => exact ⟨rfl, by rw [ho]; rfl⟩
      obtain ⟨e1, e2⟩ := key hrj
      exact hs.slot j i (by omega) hi e2 hal (by omega)
theorem rec_al {base : Nat} {o : Dl} {D D' : Ds} {v : Value} {s : Nat} {ob : AObj} (h : Rec E call base o D D' v (.al s ob)) : s = base + o.slot ∧ o.lo.o.isAl = true := by
  cases h with | al _ _ _ _ ho _ _ _ _ _ => exact ⟨rfl, by rw [ho]; rfl⟩
theorem rec_im {base : Nat} {o : Dl} {D D' : Ds} {v : Value} {H' : Hp} (h : Rec E call base o D D' v (.im H')) : o.lo.o.isIm = true := by
  cases h with | im _ _ ho _ _ _ => exact ho

end

end Go.Proofs.YtaegmplbkbaniaaGreatDoor
