/-
  THE ABSTRACT MACHINE: regions that draw their order, whole. No condition.
-/
import Derived.Test.YtaegmplbkbaniaaGreatDoorAmDrawC
set_option linter.all false
namespace Go.Proofs.YtaegmplbkbaniaaGreatDoor
open Go
section
variable {P : Program} {E : Env} {call : CallF} {ρ0 : Nat → Option Pl} {H : Hp} {w0 : World} {nt na : Nat} {ops : Array Oper} {O : Nat → Oper} {L : Nat → Dl} {pr : Nat → Nat → Bool}
  {D : Nat → Ds} {v : Nat → Value} {fx : Nat → Fx} {t : Tr Value}

theorem Inv.whole {t0 : Nat → Value} {B : Nat → Bool} {a : Act} {w : World} (h : Inv P ρ0 H w0 nt na ops O t0 v fx B a w) (hB : ∀ i, i < ops.size → B i = true) : Inv P ρ0 H w0 nt na ops O t0 v fx (fun _ => true) a w := by
  obtain ⟨ρ, h1, h2, h3⟩ := h.st
  have e1 : XE fx B (H.reserve na) ops.size = XE fx (fun _ => true) (H.reserve na) ops.size := XE_congr fun i hi => hB i hi
  refine ⟨fun _ _ _ _ _ _ => rfl, ⟨ρ, by rw [← e1]; exact h1, fun x => ?_, fun _ _ h => by cases h⟩, by rw [← e1]; exact h.nn, h.sz, h.df⟩
  rw [← TE_congr fun i hi => hB i hi]; exact h2 x
theorem ready_nil (hs : Stat P nt na ops O L pr) {listed : Array Bool} (hl : listed.size = ops.size) (h : Region.ready .any ops listed = []) : ∀ i, i < ops.size → listed.getD i false = true := by
  intro i
  induction i using Nat.strongRecOn with
  | _ i ih =>
    intro hi
    cases hb : listed.getD i false with
    | true => rfl
    | false =>
      have : i ∈ Region.ready .any ops listed := mem_ready.2 ⟨by
        simp only [Array.getD_eq_getD_getElem?] at hb ⊢
        have : i < listed.size := by omega
        rw [Array.getElem?_eq_getElem this] at hb ⊢; exact hb, O i, hs.o i hi, fun e he hbi => by
          have := hs.early i hi e he hbi
          exact ih e.on this (by omega)⟩
      rw [h] at this; cases this
theorem draw_any (hE : EOk P E) (hC : CallOk P call) (hs : Stat P nt na ops O L pr) (hr : Run P E call H na ops O L D v fx t) {Q : Exit → Act → World → Prop}
    (hQ : ∀ a w, Inv P ρ0 H w0 nt na ops O (fun x => Od.ev t (.t x)) v fx (fun _ => true) a w → Q .normal a w) :
    ∀ (fuel : Nat) (listed : Array Bool) (a : Act) (w : World), listed.size = ops.size → cntE (fun i => listed.getD i false) ops.size ≤ fuel →
      Inv P ρ0 H w0 nt na ops O (fun x => Od.ev t (.t x)) v fx (fun i => listed.getD i false) a w → wpAny P .any ops Q fuel listed a w := by
  intro fuel
  induction fuel with
  | zero =>
    intro listed a w hl hc hI
    have hall : ∀ i, i < ops.size → listed.getD i false = true := fun i hi => cntE_zero (E := fun i => listed.getD i false) (by omega) hi
    refine ⟨?_, hQ a w (hI.whole hall)⟩
    cases hr : Region.ready .any ops listed with
    | nil => rfl
    | cons j r =>
      have hm : j ∈ Region.ready .any ops listed := by rw [hr]; exact List.mem_cons_self ..
      obtain ⟨h0, o, ho, _⟩ := mem_ready.1 hm
      have hj := (Array.getElem?_eq_some_iff.1 ho).1
      have := hall j hj
      simp only [Array.getD_eq_getD_getElem?] at this h0
      rw [Array.getElem?_eq_getElem (by omega : j < listed.size)] at this h0
      simp only [Option.getD_some] at this h0
      rw [this] at h0; cases h0
  | succ fuel ih =>
    intro listed a w hl hc hI
    refine ⟨fun hn => hQ a w (hI.whole (ready_nil hs hl hn)), fun j hj => ?_⟩
    obtain ⟨h0, o, ho, hre⟩ := mem_ready.1 hj
    have hlt := (Array.getElem?_eq_some_iff.1 ho).1
    have hlj : j < listed.size := by omega
    have hoj := hs.o j hlt
    rw [ho] at hoj; cases hoj
    have hB : listed.getD j false = false := by
      simp only [Array.getD_eq_getD_getElem?] at h0 ⊢
      rw [Array.getElem?_eq_getElem hlj] at h0 ⊢; exact h0
    have hset : (fun i => (listed.setIfInBounds j true).getD i false) = setE (fun i => listed.getD i false) j := by
      funext i
      simp only [setE, Array.getD_eq_getD_getElem?, Array.getElem?_setIfInBounds]
      by_cases e : i = j
      · subst e; simp [hlj]
      · rw [if_neg e, if_neg (Ne.symm e)]
    have next : ∀ a w, Inv P ρ0 H w0 nt na ops O (fun x => Od.ev t (.t x)) v fx (setE (fun i => listed.getD i false) j) a w → wpAny P .any ops Q fuel (listed.setIfInBounds j true) a w := fun a w h => by
      refine ih _ a w (by simp [hl]) ?_ (by rw [hset]; exact h)
      rw [hset]
      have := cntE_set (E := fun i => listed.getD i false) hlt hB
      omega
    unfold wpOp
    simp only [ho]
    rcases draw_step hE hC hs hr hI hlt hB hre with ⟨h1, h2⟩ | ⟨h1, h2⟩
    · simp only [h1, Bool.false_eq_true, if_false]
      exact next _ _ h2
    · simp only [h1, if_true]
      exact .inl (Lands.wp (h2.mono fun v' w' h => next _ _ h))
end

/-! ### What the compiler checks -/
instance : Inhabited Dl := ⟨⟨⟨none, .p .bad, none⟩, 0, 0, 0, false, [], []⟩⟩
section
variable {P : Program} {nt : Nat} {ops : Array Oper}
theorem cLos_spec : ∀ {l : List Oper} {los : List Lo}, cLos P nt ops l = some los → los.length = l.length ∧ ∀ (i : Nat) (o : Oper) (x : Lo), l[i]? = some o → los[i]? = some x → cLo P nt ops o = some x
  | [], los, h => by simp only [cLos] at h; cases h; exact ⟨rfl, fun i o x h => by simp at h⟩
  | o :: r, los, h => by
    simp only [cLos] at h
    split at h
    · rename_i x l h1 h2
      cases h
      obtain ⟨k1, k2⟩ := cLos_spec h2
      refine ⟨by simp [k1], fun i o' x' ho hx => ?_⟩
      cases i with
      | zero => simp at ho hx; subst ho; subst hx; exact h1
      | succ i => exact k2 i o' x' (by simpa using ho) (by simpa using hx)
    · cases h
theorem cLo_spec {o : Oper} {x : Lo} (h : cLo P nt ops o = some x) : x.o = cOp P o.op ∧ cGuard ops o.guard = some x.g ∧ x.d = o.dst ∧ ∀ n, o.dst = some n → n < nt := by
  unfold cLo at h
  split at h
  · rename_i g hg
    split at h
    · rename_i hd; cases h; exact ⟨rfl, hg, hd.symm, fun n hn => by rw [hd] at hn; cases hn⟩
    · rename_i d hd
      split at h
      · rename_i hlt; cases h; exact ⟨rfl, hg, hd.symm, fun n hn => by rw [hd] at hn; cases hn; exact hlt⟩
      · cases h
  · cases h
def mkDl (ops : Array Oper) (preds : List Nat) (los : List Lo) (x : Lo) (i : Nat) : Dl :=
  { lo := x, i, slot := ((los.take i).filter (·.o.isAl)).length,
    back := (((los.take i).zipIdx.filter fun (y, k) => y.o.isIm && !(preds.getD i 0).testBit k)).length,
    keep := x.o.isRd && ((los.drop (i + 1)).zipIdx.any fun (y, k) => y.o.isIm && !(preds.getD (i + 1 + k) 0).testBit i),
    chk := if x.o.isIm then ((los.take i).zipIdx.filter fun (y, k) => y.o.isRd && !(preds.getD i 0).testBit k).map (·.2) else [],
    ls := match ops[i]? with | some o => o.looksAt ops | none => [] }
theorem cDls_spec (preds : List Nat) (los : List Lo) : ∀ (xs : List Lo) (i0 k : Nat), (cDls ops preds los xs i0)[k]? = (xs[k]?).map fun x => mkDl ops preds los x (i0 + k)
  | [], i0, k => by simp [cDls]
  | x :: r, i0, k => by
    cases k with
    | zero => rfl
    | succ k =>
      have := cDls_spec preds los r (i0 + 1) k
      simp only [cDls, List.getElem?_cons_succ, this]
      rw [show i0 + 1 + k = i0 + (k + 1) by omega]
theorem cDls_len (preds : List Nat) (los : List Lo) : ∀ (xs : List Lo) (i0 : Nat), (cDls ops preds los xs i0).length = xs.length
  | [], _ => rfl
  | x :: r, i0 => by simp [cDls, cDls_len preds los r (i0 + 1)]

/-! predecessors -/
def prStep (acc : List Nat) (o : Oper) : List Nat := acc ++ [o.after.toList.foldl (fun s e => if Region.binds .any e then s ||| 2 ^ e.on ||| acc.getD e.on 0 else s) 0]
theorem pr_inner (acc : List Nat) (i : Nat) : ∀ (l : List Edge) (s : Nat), (l.foldl (fun s e => if Region.binds .any e then s ||| 2 ^ e.on ||| acc.getD e.on 0 else s) s).testBit i = true →
    s.testBit i = true ∨ ∃ e ∈ l, Region.binds .any e = true ∧ (i = e.on ∨ (acc.getD e.on 0).testBit i = true) := by
  intro l
  induction l with
  | nil => intro s h; exact .inl h
  | cons e l ih =>
    intro s h
    simp only [List.foldl_cons] at h
    rcases ih _ h with h1 | ⟨e', h1, h2⟩
    · by_cases hb : Region.binds .any e = true
      · rw [if_pos hb, Nat.testBit_or, Nat.testBit_or, Bool.or_eq_true, Bool.or_eq_true, Nat.testBit_two_pow] at h1
        rcases h1 with (h1 | h1) | h1
        · exact .inl h1
        · exact .inr ⟨e, List.mem_cons_self .., hb, .inl (by simpa using (of_decide_eq_true h1).symm)⟩
        · exact .inr ⟨e, List.mem_cons_self .., hb, .inr h1⟩
      · rw [if_neg hb] at h1; exact .inl h1
    · exact .inr ⟨e', List.mem_cons_of_mem _ h1, h2⟩
theorem pr_keep : ∀ (l : List Oper) (acc : List Nat) (j : Nat), j < acc.length → (l.foldl prStep acc).getD j 0 = acc.getD j 0 := by
  intro l
  induction l with
  | nil => intro acc j _; rfl
  | cons o l ih =>
    intro acc j hj
    simp only [List.foldl_cons]
    rw [ih _ j (by simp [prStep]; omega)]
    simp only [prStep, List.getD_eq_getElem?_getD]
    rw [List.getElem?_append_left hj]
theorem pr_spec : ∀ (l : List Oper) (acc : List Nat) (j i : Nat), acc.length ≤ j → ((l.foldl prStep acc).getD j 0).testBit i = true →
    ∃ o, l[j - acc.length]? = some o ∧ ∃ e ∈ o.after, Region.binds .any e = true ∧ (i = e.on ∨ ((l.foldl prStep acc).getD e.on 0).testBit i = true) := by
  intro l
  induction l with
  | nil =>
    intro acc j i hj h
    simp only [List.foldl_nil, List.getD_eq_getElem?_getD] at h
    rw [List.getElem?_eq_none hj] at h
    simp at h
  | cons o l ih =>
    intro acc j i hj h
    simp only [List.foldl_cons] at h ⊢
    have hlen : (prStep acc o).length = acc.length + 1 := by simp [prStep]
    by_cases e : j = acc.length
    · subst e
      refine ⟨o, by simp, ?_⟩
      rw [pr_keep l _ _ (by omega)] at h
      simp only [prStep, List.getD_eq_getElem?_getD] at h
      rw [List.getElem?_append_right (Nat.le_refl _), Nat.sub_self] at h
      simp only [List.getElem?_cons_zero, Option.getD_some] at h
      rcases pr_inner acc i _ _ (by simpa only [List.getD_eq_getElem?_getD] using h) with h1 | ⟨e, h1, h2, h3⟩
      · simp at h1
      · refine ⟨e, by simpa using h1, h2, h3.imp (fun x => x) fun h4 => ?_⟩
        by_cases hlt : e.on < acc.length
        · rw [pr_keep l _ _ (by omega)]
          simp only [prStep, List.getD_eq_getElem?_getD] at h4 ⊢
          rw [List.getElem?_append_left hlt]; exact h4
        · simp only [List.getD_eq_getElem?_getD] at h4
          rw [List.getElem?_eq_none (by omega)] at h4
          simp at h4
    · obtain ⟨o', h1, h2⟩ := ih (prStep acc o) j i (by omega) h
      refine ⟨o', ?_, h2⟩
      rw [hlen] at h1
      rw [show j - acc.length = (j - (acc.length + 1)) + 1 by omega]
      simpa using h1

/-! counting -/
def cntF (p : Lo → Nat → Bool) (los : List Lo) (k : Nat) : Nat := ((los.take k).zipIdx.filter fun (y, i) => p y i).length
theorem take_succ_get {α : Type} {l : List α} {k : Nat} {x : α} (h : l[k]? = some x) : l.take (k + 1) = l.take k ++ [x] := by
  rw [List.take_add_one, h]; rfl
theorem cntF_succ (p : Lo → Nat → Bool) {los : List Lo} {k : Nat} {x : Lo} (h : los[k]? = some x) : cntF p los (k + 1) = cntF p los k + if p x k = true then 1 else 0 := by
  have hk := (List.getElem?_eq_some_iff.1 h).1
  unfold cntF
  rw [take_succ_get h, List.zipIdx_append, List.filter_append, List.length_append]
  congr 1
  simp only [List.zipIdx_cons, List.zipIdx_nil, List.length_take, Nat.min_eq_left (Nat.le_of_lt hk), Nat.zero_add, List.filter_cons, List.filter_nil]
  split <;> simp
def cntG (p : Lo → Bool) (los : List Lo) (k : Nat) : Nat := ((los.take k).filter p).length
theorem cntG_succ (p : Lo → Bool) {los : List Lo} {k : Nat} {x : Lo} (h : los[k]? = some x) : cntG p los (k + 1) = cntG p los k + if p x = true then 1 else 0 := by
  unfold cntG
  rw [take_succ_get h, List.filter_append, List.length_append]
  congr 1
  simp only [List.filter_cons, List.filter_nil]
  split <;> simp
theorem cntG_mono (p : Lo → Bool) {los : List Lo} {i : Nat} : ∀ {k : Nat}, i ≤ k → k ≤ los.length → cntG p los i ≤ cntG p los k := by
  intro k
  induction k with
  | zero => intro h _; have : i = 0 := by omega
            subst this; exact Nat.le_refl _
  | succ k ih =>
    intro h hk
    by_cases e : i = k + 1
    · subst e; exact Nat.le_refl _
    · have := ih (by omega) (by omega)
      rw [cntG_succ p (List.getElem?_eq_getElem (by omega : k < los.length))]
      omega

def opAt (ops : Array Oper) (i : Nat) : Oper := (ops[i]?).getD default
def dlAt (dls : List Dl) (i : Nat) : Dl := (dls[i]?).getD default
theorem stat_of {los : List Lo} (h : cLos P nt ops ops.toList = some los) (hd : drawOk ops (predsOf ops.toList) los = true) :
    Stat P nt (los.filter (·.o.isAl)).length ops (opAt ops) (dlAt (cDls ops (predsOf ops.toList) los los 0)) (fun j i => ((predsOf ops.toList).getD j 0).testBit i) := by
  obtain ⟨h1, h2⟩ := cLos_spec h
  have hlen : los.length = ops.size := by simpa using h1
  have hpr : predsOf ops.toList = ops.toList.foldl prStep [] := rfl
  generalize hps : predsOf ops.toList = preds at hd hpr ⊢
  have hlo : ∀ i, i < ops.size → ∃ x, los[i]? = some x ∧ cLo P nt ops (opAt ops i) = some x ∧ dlAt (cDls ops preds los los 0) i = mkDl ops preds los x i ∧ ops[i]? = some (opAt ops i) := fun i hi => by
    have e1 : los[i]? = some los[i] := List.getElem?_eq_getElem (by omega)
    have e2 : ops[i]? = some ops[i] := Array.getElem?_eq_getElem hi
    have e3 : opAt ops i = ops[i] := by simp only [opAt, e2, Option.getD_some]
    refine ⟨los[i], e1, ?_, ?_, by rw [e3]; exact e2⟩
    · rw [e3]; exact h2 i _ _ (by simpa using e2) e1
    · simp only [dlAt, cDls_spec, e1, Option.map_some, Option.getD_some, Nat.zero_add]
  unfold drawOk at hd
  rw [Bool.and_eq_true] at hd
  obtain ⟨d1, d2⟩ := hd
  refine ⟨fun i hi => (hlo i hi).choose_spec.2.2.2, fun i hi => ?_, fun i hi => ?_, fun i hi => ?_, fun i n hi hn => ?_, fun i hi => ?_, fun i hi => ?_, fun i j hij hj => ?_, fun j i hj hp => ?_, fun j hj e he hb => ?_, fun i j hij hj a1 a2 => ?_, fun i hi a1 => ?_, fun j hj => ?_, fun j m hjm hm a1 a2 a3 => ?_⟩
  · obtain ⟨x, k1, k2, k3, k4⟩ := hlo i hi; rw [k3]; exact (cLo_spec k2).1
  · obtain ⟨x, k1, k2, k3, k4⟩ := hlo i hi; rw [k3]; exact (cLo_spec k2).2.1
  · obtain ⟨x, k1, k2, k3, k4⟩ := hlo i hi; rw [k3]; exact (cLo_spec k2).2.2.1
  · obtain ⟨x, k1, k2, k3, k4⟩ := hlo i hi; exact (cLo_spec k2).2.2.2 n hn
  · obtain ⟨x, k1, k2, k3, k4⟩ := hlo i hi; rw [k3]; simp only [mkDl, k4]
  · obtain ⟨x, k1, k2, k3, k4⟩ := hlo i hi; rw [k3]; rfl
  · obtain ⟨x, k1, k2, k3, k4⟩ := hlo i (by omega)
    obtain ⟨y, j1, j2, j3, j4⟩ := hlo j hj
    have := List.all_eq_true.1 (List.all_eq_true.1 d2 j (List.mem_range.2 (by omega))) i (List.mem_range.2 hij)
    unfold pairOk at this
    simp only [k1, j1, k4, j4, Bool.or_eq_true, Bool.and_eq_true, Bool.not_eq_true'] at this
    rw [k3, j3]
    refine this.imp (fun x => x) fun ⟨g1, g2⟩ => ⟨g1, fun ⟨g3, g4⟩ => ?_⟩
    simp only [mkDl] at g3 g4
    have : ((x.o.isIm || x.o.isAl) && y.o.isIm) = true := by rw [g4, Bool.and_true, Bool.or_eq_true]; exact g3
    rw [this] at g2; cases g2
  · simp only [hpr] at hp ⊢
    obtain ⟨o, q1, q2⟩ := pr_spec ops.toList [] j i (Nat.zero_le _) hp
    obtain ⟨y, j1, j2, j3, j4⟩ := hlo j hj
    simp only [List.length_nil, Nat.sub_zero, Array.getElem?_toList] at q1
    rw [j4] at q1; cases q1
    exact q2
  · obtain ⟨y, j1, j2, j3, j4⟩ := hlo j hj
    have := List.all_eq_true.1 d1 (opAt ops j, j) (List.mem_zipIdx_iff_getElem?.2 (by simpa using j4))
    have := List.all_eq_true.1 this e (by simpa using he)
    rw [hb] at this
    simpa [Nat.blt_eq] using this
  · obtain ⟨x, k1, k2, k3, k4⟩ := hlo i (by omega)
    obtain ⟨y, j1, j2, j3, j4⟩ := hlo j hj
    rw [k3] at a1 ⊢; rw [j3]
    have a1 : x.o.isAl = true := a1
    show cntG (·.o.isAl) los i ≠ cntG (·.o.isAl) los j
    have e1 := cntG_succ (·.o.isAl) k1
    have e2 := cntG_mono (·.o.isAl) (los := los) (i := i + 1) (k := j) (by omega) (by omega)
    rw [if_pos a1] at e1
    omega
  · obtain ⟨x, k1, k2, k3, k4⟩ := hlo i hi
    rw [k3] at a1 ⊢
    have a1 : x.o.isAl = true := a1
    show cntG (·.o.isAl) los i < (los.filter (·.o.isAl)).length
    have e1 := cntG_succ (·.o.isAl) k1
    have e2 := cntG_mono (·.o.isAl) (los := los) (i := i + 1) (k := los.length) (by omega) (by omega)
    have e3 : cntG (·.o.isAl) los los.length = (los.filter (·.o.isAl)).length := by unfold cntG; rw [List.take_length]
    rw [if_pos a1] at e1
    omega
  · obtain ⟨y, j1, j2, j3, j4⟩ := hlo j hj
    rw [j3]
    have : ∀ k, k ≤ j → cntE (fun k => !((dlAt (cDls ops preds los los 0) k).lo.o.isIm && !(preds.getD j 0).testBit k)) k = cntF (fun y k => y.o.isIm && !(preds.getD j 0).testBit k) los k := by
      intro k
      induction k with
      | zero => intro _; simp [cntE, cntF]
      | succ k ih =>
        intro hk
        obtain ⟨x, k1, k2, k3, k4⟩ := hlo k (by omega)
        rw [cntF_succ _ k1, ← ih (by omega)]
        simp only [cntE, k3, mkDl]
        cases (x.o.isIm && !(preds.getD j 0).testBit k) <;> simp
    rw [this j (Nat.le_refl _)]
    exact Nat.le_refl _
  · obtain ⟨x, k1, k2, k3, k4⟩ := hlo j (by omega)
    obtain ⟨y, j1, j2, j3, j4⟩ := hlo m hm
    rw [k3] at a1 ⊢; rw [j3] at a2 ⊢
    simp only [mkDl] at a1 a2 ⊢
    have a3 : (preds.getD m 0).testBit j = false := a3
    refine ⟨?_, ?_⟩
    · rw [a1, Bool.true_and]
      refine List.any_eq_true.2 ⟨(y, m - (j + 1)), List.mem_zipIdx_iff_getElem?.2 ?_, ?_⟩
      · simp only [List.getElem?_drop]
        rw [show j + 1 + (m - (j + 1)) = m by omega]; exact j1
      · simp only
        rw [show j + 1 + (m - (j + 1)) = m by omega, a2, a3]; rfl
    · rw [if_pos a2]
      refine List.mem_map.2 ⟨(x, j), List.mem_filter.2 ⟨List.mem_zipIdx_iff_getElem?.2 ?_, ?_⟩, rfl⟩
      · simp only [List.getElem?_take]; rw [if_pos hjm]; exact k1
      · simp only [a1, a3]; rfl
end

end Go.Proofs.YtaegmplbkbaniaaGreatDoor
