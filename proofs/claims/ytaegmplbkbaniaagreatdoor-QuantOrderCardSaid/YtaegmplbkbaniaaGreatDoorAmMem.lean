/-
  THE ABSTRACT MACHINE: reading and writing rows, against the model's memory. No condition.
-/
import Derived.Test.YtaegmplbkbaniaaGreatDoorAmRel
set_option linter.all false
namespace Go.Proofs.YtaegmplbkbaniaaGreatDoor
open Go

/-! ### Lists of cells -/
theorem Cl.at_lt {c : Cl} {i : Nat} {v : Value} (h : c.at i = some v) : i < c.len := by
  cases c with
  | lst l => simp only [Cl.at] at h; exact (List.getElem?_eq_some_iff.1 h).1
  | big n z m =>
    simp only [Cl.at] at h
    split at h <;> split at h <;> first | assumption | cases h
theorem Cl.at_some {c : Cl} {i : Nat} (h : i < c.len) : ∃ v, c.at i = some v := by
  cases c with
  | lst l => exact ⟨l[i]'h, by simp only [Cl.at]; exact List.getElem?_eq_getElem h⟩
  | big n z m =>
    simp only [Cl.len] at h
    simp only [Cl.at]
    split <;> simp [h]
theorem Cl.rd_spec {c : Cl} {off n : Nat} {l : List Value} (h : c.rd off n = some l) : l.length = n ∧ ∀ j, j < n → l[j]? = c.at (off + j) ∧ off + j < c.len := by
  cases c with
  | lst r =>
    simp only [Cl.rd] at h
    split at h
    · rename_i hb
      cases h
      have hb' := Nat.eq_of_beq_eq_true hb
      refine ⟨hb', fun j hj => ⟨?_, ?_⟩⟩
      · rw [List.getElem?_take, if_pos hj, List.getElem?_drop]; rfl
      · have h2 : ((r.drop off).take n).length = n := hb'
        simp at h2; simp only [Cl.len]; omega
    · cases h
  | big s z m =>
    simp only [Cl.rd] at h
    split at h
    · rename_i hb
      cases h
      have hb' := Nat.le_of_ble_eq_true hb
      refine ⟨by simp, fun j hj => ⟨?_, by simp only [Cl.len]; omega⟩⟩
      simp only [Cl.at, List.getElem?_map]
      rw [List.getElem?_range hj]
      simp only [Option.map_some]
      split <;> rw [if_pos (by omega)]
    · cases h
theorem ovl_spec (spare : Nat) : ∀ {l vs r : List Value} {s : Nat}, ovl spare l vs = some (r, s) →
    r.length + s = l.length + spare ∧ vs.length ≤ r.length ∧ l.length ≤ r.length ∧ ∀ j, r[j]? = if j < vs.length then vs[j]? else l[j]? := by
  intro l
  induction l with
  | nil =>
    intro vs r s h
    cases vs with
    | nil => simp only [ovl] at h; cases h; simp
    | cons v vs =>
      simp only [ovl] at h
      split at h
      · rename_i hb
        cases h
        have := Nat.le_of_ble_eq_true hb
        refine ⟨by simp at this ⊢; omega, Nat.le_refl _, by simp, fun j => ?_⟩
        split
        · rfl
        · rename_i hj; simp at hj ⊢; simp [hj]
      · cases h
  | cons c cs ih =>
    intro vs r s h
    cases vs with
    | nil => simp only [ovl] at h; cases h; simp
    | cons v vs =>
      simp only [ovl] at h
      split at h
      · rename_i r' s' hr
        cases h
        obtain ⟨h1, h2, h3, h4⟩ := ih hr
        refine ⟨by simp; omega, by simp; omega, by simp; omega, fun j => ?_⟩
        cases j with
        | zero => simp
        | succ j => simpa using h4 j
      · cases h
theorem spl_spec (spare : Nat) : ∀ {l : List Value} {off : Nat} {vs r : List Value} {s : Nat}, spl spare l off vs = some (r, s) →
    r.length + s = l.length + spare ∧ off + vs.length ≤ r.length ∧ l.length ≤ r.length ∧ ∀ j, r[j]? = if off ≤ j ∧ j < off + vs.length then vs[j - off]? else l[j]? := by
  intro l
  induction l with
  | nil =>
    intro off vs r s h
    cases off with
    | zero =>
      simp only [spl] at h
      obtain ⟨h1, h2, h3, h4⟩ := ovl_spec spare h
      exact ⟨h1, by simpa using h2, h3, fun j => by simpa using h4 j⟩
    | succ n => simp only [spl] at h; cases h
  | cons c cs ih =>
    intro off vs r s h
    cases off with
    | zero =>
      simp only [spl] at h
      obtain ⟨h1, h2, h3, h4⟩ := ovl_spec spare h
      exact ⟨h1, by simpa using h2, h3, fun j => by simpa using h4 j⟩
    | succ n =>
      simp only [spl] at h
      split at h
      · rename_i r' s' hr
        cases h
        obtain ⟨h1, h2, h3, h4⟩ := ih hr
        refine ⟨by simp; omega, by simp; omega, by simp; omega, fun j => ?_⟩
        cases j with
        | zero => simp
        | succ j =>
          simp only [List.getElem?_cons_succ, h4 j]
          have : (n + 1 ≤ j + 1 ∧ j + 1 < n + 1 + vs.length) ↔ (n ≤ j ∧ j < n + vs.length) := by omega
          simp only [this]
          rw [show j + 1 - (n + 1) = j - n by omega]
      · cases h
theorem putAll_get : ∀ (vs : List Value) (m : Tr Value) (off j : Nat), (putAll m off vs).get j = if off ≤ j ∧ j < off + vs.length then vs[j - off]? else m.get j
  | [], m, off, j => by simp only [putAll]; rw [if_neg (by simp)]
  | v :: vs, m, off, j => by
    simp only [putAll]
    rw [putAll_get vs _ (off + 1) j]
    by_cases h1 : off + 1 ≤ j ∧ j < off + 1 + vs.length
    · rw [if_pos h1, if_pos (by simp; omega), show j - off = (j - (off + 1)) + 1 by omega, List.getElem?_cons_succ]
    · rw [if_neg h1, Tr.get_put]
      by_cases h2 : j = off
      · subst h2; rw [if_pos rfl, if_pos (by simp)]; simp
      · rw [if_neg h2, if_neg (by simp; omega)]
theorem Cl.wr_spec {c c' : Cl} {s s' off : Nat} {vs : List Value} (h : c.wr s off vs = some (c', s')) :
    c'.len + s' = c.len + s ∧ off + vs.length ≤ c'.len ∧ c.len ≤ c'.len ∧ ∀ j, j < c'.len → c'.at j = if off ≤ j ∧ j < off + vs.length then vs[j - off]? else c.at j := by
  cases c with
  | lst l =>
    simp only [Cl.wr] at h
    split at h
    · rename_i r s0 hr
      cases h
      obtain ⟨h1, h2, h3, h4⟩ := spl_spec s hr
      exact ⟨h1, h2, h3, fun j _ => h4 j⟩
    · cases h
  | big n z m =>
    simp only [Cl.wr] at h
    split at h
    · rename_i hb
      cases h
      have hb' := Nat.le_of_ble_eq_true hb
      refine ⟨rfl, hb', Nat.le_refl _, fun j hj => ?_⟩
      simp only [Cl.len] at hj
      simp only [Cl.at, putAll_get]
      by_cases h1 : off ≤ j ∧ j < off + vs.length
      · rw [if_pos h1, if_pos h1]
        have : j - off < vs.length := by omega
        rw [List.getElem?_eq_getElem this]
        simp [hj]
      · rw [if_neg h1, if_neg h1]
    · cases h

/-! ### The model's loads and stores -/
theorem add_plain (b o i : Nat) : (⟨b, o, none⟩ : Addr).add i = ⟨b, o + i, none⟩ := by
  unfold Addr.add; split
  · rename_i h; subst h; rfl
  · rfl
theorem cell_of {w : World} {b : Nat} {cs : Array Value} {e : TypeId} {fz : Nat × Nat} (h : w.heap[b]? = some (.cells cs e fz)) (o : Nat) : w.cell? ⟨b, o, none⟩ = cs[o]? := by
  simp [World.cell?, h]
theorem frozen_of {w : World} {b : Nat} {cs : Array Value} {e : TypeId} {fz : Nat × Nat} (h : w.heap[b]? = some (.cells cs e fz)) (o : Nat) (hf : fz.1 = fz.2 ∨ cs.size ≤ fz.1) (ho : o < cs.size) : w.frozen? ⟨b, o, none⟩ = false := by
  obtain ⟨lo, hi⟩ := fz
  simp only at hf
  simp only [World.frozen?, h, Bool.and_eq_false_iff, decide_eq_false_iff_not]
  omega
theorem run_loadCellsFrom (P : Program) (w : World) (b o : Nat) : ∀ (n i : Nat) (acc : Array Value) (l : List Value), l.length = n →
    (∀ j, j < n → w.cell? ⟨b, o + (i + j), none⟩ = l[j]?) → (loadCellsFrom ⟨b, o, none⟩ i n acc).run P w = .ok (acc ++ l.toArray) w := by
  intro n
  induction n with
  | zero => intro i acc l hl _; have : l = [] := List.length_eq_zero_iff.1 hl; subst this; simp [loadCellsFrom]
  | succ n ih =>
    intro i acc l hl hc
    cases l with
    | nil => simp at hl
    | cons v r =>
      have h0 := hc 0 (by omega)
      simp only [loadCellsFrom, Sem.run_bind, add_plain, run_load]
      rw [show o + i = o + (i + 0) by omega, h0]
      simp only [List.getElem?_cons_zero, Result.andThen_ok]
      rw [ih (i + 1) (acc.push v) r (by simpa using hl) (fun j hj => by
        have := hc (j + 1) (by omega)
        rw [show o + (i + 1 + j) = o + (i + (j + 1)) by omega, this]; simp)]
      simp
theorem run_loadCells (P : Program) (w : World) (b o n : Nat) (l : List Value) (hl : l.length = n)
    (hc : ∀ j, j < n → w.cell? ⟨b, o + j, none⟩ = l[j]?) : (loadCells ⟨b, o, none⟩ n).run P w = .ok l.toArray w := by
  unfold loadCells
  rw [run_loadCellsFrom P w b o n 0 #[] l hl (fun j hj => by rw [show o + (0 + j) = o + j by omega]; exact hc j hj)]
  simp
theorem one_cell {v : Value} (h : one v = true) : v.oneCell' = true := by cases v <;> first | rfl | (simp [one] at h)
theorem run_storeCells (P : Program) (b o : Nat) (e : TypeId) (fz : Nat × Nat) : ∀ (vs : List Value) (i : Nat) (w : World) (cs : Array Value),
    w.heap[b]? = some (.cells cs e fz) → o + i + vs.length ≤ cs.size → (fz.1 = fz.2 ∨ cs.size ≤ fz.1) → vs.all one = true →
    ∃ cs' : Array Value, cs'.size = cs.size ∧ (∀ k, cs'[k]? = if o + i ≤ k ∧ k < o + i + vs.length then vs[k - (o + i)]? else cs[k]?) ∧
      (storeCells ⟨b, o, none⟩ vs i).run P w = .ok () { w with heap := w.heap.setIfInBounds b (.cells cs' e fz) } := by
  intro vs
  induction vs with
  | nil =>
    intro i w cs h _ _ _
    refine ⟨cs, rfl, fun k => by rw [if_neg (by simp)], ?_⟩
    have hb := (Array.getElem?_eq_some_iff.1 h)
    obtain ⟨hb, hv⟩ := hb
    have : w.heap.setIfInBounds b (.cells cs e fz) = w.heap := by
      apply Array.ext_getElem?
      intro k
      rw [Array.getElem?_setIfInBounds]
      by_cases hk : b = k
      · subst hk; rw [if_pos rfl]; simp [hb, hv]
      · rw [if_neg hk]
    rw [this]; rfl
  | cons v vs ih =>
    intro i w cs h hsz hf hone
    simp only [List.all_cons, Bool.and_eq_true] at hone
    simp only [List.length_cons] at hsz
    have hlt : o + i < cs.size := by omega
    have hcell := cell_of h (o + i)
    rw [Array.getElem?_eq_getElem hlt] at hcell
    have hfr := frozen_of h (o + i) hf hlt
    have hb := (Array.getElem?_eq_some_iff.1 h).1
    have hset : w.setCell ⟨b, o + i, none⟩ v = { w with heap := w.heap.setIfInBounds b (.cells (cs.setIfInBounds (o + i) v) e fz) } := by
      simp only [World.setCell]
      congr 1
      apply Array.ext_getElem?
      intro k
      rw [Array.getElem?_modify, Array.getElem?_setIfInBounds]
      by_cases hk : b = k
      · subst hk; rw [if_pos rfl, if_pos rfl, h]; simp [hb]
      · rw [if_neg hk, if_neg hk]
    have h2 : ({ w with heap := w.heap.setIfInBounds b (.cells (cs.setIfInBounds (o + i) v) e fz) } : World).heap[b]? = some (.cells (cs.setIfInBounds (o + i) v) e fz) := by
      simp [hb]
    obtain ⟨cs', h3, h4, h5⟩ := ih (i + 1) _ _ h2 (by simp; omega) (by simpa using hf) hone.2
    refine ⟨cs', by simpa using h3, fun k => ?_, ?_⟩
    · rw [h4 k]
      by_cases h6 : o + (i + 1) ≤ k ∧ k < o + (i + 1) + vs.length
      · rw [if_pos h6, if_pos (by simp; omega), show k - (o + i) = (k - (o + (i + 1))) + 1 by omega, List.getElem?_cons_succ]
      · rw [if_neg h6, Array.getElem?_setIfInBounds]
        by_cases h7 : o + i = k
        · subst h7
          have c1 : o + i ≤ o + i ∧ o + i < o + i + (v :: vs).length := by simp
          rw [if_pos rfl, if_pos hlt, if_pos c1, Nat.sub_self]; rfl
        · rw [if_neg h7, if_neg (by simp; omega)]
    · simp only [storeCells, Sem.run_bind, add_plain]
      rw [run_store P w _ _ _ (one_cell hone.1), hcell]
      simp only [hfr, Bool.false_eq_true, if_false, Result.andThen_ok]
      rw [hset, h5]
      simp

/-! ### Reading and writing rows -/
section
variable {ρ ρ' : Nat → Option Pl} {ns : Nat} {H H' : Hp} {w w' : World}
theorem HR.rd (h : HR ρ ns H w) {id off n : Nat} {l : List Value} (hr : H.rd id off n = some l) :
    ∃ p l', ρ id = some p ∧ LR ρ l l' ∧ l.length = n ∧ ∀ j, j < n → w.cell? ⟨p.blk, p.off + (off + j), none⟩ = l'[j]? := by
  unfold Hp.rd at hr
  split at hr
  · rename_i c s rw hg
    obtain ⟨p, cs, e, fz, h0, h1, h2, h3, h4, h5⟩ := h.row _ _ _ _ hg
    obtain ⟨g1, g2⟩ := Cl.rd_spec hr
    have hb : p.off + off + n ≤ cs.size ∨ n = 0 := by
      rcases Nat.eq_zero_or_pos n with hn | hn
      · exact .inr hn
      · have := (g2 (n - 1) (by omega)).2; exact .inl (by omega)
    refine ⟨p, (cs.toList.drop (p.off + off)).take n, h0, ⟨?_, fun i v v' hv hv' => ?_⟩, g1, fun j hj => ?_⟩
    · rw [g1]; simp; omega
    · have hi : i < n := by rw [← g1]; exact (List.getElem?_eq_some_iff.1 hv).1
      rw [List.getElem?_take, if_pos hi, List.getElem?_drop] at hv'
      obtain ⟨g3, g4⟩ := g2 i hi
      obtain ⟨u, u', k1, k2, k3⟩ := h4 (off + i) g4
      rw [g3, k1] at hv; cases hv
      simp only [Array.getElem?_toList] at hv'
      rw [show p.off + off + i = p.off + (off + i) by omega, k2] at hv'; cases hv'
      exact k3
    · rw [cell_of h1, List.getElem?_take, if_pos hj, List.getElem?_drop, show p.off + (off + j) = p.off + off + j by omega]; simp
  · cases hr
theorem HR.rdRun (h : HR ρ ns H w) (P : Program) {id off n : Nat} {l : List Value} (hr : H.rd id off n = some l) :
    ∃ p l', ρ id = some p ∧ LR ρ l l' ∧ l'.length = n ∧ (loadCells ⟨p.blk, p.off + off, none⟩ n).run P w = .ok l'.toArray w := by
  obtain ⟨p, l', h1, h2, h3, h4⟩ := h.rd hr
  refine ⟨p, l', h1, h2, by rw [← h2.1, h3], run_loadCells P w _ _ _ _ (by rw [← h2.1, h3]) (fun j hj => ?_)⟩
  rw [← h4 j hj, Nat.add_assoc]

/-- One row written anew, in its own block. -/
theorem PR.setRow (h : HR ρ ns H w) {id : Nat} {c c' : Cl} {s s' : Nat} {p : Pl} {cs cs' : Array Value} {e : TypeId} {fz fz' : Nat × Nat}
    (hg : H.get id = some (.row c s true)) (hp : ρ id = some p) (hb : w.heap[p.blk]? = some (.cells cs e fz)) (hsz : cs'.size = p.sz)
    (hlen : p.off + c'.len + s' ≤ p.sz) (hc : ∀ j, j < c'.len → ∃ v v', c'.at j = some v ∧ cs'[p.off + j]? = some v' ∧ VR ρ v v')
    (hf : fz'.1 = fz'.2) :
    PR ns ρ H w ρ (H.put id (some (.row c' s' true))) { w with heap := w.heap.setIfInBounds p.blk (.cells cs' e fz') } := by
  have hlt := (Array.getElem?_eq_some_iff.1 hb).1
  have other : ∀ b, b ≠ p.blk → (w.heap.setIfInBounds p.blk (.cells cs' e fz'))[b]? = w.heap[b]? := fun b hne => by
    rw [Array.getElem?_setIfInBounds, if_neg (Ne.symm hne)]
  have apart : ∀ i o q, i ≠ id → H.get i = some o → ρ i = some q → q.blk ≠ p.blk := fun i o q hne ho hq =>
    (h.sep id i _ o p q (Ne.symm hne) hg rfl ho hp hq).symm
  refine ⟨⟨h.lt, h.st, fun i c0 s0 rw0 hi => ?_, fun i es hi => ?_, fun i i' o o' q q' hne h1 h2 h3 h4 h5 => ?_⟩, Nat.le_refl _, fun _ _ => rfl, ⟨rfl, rfl, rfl, by simp, fun b hbl hno => ?_⟩, fun i o q ho hq => ?_⟩
  · rw [Hp.get_put] at hi
    by_cases hid : i = id
    · subst hid; rw [if_pos rfl] at hi; cases hi
      exact ⟨p, cs', e, fz', hp, by rw [Array.getElem?_setIfInBounds, if_pos rfl, if_pos hlt], hsz, hlen, hc, fun _ => hf⟩
    · rw [if_neg hid] at hi
      obtain ⟨q, cs0, e0, fz0, k0, k1, k2⟩ := h.row i c0 s0 rw0 hi
      exact ⟨q, cs0, e0, fz0, k0, by rw [← k1]; exact other _ (apart i _ q hid hi k0), k2⟩
  · rw [Hp.get_put] at hi
    by_cases hid : i = id
    · subst hid; rw [if_pos rfl] at hi; cases hi
    · rw [if_neg hid] at hi
      obtain ⟨q, en, clk, k0, k1, k2⟩ := h.map i es hi
      exact ⟨q, en, clk, k0, by rw [← k1]; exact other _ (apart i _ q hid hi k0), k2⟩
  · rw [Hp.get_put] at h1 h3
    have f1 : ∃ a, H.get i = some a ∧ a.rw = true := by
      by_cases e1 : i = id
      · subst e1; exact ⟨_, hg, rfl⟩
      · rw [if_neg e1] at h1; exact ⟨o, h1, h2⟩
    have f3 : ∃ a, H.get i' = some a := by
      by_cases e1 : i' = id
      · subst e1; exact ⟨_, hg⟩
      · rw [if_neg e1] at h3; exact ⟨o', h3⟩
    obtain ⟨a, a1, a2⟩ := f1
    obtain ⟨a', a3⟩ := f3
    exact h.sep i i' a a' q q' hne a1 a2 a3 h4 h5
  · exact other b (fun e1 => hno id _ p hg rfl hp e1.symm)
  · rw [Hp.get_put] at ho
    by_cases hid : i = id
    · subst hid; exact .inr ⟨i, _, q, hg, hq, fun _ => rfl, rfl⟩
    · rw [if_neg hid] at ho; exact .inr ⟨i, o, q, ho, hq, fun x => x, rfl⟩

theorem HR.wrRun (h : HR ρ ns H w) (P : Program) {id off : Nat} {vs vs' : List Value} (hw : H.wr id off vs = some H') (hv : LR ρ vs vs') :
    ∃ p w', ρ id = some p ∧ (storeCells ⟨p.blk, p.off + off, none⟩ vs').run P w = .ok () w' ∧ PR ns ρ H w ρ H' w' := by
  unfold Hp.wr at hw
  split at hw
  · rename_i c s hg hone
    split at hw
    · rename_i c' s' hc
      cases hw
      obtain ⟨p, cs, e, fz, h0, h1, h2, h3, h4, h5⟩ := h.row _ _ _ _ hg
      obtain ⟨g1, g2, g3, g4⟩ := Cl.wr_spec hc
      obtain ⟨cs', k1, k2, k3⟩ := run_storeCells P p.blk (p.off + off) e fz vs' 0 w cs h1 (by rw [← hv.1]; omega) (.inl (h5 rfl)) (lr_ones hv hone)
      refine ⟨p, _, h0, k3, PR.setRow h hg h0 h1 (by omega) (by omega) (fun j hj => ?_) (h5 rfl)⟩
      rw [g4 j hj, k2, ← hv.1]
      by_cases hr : off ≤ j ∧ j < off + vs.length
      · rw [if_pos hr, if_pos (by omega)]
        have hj1 : j - off < vs.length := by omega
        have hj2 : j - off < vs'.length := by rw [← hv.1]; omega
        refine ⟨vs[j - off], vs'[j - off], List.getElem?_eq_getElem hj1, ?_, hv.2 (j - off) _ _ (List.getElem?_eq_getElem hj1) (List.getElem?_eq_getElem hj2)⟩
        rw [show p.off + j - (p.off + off + 0) = j - off by omega]; exact List.getElem?_eq_getElem hj2
      · rw [if_neg hr, if_neg (by omega)]
        have hjc : j < c.len := by
          rcases Nat.lt_or_ge j c.len with hh | hh
          · exact hh
          · exfalso
            have := Cl.at_some hj
            obtain ⟨v, hv2⟩ := this
            rw [g4 j hj, if_neg hr] at hv2
            have := Cl.at_lt hv2; omega
        exact h4 j hjc
    · cases hw
  · cases hw
end

end Go.Proofs.YtaegmplbkbaniaaGreatDoor
