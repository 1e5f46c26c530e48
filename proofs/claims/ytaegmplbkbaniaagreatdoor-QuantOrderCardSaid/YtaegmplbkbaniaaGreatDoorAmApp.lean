/-
  THE ABSTRACT MACHINE: append, against the model's. No condition.
-/
import Derived.Test.YtaegmplbkbaniaaGreatDoorAmAlloc
set_option linter.all false
namespace Go.Proofs.YtaegmplbkbaniaaGreatDoor
open Go
section
variable {P : Program} {E : Env} {ρ : Nat → Option Pl} {ns : Nat} {H : Hp} {w : World} {t : Tr Value} {a : Act}

/-- An object of the call's own written anew, in its own block. -/
theorem PR.setObj (h : HR ρ ns H w) {id : Nat} {o0 o : AObj} {p : Pl} {ob : Obj} (hg : H.get id = some o0) (hrw : o0.rw = true) (hp : ρ id = some p)
    (ho : match o, ob with
      | .row c s rw, .cells cs _ fz => cs.size = p.sz ∧ p.off + c.len + s ≤ p.sz ∧ (∀ j, j < c.len → ∃ v v', c.at j = some v ∧ cs[p.off + j]? = some v' ∧ VR ρ v v') ∧ (rw = true → fz.1 = fz.2)
      | .map es, .map ents _ => ents.size = es.length ∧ ∀ (i : Nat) (k v : Value) (e : MapEntry), es[i]? = some (k, v) → ents[i]? = some e → scal k = true ∧ e.key = k ∧ VR ρ v e.val
      | _, _ => False) :
    PR ns ρ H w ρ (H.put id (some o)) { w with heap := w.heap.setIfInBounds p.blk ob } := by
  have hlt := h.size hg hp
  have other : ∀ b, b ≠ p.blk → (w.heap.setIfInBounds p.blk ob)[b]? = w.heap[b]? := fun b hne => by
    rw [Array.getElem?_setIfInBounds, if_neg (Ne.symm hne)]
  have here : (w.heap.setIfInBounds p.blk ob)[p.blk]? = some ob := by rw [Array.getElem?_setIfInBounds, if_pos rfl, if_pos hlt]
  have apart : ∀ i o q, i ≠ id → H.get i = some o → ρ i = some q → q.blk ≠ p.blk := fun i o q hne ho hq =>
    (h.sep id i _ o p q (Ne.symm hne) hg hrw ho hp hq).symm
  refine ⟨⟨h.lt, h.st, fun i c0 s0 rw0 hi => ?_, fun i es hi => ?_, fun i i' o o' q q' hne h1 h2 h3 h4 h5 => ?_⟩, Nat.le_refl _, fun _ _ => rfl, ⟨rfl, rfl, rfl, by simp, fun b hbl hno => ?_⟩, fun i o q ho hq => ?_⟩
  · rw [Hp.get_put] at hi
    by_cases hid : i = id
    · subst hid; rw [if_pos rfl] at hi; cases hi
      cases ob with
      | cells cs e fz => exact ⟨p, cs, e, fz, hp, here, ho.1, ho.2.1, ho.2.2.1, ho.2.2.2⟩
      | _ => exact ho.elim
    · rw [if_neg hid] at hi
      obtain ⟨q, cs0, e0, fz0, k0, k1, k2⟩ := h.row i c0 s0 rw0 hi
      exact ⟨q, cs0, e0, fz0, k0, by rw [← k1]; exact other _ (apart i _ q hid hi k0), k2⟩
  · rw [Hp.get_put] at hi
    by_cases hid : i = id
    · subst hid; rw [if_pos rfl] at hi; cases hi
      cases ob with
      | map ents clk => exact ⟨p, ents, clk, hp, here, ho.1, ho.2⟩
      | _ => exact ho.elim
    · rw [if_neg hid] at hi
      obtain ⟨q, en, clk, k0, k1, k2⟩ := h.map i es hi
      exact ⟨q, en, clk, k0, by rw [← k1]; exact other _ (apart i _ q hid hi k0), k2⟩
  · rw [Hp.get_put] at h1 h3
    by_cases e1 : i = id
    · subst e1
      rw [if_neg (Ne.symm hne)] at h3
      exact h.sep i i' _ o' q q' hne hg hrw h3 h4 h5
    · rw [if_neg e1] at h1
      by_cases e2 : i' = id
      · subst e2; exact h.sep i i' o _ q q' hne h1 h2 hg h4 h5
      · rw [if_neg e2] at h3; exact h.sep i i' o o' q q' hne h1 h2 h3 h4 h5
  · exact other b (fun e1 => hno id _ p hg hrw hp e1.symm)
  · rw [Hp.get_put] at ho
    by_cases hid : i = id
    · subst hid; exact .inr ⟨i, _, q, hg, hq, fun _ => hrw, rfl⟩
    · rw [if_neg hid] at ho; exact .inr ⟨i, o, q, ho, hq, fun x => x, rfl⟩
/-- A row's block under a new number: the old one stands for nothing any more. -/
theorem PR.remap (h : HR ρ ns H w) {id : Nat} {c c' : Cl} {s off : Nat} {p : Pl} {cs' : Array Value} {e : TypeId} {fz' : Nat × Nat}
    (hg : H.get id = some (.row c s true)) (hp : ρ id = some p) (hsz : cs'.size = p.sz)
    (hlen : off + c'.len ≤ p.sz) (hc : ∀ j, j < c'.len → ∃ v v', c'.at j = some v ∧ cs'[off + j]? = some v' ∧ VR ρ v v') (hf : fz'.1 = fz'.2) :
    PR ns ρ H w (upd ρ H.n ⟨p.blk, off, p.sz⟩) ((H.put id none).alloc (.row c' 0 true)) { w with heap := w.heap.setIfInBounds p.blk (.cells cs' e fz') } := by
  have hlt := h.size hg hp
  have hidn := h.lt id p hp
  have other : ∀ b, b ≠ p.blk → (w.heap.setIfInBounds p.blk (.cells cs' e fz'))[b]? = w.heap[b]? := fun b hne => by
    rw [Array.getElem?_setIfInBounds, if_neg (Ne.symm hne)]
  have here : (w.heap.setIfInBounds p.blk (.cells cs' e fz'))[p.blk]? = some (.cells cs' e fz') := by rw [Array.getElem?_setIfInBounds, if_pos rfl, if_pos hlt]
  have kget : ∀ i o, (H.put id none).get i = some o → i ≠ id ∧ H.get i = some o := fun i o hi => by
    rw [Hp.get_put] at hi
    by_cases e1 : i = id
    · rw [if_pos e1] at hi; cases hi
    · rw [if_neg e1] at hi; exact ⟨e1, hi⟩
  have apart : ∀ i o q, (H.put id none).get i = some o → ρ i = some q → q.blk ≠ p.blk := fun i o q ho hq =>
    (h.sep id i _ o p q (Ne.symm (kget i o ho).1) hg rfl (kget i o ho).2 hp hq).symm
  have hK : HR ρ ns (H.put id none) { w with heap := w.heap.setIfInBounds p.blk (.cells cs' e fz') } := by
    refine ⟨h.lt, h.st, fun i c0 s0 rw0 hi => ?_, fun i es hi => ?_, fun i i' o o' q q' hne h1 h2 h3 h4 h5 => ?_⟩
    · obtain ⟨q, cs0, e0, fz0, k0, k1, k2⟩ := h.row i c0 s0 rw0 (kget i _ hi).2
      exact ⟨q, cs0, e0, fz0, k0, by rw [← k1]; exact other _ (apart i _ q hi k0), k2⟩
    · obtain ⟨q, en, clk, k0, k1, k2⟩ := h.map i es (kget i _ hi).2
      exact ⟨q, en, clk, k0, by rw [← k1]; exact other _ (apart i _ q hi k0), k2⟩
    · exact h.sep i i' o o' q q' hne (kget i _ h1).2 h2 (kget i' _ h3).2 h4 h5
  have hfr : ρ H.n = none := h.fresh (Nat.le_refl _)
  refine ⟨?_, by simp [Hp.alloc, Hp.put], fun i hi => upd_ne _ _ (by omega), ⟨rfl, rfl, rfl, by simp, fun b hb hno => other b (fun e1 => hno id _ p hg rfl hp e1.symm)⟩, fun i o q ho hq => ?_⟩
  · rw [Hp.alloc_eq]
    refine HR.add (PR.reserve hK 1).hr hfr (by simp [Hp.reserve, Hp.put]) (fun i o q hi hq => apart i o q hi hq) ?_
    exact ⟨cs', e, fz', here, hsz, by simpa using hlen, hc, fun _ => hf⟩
  · rw [Hp.get_alloc] at ho
    by_cases e1 : i = (H.put id none).n
    · have e2 : i = H.n := e1
      subst e2
      rw [upd_same] at hq; cases hq
      exact .inr ⟨id, _, p, hg, hp, fun _ => rfl, rfl⟩
    · rw [if_neg e1] at ho
      rw [upd_ne _ _ (show i ≠ H.n from e1)] at hq
      exact .inr ⟨i, o, q, (kget i o ho).2, hq, fun x => x, rfl⟩

/-! ### The model's append, behind its first lines -/
def appCore (elem : TypeId) (size sLen sCap n : Nat) (base : Option Addr) (s x : Value) (zeros : Bool) (appended : Sem (Array Value)) : Sem Value := do
  let need := sLen + n
  if need ≤ sCap then
    let new ← appended
    if let some a := base then storeCells (a.add (sLen * size)) new.toList
    pure (.slice base need sCap)
  else
    if (need : Int) > IntKind.i64.max ∧ (zeros ∨ (← typeInfo elem).bytes = 0) then runtimePanic (.error "growslice: len out of range")
    if Builtin.nextslicecap need sCap * (← typeInfo elem).bytes > 2 ^ 48 then (if zeros then runtimePanic (.error "growslice: len out of range") else do
      if !(← Builtin.mayShare size sLen n base x) then mark .noRoom
      unsupported (.resourceLimit "append: a slice or a string whose bytes no memory bears"))
    let newCap ← choose (.appendCap need sCap elem)
    askRoom (newCap * (← typeInfo elem).bytes)
    let old ← Builtin.firstCells size sLen s
    let new ← appended
    let rest := Builtin.zeroCells (← zeroValue elem).cells (newCap - need)
    pure (.slice (some (← newRow elem (old ++ new ++ rest))) need newCap)
theorem append_core {sT xT elem : TypeId} {ti : Ti} (hu : P.underlying sT = some (.slice elem)) (ht : tyOf P elem = some ti) {d : TypeDesc} (hx : P.underlying xT = some d) (hd : ∀ k, d ≠ .int k)
    (ts : Array TypeId) (h0 : ts[0]? = some sT) (h1 : ts[1]? = some xT) (ty : TypeId) (base : Option Addr) (sLen sCap : Nat) (x : Value) (n : Nat) (hn : (Builtin.lenOf x).run P w = .ok n w) :
    (Builtin.append_ ts ty #[.slice base sLen sCap, x]).run P w = (appCore elem ti.size sLen sCap n base (.slice base sLen sCap) x false (Builtin.firstCells ti.size n x)).run P w := by
  cases d <;> first
    | (exact absurd rfl (hd _))
    | (simp only [Builtin.append_, h0, h1, List.getElem?_toArray, List.getElem?_cons_zero, List.getElem?_cons_succ, Sem.run_bind, run_underlying hu, Result.andThen_ok, run_sizeOf ht, run_underlying hx, Sem.run_pure, Bool.false_eq_true, if_false, hn]
       simp only [appCore, Bool.not_false, if_true, Bool.false_eq_true, false_or]; rfl)
theorem growBy_le (m : Nat) : ∀ (r c : Nat), Builtin.growBy m r c ≤ max c (m + (m + 768) / 4)
  | 0, c => by simp only [Builtin.growBy]; omega
  | r + 1, c => by
    simp only [Builtin.growBy]
    split
    · omega
    · have := growBy_le m r (c + (c + 768) / 4)
      omega
theorem nextslicecap_le {need c : Nat} (h : c < need) : Builtin.nextslicecap need c ≤ 2 * need + 192 := by
  unfold Builtin.nextslicecap
  split
  · omega
  · split
    · omega
    · have := growBy_le need 4 c
      omega
/-- It grows: a new block. -/
theorem core_grow {elem : TypeId} {ti : Ti} (ht : tyOf P elem = some ti) {z : List Value} (hz : ti.zero = some z) (hzl : z.length = ti.size) {sLen sCap n : Nat} {base : Option Addr} {s x : Value} {zeros : Bool} {app : Sem (Array Value)}
    (hc : sCap < sLen + n) (b1 : (sLen + n) * ti.bytes ≤ 2 ^ 40) (b2 : sLen + n ≤ 2 ^ 40) (b3 : ti.bytes ≤ 2 ^ 20) {old new : Array Value}
    (hold : (Builtin.firstCells ti.size sLen s).run P w.drew = .ok old w.drew) (hnew : app.run P w.drew = .ok new w.drew) :
    ∃ (m : Nat) (rest : List Value), sLen + n ≤ m ∧ rest.length = (m - (sLen + n)) * ti.size ∧ rest.all scal = true ∧
      (appCore elem ti.size sLen sCap n base s x zeros app).run P w = .ok (.slice (some ⟨w.heap.size, 0, none⟩) (sLen + n) m) (w.drew.alloc (.cells (old ++ new ++ rest.toArray) elem)) := by
  obtain ⟨i, d, i1, i2, i3, i4, i5, i6, i7⟩ := tyOf_info ht
  obtain ⟨zv, z1, z2, z3, z4⟩ := run_zero ht hz w.drew
  have hzs : zv.cells.size = ti.size := by rw [← hzl, ← z2]; simp
  let m := (Question.appendCap (sLen + n) sCap elem).cut (w.tape w.drawn (.appendCap (sLen + n) sCap elem))
  have hm : sLen + n ≤ m := by simp only [m, Question.cut]; omega
  refine ⟨m, rep z (m - (sLen + n)), hm, by rw [rep_length, hzl], rep_scal z3 _, ?_⟩
  have n1 : ¬ (sLen + n ≤ sCap) := by omega
  have n2 : ¬ (((sLen + n : Nat) : Int) > IntKind.i64.max ∧ (zeros = true ∨ i.bytes = 0)) := by
    have : IntKind.i64.max = 9223372036854775807 := by decide
    rw [this]; omega
  have n3 : ¬ (Builtin.nextslicecap (sLen + n) sCap * i.bytes > 2 ^ 48) := by
    have h1 := nextslicecap_le hc
    rw [← i5]
    have h2 : Builtin.nextslicecap (sLen + n) sCap * ti.bytes ≤ (2 * (sLen + n) + 192) * ti.bytes := Nat.mul_le_mul_right _ h1
    have h3 : (2 * (sLen + n) + 192) * ti.bytes = 2 * ((sLen + n) * ti.bytes) + 192 * ti.bytes := by rw [Nat.add_mul, Nat.mul_assoc]
    omega
  have hf : (Question.appendCap (sLen + n) sCap elem).forced = false := rfl
  simp only [appCore, if_neg n1, Sem.run_bind, run_info i1, Result.andThen_ok, if_neg n2, if_neg n3, Sem.run_pure]
  simp only [run_choose, hf, Bool.false_eq_true, if_false, Result.andThen_ok, run_askRoom, World.drew_eq, Sem.run_bind, hold, hnew, z1, Sem.run_pure, newRow, run_newObj, World.alloc_eq, World.size_drew]
  have e1 : Builtin.zeroCells zv.cells (m - (sLen + n)) = (rep z (m - (sLen + n))).toArray := by
    apply Array.toList_inj.1
    unfold Builtin.zeroCells
    have := zeros_list (z := zv.cells) (m - (sLen + n))
    rw [z2] at this
    simpa using this
  rw [← e1]
/-- It has room: written in its block. -/
theorem core_room {elem : TypeId} {size sLen sCap n : Nat} {b o : Nat} {s x : Value} {zeros : Bool} {app : Sem (Array Value)} {w' : World}
    (hc : sLen + n ≤ sCap) {new : Array Value} (hnew : app.run P w = .ok new w) (hst : (storeCells ⟨b, o + sLen * size, none⟩ new.toList).run P w = .ok () w') :
    (appCore elem size sLen sCap n (some ⟨b, o, none⟩) s x zeros app).run P w = .ok (.slice (some ⟨b, o, none⟩) (sLen + n) sCap) w' := by
  simp only [appCore, if_pos hc, Sem.run_bind, hnew, Result.andThen_ok, add_plain, hst, Sem.run_pure]
theorem core_none {elem : TypeId} {size n : Nat} {s x : Value} {zeros : Bool} {app : Sem (Array Value)} (hc : n = 0) {new : Array Value} (hnew : app.run P w = .ok new w) :
    (appCore elem size 0 0 n none s x zeros app).run P w = .ok (.slice none 0 0) w := by
  subst hc
  simp only [appCore, Nat.add_zero, Nat.le_refl, if_true, Sem.run_bind, hnew, Result.andThen_ok, Sem.run_pure]

theorem core_slz {elem : TypeId} {size n : Nat} {av : Addr} {s x : Value} {zeros : Bool} {app : Sem (Array Value)} (hc : n = 0) {new : Array Value} (hnew : app.run P w = .ok new w) (h0 : new = #[]) :
    (appCore elem size 0 0 n (some av) s x zeros app).run P w = .ok (.slice (some av) 0 0) w := by
  subst hc; subst h0
  simp only [appCore, Nat.add_zero, Nat.le_refl, if_true, Sem.run_bind, hnew, Result.andThen_ok, Sem.run_pure]; rfl
/-- APPEND, where the machine answers. -/
theorem appA_sound (hH : HR ρ ns H w) {elem : TypeId} {ti : Ti} (ht : tyOf P elem = some ti) {z : List Value} (hz : ti.zero = some z) (hzl : z.length = ti.size) {s s' x v : Value} {n : Nat} {new : List Value} {H' : Hp} {zeros : Bool}
    (hs : VR ρ s s') (h : appA ti.size ti.bytes H s n new = some (v, H')) {app : Sem (Array Value)} {new' : List Value} (hl : LR ρ new new')
    (hnew : ∀ w2 : World, w2.heap = w.heap → app.run P w2 = .ok new'.toArray w2) :
    ∃ base sLen sCap v' w' ρ', s' = .slice base sLen sCap ∧ (appCore elem ti.size sLen sCap n base s' x zeros app).run P w = .ok v' w' ∧ VR ρ' v v' ∧ PR ns ρ H w ρ' H' w' := by
  unfold appA at h
  split at h
  · -- nil
    cases hs
    split at h
    · cases h
      exact ⟨none, 0, 0, _, _, _, rfl, core_none rfl (hnew w rfl), .sl0, .refl hH⟩
    · rename_i n
      split at h
      · rename_i hc
        cases h
        obtain ⟨c1, c2, c3, c4⟩ := hc
        obtain ⟨m, rest, m1, m2, m3, m4⟩ := core_grow (w := w) (sLen := 0) (sCap := 0) (n := n + 1) (base := none) (s := .slice none 0 0) (x := x) (zeros := zeros) (app := app) (old := #[]) (new := new'.toArray) ht hz hzl (by omega) (by simpa using c1) (by simpa using c2) c3 rfl (hnew _ rfl)
        have hsz : (#[] ++ new'.toArray ++ rest.toArray).size = m * ti.size := by
          simp only [Array.size_append, List.size_toArray, List.length_nil, Nat.zero_add]
          rw [m2, ← hl.1, c4, ← Nat.add_mul]
          congr 1; omega
        have hpr := PR.alloc (PR.draw hH (w.drawn + 1)).hr (o := .row (.lst new) 0 true) (ob := .cells (#[] ++ new'.toArray ++ rest.toArray) elem) (sz := m * ti.size)
          ⟨hsz, by simp only [Cl.len]; rw [c4]; simpa using Nat.mul_le_mul_right ti.size m1, fun j hj => by
            have hj1 : j < new.length := hj
            have hj2 : j < new'.length := by rw [← hl.1]; exact hj1
            refine ⟨new[j], new'[j], List.getElem?_eq_getElem hj1, ?_, hl.2 j _ _ (List.getElem?_eq_getElem hj1) (List.getElem?_eq_getElem hj2)⟩
            rw [Array.getElem?_append_left (by simpa using hj2)]; simp [hj2], fun _ => rfl⟩
        refine ⟨none, 0, 0, _, _, _, rfl, m4, ?_, (PR.draw hH (w.drawn + 1)).trans hpr⟩
        rw [Nat.zero_add]
        exact .sl H.n 0 _ _ _ 0 m _ (upd_same _ _ _) (Nat.le_refl _) (by omega) (fun h => by omega) (fun _ => rfl) (Nat.le_refl _) (fun _ => by simp)
      · cases h
  · -- a slice
    rename_i b o sp len cap
    cases hs with
    | sl _ _ _ _ _ o' cap' p hp hlc hcc he ho hlo hhi =>
    split at h
    · rename_i hsp
      obtain ⟨hsp, hnl⟩ := hsp
      split at h
      · rename_i hroom
        split at h
        · cases h
          have hn0 : new = [] := List.length_eq_zero_iff.1 (by rw [hnl]; simp)
          subst hn0
          have := hl.inv0; subst this
          refine ⟨_, _, _, _, _, _, rfl, core_room (by omega) (hnew w rfl) rfl, ?_, .refl hH⟩
          exact .sl _ _ _ _ _ o' cap' p hp hlc hcc he ho hlo hhi
        · rename_i n
          split at h
          · rename_i H2 hw
            cases h
            obtain ⟨q, w', k1, k2, k3⟩ := hH.wrRun P hw hl
            rw [hp] at k1; cases k1
            refine ⟨_, _, _, _, w', _, rfl, core_room (w' := w') (by omega) (hnew w rfl) ?_, ?_, k3⟩
            · rw [ho (by omega)]
              rw [show p.off + o + len * ti.size = p.off + (o + len * ti.size) by omega]
              simpa using k2
            · exact .sl _ _ _ _ _ o' cap' p hp (by omega) hcc he ho hlo hhi
          · cases h
      · rename_i hroom
        split at h
        · rename_i hb
          obtain ⟨b1, b2, b3⟩ := hb
          -- the cells that were there
          have oldRun : ∀ {old : List Value}, H.rd b o (len * ti.size) = some old → ∃ old', LR ρ old old' ∧ old.length = len * ti.size ∧
              (∀ w2 : World, w2.heap = w.heap → (Builtin.firstCells ti.size len (.slice (some ⟨p.blk, o', none⟩) len cap')).run P w2 = .ok old'.toArray w2) ∧
              (∀ j, j < len * ti.size → w.cell? ⟨p.blk, o' + j, none⟩ = old'[j]?) := fun {old} hr => by
            obtain ⟨q, l', g1, g2, g3, g4⟩ := hH.rd hr
            rw [hp] at g1; cases g1
            have hcell : ∀ j, j < len * ti.size → w.cell? ⟨p.blk, o' + j, none⟩ = l'[j]? := fun j hj => by
              have hpos : 0 < cap := by
                rcases Nat.eq_zero_or_pos len with h0 | h0
                · subst h0; simp at hj
                · omega
              rw [ho hpos, ← g4 j hj, Nat.add_assoc]
            refine ⟨l', g2, g3, fun w2 hw2 => ?_, hcell⟩
            simp only [Builtin.firstCells]
            refine run_loadCells P w2 _ _ _ _ (by rw [← g2.1, g3]) (fun j hj => ?_)
            rw [← hcell j hj]; simp only [World.cell?, hw2]
          -- a new block
          have grow : ∀ {old : List Value} {K : Hp} (hK : PR ns ρ H w ρ K w), K.n = H.n → H.rd b o (len * ti.size) = some old → cap' < len + n →
              ∃ base sLen sCap v' w' ρ', Value.slice (some ⟨p.blk, o', none⟩) len cap' = .slice base sLen sCap ∧ (appCore elem ti.size sLen sCap n base (.slice (some ⟨p.blk, o', none⟩) len cap') x zeros app).run P w = .ok v' w' ∧
                VR ρ' (.slice (some ⟨H.n, 0, some (2 * ti.size)⟩) (len + n) (len + n)) v' ∧ PR ns ρ H w ρ' (K.alloc (.row (.lst (old ++ new)) 0 true)) w' := fun {old K} hK hKn hr hlt => by
            obtain ⟨old', g1, g2, g3, g4⟩ := oldRun hr
            obtain ⟨m, rest, m1, m2, m3, m4⟩ := core_grow (w := w) (base := some ⟨p.blk, o', none⟩) (x := x) (zeros := zeros) (app := app) (old := old'.toArray) (new := new'.toArray) ht hz hzl hlt b1 b2 b3 (g3 _ rfl) (hnew _ rfl)
            have hold : old'.length = len * ti.size := by rw [← g1.1, g2]
            have hnl' : new'.length = n * ti.size := by rw [← hl.1, hnl]
            have hsz : (old'.toArray ++ new'.toArray ++ rest.toArray).size = m * ti.size := by
              simp only [Array.size_append, List.size_toArray]
              rw [m2, hold, hnl', ← Nat.add_mul, ← Nat.add_mul]
              congr 1; omega
            have hboth := g1.append hl
            have hpr := PR.alloc (PR.draw hK.hr (w.drawn + 1)).hr (o := .row (.lst (old ++ new)) 0 true) (ob := .cells (old'.toArray ++ new'.toArray ++ rest.toArray) elem) (sz := m * ti.size)
              ⟨hsz, by simp only [Cl.len, List.length_append]; rw [g2, hnl, ← Nat.add_mul]; simpa using Nat.mul_le_mul_right ti.size m1, fun j hj => by
                have hj1 : j < (old ++ new).length := hj
                have hj2 : j < (old' ++ new').length := by rw [← hboth.1]; exact hj1
                refine ⟨(old ++ new)[j], (old' ++ new')[j], List.getElem?_eq_getElem hj1, ?_, hboth.2 j _ _ (List.getElem?_eq_getElem hj1) (List.getElem?_eq_getElem hj2)⟩
                rw [Array.getElem?_append_left (by simpa using hj2)]
                rw [← List.getElem?_eq_getElem hj2]; simp, fun _ => rfl⟩
            refine ⟨_, _, _, _, _, _, rfl, m4, ?_, hK.trans ((PR.draw hK.hr (w.drawn + 1)).trans hpr)⟩
            rw [hKn]
            exact .sl H.n 0 _ _ _ 0 m _ (upd_same _ _ _) (Nat.le_refl _) (by omega) (fun h => by omega) (fun _ => rfl) (Nat.le_refl _) (fun _ => by simp)
          split at h
          · rename_i hodd
            have : cap' = cap := he (by omega)
            split at h
            · rename_i old hr
              cases h
              exact grow (.refl hH) rfl hr (by omega)
            · cases h
          · rename_i hodd
            split at h
            · rename_i c s0 old hg hr hnone
              cases h
              rcases Nat.lt_or_ge cap' (len + n) with hlt | hge
              · refine grow (K := H.put b none) (PR.sub hH (Nat.le_refl _) (fun i o hi => ?_)) rfl hr hlt
                rw [Hp.get_put] at hi
                by_cases e1 : i = b
                · rw [if_pos e1] at hi; cases hi
                · rw [if_neg e1] at hi; exact hi
              · -- in place, where nobody looks any more
                obtain ⟨old', g1, g2, g3, g4⟩ := oldRun hr
                have hev : sp = 2 * ti.size := by omega
                have hhi := hhi (by omega)
                have hs2 : sp / 2 = ti.size := by omega
                rw [hs2] at hhi
                obtain ⟨q, cs, e0, fz, k0, k1, k2, k3, k4, k5⟩ := hH.row _ _ _ _ hg
                rw [hp] at k0; cases k0
                have hnl' : new'.length = n * ti.size := by rw [← hl.1, hnl]
                have hmul : (len + n) * ti.size ≤ cap' * ti.size := Nat.mul_le_mul_right _ hge
                rw [Nat.add_mul] at hmul
                have hone : new'.all one = true := lr_ones hl hnone
                obtain ⟨cs', j1, j2, j3⟩ := run_storeCells P p.blk (o' + len * ti.size) e0 fz new' 0 w cs k1 (by omega) (.inl (k5 rfl)) hone
                refine ⟨_, _, _, _, _, _, rfl, core_room (by omega) (hnew w rfl) (by simpa using j3), ?_, PR.remap hH hg hp (off := o') (by omega) ?_ ?_ (k5 rfl)⟩
                · refine .sl H.n 0 _ _ _ o' cap' ⟨p.blk, o', p.sz⟩ (upd_same _ _ _) (Nat.le_refl _) hge (fun h => by omega) (fun _ => rfl) (Nat.le_refl _) (fun _ => ?_)
                  have : 2 * ti.size / 2 = ti.size := by omega
                  rw [this]; exact hhi
                · simp only [Cl.len, List.length_append]; rw [g2, hnl]; omega
                · intro j hj
                  simp only [Cl.len, List.length_append] at hj
                  rw [j2]
                  by_cases hj1 : j < old.length
                  · rw [if_neg (by omega)]
                    have hj2 : j < old'.length := by rw [← g1.1]; exact hj1
                    refine ⟨old[j], old'[j], by simp only [Cl.at]; rw [List.getElem?_append_left hj1]; exact List.getElem?_eq_getElem hj1, ?_, g1.2 j _ _ (List.getElem?_eq_getElem hj1) (List.getElem?_eq_getElem hj2)⟩
                    rw [← cell_of k1, g4 j (by omega)]; exact List.getElem?_eq_getElem hj2
                  · rw [if_pos (by omega)]
                    have hj2 : j - old.length < new.length := by omega
                    have hj3 : j - old.length < new'.length := by rw [← hl.1]; exact hj2
                    refine ⟨new[j - old.length], new'[j - old.length], by simp only [Cl.at]; rw [List.getElem?_append_right (by omega)]; exact List.getElem?_eq_getElem hj2, ?_, hl.2 _ _ _ (List.getElem?_eq_getElem hj2) (List.getElem?_eq_getElem hj3)⟩
                    rw [show o' + j - (o' + len * ti.size + 0) = j - old.length by omega]; exact List.getElem?_eq_getElem hj3
            · cases h
        · cases h
    · cases h
  · -- an empty slice at an address of which nothing is known
    cases hs with
    | slz av =>
    split at h
    · split at h
      · cases h
        exact ⟨some av, 0, 0, _, _, _, rfl, core_slz rfl (hnew w rfl) (by rw [hl.inv0]), .slz av, .refl hH⟩
      · cases h
    · rename_i n
      split at h
      · rename_i hc
        cases h
        obtain ⟨c1, c2, c3, c4⟩ := hc
        obtain ⟨m, rest, m1, m2, m3, m4⟩ := core_grow (w := w) (sLen := 0) (sCap := 0) (n := n + 1) (base := some av) (s := .slice (some av) 0 0) (x := x) (zeros := zeros) (app := app) (old := #[]) (new := new'.toArray) ht hz hzl (by omega) (by simpa using c1) (by simpa using c2) c3 (by simp only [Builtin.firstCells, Nat.zero_mul, loadCells, loadCellsFrom]; rfl) (hnew _ rfl)
        have hsz : (#[] ++ new'.toArray ++ rest.toArray).size = m * ti.size := by
          simp only [Array.size_append, List.size_toArray, List.length_nil, Nat.zero_add]
          rw [m2, ← hl.1, c4, ← Nat.add_mul]
          congr 1; omega
        have hpr := PR.alloc (PR.draw hH (w.drawn + 1)).hr (o := .row (.lst new) 0 true) (ob := .cells (#[] ++ new'.toArray ++ rest.toArray) elem) (sz := m * ti.size)
          ⟨hsz, by simp only [Cl.len]; rw [c4]; simpa using Nat.mul_le_mul_right ti.size m1, fun j hj => by
            have hj1 : j < new.length := hj
            have hj2 : j < new'.length := by rw [← hl.1]; exact hj1
            refine ⟨new[j], new'[j], List.getElem?_eq_getElem hj1, ?_, hl.2 j _ _ (List.getElem?_eq_getElem hj1) (List.getElem?_eq_getElem hj2)⟩
            rw [Array.getElem?_append_left (by simpa using hj2)]; simp [hj2], fun _ => rfl⟩
        refine ⟨some av, 0, 0, _, _, _, rfl, m4, ?_, (PR.draw hH (w.drawn + 1)).trans hpr⟩
        rw [Nat.zero_add]
        exact .sl H.n 0 _ _ _ 0 m _ (upd_same _ _ _) (Nat.le_refl _) (by omega) (fun h => by omega) (fun _ => rfl) (Nat.le_refl _) (fun _ => by simp)
      · cases h
  · cases h
end

end Go.Proofs.YtaegmplbkbaniaaGreatDoor
