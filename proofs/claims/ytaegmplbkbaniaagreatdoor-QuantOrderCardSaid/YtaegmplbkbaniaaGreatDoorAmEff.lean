/-
  THE ABSTRACT MACHINE: the operations that write memory, against the model's. No condition.
-/
import Derived.Test.YtaegmplbkbaniaaGreatDoorAmApp
set_option linter.all false
namespace Go.Proofs.YtaegmplbkbaniaaGreatDoor
open Go
section
variable {P : Program} {E : Env} {ρ : Nat → Option Pl} {ns : Nat} {H : Hp} {w : World} {t : Tr Value} {a : Act}

theorem ba_refl (a : ByteArray) : (a == a) = true := by
  show ByteArray.beq a a = true
  simp [ByteArray.beq]
theorem ba_beq {a b : ByteArray} (h : (a == b) = true) : a = b := by
  have h : ByteArray.beq a b = true := h
  simp [ByteArray.beq] at h
  cases a; cases b; simp at h; rw [h]
/-- What an operation that writes comes to. -/
def Eff (P : Program) (ρ : Nat → Option Pl) (ns : Nat) (H : Hp) (w : World) (v : Value) (H' : Hp) (s : Sem Next) : Prop :=
  ∃ nx w' ρ', s.run P w = .ok nx w' ∧ PR ns ρ H w ρ' H' w' ∧ ((nx = .skip ∧ v = undef) ∨ ∃ v', nx = .value v' ∧ VR ρ' v v')
theorem eff_val {v : Value} {H' : Hp} {s : Sem Value} (h : ∃ v' w' ρ', s.run P w = .ok v' w' ∧ VR ρ' v v' ∧ PR ns ρ H w ρ' H' w') : Eff P ρ ns H w v H' (do pure (.value (← s))) := by
  obtain ⟨v', w', ρ', h1, h2, h3⟩ := h
  exact ⟨.value v', w', ρ', by simp only [Sem.run_bind, h1, Result.andThen_ok, Sem.run_pure], h3, .inr ⟨v', rfl, h2⟩⟩
theorem eff_skip {H' : Hp} {s : Sem Unit} (h : ∃ w' ρ', s.run P w = .ok () w' ∧ PR ns ρ H w ρ' H' w') : Eff P ρ ns H w undef H' (do s; pure .skip) := by
  obtain ⟨w', ρ', h1, h2⟩ := h
  exact ⟨.skip, w', ρ', by simp only [Sem.run_bind, h1, Result.andThen_ok, Sem.run_pure], h2, .inl ⟨rfl, rfl⟩⟩

theorem store_sound (hE : EOk P E) (hH : HR ρ ns H w) {T : TypeId} {ti : Ti} (hti : E.ty T = some ti) {b o : Nat} {x x' : Value} (hx : VR ρ x x') (hsz : x.cells.size = ti.size) {H' : Hp} (hw : H.wr b o x.cells.toList = some H') :
    ∃ p w', ρ b = some p ∧ (storeVar T ⟨p.blk, p.off + o, none⟩ x').run P w = .ok () w' ∧ PR ns ρ H w ρ H' w' := by
  obtain ⟨p, w', h1, h2, h3⟩ := hH.wrRun P hw hx.cells
  refine ⟨p, w', h1, ?_, h3⟩
  have : x'.cells.size = ti.size := by have := hx.cells.1; simp at this; omega
  simp only [storeVar, Sem.run_bind, run_sizeOf (hE.ty _ _ hti), Result.andThen_ok, this]
  simpa using h2

theorem set_map_array {es : Array MapEntry} {i : Nat} {f : MapEntry → MapEntry} (j : Nat) : (es.modify i f)[j]? = if i = j then es[j]?.map f else es[j]? := by
  rw [Array.getElem?_modify]
theorem mupd_sound (hE : EOk P E) (hH : HR ρ ns H w) {T kt et : TypeId} {kti : Ti} (hu : P.underlying T = some (.map kt et)) (hk : E.ty kt = some kti) {r : Nat} {es : List (Value × Value)} (hg : H.get r = some (.map es))
    {k v v' : Value} (hko : kti.k.keyOk k = true) (hv : VR ρ v v') {p : Pl} (hp : ρ r = some p) {H' : Hp}
    (hh : (match findA k es 0 with
        | some (some (i, _)) => some (H.put r (some (.map (es.set i (k, v)))))
        | some none => some (H.put r (some (.map (es ++ [(k, v)]))))
        | none => none) = some H') :
    ∃ w', (Instr.mapUpdate T (.map (some p.blk)) k v').run P w = .ok () w' ∧ PR ns ρ H w ρ H' w' := by
  obtain ⟨d, w1, w2⟩ := ty_under hE hk
  have hko' := hko
  rw [w2] at hko'
  obtain ⟨q, ents, clk, g1, g2, g3, g4⟩ := hH.map _ _ hg
  rw [hp] at g1; cases g1
  have hlt := (Array.getElem?_eq_some_iff.1 g2).1
  have hset : ∀ ob, (setObj p.blk ob).run P w = .ok () { w with heap := w.heap.setIfInBounds p.blk ob } := fun ob => by
    simp [setObj, Sem.run, g2]
  split at hh
  · rename_i i v0 hf
    cases hh
    obtain ⟨r', f1, f2⟩ := find_sound (ρ := ρ) d (ents := ents.toList) hko' (by simp [g3]) (fun i k v e a b => g4 i k v e a (by simpa using b)) hf
    cases r' with
    | none => exact f2.elim
    | some r' =>
      obtain ⟨j', u'⟩ := r'
      obtain ⟨rfl, f4, f5, f6⟩ := f2
      have hi : i < ents.size := by omega
      have hie : i < es.length := by omega
      have hstay : ∀ k0 : Value, (k0 = k) → (Instr.keyThatStays k0 k).run P w = .ok k w := fun k0 he => by
        subst he
        have hb : Instr.sameBits 10000 k0 k0 = true := by
          cases d <;> simp only [dk, DK.keyOk] at hko' <;> first | (cases hko'; done) | skip
          all_goals cases k0 <;> first | (cases hko'; done) | (show Instr.sameBits (9999 + 1) _ _ = true; simp [Instr.sameBits, ba_refl])
        simp only [Instr.keyThatStays, hb, if_true, Sem.run_pure]
      have hkey : ((ents[i]?).map (·.key)).getD k = k := by
        have hee : ents[i]? = some ents[i] := Array.getElem?_eq_getElem hi
        have hes : es[i]? = some es[i] := List.getElem?_eq_getElem hie
        have hf1 := f1
        -- the key that was found is the key
        have : ∀ (es : List MapEntry) (n i : Nat) (u : Value), Instr.findNow d k es n = some (some (i, u)) → ∃ e, es[i - n]? = some e ∧ n ≤ i ∧ Instr.sameNow d k e.key = some true := by
          intro es
          induction es with
          | nil => intro n i u h; simp [Instr.findNow] at h
          | cons e es ih =>
            intro n i u h
            simp only [Instr.findNow] at h
            split at h
            · rename_i hs
              cases h
              exact ⟨e, by simp, Nat.le_refl _, hs⟩
            · obtain ⟨e', h1, h2, h3⟩ := ih _ _ _ h
              refine ⟨e', ?_, by omega, h3⟩
              rw [show i - n = (i - (n + 1)) + 1 by omega]; simpa using h1
            · cases h
        obtain ⟨e, e1, e2, e3⟩ := this _ _ _ _ f1
        simp only [Nat.sub_zero, Array.getElem?_toList] at e1
        rw [e1]
        simp only [Option.map_some, Option.getD_some]
        cases d <;> simp only [dk, DK.keyOk] at hko' <;> first | (cases hko'; done) | skip
        all_goals
          cases k <;> first | (cases hko'; done) | skip
          generalize hke : e.key = ke at e3 ⊢
          cases ke <;> simp only [Instr.sameNow] at e3 <;> first | (cases e3; done) | skip
        · split at e3
          · rename_i hkk; subst hkk; simp at e3; rw [e3]
          · cases e3
        · simp only [Option.some.injEq] at e3; rw [ba_beq e3]
      refine ⟨_, ?_, PR.setObj hH hg rfl hp (o := .map (es.set i (k, v))) (ob := .map (ents.modify i fun e => { e with key := k, val := v' }) clk) ⟨by simp [g3], fun j k1 v1 e1 h1 h2 => ?_⟩⟩
      · simp only [Instr.mapUpdate, Sem.run_bind, run_underlying hu, Result.andThen_ok, run_getObj_map g2]
        rw [run_checkKey w1 hko']
        simp only [Result.andThen_ok]
        rw [run_findKey w1 f1]
        simp only [Result.andThen_ok, Sem.run_bind]
        rw [hstay _ hkey]
        simp only [Result.andThen_ok, hset]
      · rw [List.getElem?_set] at h1
        rw [set_map_array] at h2
        by_cases hj : i = j
        · subst hj
          rw [if_pos rfl, if_pos hie] at h1
          rw [if_pos rfl, Array.getElem?_eq_getElem hi] at h2
          cases h1; cases h2
          exact ⟨keyOk_scal hko, rfl, hv⟩
        · rw [if_neg hj] at h1 h2
          exact g4 j k1 v1 e1 h1 h2
  · rename_i hf
    cases hh
    obtain ⟨r', f1, f2⟩ := find_sound (ρ := ρ) d (ents := ents.toList) hko' (by simp [g3]) (fun i k v e a b => g4 i k v e a (by simpa using b)) hf
    cases r' with
    | some r' => exact f2.elim
    | none =>
      refine ⟨_, ?_, PR.setObj hH hg rfl hp (o := .map (es ++ [(k, v)])) (ob := .map (ents.push { key := k, val := v', born := clk }) (clk + 1)) ⟨by simp [g3], fun j k1 v1 e1 h1 h2 => ?_⟩⟩
      · simp only [Instr.mapUpdate, Sem.run_bind, run_underlying hu, Result.andThen_ok, run_getObj_map g2]
        rw [run_checkKey w1 hko']
        simp only [Result.andThen_ok]
        rw [run_findKey w1 f1]
        simp only [Result.andThen_ok, hset]
      · rw [List.getElem?_append] at h1
        rw [Array.getElem?_push] at h2
        by_cases hj : j < es.length
        · rw [if_pos hj] at h1
          rw [if_neg (by omega)] at h2
          exact g4 j k1 v1 e1 h1 h2
        · rw [if_neg hj] at h1
          have : j = es.length := by
            have := (List.getElem?_eq_some_iff.1 h1).1
            simp at this; omega
          subst this
          rw [if_pos (by omega)] at h2
          simp at h1
          obtain ⟨rfl, rfl⟩ := h1
          cases h2
          exact ⟨keyOk_scal hko, rfl, hv⟩
  · cases hh

theorem freeze_put {b n : Nat} {cs : Array Value} {e : TypeId} {fz : Nat × Nat} (h : w.heap[b]? = some (.cells cs e fz)) :
    w.freeze ⟨b, n, none⟩ 1 = { w with heap := w.heap.setIfInBounds b (.cells cs e (if fz.1 == fz.2 then (n, n + 1) else (min fz.1 n, max fz.2 (n + 1)))) } := by
  unfold World.freeze
  rw [if_neg (by decide)]
  congr 1
  apply Array.ext_getElem?
  intro k
  rw [Array.getElem?_modify, Array.getElem?_setIfInBounds]
  by_cases hk : b = k
  · subst hk
    rw [if_pos rfl, if_pos rfl, h, if_pos (Array.getElem?_eq_some_iff.1 h).1]
    obtain ⟨lo, hi⟩ := fz
    rfl
  · rw [if_neg hk, if_neg hk]
theorem mkb_sound (hH : HR ρ ns H w) {b o len cap sp : Nat} {c : Cl} {s : Nat} (hg : H.get b = some (.row c s true)) {x' : Value} (hx : VR ρ (.slice (some ⟨b, o, some sp⟩) len cap) x')
    {T e : TypeId} (hu : P.underlying T = some (.slice e)) (he : P.underlying e = some (.int .u8)) :
    ∃ w', (convert T T x').run P w = .ok x' w' ∧ PR ns ρ H w ρ (H.put b (some (.row c s false))) w' := by
  cases hx with
  | sl _ _ _ _ _ o' cap' p hp hlc hcc he1 ho hlo hhi =>
  obtain ⟨q, cs, e0, fz, k0, k1, k2, k3, k4, k5⟩ := hH.row _ _ _ _ hg
  rw [hp] at k0; cases k0
  have hpr := PR.setObj hH hg rfl hp (o := .row c s false) (ob := .cells cs e0 (if fz.1 == fz.2 then (cs.size, cs.size + 1) else (min fz.1 cs.size, max fz.2 (cs.size + 1)))) ⟨k2, k3, k4, fun h => by cases h⟩
  refine ⟨{ w with heap := w.heap.setIfInBounds p.blk (.cells cs e0 (if fz.1 == fz.2 then (cs.size, cs.size + 1) else (min fz.1 cs.size, max fz.2 (cs.size + 1)))) }, ?_, hpr⟩
  have hsh : w.shape? p.blk = some (e0, cs.size) := by simp only [World.shape?, k1]
  simp only [convert, Sem.run_bind, run_underlying hu, Result.andThen_ok, beq_self_eq_true, run_underlying he, markStringish, run_shape, hsh, run_freeze, Sem.run_pure, freeze_put k1]

/-! ### Cells that are to be appended or copied -/
theorem lenA_sound {x x' : Value} {n : Nat} (h : lenA x = some n) (hx : VR ρ x x') (w : World) : (Builtin.lenOf x').run P w = .ok n w := by
  unfold lenA at h
  split at h
  · cases h; cases hx; rfl
  · cases h; cases hx <;> rfl
  · cases h; cases hx; rfl
  · cases h
theorem src_sound (hH : HR ρ ns H w) {size n : Nat} {x x' : Value} {l : List Value} {m : Nat} (hm : lenA x = some m) (hn : n ≤ m) (hx : VR ρ x x') (h : srcCells H size n x = some l) :
    ∃ l', LR ρ l l' ∧ (∀ w2 : World, w2.heap = w.heap → (Builtin.firstCells size n x').run P w2 = .ok l'.toArray w2) := by
  unfold srcCells at h
  split at h
  · cases h; cases hx
    exact ⟨[], .nil, fun w2 _ => rfl⟩
  · rename_i b o s len cap
    split at h
    · rename_i hs
      cases hx with
      | sl _ _ _ _ _ o' cap' p hp hlc hcc he ho hlo hhi =>
      obtain ⟨q, l', g1, g2, g3, g4⟩ := hH.rd h
      rw [hp] at g1; cases g1
      simp only [lenA] at hm; cases hm
      refine ⟨l', g2, fun w2 hw2 => ?_⟩
      simp only [Builtin.firstCells]
      refine run_loadCells P w2 _ _ _ _ (by rw [← g2.1, g3]) (fun j hj => ?_)
      have hpos : 0 < cap := by
        rcases Nat.eq_zero_or_pos n with h0 | h0
        · subst h0; simp at hj
        · omega
      rw [ho hpos, ← g4 j hj, Nat.add_assoc]
      simp only [World.cell?, hw2]
    · cases h
  · cases h
    simp only [lenA] at hm; cases hm
    cases hx with
    | slz av =>
      have hn0 : n = 0 := by omega
      subst hn0
      refine ⟨[], .nil, fun w2 _ => ?_⟩
      simp only [Builtin.firstCells, Nat.zero_mul, loadCells, loadCellsFrom]; rfl
  · rename_i s
    cases h; cases hx
    simp only [lenA] at hm; cases hm
    refine ⟨(s.data.toList.take n).map fun b => .int .u8 b.toNat, lr_scal (List.all_eq_true.2 fun v hv => ?_), fun w2 _ => ?_⟩
    · obtain ⟨b, _, rfl⟩ := List.mem_map.1 hv; rfl
    · simp only [Builtin.firstCells, Sem.run_pure]
      congr 1
      apply Array.toList_inj.1
      have : (s.extract 0 n).data.toList = s.data.toList.take n := by
        rw [ByteArray.data_extract]; simp
      simp [this]
  · cases h
theorem srcCells_len {size n : Nat} {x : Value} {l : List Value} (hm : lenA x = some n) (h : srcCells H size n x = some l) (hsz : ∀ s, x = .string s → size = 1) : l.length = n * size := by
  unfold srcCells at h
  split at h
  · cases h; simp only [lenA] at hm; cases hm; simp
  · split at h
    · unfold Hp.rd at h
      split at h
      · exact (Cl.rd_spec h).1
      · cases h
    · cases h
  · cases h; simp only [lenA] at hm; cases hm; simp
  · rename_i s
    cases h; simp only [lenA] at hm; cases hm
    rw [hsz _ rfl]
    simp
  · cases h

/-- Cells stored where there is a place for them. -/
def StoredIn (P : Program) (w w' : World) (new : Array Value) : Option Addr → Prop
  | none => w' = w
  | some a => (storeCells a new.toList).run P w = .ok () w'
theorem run_copy {T e : TypeId} {te : Ti} (hu : P.underlying T = some (.slice e)) (he : tyOf P e = some te) (ts : Array TypeId) (h0 : ts[0]? = some T) (ty : TypeId) (base : Option Addr) (dl dc sl : Nat) (x : Value)
    (hn : (Builtin.lenOf x).run P w = .ok sl w) {new : Array Value} (hf : (Builtin.firstCells te.size (min sl dl) x).run P w = .ok new w) {w' : World}
    (hs : StoredIn P w w' new base) :
    (Builtin.copy_ ts ty #[.slice base dl dc, x]).run P w = .ok (.int .i64 ((min sl dl : Nat) : Int)) w' := by
  have e : Nat.min sl dl = min sl dl := rfl
  cases base with
  | none =>
    have hs : w' = w := hs
    subst hs
    simp only [Builtin.copy_, h0, List.getElem?_toArray, List.getElem?_cons_zero, List.getElem?_cons_succ, Sem.run_bind, run_underlying hu, Result.andThen_ok, hn, run_sizeOf he, e, hf, Sem.run_pure, goInt]
  | some a =>
    have hs : (storeCells a new.toList).run P w = .ok () w' := hs
    simp only [Builtin.copy_, h0, List.getElem?_toArray, List.getElem?_cons_zero, List.getElem?_cons_succ, Sem.run_bind, run_underlying hu, Result.andThen_ok, hn, run_sizeOf he, e, hf, hs, Sem.run_pure, goInt]
theorem cl_all_one {m : Nat} {z : Value} {t : Tr Value} (hz : one z = true) (ht : t.allT one = true) {j : Nat} {v : Value} (h : (Cl.big m z t).at j = some v) : one v = true := by
  simp only [Cl.at] at h
  split at h
  · rename_i u hu
    split at h
    · cases h; exact Tr.allT_get ht hu
    · cases h
  · split at h
    · cases h; exact hz
    · cases h
theorem cpy_sound (hH : HR ρ ns H w) {size n sl dl dc : Nat} (hn : n = min sl dl) {da : Option Addr} {s s' d' : Value} (hd : VR ρ (.slice da dl dc) d') (hs : VR ρ s s') (hl : lenA s = some sl) {H' : Hp}
    (h : cpyA H size n da s = some H') :
    ∃ base dc' new w', d' = .slice base dl dc' ∧ (Builtin.firstCells size n s').run P w = .ok new w ∧ StoredIn P w w' new base ∧ PR ns ρ H w ρ H' w' := by
  unfold cpyA at h
  split at h
  · -- a whole row
    rename_i b sp c hw
    split at h
    · rename_i c0 s0 hg
      split at h
      · rename_i hc
        obtain ⟨c1, c2, c3⟩ := hc
        cases h
        cases hd with
        | sl _ _ _ _ _ o' cap' p hp hlc hcc he ho hlo hhi =>
        -- what is copied
        unfold srcWhole at hw
        split at hw
        · rename_i b1 s1 sl1 cap1
          split at hw
          · rename_i m z tr sp1 rw1 hg1
            split at hw
            · rename_i hc1
              cases hw
              obtain ⟨d1, d2, d3, d4⟩ := hc1
              simp only [lenA] at hl; cases hl
              cases hs with
              | sl _ _ _ _ _ o2 cap2 p2 hp2 hlc2 hcc2 he2 ho2 hlo2 hhi2 =>
              obtain ⟨q, cs, e0, fz, k0, k1, k2, k3, k4, k5⟩ := hH.row _ _ _ _ hg1
              rw [hp2] at k0; cases k0
              obtain ⟨q, cs0, e1, fz1, j0, j1, j2, j3, j4, j5⟩ := hH.row _ _ _ _ hg
              rw [hp] at j0; cases j0
              have c2 : c0.len = m := c2
              have c3 : m = n * size := c3
              have k3 : p2.off + m + sp1 ≤ p2.sz := k3
              have k4 : ∀ j, j < m → ∃ v v', (Cl.big m z tr).at j = some v ∧ cs[p2.off + j]? = some v' ∧ VR ρ v v' := k4
              let src := (cs.toList.drop p2.off).take m
              have hsl : src.length = m := by simp [src]; omega
              have hsg : ∀ j, j < m → src[j]? = cs[p2.off + j]? := fun j hj => by
                simp only [src, List.getElem?_take, if_pos hj, List.getElem?_drop, Array.getElem?_toList]
              have hone : src.all one = true := List.all_eq_true.2 fun v hv => by
                obtain ⟨j, hj⟩ := List.mem_iff_getElem?.1 hv
                have hjm : j < m := by rw [← hsl]; exact (List.getElem?_eq_some_iff.1 hj).1
                obtain ⟨u, u', x1, x2, x3⟩ := k4 j hjm
                rw [hsg j hjm, x2] at hj; cases hj
                exact vr_one x3 (cl_all_one d3 d4 x1)
              have hfirst : (Builtin.firstCells size n (.slice (some ⟨p2.blk, o2, none⟩) sl cap2)).run P w = .ok src.toArray w := by
                simp only [Builtin.firstCells]
                refine run_loadCells P w _ _ _ _ (by rw [hsl]; omega) (fun j hj => ?_)
                have hjm : j < m := by omega
                have hpos : 0 < cap1 := by
                  rcases Nat.eq_zero_or_pos cap1 with hz | hz
                  · have : n = 0 := by omega
                    subst this; simp at hj
                  · exact hz
                rw [cell_of k1, hsg j hjm, ho2 hpos]; rfl
              rcases Nat.eq_zero_or_pos m with hm | hm
              · -- nothing
                have hs0 : src = [] := List.length_eq_zero_iff.1 (by omega)
                refine ⟨_, cap', _, w, rfl, hfirst, by rw [hs0]; rfl, ?_⟩
                have hpr := PR.setObj (ob := .cells cs0 e1 fz1) hH hg rfl hp (o := .row (.big m z tr) s0 true) ⟨j2, by show p.off + m + s0 ≤ p.sz; omega, fun j hj => by have hj : j < m := hj; omega, fun _ => j5 rfl⟩
                have : ({ w with heap := w.heap.setIfInBounds p.blk (.cells cs0 e1 fz1) } : World) = w := by
                  have : w.heap.setIfInBounds p.blk (.cells cs0 e1 fz1) = w.heap := by
                    apply Array.ext_getElem?; intro k
                    rw [Array.getElem?_setIfInBounds]
                    by_cases hk : p.blk = k
                    · subst hk; rw [if_pos rfl, if_pos (Array.getElem?_eq_some_iff.1 j1).1, j1]
                    · rw [if_neg hk]
                  rw [this]
                rwa [this] at hpr
              · have hpos : 0 < dc := by
                  rcases Nat.eq_zero_or_pos dc with hz | hz
                  · have : n = 0 := by omega
                    subst this; omega
                  · exact hz
                have ho := ho hpos
                obtain ⟨cs', x1, x2, x3⟩ := run_storeCells P p.blk (p.off + 0) e1 fz1 src 0 w cs0 j1 (by omega) (.inl (j5 rfl)) hone
                refine ⟨_, cap', _, _, rfl, hfirst, by rw [ho]; exact x3, PR.setObj (ob := .cells cs' e1 fz1) hH hg rfl hp (o := .row (.big m z tr) s0 true) ⟨by omega, by show p.off + m + s0 ≤ p.sz; omega, fun j hj => ?_, fun _ => j5 rfl⟩⟩
                have hj : j < m := hj
                obtain ⟨u, u', y1, y2, y3⟩ := k4 j hj
                refine ⟨u, u', y1, ?_, y3⟩
                rw [x2, if_pos (by omega), ← y2, ← hsg j hj]
                congr 1; omega
            · cases hw
          · cases hw
        · cases hw
      · cases h
    · cases h
  · have hle : n ≤ sl := by omega
    split at h
    · rename_i l hsrc _
      cases h
      obtain ⟨l', g1, g2⟩ := src_sound (P := P) hH hl hle hs hsrc
      cases hd
      exact ⟨none, 0, _, w, rfl, g2 w rfl, rfl, .refl hH⟩
    · rename_i l b o sp hsrc _
      cases h
      obtain ⟨l', g1, g2⟩ := src_sound (P := P) hH hl hle hs hsrc
      have hl0 : l = [] := by
        unfold srcCells at hsrc
        split at hsrc
        · cases hsrc; rfl
        · split at hsrc
          · unfold Hp.rd at hsrc
            split at hsrc
            · exact List.length_eq_zero_iff.1 (by rw [(Cl.rd_spec hsrc).1]; simp)
            · cases hsrc
          · cases hsrc
        · cases hsrc; rfl
        · cases hsrc; simp
        · cases hsrc
      subst hl0
      have := g1.inv0; subst this
      cases hd with
      | sl _ _ _ _ _ o' cap' p hp hlc hcc he ho hlo hhi => exact ⟨_, _, _, w, rfl, g2 w rfl, rfl, .refl hH⟩
    · rename_i l b o sp n hsrc _
      split at h
      · obtain ⟨l', g1, g2⟩ := src_sound (P := P) hH hl hle hs hsrc
        cases hd with
        | sl _ _ _ _ _ o' cap' p hp hlc hcc he ho hlo hhi =>
        obtain ⟨q, w', k1, k2, k3⟩ := hH.wrRun P h g1
        rw [hp] at k1; cases k1
        exact ⟨_, _, _, w', rfl, g2 w rfl, by rw [ho (by omega)]; exact k2, k3⟩
      · cases h
    · cases h
end

end Go.Proofs.YtaegmplbkbaniaaGreatDoor
