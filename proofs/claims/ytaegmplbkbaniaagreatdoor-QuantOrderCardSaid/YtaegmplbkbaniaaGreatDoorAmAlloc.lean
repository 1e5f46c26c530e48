/-
  THE ABSTRACT MACHINE: the operations that make a block, against the model's. No condition.
-/
import Derived.Test.YtaegmplbkbaniaaGreatDoorAmRead
set_option linter.all false
namespace Go.Proofs.YtaegmplbkbaniaaGreatDoor
open Go
section
variable {P : Program} {E : Env} {ρ : Nat → Option Pl} {ns : Nat} {H : Hp} {w : World} {t : Tr Value} {a : Act}

theorem rep_length (z : List Value) : ∀ n, (rep z n).length = n * z.length
  | 0 => by simp [rep]
  | n + 1 => by simp only [rep, List.length_append, rep_length z n]; rw [Nat.add_mul]; omega
theorem rep_get (z : List Value) : ∀ (n i : Nat), i < n * z.length → (rep z n)[i]? = z[i % z.length]?
  | 0, i, h => by simp at h
  | n + 1, i, h => by
    simp only [rep]
    by_cases hi : i < z.length
    · rw [List.getElem?_append_left hi, Nat.mod_eq_of_lt hi]
    · have hz : z.length ≤ i := by omega
      rw [List.getElem?_append_right hz, rep_get z n _ (by rw [Nat.add_mul] at h; omega)]
      congr 1
      exact (Nat.mod_eq_sub_mod hz).symm
theorem rep_mem {z : List Value} {n : Nat} {v : Value} (h : v ∈ rep z n) : v ∈ z := by
  induction n with
  | zero => simp [rep] at h
  | succ n ih => simp only [rep, List.mem_append] at h; exact h.elim id ih
theorem rep_scal {z : List Value} (h : z.all scal = true) (n : Nat) : (rep z n).all scal = true :=
  List.all_eq_true.2 fun v hv => List.all_eq_true.1 h v (rep_mem hv)
theorem mkRow_spec (z : List Value) (n : Nat) : (mkRow z n).len = n * z.length ∧ ∀ i, i < n * z.length → (mkRow z n).at i = z[i % z.length]? := by
  have hl : (Cl.lst (rep z n)).len = n * z.length ∧ ∀ i, i < n * z.length → (Cl.lst (rep z n)).at i = z[i % z.length]? :=
    ⟨rep_length z n, fun i hi => rep_get z n i hi⟩
  unfold mkRow
  split
  · rename_i v r hb
    split
    · rename_i hall
      refine ⟨rfl, fun i hi => ?_⟩
      simp only [Cl.at, Tr.get_nil]
      rw [if_pos hi]
      have hpos : i % (v :: r).length < (v :: r).length := Nat.mod_lt _ (by simp)
      rw [List.getElem?_eq_getElem hpos]
      congr 1
      have hm := List.getElem_mem hpos
      rcases List.mem_cons.1 hm with h | h
      · exact h.symm
      · exact beq1_sound (List.all_eq_true.1 hall _ h)
    · exact hl
  · exact hl
/-- The model's row of zero values. -/
theorem zeros_get {z : Array Value} {n i : Nat} (hi : i < n) (hz : 0 < z.size) : ((Array.range n).map (z[· % z.size]!))[i]? = z.toList[i % z.toList.length]? := by
  have hm : i % z.size < z.size := Nat.mod_lt _ hz
  simp [hi, hm]
theorem zeros_list {z : Array Value} (n : Nat) : ((Array.range (n * z.size)).map (z[· % z.size]!)).toList = rep z.toList n := by
  apply List.ext_getElem?
  intro i
  by_cases hi : i < n * z.size
  · have hz : 0 < z.size := by
      rcases Nat.eq_zero_or_pos z.size with h | h
      · rw [h] at hi; simp at hi
      · exact h
    rw [Array.getElem?_toList, zeros_get hi hz, rep_get _ _ _ (by simpa using hi)]
  · rw [List.getElem?_eq_none (by simp; omega), List.getElem?_eq_none (by rw [rep_length]; simp; omega)]

/-- What a new row comes to. -/
structure New (P : Program) (ρ : Nat → Option Pl) (ns : Nat) (H : Hp) (w : World) (id : Nat) (o : AObj) (v : Value) (s : Sem Value) : Prop where
  out : ∃ v' w' p, s.run P w = .ok v' w' ∧ HR (upd ρ id p) ns (H.put id (some o)) w' ∧ VR (upd ρ id p) v v' ∧ p.blk = w.heap.size ∧ Fr ρ H w w'
theorem new_row (hH : HR ρ ns H w) {id : Nat} (hid : ρ id = none) (hlt : id < H.n) {c : Cl} {rw : Bool} {cs : Array Value} {T : TypeId} {v : Value} {s : Sem Value} {v' : Value}
    (hrun : s.run P w = .ok v' (w.alloc (.cells cs T))) (hc : c.len = cs.size ∧ ∀ j, j < c.len → ∃ u u', c.at j = some u ∧ cs[j]? = some u' ∧ VR ρ u u')
    (hv : VR (upd ρ id ⟨w.heap.size, 0, cs.size⟩) v v') : New P ρ ns H w id (.row c 0 rw) v s :=
  ⟨v', _, ⟨w.heap.size, 0, cs.size⟩, hrun, PR.allocAt hH hid hlt ⟨rfl, by omega, hc.2, fun _ => rfl⟩, hv, rfl, .alloc _⟩
theorem lst_cells {l : List Value} {cs : Array Value} (h : LR ρ l cs.toList) : (Cl.lst l).len = cs.size ∧ ∀ j, j < (Cl.lst l).len → ∃ u u', (Cl.lst l).at j = some u ∧ cs[j]? = some u' ∧ VR ρ u u' := by
  have hs : l.length = cs.size := by simpa using h.1
  refine ⟨hs, fun j hj => ?_⟩
  have hj1 : j < l.length := hj
  have hj2 : j < cs.size := by omega
  exact ⟨l[j], cs[j], List.getElem?_eq_getElem hj1, Array.getElem?_eq_getElem hj2, h.2 j _ _ (List.getElem?_eq_getElem hj1) (by simp [hj2])⟩

theorem freeze_new (w : World) (cs : Array Value) (e : TypeId) : (w.alloc (.cells cs e)).freeze ⟨w.heap.size, cs.size, none⟩ 1 = w.alloc (.cells cs e (cs.size, cs.size + 1)) := by
  unfold World.freeze
  rw [if_neg (by decide)]
  unfold World.alloc
  congr 1
  apply Array.ext_getElem?
  intro k
  rw [Array.getElem?_modify]
  by_cases hk : w.heap.size = k
  · subst hk; simp
  · rw [if_neg hk]
    rw [Array.getElem?_push, Array.getElem?_push, if_neg (Ne.symm hk), if_neg (Ne.symm hk)]
def s2bCells (s : ByteArray) (c : Nat) : Array Value := s.data.map (fun (b : UInt8) => Value.int .u8 (b.toNat : Int)) ++ Array.replicate (c - s.size) (Value.int .u8 0)
theorem s2bCells_size (s : ByteArray) {c : Nat} (h : s.size ≤ c) : (s2bCells s c).size = c := by
  have : s.data.size = s.size := rfl
  simp only [s2bCells, Array.size_append, Array.size_map, Array.size_replicate]; omega
theorem run_stringToBytes (P : Program) (e : TypeId) (s : ByteArray) (w : World) : ∃ c, s.size ≤ c ∧
    (Conv.stringToBytes e s).run P w = .ok (.slice (some ⟨w.heap.size, 0, none⟩) s.size c) (w.drew.alloc (.cells (s2bCells s c) e ((s2bCells s c).size, (s2bCells s c).size + 1))) := by
  refine ⟨(Question.appendCap s.size 0 e).cut (w.tape w.drawn (.appendCap s.size 0 e)), by simp [Question.cut], ?_⟩
  generalize hc : (Question.appendCap s.size 0 e).cut (w.tape w.drawn (.appendCap s.size 0 e)) = c
  have hf : (Question.appendCap s.size 0 e).forced = false := rfl
  have hsh : (w.drew.alloc (.cells (s2bCells s c) e)).shape? w.heap.size = some (e, (s2bCells s c).size) := by
    have := heap_alloc_new w.drew (.cells (s2bCells s c) e)
    simp only [World.size_drew] at this
    simp only [World.shape?, this]
  have h3 := freeze_new w.drew (s2bCells s c) e
  simp only [World.size_drew] at h3
  simp only [Conv.stringToBytes, Sem.run_bind, run_choose, hf, Bool.false_eq_true, if_false, Result.andThen_ok, newRow, run_newObj, Sem.run_pure, markStringish, run_shape, World.alloc_eq, World.drew_eq, hc]
  have e1 : (s.data.map (fun (b : UInt8) => Value.int .u8 (b.toNat : Int)) ++ Array.replicate (c - s.size) (Value.int .u8 0)) = s2bCells s c := rfl
  rw [e1]
  simp only [World.size_drew, hsh, run_freeze, Result.andThen_ok, h3]

theorem alloc_sound (hE : EOk P E) (hT : TR ρ t a.tmps) (hS : SR P ρ) (hH : HR ρ ns H w) {id : Nat} (hid : ρ id = none) (hlt : id < H.n) {o : Oper} {l : Li} (hc : cOp P o.op = .a l)
    {ob : AObj} {f : Nat → Value} (hv : allocA E t l = some (ob, f)) :
    ∃ v' w' p, (execOp a.eval o).run P w = .ok (.value v') w' ∧ HR (upd ρ id p) ns (H.put id (some ob)) w' ∧ VR (upd ρ id p) (f id) v' ∧ p.blk = w.heap.size ∧ Fr ρ H w w' := by
  have fin : ∀ {s : Sem Value}, New P ρ ns H w id ob (f id) s → ∃ v' w' p, (do pure (.value (← s)) : Sem Next).run P w = .ok (.value v') w' ∧ HR (upd ρ id p) ns (H.put id (some ob)) w' ∧ VR (upd ρ id p) (f id) v' ∧ p.blk = w.heap.size ∧ Fr ρ H w w' := fun {s} h => by
    obtain ⟨v', w', p, h1, h2⟩ := h.out
    exact ⟨v', w', p, by simp only [Sem.run_bind, h1, Result.andThen_ok, Sem.run_pure], h2⟩
  unfold cOp at hc
  split at hc
  case h_2 => cases hc
  rename_i b hb
  subst hc
  obtain ⟨dst, op, type, pos, after, guard⟩ := o
  simp only at hb
  cases op
  case alloc T =>
    simp only [cOp1] at hb; cases hb
    simp only [allocA] at hv
    split at hv
    · rename_i ti hti
      split at hv
      · rename_i z hz
        cases hv
        obtain ⟨zv, z1, z2, z3, z4⟩ := run_zero (hE.ty _ _ hti) hz w
        refine fin (new_row (cs := zv.cells) (T := T) hH hid hlt ?_ (lst_cells (by rw [z2]; exact lr_scal z3)) (.ptr id 0 _ (upd_same _ _ _)))
        simp only [Instr.alloc, Sem.run_bind, z1, Result.andThen_ok, newVar, newRow, run_newObj, Sem.run_pure, World.alloc_eq]
      · cases hv
    · cases hv
  case box T x =>
    obtain ⟨ox, h1, h2⟩ := map_some_inv hb; cases h2
    have vx := od_sound hT hS h1
    simp only [allocA] at hv
    cases hv
    refine fin (new_row (cs := (a.eval x).cells) (T := T) hH hid hlt ?_ (lst_cells vx.cells) (.ptr id 0 _ (upd_same _ _ _)))
    simp only [Instr.box, Sem.run_bind, Result.andThen_ok, newVar, newRow, run_newObj, Sem.run_pure, World.alloc_eq]
  case buildSlice T n ps =>
    obtain ⟨ops, h1, h2⟩ := map_some_inv hb; cases h2
    simp only [allocA] at hv
    split at hv
    · rename_i e _ _ _ _ hti
      split at hv
      · rename_i te hte
        split at hv
        · rename_i z pl hz hpl
          split at hv
          · rename_i hsz
            split at hv
            · rename_i r hr
              cases hv
              obtain ⟨d, g1, g2⟩ := ty_under hE hti
              have := dk_slc g2; subst this
              obtain ⟨zv, z1, z2, z3, z4⟩ := run_zero (hE.ty _ _ hte) hz w
              have hzs : zv.cells.size = te.size := by rw [← hsz.2, ← z2]; simp
              have hpr := parts_sound (pl' := fun i => some (i * te.size, te.size)) hT hS (fun _ _ h => h) h1 hpl
              have hfill : ∀ A : Array Value, A.toList = rep z n → ∃ B : Array Value, Instr.fill (fun i => some (i * te.size, te.size)) A (ps.toList.map fun x => (x.1, a.eval x.2)) = some B ∧ LR ρ r B.toList :=
                fun A hA => fill_sound hpr (by rw [hA]; exact lr_scal (rep_scal z3 n)) hr
              have hno : ¬ (n * te.size > 2 ^ 24) := by have := hsz.1; omega
              have run : ∃ B : Array Value, LR ρ r B.toList ∧ (Instr.buildSlice T n (ps.map fun (i, x) => (i, a.eval x))).run P w = .ok (.slice (some ⟨w.heap.size, 0, none⟩) n n) (w.alloc (.cells B e)) := by
                by_cases h0 : n * te.size = 0
                · obtain ⟨B, b1, b2⟩ := hfill #[] (by
                    have : (rep z n).length = 0 := by rw [rep_length, hsz.2]; exact h0
                    rw [List.length_eq_zero_iff.1 this])
                  refine ⟨B, b2, ?_⟩
                  simp only [Instr.buildSlice, Sem.run_bind, run_underlying g1, Result.andThen_ok, run_sizeOf (hE.ty _ _ hte), if_neg hno]
                  simp only [h0, if_true, cParts_pos]
                  simp only [pure_bind, show Array.range 0 = #[] from rfl, Array.map_empty, b1]; rfl
                · obtain ⟨B, b1, b2⟩ := hfill ((Array.range (n * zv.cells.size)).map (zv.cells[· % zv.cells.size]!)) (by rw [zeros_list, z2])
                  refine ⟨B, b2, ?_⟩
                  simp only [Instr.buildSlice, Sem.run_bind, run_underlying g1, Result.andThen_ok, run_sizeOf (hE.ty _ _ hte), if_neg hno, if_neg h0, z1, Sem.run_pure, cParts_pos]
                  rw [hzs] at b1
                  simp only [hzs, b1]; rfl
              obtain ⟨B, b1, b2⟩ := run
              have hBs : n * te.size = B.size := by
                have := b1.1
                simp only [Array.length_toList] at this
                rw [← this]
                have hlen : ∀ {ps : List (Nat × Nat × Value)} {z r : List Value}, fillA z ps = some r → r.length = z.length := by
                  intro ps
                  induction ps with
                  | nil => intro z r h; simp only [fillA] at h; cases h; rfl
                  | cons p ps ih =>
                    intro z r h
                    obtain ⟨off, size, v⟩ := p
                    simp only [fillA] at h
                    split at h
                    · rename_i hcc
                      rw [ih h]; simp; omega
                    · cases h
                rw [hlen hr, rep_length, hsz.2]
              refine fin (new_row (cs := B) (T := e) hH hid hlt b2 (lst_cells b1) ?_)
              refine .sl id 0 _ n n 0 n _ (upd_same _ _ _) (Nat.le_refl _) (Nat.le_refl _) (fun _ => rfl) (fun _ => rfl) (Nat.le_refl _) (fun h => by omega)
            · cases hv
          · cases hv
        · cases hv
      · cases hv
    · cases hv
  case makeMap T r =>
    cases r with
    | some r => simp only [cOp1] at hb; cases hb
    | none =>
      simp only [cOp1] at hb; cases hb
      simp only [allocA] at hv; cases hv
      refine fin ⟨.map (some w.heap.size), w.alloc (.map #[] 0), ⟨w.heap.size, 0, 0⟩, ?_, PR.allocAt hH hid hlt ⟨rfl, fun i k v e h => by simp at h⟩, .map id _ (upd_same _ _ _), rfl, .alloc _⟩
      rfl
  case makeSlice T x y =>
    simp only [cOp1] at hb
    split at hb
    · rename_i ox oy h1 h2
      cases hb
      have vx := od_sound hT hS h1
      have vy := od_sound hT hS h2
      simp only [allocA] at hv
      split at hv
      · rename_i e _ _ _ _ k1 ln k2 cn hti hx hy
        rw [hx] at vx; rw [hy] at vy
        split at hv
        · rename_i te hte
          split at hv
          · rename_i z hz
            split at hv
            · rename_i hcd
              cases hv
              obtain ⟨c0, c1, c2, c3, c4⟩ := hcd
              obtain ⟨d, g1, g2⟩ := ty_under hE hti
              have := dk_slc g2; subst this
              obtain ⟨i, d3, i1, i2, i3, i4, i5, i6, i7⟩ := tyOf_info (hE.ty _ _ hte)
              obtain ⟨zv, z1, z2, z3, z4⟩ := run_zero (hE.ty _ _ hte) hz w
              have hzs : zv.cells.size = te.size := by rw [← c4, ← z2]; simp
              have w1 : IntKind.i64.wrap ln = ln := by unfold IntKind.wrap; simp [IntKind.bits, IntKind.signed]; omega
              have w2 : IntKind.i64.wrap cn = cn := by unfold IntKind.wrap; simp [IntKind.bits, IntKind.signed]; omega
              have hbytes : (i.bytes : Int) * cn ≤ 2 ^ 40 := by
                rw [← i5]
                have e1 : ((te.bytes : Int)) ≤ 2 ^ 20 := by exact_mod_cast c3
                have e2 : (te.bytes : Int) * cn ≤ 2 ^ 20 * 2 ^ 20 := Int.mul_le_mul e1 c2 (by omega) (by decide)
                have e3 : (2 : Int) ^ 20 * 2 ^ 20 = 2 ^ 40 := by decide
                omega
              generalize hxx : a.eval x = x' at vx
              generalize hyy : a.eval y = y' at vy
              cases vx; cases vy
              obtain ⟨m1, m2⟩ := mkRow_spec z cn.toNat
              have n1 : ¬ cn < 0 := by omega
              have n2 : ¬ ((i.bytes : Int) * cn > 2 ^ 48) := by
                have : (2 : Int) ^ 40 ≤ 2 ^ 48 := by decide
                omega
              have n3 : ¬ ln < 0 := by omega
              have n4 : ¬ ln > cn := by omega
              have run : ∃ B : Array Value, B.toList = rep z cn.toNat ∧ (Instr.makeSlice T (.int k1 ln) (.int k2 cn)).run P w = .ok (.slice (some ⟨w.heap.size, 0, none⟩) ln.toNat cn.toNat) (w.alloc (.cells B e)) := by
                by_cases h0 : cn.toNat * te.size = 0
                · refine ⟨#[], ?_, ?_⟩
                  · have : (rep z cn.toNat).length = 0 := by rw [rep_length, c4]; exact h0
                    rw [List.length_eq_zero_iff.1 this]
                  · simp only [Instr.makeSlice, Sem.run_bind, run_underlying g1, Result.andThen_ok, asInt, asIntOf, Sem.run_pure, run_info i1, w1, w2]
                    simp only [decide_eq_false n1, decide_eq_false n2, decide_eq_false n3, decide_eq_false n4, Bool.or_false, Bool.false_eq_true, if_false, run_askRoom, Result.andThen_ok, Sem.run_bind, run_sizeOf (hE.ty _ _ hte), h0, if_true, Sem.run_pure, show Array.range 0 = #[] from rfl, Array.map_empty]
                    rfl
                · refine ⟨(Array.range (cn.toNat * zv.cells.size)).map (zv.cells[· % zv.cells.size]!), by rw [zeros_list, z2], ?_⟩
                  simp only [Instr.makeSlice, Sem.run_bind, run_underlying g1, Result.andThen_ok, asInt, asIntOf, Sem.run_pure, run_info i1, w1, w2]
                  simp only [decide_eq_false n1, decide_eq_false n2, decide_eq_false n3, decide_eq_false n4, Bool.or_false, Bool.false_eq_true, if_false, run_askRoom, Result.andThen_ok, Sem.run_bind, run_sizeOf (hE.ty _ _ hte), if_neg h0, z1, Sem.run_pure, hzs]
                  rfl
              obtain ⟨B, b1, b2⟩ := run
              have hBs : cn.toNat * z.length = B.size := by
                have := congrArg List.length b1
                rw [rep_length] at this; simpa using this.symm
              simp only [execOp, hxx, hyy]
              refine fin (new_row (cs := B) (T := e) hH hid hlt b2 ⟨by rw [m1, hBs], fun j hj => ?_⟩ ?_)
              · rw [m1] at hj
                rw [m2 j hj]
                have hj2 : j < B.size := by omega
                have hB : B[j]? = z[j % z.length]? := by
                  rw [← rep_get z _ j hj, ← b1]; simp
                have hjm : j % z.length < z.length := Nat.mod_lt _ (by
                  rcases Nat.eq_zero_or_pos z.length with h | h
                  · rw [h] at hj; simp at hj
                  · exact h)
                refine ⟨z[j % z.length], z[j % z.length], List.getElem?_eq_getElem hjm, by rw [hB]; exact List.getElem?_eq_getElem hjm, vr_scal (List.all_eq_true.1 z3 _ (List.getElem_mem hjm))⟩
              · refine .sl id 0 _ _ _ 0 _ _ (upd_same _ _ _) (by omega) (Nat.le_refl _) (fun _ => rfl) (fun _ => rfl) (Nat.le_refl _) (fun h => by omega)
            · cases hv
          · cases hv
        · cases hv
      · cases hv
    · cases hb
  case convert s d x =>
    simp only [cOp1] at hb
    split at hb
    · cases hb
    · cases hb
    · split at hb <;> cases hb
    · rename_i e ox h1 h2 h3
      split at hb
      · rename_i he
        cases hb
        obtain ⟨ds, g1, g2⟩ := dk_under h1 (by simp)
        obtain ⟨dd, g3, g4⟩ := dk_under h2 (by simp)
        obtain ⟨de, g5, g6⟩ := dk_under he (by simp)
        have := dk_str g2.symm; subst this
        have := dk_slc g4.symm; subst this
        have := dk_int g6.symm; subst this
        have vx := od_sound hT hS h3
        simp only [allocA] at hv
        split at hv
        · rename_i s0 hx
          rw [hx] at vx
          split at hv
          · rename_i hsz
            cases hv
            generalize hxx : a.eval x = x' at vx
            cases vx
            simp only [execOp, hxx]
            obtain ⟨c, c1, c2⟩ := run_stringToBytes P e s0 w
            have hcs := s2bCells_size s0 c1
            have hds : s0.data.size = s0.size := rfl
            have hall : HR (upd ρ id ⟨w.drew.heap.size, 0, c⟩) ns (H.put id (some (.row (.lst (s0.data.toList.map fun b => .int .u8 b.toNat)) 0 false))) (w.drew.alloc (.cells (s2bCells s0 c) e ((s2bCells s0 c).size, (s2bCells s0 c).size + 1))) := by
              refine PR.allocAt (hH.world (w2 := w.drew) rfl) hid hlt ?_
              refine ⟨hcs, ?_, ?_, fun h => by cases h⟩
              · simp only [Cl.len, List.length_map, Array.length_toList]; omega
              · intro j hj
                simp only [Cl.len, List.length_map, Array.length_toList] at hj
                refine ⟨.int .u8 (s0.data[j].toNat : Int), .int .u8 (s0.data[j].toNat : Int), ?_, ?_, .int _ _⟩
                · simp only [Cl.at, List.getElem?_map, Array.getElem?_toList, Array.getElem?_eq_getElem hj, Option.map_some]
                · unfold s2bCells
                  rw [Array.getElem?_append_left (by simpa using hj), Array.getElem?_map, Array.getElem?_eq_getElem hj]; rfl
            refine fin ⟨.slice (some ⟨w.heap.size, 0, none⟩) s0.size c, _, ⟨w.heap.size, 0, c⟩, ?_, hall, ?_, rfl, ⟨rfl, rfl, rfl, by simp, fun b hb _ => ?_⟩⟩
            · rw [← c2]
              simp only [convert, Sem.run_bind, run_underlying g1, run_underlying g3, Result.andThen_ok, run_underlying g5]
            · exact .sl id 0 2 s0.size s0.size 0 c _ (upd_same _ _ _) (Nat.le_refl _) c1 (fun h => by omega) (fun _ => rfl) (Nat.le_refl _) (fun _ => by simp)
            · show (w.heap.push _)[b]? = _
              rw [Array.getElem?_push, if_neg (by omega)]
          · cases hv
        · cases hv
      · cases hb
    · split at hb
      · split at hb <;> cases hb
      · cases hb
    · cases hb
  case call c =>
    obtain ⟨callee, args, tys⟩ := c
    cases hcs : cOds P args.toList with
    | none => cases callee <;> (simp only [cOp1, hcs] at hb; cases hb)
    | some as =>
      cases callee with
      | value f => simp only [cOp1, hcs] at hb; obtain ⟨_, _, h2⟩ := map_some_inv hb; cases h2
      | invoke x m => simp only [cOp1, hcs] at hb; obtain ⟨_, _, h2⟩ := map_some_inv hb; cases h2
      | builtin bi =>
        simp only [cOp1, hcs] at hb
        unfold cBuiltin at hb
        repeat' (split at hb)
        all_goals cases hb
  all_goals first
    | (simp only [cOp1] at hb; cases hb; done)
    | (obtain ⟨_, _, h2⟩ := map_some_inv hb; cases h2; done)
    | (simp only [cOp1] at hb; split at hb <;> cases hb; done)
    | (rename_i T r; cases r <;> (simp only [cOp1] at hb; cases hb); done)
    | (rename_i fn _ _; cases fn <;> simp only [cOp1] at hb <;> first | (cases hb; done) | (split at hb <;> cases hb); done)
    | (simp only [cOp1] at hb; split at hb <;> first | (cases hb; done) | (split at hb <;> cases hb); done)
end

end Go.Proofs.YtaegmplbkbaniaaGreatDoor
