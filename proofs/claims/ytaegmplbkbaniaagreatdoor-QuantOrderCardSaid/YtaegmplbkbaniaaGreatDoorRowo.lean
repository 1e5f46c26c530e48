/-
  FROM A ROW's ARGUMENTS TO THE MACHINE's: slices of whole numbers, slices of such slices, as rows that are only read. No condition.
-/
import Derived.Test.YtaegmplbkbaniaaGreatDoorRow
import Derived.Test.YtaegmplbkbaniaaGreatDoorHx
import Derived.Deep.Matrix
import Derived.ChangeSlices
set_option linter.all false
namespace Go.Proofs.YtaegmplbkbaniaaGreatDoor
open Go Go.ChangeShapes Go.WideShapes Go.ChangeAt Go.WideElems Go.RowKit
set_option maxRecDepth 100000
/-- A memory that has grown by rows that are only read. -/
structure More (ρ : Nat → Option Pl) (H : Hp) (W : World) (ρ' : Nat → Option Pl) (H' : Hp) : Prop where
  hr : HR ρ' (Tryz.prog.globals.size + 1) H' W
  ro : RO H'
  wf : Wf H'
  up : ∀ i q, ρ i = some q → ρ' i = some q
  n : H.n ≤ H'.n
  old : ∀ id, id < H.n → H'.get id = H.get id
theorem More.refl {ρ : Nat → Option Pl} {H : Hp} {W : World} (h : HR ρ (Tryz.prog.globals.size + 1) H W) (ro : RO H) (wf : Wf H) : More ρ H W ρ H := ⟨h, ro, wf, fun _ _ h => h, Nat.le_refl _, fun _ _ => rfl⟩
theorem More.trans {ρ ρ1 ρ2 : Nat → Option Pl} {H H1 H2 : Hp} {W : World} (h : More ρ H W ρ1 H1) (k : More ρ1 H1 W ρ2 H2) : More ρ H W ρ2 H2 :=
  ⟨k.hr, k.ro, k.wf, fun i q hq => k.up i q (h.up i q hq), Nat.le_trans h.n k.n, fun id hi => by rw [k.old id (Nat.lt_of_lt_of_le hi h.n), h.old id hi]⟩
theorem More.start {W : World} {ρ : Nat → Option Pl} (h : HR ρ (Tryz.prog.globals.size + 1) H00 W) : More ρ H00 W ρ H00 := .refl h RO_H00 wf_H00
theorem More.door {ρ ρ' : Nat → Option Pl} {H' : Hp} {W : World} (h : More ρ H00 W ρ' H') : hasDoor H' = true := by
  have : H'.get 0 = H00.get 0 := h.old 0 (by show 0 < 2; omega)
  unfold hasDoor
  rw [this]; exact door_H00
theorem More.two {ρ ρ' : Nat → Option Pl} {H' : Hp} {W : World} (h : More ρ H00 W ρ' H') : 2 ≤ H'.n := h.n
theorem cellsOf21 : Tryz.prog.cellsOf 21 = 1 := by kernel_rfl
/-- One row added. -/
theorem More.row {ρ : Nat → Option Pl} {H : Hp} {W : World} (h : HR ρ (Tryz.prog.globals.size + 1) H W) (ro : RO H) (wf : Wf H) {l : List Value} {b off : Nat} (hl : 0 < l.length)
    (hc : ∀ j v, l[j]? = some v → ∃ v', W.cell? ⟨b, off + j, none⟩ = some v' ∧ VR ρ v v') : ∃ p : Pl, p.blk = b ∧ p.off = off ∧ More ρ H W (upd ρ H.n p) (H.alloc (.row (.lst l) 0 false)) := by
  have cellof : ∀ k v', W.cell? ⟨b, k, none⟩ = some v' → ∃ cs e fz, W.heap[b]? = some (.cells cs e fz) ∧ cs[k]? = some v' := fun k v' hk => by
    unfold World.cell? at hk
    simp only at hk
    split at hk
    · rename_i cs e fz hh; exact ⟨cs, e, fz, hh, by simpa using hk⟩
    · cases hk
  obtain ⟨v0, h0, _⟩ := hc 0 l[0] (List.getElem?_eq_getElem hl)
  obtain ⟨cs, e, fz, hb, _⟩ := cellof _ _ h0
  have each : ∀ j, j < l.length → ∃ v v', l[j]? = some v ∧ cs[off + j]? = some v' ∧ VR ρ v v' := fun j hj => by
    obtain ⟨v', k1, k2⟩ := hc j l[j] (List.getElem?_eq_getElem hj)
    obtain ⟨cs', e', fz', hb', k3⟩ := cellof _ _ k1
    rw [hb] at hb'; cases hb'
    exact ⟨l[j], v', List.getElem?_eq_getElem hj, k3, k2⟩
  have hsz : off + l.length ≤ cs.size := by
    obtain ⟨v, v', _, k, _⟩ := each (l.length - 1) (by omega)
    have := (Array.getElem?_eq_some_iff.1 k).1
    omega
  obtain ⟨k1, k2, k3⟩ := HR.addRO h ro (c := .lst l) (p := ⟨b, off, cs.size⟩) hb rfl hsz each
  exact ⟨⟨b, off, cs.size⟩, rfl, rfl, k1, k2, Wf.alloc wf _, k3, by rw [Hp.alloc_n]; omega, fun id hi => by rw [Hp.get_alloc, if_neg (by omega)]⟩
/-- A slice of 32-bit numbers. -/
theorem open_vec {H : Type} {enc : TypeId × Value → H} {W : World} {base : Nat} {v : Value} {d : DataW H} {ps : List MemPlace} {T : TypeId} (hT : Tryz.prog.underlying T = some (.slice 21)) (h21 : Tryz.prog.underlying 21 = some (.int .i32))
    (hok : Value.okWide Tryz.prog W .any base T v) (hd : DataW.Trod enc Tryz.prog W 0 (fun _ => true) true T v d ps)
    {ρ : Nat → Option Pl} {H0 : Hp} (hH : HR ρ (Tryz.prog.globals.size + 1) H0 W) (ro : RO H0) (wf : Wf H0) :
    ∃ ρ' H' va zs, More ρ H0 W ρ' H' ∧ VR ρ' va v ∧ IsSl .i32 H' va zs := by
  obtain ⟨a0, len0, cap0, rfl⟩ := okWide_slice hT hok
  obtain ⟨fuel, hf⟩ := hd
  rcases open_ints hT h21 cellsOf21 hf with ⟨hcs, hx⟩ | ⟨a, len, cap, zs, hcs, _, hl, hm, hz, hx, hcell, hwz⟩
  · simp [Value.cells] at hcs
    obtain ⟨rfl, rfl, rfl⟩ := hcs
    exact ⟨ρ, H0, .slice none 0 0, [], .refl hH ro wf, .sl0, .nil' _ _⟩
  · simp [Value.cells] at hcs
    obtain ⟨rfl, rfl, rfl⟩ := hcs
    simp only [if_true] at hz
    by_cases hc0 : cap0 = 0
    · subst hc0
      have : len0 = 0 := by omega
      subst this
      exact ⟨ρ, H0, .slice (some ⟨0, 0, none⟩) 0 0, [], .refl hH ro wf, .slz _, ⟨.inl ⟨.inr rfl, rfl⟩, fun z hz => by cases hz⟩⟩
    · obtain ⟨b, off, spot⟩ := a
      have hspot : spot = none := by simpa [Addr.add] using World.cell?_spot (hcell 0 (by omega))
      subst hspot
      have hcell' : ∀ j, j < zs.length → W.cell? ⟨b, off + j, none⟩ = some (.int .i32 (zs.getD j 0)) := fun j hj => by rw [← Go.Proofs.YtaegmplbkbaniaaGreatDoor.add_plain]; exact hcell j hj
      have fits : ∀ z ∈ zs, IntKind.i32.wrap z = z := fun z hz => by
        have := hwz z hz
        simp only [Lit.wf] at this
        have m1 : IntKind.i32.min = -2147483648 := rfl
        have m2 : IntKind.i32.max = 2147483647 := rfl
        simp [m1, m2] at this
        exact wrap32_id (by omega) (by omega)
      obtain ⟨p, e1, e2, M⟩ := More.row hH ro wf (l := zs.map (Value.int .i32)) (b := b) (off := off) (by simp; omega) (fun j v hv => by
        rw [List.getElem?_map] at hv
        cases hj : zs[j]? with
        | none => rw [hj] at hv; cases hv
        | some z =>
          rw [hj] at hv; cases hv
          obtain ⟨hjl, rfl⟩ := List.getElem?_eq_some_iff.1 hj
          refine ⟨_, hcell' j hjl, ?_⟩
          have : zs.getD j 0 = zs[j] := by simp [List.getD, hjl]
          rw [this]; exact .int _ _)
      refine ⟨_, _, .slice (some ⟨H0.n, 0, some 3⟩) len0 cap0, zs.take len0, M, ?_, ⟨.inr ⟨H0.n, 0, 3, cap0, ?_, .inr rfl, ?_, ?_⟩, fun z hz => fits z (List.mem_of_mem_take hz)⟩⟩
      · have := VR.sl (ρ := upd ρ H0.n p) H0.n 0 3 len0 cap0 off cap0 p (upd_same _ _ _) hl (Nat.le_refl _) (fun _ => rfl) (fun _ => by rw [e2]; rfl) (by rw [e2]; exact Nat.le_refl _) (fun h => by omega)
        rw [e1] at this; exact this
      · rw [List.length_take, Nat.min_eq_left (by omega)]
      · rw [List.length_take]; omega
      · rw [Hp.rd_lst (Hp.get_alloc_same _ _) (by simp; omega), List.length_take, Nat.min_eq_left (by omega), List.drop_zero, List.map_take]
theorem trod_cons {H : Type} {enc : TypeId × Value → H} {P : Program} {w : World} {base : Nat} {sp : Nat → Bool} {hd : Bool} {t : TypeId} {ts : List TypeId} {vs : List Value} {ds : List (DataW H)} {ps : List MemPlace} (h : DataW.TrodAll enc P w base sp hd (t :: ts) vs ds ps) :
    ∃ v vs' d ds' p q, vs = v :: vs' ∧ ds = d :: ds' ∧ DataW.Trod enc P w base sp hd t v d p ∧ DataW.TrodAll enc P w base sp hd ts vs' ds' q := by
  cases vs with
  | nil => exact h.elim
  | cons v vs =>
    cases ds with
    | nil => exact h.elim
    | cons d ds => obtain ⟨p, q, h1, h2, _⟩ := h; exact ⟨v, vs, d, ds, p, q, rfl, rfl, h1, h2⟩
theorem trod_nil {H : Type} {enc : TypeId × Value → H} {P : Program} {w : World} {base : Nat} {sp : Nat → Bool} {hd : Bool} {vs : List Value} {ds : List (DataW H)} {ps : List MemPlace} (h : DataW.TrodAll enc P w base sp hd [] vs ds ps) : vs = [] ∧ ds = [] := by
  cases vs with
  | nil =>
    cases ds with
    | nil => exact ⟨rfl, rfl⟩
    | cons d ds => exact h.elim
  | cons v vs => exact h.elim
theorem trod_2 {H : Type} {enc : TypeId × Value → H} {P : Program} {w : World} {base : Nat} {sp : Nat → Bool} {hd : Bool} {t0 t1 : TypeId} {args : Array Value} {ds : List (DataW H)} {ps : List MemPlace} (h : DataW.TrodAll enc P w base sp hd [t0, t1] args.toList ds ps) :
    ∃ v0 v1 d0 d1 p0 p1, args = #[v0, v1] ∧ ds = [d0, d1] ∧ DataW.Trod enc P w base sp hd t0 v0 d0 p0 ∧ DataW.Trod enc P w base sp hd t1 v1 d1 p1 := by
  obtain ⟨v0, l0, d0, e0, p0, q0, a0, b0, c0, g0⟩ := trod_cons h
  obtain ⟨v1, l1, d1, e1, p1, q1, a1, b1, c1, g1⟩ := trod_cons g0
  obtain ⟨z1, z2⟩ := trod_nil g1
  subst z1; subst z2
  subst b1
  refine ⟨v0, v1, d0, d1, p0, p1, ?_, b0, c0, c1⟩
  apply Array.toList_inj.1
  rw [a0, a1]
theorem trod_4 {H : Type} {enc : TypeId × Value → H} {P : Program} {w : World} {base : Nat} {sp : Nat → Bool} {hd : Bool} {t0 t1 t2 t3 : TypeId} {args : Array Value} {ds : List (DataW H)} {ps : List MemPlace} (h : DataW.TrodAll enc P w base sp hd [t0, t1, t2, t3] args.toList ds ps) :
    ∃ v0 v1 v2 v3 d0 d1 d2 d3 p0 p1 p2 p3, args = #[v0, v1, v2, v3] ∧ ds = [d0, d1, d2, d3] ∧ DataW.Trod enc P w base sp hd t0 v0 d0 p0 ∧ DataW.Trod enc P w base sp hd t1 v1 d1 p1 ∧ DataW.Trod enc P w base sp hd t2 v2 d2 p2 ∧ DataW.Trod enc P w base sp hd t3 v3 d3 p3 := by
  obtain ⟨v0, l0, d0, e0, p0, q0, a0, b0, c0, g0⟩ := trod_cons h
  obtain ⟨v1, l1, d1, e1, p1, q1, a1, b1, c1, g1⟩ := trod_cons g0
  obtain ⟨v2, l2, d2, e2, p2, q2, a2, b2, c2, g2⟩ := trod_cons g1
  obtain ⟨v3, l3, d3, e3, p3, q3, a3, b3, c3, g3⟩ := trod_cons g2
  obtain ⟨z1, z2⟩ := trod_nil g3
  subst z1; subst z2
  subst b3
  subst b2
  subst b1
  refine ⟨v0, v1, v2, v3, d0, d1, d2, d3, p0, p1, p2, p3, ?_, b0, c0, c1, c2, c3⟩
  apply Array.toList_inj.1
  rw [a0, a1, a2, a3]
theorem trod_5 {H : Type} {enc : TypeId × Value → H} {P : Program} {w : World} {base : Nat} {sp : Nat → Bool} {hd : Bool} {t0 t1 t2 t3 t4 : TypeId} {args : Array Value} {ds : List (DataW H)} {ps : List MemPlace} (h : DataW.TrodAll enc P w base sp hd [t0, t1, t2, t3, t4] args.toList ds ps) :
    ∃ v0 v1 v2 v3 v4 d0 d1 d2 d3 d4 p0 p1 p2 p3 p4, args = #[v0, v1, v2, v3, v4] ∧ ds = [d0, d1, d2, d3, d4] ∧ DataW.Trod enc P w base sp hd t0 v0 d0 p0 ∧ DataW.Trod enc P w base sp hd t1 v1 d1 p1 ∧ DataW.Trod enc P w base sp hd t2 v2 d2 p2 ∧ DataW.Trod enc P w base sp hd t3 v3 d3 p3 ∧ DataW.Trod enc P w base sp hd t4 v4 d4 p4 := by
  obtain ⟨v0, l0, d0, e0, p0, q0, a0, b0, c0, g0⟩ := trod_cons h
  obtain ⟨v1, l1, d1, e1, p1, q1, a1, b1, c1, g1⟩ := trod_cons g0
  obtain ⟨v2, l2, d2, e2, p2, q2, a2, b2, c2, g2⟩ := trod_cons g1
  obtain ⟨v3, l3, d3, e3, p3, q3, a3, b3, c3, g3⟩ := trod_cons g2
  obtain ⟨v4, l4, d4, e4, p4, q4, a4, b4, c4, g4⟩ := trod_cons g3
  obtain ⟨z1, z2⟩ := trod_nil g4
  subst z1; subst z2
  subst b4
  subst b3
  subst b2
  subst b1
  refine ⟨v0, v1, v2, v3, v4, d0, d1, d2, d3, d4, p0, p1, p2, p3, p4, ?_, b0, c0, c1, c2, c3, c4⟩
  apply Array.toList_inj.1
  rw [a0, a1, a2, a3, a4]
end Go.Proofs.YtaegmplbkbaniaaGreatDoor
