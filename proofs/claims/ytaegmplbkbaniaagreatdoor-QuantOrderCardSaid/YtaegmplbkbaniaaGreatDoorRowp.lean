/-
  FROM A ROW's ARGUMENTS TO THE MACHINE's: slices of slices of whole numbers. No condition.
-/
import Derived.Test.YtaegmplbkbaniaaGreatDoorRowo
import Derived.Test.YtaegmplbkbaniaaGreatDoorVct
set_option linter.all false
namespace Go.Proofs.YtaegmplbkbaniaaGreatDoor
open Go Go.ChangeShapes Go.WideShapes Go.ChangeAt Go.WideElems Go.RowKit
set_option maxRecDepth 100000
theorem cellsOf38 : Tryz.prog.cellsOf 38 = 1 := by kernel_rfl
/-- One inner slice. -/
theorem open_row {W : World} {A : Option Addr} {len cap : Nat} {zs : List Int} (hl : len ≤ cap) (hz : zs.length = cap) (hwz : ∀ n ∈ zs, (Lit.int .i32 n).wf = true) (h0 : A = none → cap = 0)
    (hc : ∀ a', A = some a' → ∀ c, c < cap → W.cell? (a'.add c) = some (.int .i32 (zs.getD c 0)))
    {ρ : Nat → Option Pl} {H0 : Hp} (hH : HR ρ (Tryz.prog.globals.size + 1) H0 W) (ro : RO H0) (wf : Wf H0) :
    ∃ ρ' H' va, More ρ H0 W ρ' H' ∧ VR ρ' va (.slice A len cap) ∧ IsSl .i32 H' va (zs.take len) := by
  cases A with
  | none =>
    have : cap = 0 := h0 rfl
    subst this
    have : len = 0 := by omega
    subst this
    exact ⟨ρ, H0, .slice none 0 0, .refl hH ro wf, .sl0, by rw [List.take_zero]; exact .nil' _ _⟩
  | some a =>
    by_cases hc0 : cap = 0
    · subst hc0
      have : len = 0 := by omega
      subst this
      exact ⟨ρ, H0, .slice (some ⟨0, 0, none⟩) 0 0, .refl hH ro wf, .slz _, ⟨.inl ⟨.inr rfl, by simp⟩, fun z hz => by simp at hz⟩⟩
    · obtain ⟨b, off, spot⟩ := a
      have hcell := hc _ rfl
      have hspot : spot = none := by simpa [Addr.add] using World.cell?_spot (hcell 0 (by omega))
      subst hspot
      have hcell' : ∀ j, j < zs.length → W.cell? ⟨b, off + j, none⟩ = some (.int .i32 (zs.getD j 0)) := fun j hj => by rw [← Go.Proofs.YtaegmplbkbaniaaGreatDoor.add_plain]; exact hcell j (by omega)
      have fits : ∀ z ∈ zs, IntKind.i32.wrap z = z := fun z hz => by
        have := hwz z hz
        simp only [Lit.wf] at this
        have m1 : IntKind.i32.min = -2147483648 := rfl
        have m2 : IntKind.i32.max = 2147483647 := rfl
        simp [m1, m2] at this
        exact wrap32_id (by omega) (by omega)
      obtain ⟨p, e1, e2, M⟩ := More.row hH ro wf (l := zs.map (Value.int .i32)) (b := b) (off := off) (by simp; omega) (fun j v hv => by
        rw [List.getElem?_map] at hv
        cases hj : zs[j]? with
        | none => rw [hj] at hv; cases hv
        | some z =>
          rw [hj] at hv; cases hv
          obtain ⟨hjl, rfl⟩ := List.getElem?_eq_some_iff.1 hj
          refine ⟨_, hcell' j hjl, ?_⟩
          have : zs.getD j 0 = zs[j] := by simp [List.getD, hjl]
          rw [this]; exact .int _ _)
      refine ⟨_, _, .slice (some ⟨H0.n, 0, some 3⟩) len cap, M, ?_, ⟨.inr ⟨H0.n, 0, 3, cap, ?_, .inr rfl, ?_, ?_⟩, fun z hz => fits z (List.mem_of_mem_take hz)⟩⟩
      · have := VR.sl (ρ := upd ρ H0.n p) H0.n 0 3 len cap off cap p (upd_same _ _ _) hl (Nat.le_refl _) (fun _ => rfl) (fun _ => by rw [e2]; rfl) (by rw [e2]; exact Nat.le_refl _) (fun h => by omega)
        rw [e1] at this; exact this
      · rw [List.length_take, Nat.min_eq_left (by omega)]
      · rw [List.length_take]; omega
      · rw [Hp.rd_lst (Hp.get_alloc_same _ _) (by simp; omega), List.length_take, Nat.min_eq_left (by omega), List.drop_zero, List.map_take]
theorem open_rows {W : World} {A : Nat → Option Addr} {L C : Nat → Nat} {Z : Nat → List Int} {ρ : Nat → Option Pl} {H0 : Hp} (hH : HR ρ (Tryz.prog.globals.size + 1) H0 W) (ro : RO H0) (wf : Wf H0) : ∀ k : Nat,
    (∀ r, r < k → L r ≤ C r ∧ (Z r).length = C r ∧ (∀ n ∈ Z r, (Lit.int .i32 n).wf = true) ∧ (A r = none → C r = 0) ∧ ∀ a', A r = some a' → ∀ c, c < C r → W.cell? (a'.add c) = some (.int .i32 ((Z r).getD c 0))) →
    ∃ (ρ' : Nat → Option Pl) (H' : Hp) (cells : List Value), More ρ H0 W ρ' H' ∧ cells.length = k ∧ ∀ j, j < k → ∃ va, cells[j]? = some va ∧ VR ρ' va (.slice (A j) (L j) (C j)) ∧ IsSl .i32 H' va ((Z j).take (L j))
  | 0, _ => ⟨ρ, H0, [], .refl hH ro wf, rfl, fun j hj => by omega⟩
  | k + 1, h => by
    obtain ⟨ρ1, H1, cells, M1, hl, hc⟩ := open_rows hH ro wf k (fun r hr => h r (by omega))
    obtain ⟨a1, a2, a3, a4, a5⟩ := h k (by omega)
    obtain ⟨ρ2, H2, va, M2, v2, s2⟩ := open_row (A := A k) a1 a2 a3 a4 a5 M1.hr M1.ro M1.wf
    refine ⟨ρ2, H2, cells ++ [va], M1.trans M2, by simp [hl], fun j hj => ?_⟩
    by_cases e : j < k
    · obtain ⟨c, c1, c2, c3⟩ := hc j e
      exact ⟨c, by rw [List.getElem?_append_left (by omega)]; exact c1, c2.mono M2.up, c3.grow M1.wf M2.old⟩
    · have : j = k := by omega
      subst this
      exact ⟨va, by rw [List.getElem?_append_right (by omega), hl, Nat.sub_self]; rfl, v2, s2⟩
/-- A slice of vectors. -/
theorem open_vecs {H : Type} {enc : TypeId × Value → H} {W : World} {base : Nat} {v : Value} {d : DataW H} {ps : List MemPlace} {T : TypeId} (hT : Tryz.prog.underlying T = some (.slice 38)) (h38 : Tryz.prog.underlying 38 = some (.slice 21)) (h21 : Tryz.prog.underlying 21 = some (.int .i32))
    (hok : Value.okWide Tryz.prog W .any base T v) (hd : DataW.Trod enc Tryz.prog W 0 (fun _ => true) true T v d ps)
    {ρ : Nat → Option Pl} {H0 : Hp} (hH : HR ρ (Tryz.prog.globals.size + 1) H0 W) (ro : RO H0) (wf : Wf H0) :
    ∃ ρ' H' va L, More ρ H0 W ρ' H' ∧ VR ρ' va v ∧ IsVs H' va L := by
  obtain ⟨a0, len0, cap0, rfl⟩ := okWide_slice hT hok
  obtain ⟨fuel, hf⟩ := hd
  rcases Go.Deep.open_int_rows hT h38 h21 cellsOf38 cellsOf21 hf with ⟨hcs, hx⟩ | ⟨a, len, cap, A, L, C, Z, hcs, _, hl, hm, hx, hrow⟩
  · simp [Value.cells] at hcs
    obtain ⟨rfl, rfl, rfl⟩ := hcs
    exact ⟨ρ, H0, .slice none 0 0, [], .refl hH ro wf, .sl0, ⟨.inl ⟨.inl rfl, rfl⟩⟩⟩
  · simp [Value.cells] at hcs
    obtain ⟨rfl, rfl, rfl⟩ := hcs
    by_cases hc0 : cap0 = 0
    · subst hc0
      have : len0 = 0 := by omega
      subst this
      exact ⟨ρ, H0, .slice (some ⟨0, 0, none⟩) 0 0, [], .refl hH ro wf, .slz _, ⟨.inl ⟨.inr rfl, rfl⟩⟩⟩
    · obtain ⟨b, off, spot⟩ := a
      have hspot : spot = none := by simpa [Addr.add] using World.cell?_spot (hrow 0 (by omega)).1
      subst hspot
      obtain ⟨ρ1, H1, cells, M1, hcl, hc⟩ := open_rows (W := W) (A := A) (L := L) (C := C) (Z := Z) hH ro wf cap0 (fun r hr => by
        obtain ⟨r1, r2, r3, r4, r5, r6, r7⟩ := hrow r hr
        exact ⟨r2, r4, r5, r6, fun a' ha c hc => (r7 a' ha).2 c hc⟩)
      obtain ⟨p, e1, e2, M⟩ := More.row M1.hr M1.ro M1.wf (l := cells) (b := b) (off := off) (by omega) (fun j v hv => by
        have hj : j < cap0 := by rw [← hcl]; exact (List.getElem?_eq_some_iff.1 hv).1
        obtain ⟨va, c1, c2, _⟩ := hc j hj
        rw [c1] at hv; cases hv
        exact ⟨_, by rw [← Go.Proofs.YtaegmplbkbaniaaGreatDoor.add_plain]; exact (hrow j hj).1, c2⟩)
      refine ⟨_, _, .slice (some ⟨H1.n, 0, some 3⟩) len0 cap0, (List.range len0).map fun r => (Z r).take (L r), M1.trans M, ?_, ⟨.inr ⟨H1.n, 0, 3, cap0, cells.take len0, by simp, .inr rfl, by simpa using hl, by rw [Hp.alloc_n]; omega, ?_, fun j hj => ?_⟩⟩⟩
      · have := VR.sl (ρ := upd ρ1 H1.n p) H1.n 0 3 len0 cap0 off cap0 p (upd_same _ _ _) hl (Nat.le_refl _) (fun _ => rfl) (fun _ => by rw [e2]; rfl) (by rw [e2]; exact Nat.le_refl _) (fun h => by omega)
        rw [e1] at this; exact this
      · rw [Hp.rd_lst (Hp.get_alloc_same _ _) (by simp; omega)]; simp
      · have hj' : j < len0 := by simpa using hj
        obtain ⟨va, c1, c2, c3⟩ := hc j (by omega)
        refine ⟨va, by rw [List.getElem?_take, if_pos hj']; exact c1, ?_⟩
        simpa using c3.grow M1.wf M.old
end Go.Proofs.YtaegmplbkbaniaaGreatDoor
