/-
  THE ABSTRACT MACHINE: slices, fields, elements, assertions: the operations that ask nothing of memory, against the model's (second part), and all of them in one statement. No condition.
-/
import Derived.Test.YtaegmplbkbaniaaGreatDoorAmPure
set_option linter.all false
namespace Go.Proofs.YtaegmplbkbaniaaGreatDoor
open Go
section
variable {P : Program} {E : Env} {ρ : Nat → Option Pl} {w : World} {t : Tr Value} {a : Act}

theorem dk_slc {d : TypeDesc} {e : TypeId} (h : DK.slc e = dk d) : d = .slice e := by cases d <;> simp only [dk] at h <;> cases h; rfl
theorem dk_arr {d : TypeDesc} {e : TypeId} {n : Nat} (h : DK.arr n e = dk d) : d = .array n e := by cases d <;> simp only [dk] at h <;> cases h; rfl
theorem dk_str {d : TypeDesc} (h : DK.str = dk d) : d = .string := by cases d <;> simp only [dk] at h <;> cases h; rfl
theorem dk_map {d : TypeDesc} {k e : TypeId} (h : DK.map k e = dk d) : d = .map k e := by cases d <;> simp only [dk] at h <;> cases h; rfl
theorem dk_ptr {d : TypeDesc} {e : TypeId} (h : DK.ptr e = dk d) : d = .pointer e := by cases d <;> simp only [dk] at h <;> cases h; rfl
theorem dk_int {d : TypeDesc} {k : IntKind} (h : DK.int k = dk d) : d = .int k := by cases d <;> simp only [dk] at h <;> cases h; rfl
theorem dk_strc {d : TypeDesc} {fs : List (Nat × TypeId)} (h : DK.strc fs = dk d) : ∃ f : Array Field, d = .struct f ∧ fs = f.toList.map fun f => (f.offset, f.type) := by
  cases d <;> simp only [dk] at h <;> cases h; exact ⟨_, rfl, rfl⟩
theorem dk_iface {d : TypeDesc} (h : DK.iface = dk d) : ∃ m, d = .interface m := by cases d <;> simp only [dk] at h <;> cases h; exact ⟨_, rfl⟩
theorem ty_under (hE : EOk P E) {T : TypeId} {ti : Ti} (h : E.ty T = some ti) : ∃ d, P.underlying T = some d ∧ ti.k = dk d := by
  obtain ⟨i, d, h1, h2, h3, _⟩ := tyOf_info (hE.ty _ _ h)
  exact ⟨d, h2, h3⟩

/-- A bound, as the machine reads it. -/
theorem bnd_none (hi d : Nat) : bnd t none d hi = some d := rfl
theorem bnd_some {o : Od} {d hi n : Nat} (h : bnd t (some o) d hi = some n) : ∃ k i, o.ev t = .int k i ∧ 0 ≤ i ∧ i ≤ (hi : Int) ∧ n = i.toNat := by
  simp only [bnd] at h
  split at h
  · rename_i k i he
    split at h
    · rename_i hc
      rw [Bool.and_eq_true, leI_eq, leI_eq, decide_eq_true_eq, decide_eq_true_eq] at hc
      cases h; exact ⟨k, i, he, hc.1, hc.2, rfl⟩
    · cases h
  · cases h
theorem run_sliceBound (k : IntKind) (i : Int) (y : Nat) (code : BoundsCode) (h0 : 0 ≤ i) (h1 : i ≤ (y : Int)) : (Instr.sliceBound (.int k i) y code).run P w = .ok i.toNat w := by
  simp [Instr.sliceBound, asIntOf, h0, h1]
/-- The three bounds: the machine's capacity may be less than the model's. -/
theorem run_sliceBounds (hT : TR ρ t a.tmps) (hS : SR P ρ) (isS : Bool) {len cap cap' : Nat} (hcap : cap ≤ cap') {l h m : Option Operand} {ol oh om : Option Od}
    (hl : cOdO P l = some ol) (hh : cOdO P h = some oh) (hm : cOdO P m = some om) (hno : (oh.isNone && om.isSome) = false) (hlen : len ≤ cap)
    {lo hi mx : Nat} (bm : bnd t om cap cap = some mx) (bh : bnd t oh len mx = some hi) (bl : bnd t ol 0 hi = some lo) :
    (Instr.sliceBounds isS len cap' (l.map a.eval) (h.map a.eval) (m.map a.eval)).run P w = .ok (lo, hi, if om.isSome then mx else cap') w ∧ lo ≤ hi ∧ hi ≤ mx ∧ mx ≤ cap := by
  have ev : ∀ {x : Operand} {o : Od} {k : IntKind} {i : Int}, cOd P x = some o → o.ev t = .int k i → a.eval x = .int k i := fun hx he => by
    have := od_sound hT hS hx; rw [he] at this; generalize a.eval _ = q at this ⊢; cases this; rfl
  have inv : ∀ {x : Option Operand} {o : Option Od}, cOdO P x = some o → (x = none ∧ o = none) ∨ ∃ y z, x = some y ∧ o = some z ∧ cOd P y = some z := fun {x o} hx => by
    cases x with
    | none => simp only [cOdO] at hx; cases hx; exact .inl ⟨rfl, rfl⟩
    | some y =>
      simp only [cOdO] at hx
      split at hx
      · rename_i z hz; cases hx; exact .inr ⟨y, z, rfl, rfl, hz⟩
      · cases hx
  rcases inv hm with ⟨rfl, rfl⟩ | ⟨ym, zm, rfl, rfl, cm⟩
  · simp only [bnd] at bm; cases bm
    rcases inv hh with ⟨rfl, rfl⟩ | ⟨yh, zh, rfl, rfl, ch⟩
    · simp only [bnd] at bh; cases bh
      rcases inv hl with ⟨rfl, rfl⟩ | ⟨yl, zl, rfl, rfl, cl⟩
      · simp only [bnd] at bl; cases bl
        exact ⟨by simp [Instr.sliceBounds], Nat.zero_le _, hlen, Nat.le_refl _⟩
      · obtain ⟨k, i, e, g0, g1, rfl⟩ := bnd_some bl
        refine ⟨?_, by omega, hlen, Nat.le_refl _⟩
        simp only [Instr.sliceBounds, Option.map_some, Option.map_none, ev cl e, Sem.run_bind, Sem.run_pure, Result.andThen_ok, run_sliceBound k i _ _ g0 g1]; rfl
    · obtain ⟨k, i, e, g0, g1, rfl⟩ := bnd_some bh
      rcases inv hl with ⟨rfl, rfl⟩ | ⟨yl, zl, rfl, rfl, cl⟩
      · simp only [bnd] at bl; cases bl
        refine ⟨?_, Nat.zero_le _, by omega, Nat.le_refl _⟩
        simp only [Instr.sliceBounds, Option.map_some, Option.map_none, ev ch e, Sem.run_bind, Sem.run_pure, Result.andThen_ok, run_sliceBound k i cap' _ g0 (by omega)]; rfl
      · obtain ⟨k2, i2, e2, g2, g3, rfl⟩ := bnd_some bl
        refine ⟨?_, by omega, by omega, Nat.le_refl _⟩
        simp only [Instr.sliceBounds, Option.map_some, Option.map_none, ev ch e, ev cl e2, Sem.run_bind, Sem.run_pure, Result.andThen_ok, run_sliceBound k i cap' _ g0 (by omega), run_sliceBound k2 i2 _ _ g2 g3]; rfl
  · obtain ⟨km, im, em, gm0, gm1, rfl⟩ := bnd_some bm
    rcases inv hh with ⟨rfl, rfl⟩ | ⟨yh, zh, rfl, rfl, ch⟩
    · simp at hno
    · obtain ⟨k, i, e, g0, g1, rfl⟩ := bnd_some bh
      rcases inv hl with ⟨rfl, rfl⟩ | ⟨yl, zl, rfl, rfl, cl⟩
      · simp only [bnd] at bl; cases bl
        refine ⟨?_, Nat.zero_le _, by omega, by omega⟩
        simp only [Instr.sliceBounds, Option.map_some, Option.map_none, ev ch e, ev cm em, Sem.run_bind, Sem.run_pure, Result.andThen_ok, run_sliceBound km im cap' _ gm0 (by omega), run_sliceBound k i _ _ g0 g1]; rfl
      · obtain ⟨k2, i2, e2, g2, g3, rfl⟩ := bnd_some bl
        refine ⟨?_, by omega, by omega, by omega⟩
        simp only [Instr.sliceBounds, Option.map_some, ev ch e, ev cl e2, ev cm em, Sem.run_bind, Sem.run_pure, Result.andThen_ok, run_sliceBound km im cap' _ gm0 (by omega), run_sliceBound k i _ _ g0 g1, run_sliceBound k2 i2 _ _ g2 g3]; rfl

theorem slice_sound (hE : EOk P E) (hT : TR ρ t a.tmps) (hS : SR P ρ) {T : TypeId} {x : Operand} {l h m : Option Operand} {ox : Od} {ol oh om : Option Od}
    (hx : cOd P x = some ox) (hl : cOdO P l = some ol) (hh : cOdO P h = some oh) (hm : cOdO P m = some om) (hno : (oh.isNone && om.isSome) = false) {v : Value}
    (hv : pureA E t (.slc T ox ol oh om) = some v) : ∃ v', (Instr.sliceAt T (a.eval x) (l.map a.eval) (h.map a.eval) (m.map a.eval)).run P w = .ok v' w ∧ VR ρ v v' := by
  have hxv := od_sound hT hS hx
  simp only [pureA] at hv
  split at hv
  · -- a string
    rename_i ti s hti hs
    rw [hs] at hxv
    obtain ⟨d, h1, h2⟩ := ty_under hE hti
    have := dk_str h2; subst this
    split at hv
    · rename_i hi bh
      split at hv
      · rename_i lo bl
        cases hv
        have hb := run_sliceBounds (w := w) hT hS false (Nat.le_refl s.size) hl hh hm hno (Nat.le_refl _) (bnd_none (t := t) s.size s.size) bh bl
        generalize hxx : a.eval x = xv at hxv ⊢
        cases hxv
        refine ⟨_, ?_, .string _⟩
        have hm0 : m = none := by
          cases m with
          | none => rfl
          | some y => simp only [cOdO] at hm; split at hm <;> cases hm
        subst hm0
        simp only [Instr.sliceAt, Instr.slice, Sem.run_bind, run_underlying h1, Result.andThen_ok, Option.map_none, Option.isSome_none, Bool.false_eq_true, if_false]
        have hb1 := hb.1
        simp only [Option.map_none] at hb1
        simp [hb1]
      · cases hv
    · cases hv
  · -- a slice
    rename_i ti e av len cap hti hs
    rw [hs] at hxv
    obtain ⟨d, h1, h2⟩ := ty_under hE hti
    have := dk_slc h2; subst this
    split at hv
    · rename_i te mx hte bm
      split at hv
      · rename_i hi bh
        split at hv
        · rename_i lo bl
          generalize hxx : a.eval x = xv at hxv ⊢
          cases hxv with
          | sl0 =>
            simp only at hv; cases hv
            obtain ⟨hb, b1, b2, b3⟩ := run_sliceBounds (w := w) hT hS true (Nat.le_refl 0) hl hh hm hno (Nat.le_refl _) bm bh bl
            have : lo = 0 := by omega
            have : hi = 0 := by omega
            have : mx = 0 := by omega
            subst_vars
            refine ⟨.slice none 0 0, ?_, .sl0⟩
            simp only [Instr.sliceAt, Instr.slice, Sem.run_bind, run_underlying h1, Result.andThen_ok, hb, run_sizeOf (hE.ty _ _ hte)]
            simp
          | slz av =>
            simp only at hv; cases hv
            obtain ⟨hb, b1, b2, b3⟩ := run_sliceBounds (w := w) hT hS true (Nat.le_refl 0) hl hh hm hno (Nat.le_refl _) bm bh bl
            have : lo = 0 := by omega
            have : hi = 0 := by omega
            have : mx = 0 := by omega
            subst_vars
            refine ⟨.slice (some av) 0 0, ?_, .slz av⟩
            simp only [Instr.sliceAt, Instr.slice, Sem.run_bind, run_underlying h1, Result.andThen_ok, hb, run_sizeOf (hE.ty _ _ hte)]
            simp
          | sl id off s _ _ o' cap' p hp hlc hcc he ho hlo hhi =>
            simp only at hv
            split at hv
            · rename_i hsz
              cases hv
              obtain ⟨hb, b1, b2, b3⟩ := run_sliceBounds (w := w) hT hS true hcc hl hh hm hno hlc bm bh bl
              have hs2 : s / 2 = te.size := by omega
              generalize hM : (if om.isSome = true then mx else cap') = M at hb
              have hMx : mx ≤ M := by rw [← hM]; split <;> omega
              have hMc : M ≤ cap' := by rw [← hM]; split <;> omega
              have hmul : M * te.size ≤ cap' * te.size := Nat.mul_le_mul_right _ hMc
              have hrun : (Instr.sliceAt T (.slice (some ⟨p.blk, o', none⟩) len cap') (l.map a.eval) (h.map a.eval) (m.map a.eval)).run P w =
                  .ok (.slice (some ⟨p.blk, if M = lo then o' else o' + lo * te.size, none⟩) (hi - lo) (M - lo)) w := by
                simp only [Instr.sliceAt, Instr.slice, Sem.run_bind, run_underlying h1, Result.andThen_ok, hb, run_sizeOf (hE.ty _ _ hte), Sem.run_pure]
                congr 2
                split
                · rfl
                · simp only [Option.map_some, add_plain]
              refine ⟨_, hrun, ?_⟩
              refine .sl id _ _ _ _ _ _ p hp (by omega) (by omega) ?_ ?_ ?_ ?_
              · intro hodd
                by_cases hms : om.isSome = true
                · rw [if_pos hms] at hM; omega
                · rw [if_neg hms] at hM hodd
                  have := he hodd
                  have hom : om = none := by cases om with | none => rfl | some _ => simp at hms
                  subst hom
                  simp only [bnd] at bm; cases bm; omega
              · intro hpos
                rw [if_neg (by omega), if_neg (by omega), ho (by omega)]; omega
              · split <;> omega
              · intro hev
                have hs3 : (if om.isSome = true then 2 * te.size + 1 else s) / 2 = te.size := by split <;> omega
                rw [hs3]
                have hse : s % 2 = 0 := by
                  by_cases hms : om.isSome = true
                  · rw [if_pos hms] at hev; omega
                  · rw [if_neg hms] at hev; exact hev
                have hhi := hhi hse
                have e1 : M * te.size = lo * te.size + (M - lo) * te.size := by
                  rw [← Nat.add_mul]; congr 1; omega
                rw [hs2] at hhi
                split
                · rename_i h6; subst h6; simp; omega
                · omega
            · cases hv
        · cases hv
      · cases hv
    · cases hv
  · -- an array's address
    rename_i n e _ _ _ _ b o hti hs
    rw [hs] at hxv
    obtain ⟨d, h1, h2⟩ := ty_under hE hti
    have := dk_arr h2; subst this
    split at hv
    · rename_i te mx hte bm
      split at hv
      · rename_i hi bh
        split at hv
        · rename_i lo bl
          cases hv
          obtain ⟨hb, b1, b2, b3⟩ := run_sliceBounds (w := w) hT hS false (Nat.le_refl n) hl hh hm hno (Nat.le_refl _) bm bh bl
          generalize hxx : a.eval x = xv at hxv ⊢
          cases hxv with
          | ptr _ _ p hp =>
          generalize hM : (if om.isSome = true then mx else n) = M at hb
          have hMx : M = mx := by
            rw [← hM]; split
            · rfl
            · rename_i hms
              have hom : om = none := by cases om with | none => rfl | some _ => simp at hms
              subst hom
              simp only [bnd] at bm; cases bm; rfl
          subst hMx
          refine ⟨.slice (some ⟨p.blk, if M = lo then p.off + o else p.off + o + lo * te.size, none⟩) (hi - lo) (M - lo), ?_, .sl b _ _ _ _ _ _ p hp (by omega) (Nat.le_refl _) (fun _ => rfl) (fun _ => ?_) (by split <;> omega) (fun h => by omega)⟩
          · simp only [Instr.sliceAt, Sem.run_bind, run_underlying h1, Result.andThen_ok, Instr.sureAddr, Sem.run_pure, hb, run_sizeOf (hE.ty _ _ hte)]
            congr 2
            split
            · rfl
            · simp only [add_plain]
          · split <;> omega
        · cases hv
      · cases hv
    · cases hv
  · cases hv
end

end Go.Proofs.YtaegmplbkbaniaaGreatDoor
