/-
  FROM THE MACHINE TO A ROW: what the door gives, the memory in which a law's call begins, the call. No condition.
-/
import Derived.Test.YtaegmplbkbaniaaGreatDoorRows
import Derived.Test.YtaegmplbkbaniaaGreatDoorTie
import Derived.Test.YtaegmplbkbaniaaGreatDoorVcb
import Derived.ChangeSame
import Derived.ChangeVars
import Derived.JoinedOf
import Derived.RowKit
import Derived.RowKitTokens
import Derived.LaidLaws
import Derived.LaidHandle
import Derived.Stop.Joined
import Derived.ProofKit
import Derived.LaidMore
import Derived.OpenShut
import Derived.Carry
import Derived.Below
set_option linter.all false
namespace Go.Proofs.YtaegmplbkbaniaaGreatDoor
open Go Go.ChangeShapes Go.WideShapes Go.ChangeAt Go.WideElems Go.RowKit
set_option maxRecDepth 100000
theorem tz_own : ownKnob Tryz.prog.godebug = none := by kernel_rfl
theorem tz_laidOut : laidOutB Tryz.prog = true := by kernel_rfl
theorem tz_et : Tryz.prog.globalNamed "errors.errorType" = some 0 := by kernel_rfl
theorem tz_rt : (Tryz.prog.cutTypes.find? (·.1 == "internal/reflectlite.rtype")).map (·.2) = some 251 := by kernel_rfl
theorem tz_size : Tryz.prog.types.size = 295 := by kernel_rfl
theorem tz_oneRow : ((List.range 295).filter fun t => Tryz.prog.rowNamed t [101, 114, 114, 111, 114]) = [216] := by kernel_rfl
abbrev laidL {H : Type} : List (String × DataW H) := [("errors.errorType", Rows.laid_errors_errorType)]
/-- WHAT THE CONDITION GIVES: the variable's one cell. -/
theorem door_of_laid {W : World} (h : laidMetH Tryz.prog laidL W) : W.cell? ⟨0, 0, none⟩ = some (rT 216) := by
  have h' : laidMet Tryz.prog [] W ∧ handlesMet Tryz.prog laidL W := h
  obtain ⟨name, u, ty, e1, e2, e3, e4, e5⟩ := h'.2 _ (List.mem_singleton.2 rfl)
  have en : name = [101, 114, 114, 111, 114] := (Option.some.inj e1).symm
  subst en
  obtain rfl := Option.some.inj (tz_rt.symm.trans e2)
  have hm : ty ∈ (List.range 295).filter fun t => Tryz.prog.rowNamed t [101, 114, 114, 111, 114] := List.mem_filter.2 ⟨List.mem_range.2 (by rw [← tz_size]; exact e3), e4⟩
  rw [tz_oneRow] at hm
  obtain rfl := List.mem_singleton.1 hm
  have hh : typeHandle Tryz.prog 216 = .pointer (some ⟨1, 216, none⟩) := by kernel_rfl
  rw [hh] at e5
  have := World.var?_cell tz_et e5 0
  simpa [rT, hT] using this
/-- A world that meets the condition. -/
noncomputable def laidWorld (os : Os) : World :=
  let w0 := World.holding Tryz.prog os ⟨#[], #[], []⟩
  { w0 with heap := w0.heap.modify 0 fun
      | .cells _ t frozen => .cells #[.iface 251 (.agg #[.pointer (some ⟨1, 216, none⟩)])] t frozen
      | o => o }
theorem laidWorld_met (os : Os) (args : Array Value) : laidMetH Tryz.prog laidL ((laidWorld os).forCall (fun _ _ => 0) ⟨#[], args, []⟩).memory :=
  laidMetH_of_parts (laidMet_nil _ _) (by kernel_rfl)

/-! ### The memory in which a call begins -/
theorem H00_get (i : Nat) : H00.get i = if i = 0 then some (.row (.lst [rT 216]) 0 false) else none := by
  show (Tr.put .nil 0 _).get i = _
  rw [Tr.get_put, Tr.get_nil]
def RO (H : Hp) : Prop := ∀ id o, H.get id = some o → o.rw = false
theorem RO_H00 : RO H00 := fun id o h => by
  rw [H00_get] at h; split at h
  · cases h; rfl
  · cases h
theorem wf_H00 : ∀ id, H00.n ≤ id → H00.get id = none := fun id h => by
  have : 2 ≤ id := h
  rw [H00_get, if_neg (by omega)]
theorem door_H00 : hasDoor H00 = true := by decide +kernel
theorem door_start {W : World} (h : W.cell? ⟨0, 0, none⟩ = some (rT 216)) : ∃ ρ, HR ρ (Tryz.prog.globals.size + 1) H00 W := by
  have hc : ∃ cs e fz, W.heap[0]? = some (.cells cs e fz) ∧ cs[0]? = some (rT 216) := by
    unfold World.cell? at h
    simp only at h
    split at h
    · rename_i cs e fz hh; exact ⟨cs, e, fz, hh, h⟩
    · cases h
  obtain ⟨cs, e, fz, h0, h1⟩ := hc
  refine ⟨fun i => if i = 0 then some ⟨0, 0, cs.size⟩ else if i = 1 then some ⟨1, 0, 0⟩ else none, fun id p hp => ?_, fun i hi => ?_, fun id c s rw hg => ?_, fun id es hg => ?_, fun id id' o o' p p' hne g1 g2 g3 g4 g5 => ?_⟩
  · show id < 2
    split at hp
    · omega
    · split at hp
      · omega
      · cases hp
  · rw [tryz_ns] at hi
    rcases (by omega : i = 0 ∨ i = 1) with rfl | rfl
    · exact ⟨_, rfl, rfl, rfl⟩
    · exact ⟨_, rfl, rfl, rfl⟩
  · rw [H00_get] at hg
    split at hg
    · rename_i hid; subst hid; cases hg
      have hsz : 0 < cs.size := (Array.getElem?_eq_some_iff.1 h1).1
      refine ⟨⟨0, 0, cs.size⟩, cs, e, fz, rfl, h0, rfl, by show 0 + 1 + 0 ≤ cs.size; omega, fun j hj => ?_, fun h => by cases h⟩
      have : j = 0 := by have hj : j < 1 := hj; omega
      subst this
      refine ⟨rT 216, rT 216, rfl, by simpa using h1, .iface _ _ _ (LR.agg (.one ?_))⟩
      exact VR.ptr 1 216 ⟨1, 0, 0⟩ rfl
    · cases hg
  · rw [H00_get] at hg; split at hg <;> cases hg
  · rw [RO_H00 id o g1] at g2; cases g2
/-- One row more that is only read. -/
theorem HR.addRO {ρ : Nat → Option Pl} {ns : Nat} {H : Hp} {w : World} (h : HR ρ ns H w) (ro : RO H) {c : Cl} {p : Pl} {cs : Array Value} {e : TypeId} {fz : Nat × Nat} (hb : w.heap[p.blk]? = some (.cells cs e fz)) (hsz : cs.size = p.sz) (hlen : p.off + c.len ≤ p.sz)
    (hc : ∀ j, j < c.len → ∃ v v', c.at j = some v ∧ cs[p.off + j]? = some v' ∧ VR ρ v v') : HR (upd ρ H.n p) ns (H.alloc (.row c 0 false)) w ∧ RO (H.alloc (.row c 0 false)) ∧ ∀ i q, ρ i = some q → upd ρ H.n p i = some q := by
  have hid : ρ H.n = none := h.fresh (Nat.le_refl _)
  have ro' : RO (H.alloc (.row c 0 false)) := fun id o hg => by
    rw [Hp.get_alloc] at hg; split at hg
    · cases hg; rfl
    · exact ro id o hg
  have up := upd_up (p := p) hid
  refine ⟨⟨fun i q hq => ?_, fun i hi => ?_, fun i c0 s0 rw0 hg => ?_, fun i es hg => ?_, fun i i' o o' q q' hne g1 g2 => ?_⟩, ro', up⟩
  · show i < H.n + 1
    by_cases e1 : i = H.n
    · omega
    · rw [upd_ne _ _ e1] at hq; have := h.lt i q hq; omega
  · obtain ⟨q, q1, q2⟩ := h.st i hi
    exact ⟨q, up _ _ q1, q2⟩
  · rw [Hp.get_alloc] at hg
    by_cases e1 : i = H.n
    · rw [if_pos e1] at hg; cases hg; subst e1
      exact ⟨p, cs, e, fz, upd_same _ _ _, hb, hsz, by omega, fun j hj => let ⟨v, v', a, b, d⟩ := hc j hj; ⟨v, v', a, b, d.mono up⟩, fun h => by cases h⟩
    · rw [if_neg e1] at hg
      obtain ⟨q, cs0, e0, fz0, k0, k1, k2, k3, k4, k5⟩ := h.row _ _ _ _ hg
      exact ⟨q, cs0, e0, fz0, up _ _ k0, k1, k2, k3, fun j hj => let ⟨v, v', a, b, d⟩ := k4 j hj; ⟨v, v', a, b, d.mono up⟩, k5⟩
  · rw [Hp.get_alloc] at hg
    by_cases e1 : i = H.n
    · rw [if_pos e1] at hg; cases hg
    · rw [if_neg e1] at hg
      obtain ⟨q, en, clk, k0, k1, k2, k3⟩ := h.map _ _ hg
      exact ⟨q, en, clk, up _ _ k0, k1, k2, fun i k v e a b => let ⟨x, y, z⟩ := k3 i k v e a b; ⟨x, y, z.mono up⟩⟩
  · rw [ro' i o g1] at g2; cases g2
/-- The call of a law. -/
theorem law_calls {x : FuncId → Option GF} (hx : ∀ f g, x f = some g → FnOk Tryz.prog g f) {f : FuncId} (henter : ∀ args w, (callFunc f args).run Tryz.prog w = .ok (.enter f args) w)
    {ρ : Nat → Option Pl} {H : Hp} {w : World} {args args' : List Value} (hH : HR ρ (Tryz.prog.globals.size + 1) H w) (hl : LR ρ args args') (ro : RO H) (h : WF (envT x) f args H fun v _ => v = .bool true) :
    Calls Tryz.prog f args'.toArray w fun e w' => e = .returned (.bool true) ∧ Below w.heap.size w w' := by
  obtain ⟨n, v, H', h1, rfl⟩ := h
  have := callA_sound (envT_ok x) (envT_x hx) n f ρ H w args args' _ H' hH hl h1
  rw [henter] at this
  refine Calls.mono this fun e w' he => ?_
  cases e with
  | returned u =>
    obtain ⟨ρ', k1, k2⟩ := he
    cases k1
    exact ⟨rfl, k2.fr.os, k2.fr.tape, k2.fr.output, k2.fr.size, fun k hk => k2.fr.blk k hk fun id o p g1 g2 => by rw [ro id o g1] at g2; cases g2⟩
  | _ => exact he.elim
/-- The arguments read as they did. -/
theorem trodAll_below {H : Type} {enc : TypeId × Value → H} {W W' : World} (hb : Below W.heap.size W W') : ∀ {ts : List TypeId} {vs : List Value} {ds : List (DataW H)} {ps : List MemPlace},
    (∀ t ∈ ts, Tryz.prog.readableRec t = true ∧ t < Tryz.prog.types.size) → DataW.TrodAll enc Tryz.prog W 0 (fun _ => true) true ts vs ds ps → (∀ x ∈ ps, x.block < W.heap.size) →
    DataW.TrodAll enc Tryz.prog W' 0 (fun b => decide (b < W.heap.size)) true ts vs ds ps
  | [], [], [], ps, _, h, _ => h
  | t :: ts, v :: vs, d :: ds, ps, ht, h, hlt => by
    obtain ⟨p, q, h1, h2, rfl⟩ := h
    exact ⟨p, q, Below.trod tz_laidOut (ht t (List.mem_cons_self ..)).1 (ht t (List.mem_cons_self ..)).2 h1 hb (fun x hx => hlt x (List.mem_append_left _ hx)),
      trodAll_below hb (fun t h => ht t (List.mem_cons_of_mem _ h)) h2 (fun x hx => hlt x (List.mem_append_right _ hx)), rfl⟩
  | [], _ :: _, _, _, _, h, _ => h.elim
  | [], [], _ :: _, _, _, h, _ => h.elim
  | _ :: _, [], _, _, _, h, _ => h.elim
  | _ :: _, _ :: _, [], _, _, h, _ => h.elim
theorem readable_all {ts : List TypeId} (h : (ts.all fun t => Tryz.prog.readableRec t && Nat.blt t Tryz.prog.types.size) = true) : ∀ t ∈ ts, Tryz.prog.readableRec t = true ∧ t < Tryz.prog.types.size := fun t ht => by
  have := List.all_eq_true.1 h t ht
  rw [Bool.and_eq_true] at this
  exact ⟨this.1, by simpa using this.2⟩
end Go.Proofs.YtaegmplbkbaniaaGreatDoor
