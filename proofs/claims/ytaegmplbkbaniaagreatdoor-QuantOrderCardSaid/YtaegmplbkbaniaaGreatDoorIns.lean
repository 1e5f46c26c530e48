/-
  slices.Insert at small slices of hits as a function that is given to the machine (the machine walks its text; slices.overlaps of two blocks is false). No condition.
-/
import Derived.Test.YtaegmplbkbaniaaGreatDoorExtC
import Derived.Lib.Overlaps
set_option linter.all false
namespace Go.Proofs.YtaegmplbkbaniaaGreatDoor
open Go Go.Extern
set_option maxRecDepth 100000
def g108 : GF := fun args H => match args with
  | [.slice (some ⟨b, _, some _⟩) _ _, .slice (some ⟨b', _, some _⟩) _ _] => match Nat.beq b b', H.get b, H.get b' with
    | false, some (.row _ _ true), some (.row c _ _) => match c.len with
      | 0 => none
      | _ + 1 => some (.bool false, H)
    | _, _, _ => none
  | _ => none
theorem x108 (args : Array Value) (w : World) : (callFunc 108 args).run Tryz.prog w = ((SlicesOverlaps.overlaps #[90, 90] #[4] args).run Tryz.prog w).andThen fun v w' => .ok (.value v) w' :=
  @run_callFunc_extern Tryz.prog 108 _ (SlicesOverlaps.overlaps #[90, 90] #[4]) Tryz.func108 (by kernel_rfl) (by kernel_rfl) (by kernel_rfl) (by kernel_rfl) args w
theorem sizeOf82 (w : World) : (Go.sizeOf 82).run Tryz.prog w = .ok 2 w := by kernel_rfl
theorem ok108 : FnOk Tryz.prog g108 108 := by
  intro ρ H w args args' v H' hH hl hg
  unfold g108 at hg
  split at hg
  · rename_i b oo1 sp1 ll1 cp1 b' oo2 sp2 ll2 cp2
    obtain ⟨y, r, e, k1, k2⟩ := hl.inv
    obtain ⟨z, r2, e2, k3, k4⟩ := k2.inv
    have := k4.inv0; subst this; subst e2; subst e
    split at hg
    · rename_i c1 s1 c s rw hbb hb1 hb2
      split at hg
      · cases hg
      · rename_i n hn
        cases hg
        cases k1 with
        | sl _ _ _ _ _ o1 cap1 p1 hp1 _ _ _ _ _ _ =>
        cases k3 with
        | sl _ _ _ _ _ o2 cap2 p2 hp2 _ _ _ _ _ _ =>
        have hne : b ≠ b' := fun e => by subst e; simp at hbb
        obtain ⟨q1, cs1, e1, fz1, a0, a1, a2, a3, a4, a5⟩ := hH.row _ _ _ _ hb1
        rw [hp1] at a0; cases a0
        obtain ⟨q2, cs2, e2, fz2, b0, b1, b2, b3, b4, b5⟩ := hH.row _ _ _ _ hb2
        rw [hp2] at b0; cases b0
        have hblk : p1.blk ≠ p2.blk := hH.sep _ _ _ _ _ _ hne hb1 rfl hb2 hp1 hp2
        refine lands_eq (x108 _ _) ?_
        have hf := a5 rfl
        have hfz : ∀ k, w.frozen? ⟨p1.blk, k, none⟩ = false := fun k => by
          obtain ⟨lo, hi⟩ := fz1
          simp only at hf
          simp only [World.frozen?, a1, Bool.and_eq_false_iff, decide_eq_false_iff_not]
          omega
        exact lands_same hH (Go.Lib.run_overlaps_apart w 90 4 82 (by kernel_rfl) 2 sizeOf82 ⟨p1.blk, o1, none⟩ ⟨p2.blk, o2, none⟩ _ _ _ _ hblk e1 e2 cs1.size cs2.size
          (by simp only [World.shape?, a1]) (by simp only [World.shape?, b1]) (by omega) (hfz _) (hfz _)) (.bool _)
    · cases hg
  · cases hg
def extI (f : FuncId) : Option GF := match Nat.beq f 108 with
  | true => some g108
  | false => none
theorem extI_ok {f : FuncId} {g : GF} (h : extI f = some g) : FnOk Tryz.prog g f := by
  unfold extI at h
  split at h
  · rename_i hf; cases h; have : f = 108 := by simpa using hf
    subst this; exact ok108
  · cases h
/-- The memory in which the machine walks slices.Insert. -/
def HI (r2 r3 : Option AObj) : Hp := ⟨4, (Tr.nil.put 2 r2).put 3 r3⟩
def rowI (l : List Value) (s : Nat) : Option AObj := some (.row (.lst l) s true)
def see (k : Nat) : Option (Value × Hp) → Option (Value × Option AObj × Option AObj)
  | some (v, H) => some (v, H.get k, H.get 3)
  | none => none
theorem see_some {k : Nat} {o : Option (Value × Hp)} {v : Value} {a b : Option AObj} (h : see k o = some (v, a, b)) : ∃ H, o = some (v, H) ∧ H.get k = a ∧ H.get 3 = b := by
  cases o with
  | none => cases h
  | some q => obtain ⟨u, H⟩ := q; simp only [see, Option.some.injEq, Prod.mk.injEq] at h; exact ⟨H, by rw [h.1], h.2.1, h.2.2⟩
section
variable (x y a c d e : Int) (k vo cp : Nat)
abbrev J (n : Int) : Value := .int .i64 n
theorem run0 : see 4 (callA (envT extI) 60 91 [.slice none 0 0, J 0, .slice (some ⟨3, 0, some 5⟩) 1 1] (HI none (rowI [J x, J y] 0)))
    = some (.slice (some ⟨4, 0, some 4⟩) 1 1, rowI [J x, J y] 0, rowI [J x, J y] 0) := by kernel_rfl
theorem run1x : see 4 (callA (envT extI) 60 91 [.slice (some ⟨2, 0, some 5⟩) 1 1, J 0, .slice (some ⟨3, 0, some 5⟩) 1 1] (HI (rowI [J a, J c] 0) (rowI [J x, J y] 0)))
    = some (.slice (some ⟨4, 0, some 4⟩) 2 2, rowI [J x, J y, J a, J c] 0, rowI [J x, J y] 0) := by kernel_rfl
theorem run1o : see 2 (callA (envT extI) 60 91 [.slice (some ⟨2, 0, some 5⟩) 1 (k + 2), J 0, .slice (some ⟨3, 0, some 5⟩) 1 1] (HI (rowI [J a, J c] 2) (rowI [J x, J y] 0)))
    = some (.slice (some ⟨2, 0, some 5⟩) 2 (k + 2), rowI [J x, J y, J a, J c] 0, rowI [J x, J y] 0) := by kernel_rfl
theorem run2x : see 4 (callA (envT extI) 60 91 [.slice (some ⟨2, 0, some 5⟩) 2 2, J 1, .slice (some ⟨3, 0, some 5⟩) 1 1] (HI (rowI [J a, J c, J d, J e] 0) (rowI [J x, J y] 0)))
    = some (.slice (some ⟨4, 0, some 4⟩) 3 3, rowI [J a, J c, J x, J y, J d, J e] 0, rowI [J x, J y] 0) := by kernel_rfl
theorem run2o : see 2 (callA (envT extI) 60 91 [.slice (some ⟨2, 0, some 5⟩) 2 (k + 3), J 1, .slice (some ⟨3, 0, some 5⟩) 1 1] (HI (rowI [J a, J c, J d, J e] 2) (rowI [J x, J y] 0)))
    = some (.slice (some ⟨2, 0, some 5⟩) 3 (k + 3), rowI [J a, J c, J x, J y, J d, J e] 0, rowI [J x, J y] 0) := by kernel_rfl
end

end Go.Proofs.YtaegmplbkbaniaaGreatDoor
