/-
  fieldfarelaw7.VectEdges answers true at every input, and its arguments read as they did. Condition: the variable errors.errorType holds what the program's text lays (the card ties it).
-/
import Derived.Test.YtaegmplbkbaniaaGreatDoorVed
import Derived.Test.YtaegmplbkbaniaaGreatDoorRowf
import Derived.Test.YtaegmplbkbaniaaGreatDoorCards
import Derived.SevenTiedAt
set_option linter.all false
namespace Go.Proofs.YtaegmplbkbaniaaGreatDoor
open Go Go.ChangeShapes Go.WideShapes Go.ChangeAt Go.WideElems Go.RowKit
set_option maxRecDepth 100000
theorem vectEdges_enter (args : Array Value) (w : World) : (callFunc 8 args).run Tryz.prog w = .ok (.enter 8 args) w := enters_of Tryz.func8 (by kernel_rfl) rfl _ _
theorem vectEdges_witness (os : Os) (H : Type) (enc : TypeId × Value → H) : ∃ (w : World) (tape : Tape) (i : Input), w.os = os ∧ (w.forCall tape i).Shaped Tryz.checked.prog ∧ i.vars = [] ∧ Input.okWide Tryz.checked.prog (w.forCall tape i) .any w.heap.size 8 i ∧
      ((Rows.vectEdgesSpec.pre enc Tryz.checked.prog Tryz.f8 [] false (w.forCall tape i).memory i.args ∧ laidMetH Tryz.prog laidL (w.forCall tape i).memory) ∧ sizedMet enc Tryz.checked.prog Tryz.f8 (OpenSpec.ofChange Rows.vectEdgesSpec) false (w.forCall tape i).memory i.args) ∧ ({ modest := false } : Assume).holds Tryz.checked.prog (lone (Frame.enter Tryz.checked.prog 8 i.args .normal) [] (w.forCall tape i)) :=
  ChangeSpec.witness_at (enc := enc) (C := Tryz.checked) (os := os) (X := fun w _ => laidMetH Tryz.prog laidL w) false (laidWorld os) #[.int .i64 0, .int .i64 0, .int .i32 0] 8 rfl (by kernel_rfl) (by kernel_rfl) (by kernel_rfl) (by kernel_rfl) (by kernel_rfl) (laidWorld_met os _)
theorem vectEdges_lifted (os : Os) (started : os.Started) (H : Type) (enc : TypeId × Value → H) :
    ReturnsInHanded {} Tryz.checked os 8 .any (fun w args => (Rows.vectEdgesSpec.pre enc Tryz.prog Tryz.f8 [] false w args ∧ laidMetH Tryz.prog laidL w) ∧ sizedMet enc Tryz.prog Tryz.f8 (OpenSpec.ofChange Rows.vectEdgesSpec) false w args)
      (Rows.vectEdgesSpec.post enc Tryz.prog Tryz.f8 false true false false) := by
  refine returnsInHanded_of_change_and (C := Tryz.checked) (X := fun w _ => laidMetH Tryz.prog laidL w) (fun _ _ _ hh h => h.of_heap hh) tz_own started (by kernel_rfl) Tryz.func8 (vectEdges_witness os H enc) ?_
  intro W base args ds gs before hval0 hW _ _ hL _
  have hval : ∀ (j : Nat) t v, Tryz.f8.params[j]? = some t → args[j]? = some v → Value.okWide Tryz.prog W .any base t v := hval0
  have hW' := hW
  obtain ⟨p, q, hA0, hV, rfl, _, _⟩ := hW
  have hA : DataW.TrodAll enc Tryz.prog W 0 (fun _ => true) true Tryz.f8.params.toList args.toList ds p := hA0
  obtain ⟨rfl, rfl⟩ := trodVars_none hV
  have hlt : ∀ x ∈ p, x.block < W.heap.size := fun x hx => by simpa using hW'.lt x (List.mem_append_left _ hx)
  have hA1 := hA
  rw [Tryz.params8] at hA hval
  obtain ⟨v0, v1, v2, d0, d1, d2, p0, p1, p2, hargs, rfl, rfl, h0, h1, h2⟩ := trodAll_three hA
  obtain ⟨n, rfl, rfl, rfl, hwn⟩ := open_int Tryz.underlying3 (hval 0 3 v0 rfl (by rw [hargs]; rfl)) h0
  obtain ⟨a, rfl, rfl, rfl, hwa⟩ := open_int Tryz.underlying3 (hval 1 3 v1 rfl (by rw [hargs]; rfl)) h1
  obtain ⟨o, rfl, rfl, rfl, hwo⟩ := open_int Tryz.underlying21 (hval 2 21 v2 rfl (by rw [hargs]; rfl)) h2
  subst hargs
  obtain ⟨ρ, hH⟩ := door_start (door_of_laid hL)
  refine (law_calls ext8_ok vectEdges_enter hH (.cons (.int _ _) (.cons (.int _ _) (.one (.int _ _)))) RO_H00 (wf8 wf_H00 door_H00 (Nat.le_refl _) n a o)).mono fun e W' he => ?_
  obtain ⟨rfl, hB⟩ := he
  refine ⟨_, rfl, _, _, _, [], _, [], hW', ?_, trodAll_below hB (readable_all (by kernel_rfl)) hA1 hlt, rfl, hB.frame _, fun h => by cases h⟩
  exact trodAll_mk1 (shut_bool Tryz.underlying4 true)
theorem vectEdges_named : Tryz.pinned.checked.prog.funcNamed Rows.vectEdgesRow.func = some 8 := by kernel_rfl
theorem vectEdges_inst : Tryz.f8.isInstance Tryz.pinned.checked.prog Rows.vectEdgesRow.origin Rows.vectEdgesRow.targs := of_decide_eq_true (by kernel_rfl)
theorem vectEdges_wrap : Tryz.f8.isWrapper Tryz.pinned.checked.prog Rows.vectEdgesRow.wrapper Rows.vectEdgesRow.mainSum := by unfold Func.isWrapper; rw [if_neg (of_decide_eq_false (by kernel_rfl))]; exact ⟨rfl, rfl⟩
theorem vectEdges_k1 : Rows.vectEdgesRow.wf (OpenSpec.ofChange Rows.vectEdgesSpec) = true := by kernel_rfl
theorem vectEdges_k4 : Tryz.f8.params.all (Tryz.prog.readableRec ·) = true := by kernel_rfl
theorem vectEdges_k5 : namedTie Tryz.prog Rows.vectEdgesRow.named Rows.vectEdgesSpec.vars = true := by kernel_rfl
theorem vectEdges_k10 : (Rows.vectEdgesRow.inPlace == Tryz.prog.inPlace 8) = true := by kernel_rfl
theorem vectEdges_k11 : (Rows.vectEdgesRow.unfollowed == Tryz.prog.unfollowed 8) = true := by kernel_rfl
theorem vectEdges_k12 : (Rows.vectEdgesRow.recurses == Tryz.prog.recurses 8) = true := by kernel_rfl
theorem vectEdges_k13 : (Rows.vectEdgesRow.named == Tryz.prog.varsNamed 8) = true := by kernel_rfl
theorem vectEdges_closed : joinedFacts Tryz.pinned.checked.prog 8 Tryz.f8 Rows.vectEdgesSpec Rows.vectEdgesRow = true := by
  unfold joinedFacts
  refine andT (andT (andT (andT (andT (andT (andT (andT (andT (andT (andT (andT (andT (andT (andT (andT (andT (andT (andT (andT (andT (andT (andT (andT (andT (andT (andT (andT (andT (andT (andT vectEdges_k1 tz_laidOut) pf_mapsRowed) vectEdges_k4) vectEdges_k5) ?_) pf_stops) ?_) pf_stopKnobs) vectEdges_k10) vectEdges_k11) vectEdges_k12) vectEdges_k13) ?_) ?_) ?_) ?_) ?_) ?_) ?_) ?_) ?_) pf_plainKeys) ?_) pf_stopsHeard) pf_mayEnter) pf_lifted) pf_make) ?_) ?_) ?_) ?_
  all_goals kernel_rfl
theorem vectEdges_row : Rows.VectEdgesSaid :=
  OpenClaim.holds_of_wide 8 Tryz.f8 rfl rfl rfl rfl rfl rfl rfl ⟨rfl, rfl, rfl, rfl, rfl⟩ rfl rfl rfl rfl rfl vectEdges_named Tryz.func8 vectEdges_closed
    vectEdges_inst vectEdges_wrap (fun os started H enc _ => vectEdges_lifted os started H enc)
theorem vectEdges_types : (Tryz.f8.params.toList.all fun u => !Tryz.prog.wantsStandIn u) = true := by kernel_rfl
theorem vectEdges_holds : Rows.VectEdgesCardSaid :=
  Claim7.holds_tied_plain_at .later [] [.handle] true (true, "b73ac42d4def603c6d777c2e3322df2c7878255ff891589e8cf78bc4d738fc0d") true
    vectEdges_row (fun _ h => by cases h) (by kernel_rfl) (fun _ h => by cases h) vectEdges_row_tie rfl ⟨rfl, rfl⟩ (by kernel_rfl) rfl
    (fun f fn hf hfn => by
      obtain rfl : f = 8 := Option.some.inj (vectEdges_named.symm.trans hf) |>.symm
      obtain rfl : fn = Tryz.f8 := (Option.some.inj (Tryz.func8.symm.trans hfn)).symm
      exact ⟨by kernel_rfl, fun j t ht => by
        have := List.all_eq_true.1 vectEdges_types t (by simpa using Array.mem_of_getElem? ht)
        have h2 : Tryz.prog.wantsStandIn t = false := by simpa using this
        exact h2⟩)
    (by kernel_rfl)
#print axioms vectEdges_holds
end Go.Proofs.YtaegmplbkbaniaaGreatDoor
