/-
  fieldfarelaw7.MetricTurn answers true at every input, and its arguments read as they did. Condition: the variable errors.errorType holds what the program's text lays (the card ties it).
-/
import Derived.Test.YtaegmplbkbaniaaGreatDoorMtu
import Derived.Test.YtaegmplbkbaniaaGreatDoorRowo
import Derived.Test.YtaegmplbkbaniaaGreatDoorRowf
import Derived.Test.YtaegmplbkbaniaaGreatDoorCards
import Derived.SevenTiedAt
set_option linter.all false
namespace Go.Proofs.YtaegmplbkbaniaaGreatDoor
open Go Go.ChangeShapes Go.WideShapes Go.ChangeAt Go.WideElems Go.RowKit
set_option maxRecDepth 100000
theorem metricTurn_enter (args : Array Value) (w : World) : (callFunc 10 args).run Tryz.prog w = .ok (.enter 10 args) w := enters_of Tryz.func10 (by kernel_rfl) rfl _ _
theorem metricTurn_witness (os : Os) (H : Type) (enc : TypeId × Value → H) : ∃ (w : World) (tape : Tape) (i : Input), w.os = os ∧ (w.forCall tape i).Shaped Tryz.checked.prog ∧ i.vars = [] ∧ Input.okWide Tryz.checked.prog (w.forCall tape i) .any w.heap.size 10 i ∧
      ((Rows.metricTurnSpec.pre enc Tryz.checked.prog Tryz.f10 [] false (w.forCall tape i).memory i.args ∧ laidMetH Tryz.prog laidL (w.forCall tape i).memory) ∧ sizedMet enc Tryz.checked.prog Tryz.f10 (OpenSpec.ofChange Rows.metricTurnSpec) false (w.forCall tape i).memory i.args) ∧ ({ modest := false } : Assume).holds Tryz.checked.prog (lone (Frame.enter Tryz.checked.prog 10 i.args .normal) [] (w.forCall tape i)) :=
  ChangeSpec.witness_at (enc := enc) (C := Tryz.checked) (os := os) (X := fun w _ => laidMetH Tryz.prog laidL w) false (laidWorld os) #[.slice none 0 0, .slice none 0 0, .slice none 0 0, .int .i32 0] 8 rfl (by kernel_rfl) (by kernel_rfl) (by kernel_rfl) (by kernel_rfl) (by kernel_rfl) (laidWorld_met os _)
theorem metricTurn_lifted (os : Os) (started : os.Started) (H : Type) (enc : TypeId × Value → H) :
    ReturnsInHanded {} Tryz.checked os 10 .any (fun w args => (Rows.metricTurnSpec.pre enc Tryz.prog Tryz.f10 [] false w args ∧ laidMetH Tryz.prog laidL w) ∧ sizedMet enc Tryz.prog Tryz.f10 (OpenSpec.ofChange Rows.metricTurnSpec) false w args)
      (Rows.metricTurnSpec.post enc Tryz.prog Tryz.f10 false true false false) := by
  refine returnsInHanded_of_change_and (C := Tryz.checked) (X := fun w _ => laidMetH Tryz.prog laidL w) (fun _ _ _ hh h => h.of_heap hh) tz_own started (by kernel_rfl) Tryz.func10 (metricTurn_witness os H enc) ?_
  intro W base args ds gs before hval0 hW _ _ hL _
  have hval : ∀ (j : Nat) t v, Tryz.f10.params[j]? = some t → args[j]? = some v → Value.okWide Tryz.prog W .any base t v := hval0
  have hW' := hW
  obtain ⟨p, q, hA0, hV, rfl, _, _⟩ := hW
  have hA : DataW.TrodAll enc Tryz.prog W 0 (fun _ => true) true Tryz.f10.params.toList args.toList ds p := hA0
  obtain ⟨rfl, rfl⟩ := trodVars_none hV
  have hlt : ∀ x ∈ p, x.block < W.heap.size := fun x hx => by simpa using hW'.lt x (List.mem_append_left _ hx)
  have hA1 := hA
  rw [Tryz.params10] at hA hval
  obtain ⟨ρs, hHs⟩ := door_start (door_of_laid hL)
  have Ms := More.start hHs
  obtain ⟨v0, v1, v2, v3, d0, d1, d2, d3, p0, p1, p2, p3, hargs, hds, h0, h1, h2, h3⟩ := trod_4 hA
  obtain ⟨ρ0, H0, a0, z0, M0, R0, S0⟩ := open_vec Tryz.underlying38 Tryz.underlying21 (hval 0 38 v0 rfl (by rw [hargs]; rfl)) h0 Ms.hr Ms.ro Ms.wf
  obtain ⟨ρ1, H1, a1, z1, M1, R1, S1⟩ := open_vec Tryz.underlying38 Tryz.underlying21 (hval 1 38 v1 rfl (by rw [hargs]; rfl)) h1 M0.hr M0.ro M0.wf
  obtain ⟨ρ2, H2, a2, z2, M2, R2, S2⟩ := open_vec Tryz.underlying38 Tryz.underlying21 (hval 2 38 v2 rfl (by rw [hargs]; rfl)) h2 M1.hr M1.ro M1.wf
  obtain ⟨k, rfl, rfl, _, hwk⟩ := open_int Tryz.underlying21 (hval 3 21 v3 rfl (by rw [hargs]; rfl)) h3
  subst hargs
  subst hds
  have MM := ((Ms.trans M0).trans M1).trans M2
  refine (law_calls ext10_ok metricTurn_enter M2.hr (.cons ((R0.mono M1.up).mono M2.up) (.cons (R1.mono M2.up) (.cons R2 (.one (.int _ _))))) M2.ro (wf10 M2.wf MM.door MM.two ((S0.grow M0.wf M1.old).grow M1.wf M2.old) (S1.grow M1.wf M2.old) S2 k)).mono fun e W' he => ?_
  obtain ⟨rfl, hB⟩ := he
  refine ⟨_, rfl, _, _, _, [], _, [], hW', ?_, trodAll_below hB (readable_all (by kernel_rfl)) hA1 hlt, rfl, hB.frame _, fun h => by cases h⟩
  exact trodAll_mk1 (shut_bool Tryz.underlying4 true)
theorem metricTurn_named : Tryz.pinned.checked.prog.funcNamed Rows.metricTurnRow.func = some 10 := by kernel_rfl
theorem metricTurn_inst : Tryz.f10.isInstance Tryz.pinned.checked.prog Rows.metricTurnRow.origin Rows.metricTurnRow.targs := of_decide_eq_true (by kernel_rfl)
theorem metricTurn_wrap : Tryz.f10.isWrapper Tryz.pinned.checked.prog Rows.metricTurnRow.wrapper Rows.metricTurnRow.mainSum := by unfold Func.isWrapper; rw [if_neg (of_decide_eq_false (by kernel_rfl))]; exact ⟨rfl, rfl⟩
theorem metricTurn_k1 : Rows.metricTurnRow.wf (OpenSpec.ofChange Rows.metricTurnSpec) = true := by kernel_rfl
theorem metricTurn_k4 : Tryz.f10.params.all (Tryz.prog.readableRec ·) = true := by kernel_rfl
theorem metricTurn_k5 : namedTie Tryz.prog Rows.metricTurnRow.named Rows.metricTurnSpec.vars = true := by kernel_rfl
theorem metricTurn_k10 : (Rows.metricTurnRow.inPlace == Tryz.prog.inPlace 10) = true := by kernel_rfl
theorem metricTurn_k11 : (Rows.metricTurnRow.unfollowed == Tryz.prog.unfollowed 10) = true := by kernel_rfl
theorem metricTurn_k12 : (Rows.metricTurnRow.recurses == Tryz.prog.recurses 10) = true := by kernel_rfl
theorem metricTurn_k13 : (Rows.metricTurnRow.named == Tryz.prog.varsNamed 10) = true := by kernel_rfl
theorem metricTurn_closed : joinedFacts Tryz.pinned.checked.prog 10 Tryz.f10 Rows.metricTurnSpec Rows.metricTurnRow = true := by
  unfold joinedFacts
  refine andT (andT (andT (andT (andT (andT (andT (andT (andT (andT (andT (andT (andT (andT (andT (andT (andT (andT (andT (andT (andT (andT (andT (andT (andT (andT (andT (andT (andT (andT (andT metricTurn_k1 tz_laidOut) pf_mapsRowed) metricTurn_k4) metricTurn_k5) ?_) pf_stops) ?_) pf_stopKnobs) metricTurn_k10) metricTurn_k11) metricTurn_k12) metricTurn_k13) ?_) ?_) ?_) ?_) ?_) ?_) ?_) ?_) ?_) pf_plainKeys) ?_) pf_stopsHeard) pf_mayEnter) pf_lifted) pf_make) ?_) ?_) ?_) ?_
  all_goals kernel_rfl
theorem metricTurn_row : Rows.MetricTurnSaid :=
  OpenClaim.holds_of_wide 10 Tryz.f10 rfl rfl rfl rfl rfl rfl rfl ⟨rfl, rfl, rfl, rfl, rfl⟩ rfl rfl rfl rfl rfl metricTurn_named Tryz.func10 metricTurn_closed
    metricTurn_inst metricTurn_wrap (fun os started H enc _ => metricTurn_lifted os started H enc)
theorem metricTurn_types : (Tryz.f10.params.toList.all fun u => !Tryz.prog.wantsStandIn u) = true := by kernel_rfl
theorem metricTurn_holds : Rows.MetricTurnCardSaid :=
  Claim7.holds_tied_plain_at .later [] [.handle] true (true, "b73ac42d4def603c6d777c2e3322df2c7878255ff891589e8cf78bc4d738fc0d") true
    metricTurn_row (fun _ h => by cases h) (by kernel_rfl) (fun _ h => by cases h) metricTurn_row_tie rfl ⟨rfl, rfl⟩ (by kernel_rfl) rfl
    (fun f fn hf hfn => by
      obtain rfl : f = 10 := Option.some.inj (metricTurn_named.symm.trans hf) |>.symm
      obtain rfl : fn = Tryz.f10 := (Option.some.inj (Tryz.func10.symm.trans hfn)).symm
      exact ⟨by kernel_rfl, fun j t ht => by
        have := List.all_eq_true.1 metricTurn_types t (by simpa using Array.mem_of_getElem? ht)
        have h2 : Tryz.prog.wantsStandIn t = false := by simpa using this
        exact h2⟩)
    (by kernel_rfl)
#print axioms metricTurn_holds
end Go.Proofs.YtaegmplbkbaniaaGreatDoor
