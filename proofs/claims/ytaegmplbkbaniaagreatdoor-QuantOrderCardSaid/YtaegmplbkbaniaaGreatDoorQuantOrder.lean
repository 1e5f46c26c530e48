/-
  fieldfarelaw7.QuantOrder answers true at every input, and its arguments read as they did. Condition: the variable errors.errorType holds what the program's text lays (the card ties it).
-/
import Derived.Test.YtaegmplbkbaniaaGreatDoorQuo
import Derived.Test.YtaegmplbkbaniaaGreatDoorRowp
import Derived.Test.YtaegmplbkbaniaaGreatDoorRowf
import Derived.Test.YtaegmplbkbaniaaGreatDoorCards
import Derived.SevenTiedAt
set_option linter.all false
namespace Go.Proofs.YtaegmplbkbaniaaGreatDoor
open Go Go.ChangeShapes Go.WideShapes Go.ChangeAt Go.WideElems Go.RowKit
set_option maxRecDepth 100000
theorem quantOrder_enter (args : Array Value) (w : World) : (callFunc 11 args).run Tryz.prog w = .ok (.enter 11 args) w := enters_of Tryz.func11 (by kernel_rfl) rfl _ _
theorem quantOrder_witness (os : Os) (H : Type) (enc : TypeId × Value → H) : ∃ (w : World) (tape : Tape) (i : Input), w.os = os ∧ (w.forCall tape i).Shaped Tryz.checked.prog ∧ i.vars = [] ∧ Input.okWide Tryz.checked.prog (w.forCall tape i) .any w.heap.size 11 i ∧
      ((Rows.quantOrderSpec.pre enc Tryz.checked.prog Tryz.f11 [] false (w.forCall tape i).memory i.args ∧ laidMetH Tryz.prog laidL (w.forCall tape i).memory) ∧ sizedMet enc Tryz.checked.prog Tryz.f11 (OpenSpec.ofChange Rows.quantOrderSpec) false (w.forCall tape i).memory i.args) ∧ ({ modest := false } : Assume).holds Tryz.checked.prog (lone (Frame.enter Tryz.checked.prog 11 i.args .normal) [] (w.forCall tape i)) :=
  ChangeSpec.witness_at (enc := enc) (C := Tryz.checked) (os := os) (X := fun w _ => laidMetH Tryz.prog laidL w) false (laidWorld os) #[.int .i64 0, .slice none 0 0, .slice none 0 0, .slice none 0 0] 8 rfl (by kernel_rfl) (by kernel_rfl) (by kernel_rfl) (by kernel_rfl) (by kernel_rfl) (laidWorld_met os _)
theorem quantOrder_lifted (os : Os) (started : os.Started) (H : Type) (enc : TypeId × Value → H) :
    ReturnsInHanded {} Tryz.checked os 11 .any (fun w args => (Rows.quantOrderSpec.pre enc Tryz.prog Tryz.f11 [] false w args ∧ laidMetH Tryz.prog laidL w) ∧ sizedMet enc Tryz.prog Tryz.f11 (OpenSpec.ofChange Rows.quantOrderSpec) false w args)
      (Rows.quantOrderSpec.post enc Tryz.prog Tryz.f11 false true false false) := by
  refine returnsInHanded_of_change_and (C := Tryz.checked) (X := fun w _ => laidMetH Tryz.prog laidL w) (fun _ _ _ hh h => h.of_heap hh) tz_own started (by kernel_rfl) Tryz.func11 (quantOrder_witness os H enc) ?_
  intro W base args ds gs before hval0 hW _ _ hL _
  have hval : ∀ (j : Nat) t v, Tryz.f11.params[j]? = some t → args[j]? = some v → Value.okWide Tryz.prog W .any base t v := hval0
  have hW' := hW
  obtain ⟨p, q, hA0, hV, rfl, _, _⟩ := hW
  have hA : DataW.TrodAll enc Tryz.prog W 0 (fun _ => true) true Tryz.f11.params.toList args.toList ds p := hA0
  obtain ⟨rfl, rfl⟩ := trodVars_none hV
  have hlt : ∀ x ∈ p, x.block < W.heap.size := fun x hx => by simpa using hW'.lt x (List.mem_append_left _ hx)
  have hA1 := hA
  rw [Tryz.params11] at hA hval
  obtain ⟨ρs, hHs⟩ := door_start (door_of_laid hL)
  have Ms := More.start hHs
  obtain ⟨v0, v1, v2, v3, d0, d1, d2, d3, p0, p1, p2, p3, hargs, hds, h0, h1, h2, h3⟩ := trod_4 hA
  obtain ⟨k, rfl, rfl, _, hwk⟩ := open_int Tryz.underlying3 (hval 0 3 v0 rfl (by rw [hargs]; rfl)) h0
  obtain ⟨ρ1, H1, a1, z1, M1, R1, S1⟩ := open_vecs Tryz.underlying36 Tryz.underlying38 Tryz.underlying21 (hval 1 36 v1 rfl (by rw [hargs]; rfl)) h1 Ms.hr Ms.ro Ms.wf
  obtain ⟨ρ2, H2, a2, z2, M2, R2, S2⟩ := open_vec Tryz.underlying38 Tryz.underlying21 (hval 2 38 v2 rfl (by rw [hargs]; rfl)) h2 M1.hr M1.ro M1.wf
  obtain ⟨ρ3, H3, a3, z3, M3, R3, S3⟩ := open_vec Tryz.underlying38 Tryz.underlying21 (hval 3 38 v3 rfl (by rw [hargs]; rfl)) h3 M2.hr M2.ro M2.wf
  subst hargs
  subst hds
  have MM := ((Ms.trans M1).trans M2).trans M3
  refine (law_calls ext11_ok quantOrder_enter M3.hr (.cons (.int _ _) (.cons ((R1.mono M2.up).mono M3.up) (.cons (R2.mono M3.up) (.one R3)))) M3.ro (wf11 M3.wf MM.door MM.two k ((S1.grow M1.wf M2.old M2.n).grow M2.wf M3.old M3.n) (S2.grow M2.wf M3.old) S3)).mono fun e W' he => ?_
  obtain ⟨rfl, hB⟩ := he
  refine ⟨_, rfl, _, _, _, [], _, [], hW', ?_, trodAll_below hB (readable_all (by kernel_rfl)) hA1 hlt, rfl, hB.frame _, fun h => by cases h⟩
  exact trodAll_mk1 (shut_bool Tryz.underlying4 true)
theorem quantOrder_named : Tryz.pinned.checked.prog.funcNamed Rows.quantOrderRow.func = some 11 := by kernel_rfl
theorem quantOrder_inst : Tryz.f11.isInstance Tryz.pinned.checked.prog Rows.quantOrderRow.origin Rows.quantOrderRow.targs := of_decide_eq_true (by kernel_rfl)
theorem quantOrder_wrap : Tryz.f11.isWrapper Tryz.pinned.checked.prog Rows.quantOrderRow.wrapper Rows.quantOrderRow.mainSum := by unfold Func.isWrapper; rw [if_neg (of_decide_eq_false (by kernel_rfl))]; exact ⟨rfl, rfl⟩
theorem quantOrder_k1 : Rows.quantOrderRow.wf (OpenSpec.ofChange Rows.quantOrderSpec) = true := by kernel_rfl
theorem quantOrder_k4 : Tryz.f11.params.all (Tryz.prog.readableRec ·) = true := by kernel_rfl
theorem quantOrder_k5 : namedTie Tryz.prog Rows.quantOrderRow.named Rows.quantOrderSpec.vars = true := by kernel_rfl
theorem quantOrder_k10 : (Rows.quantOrderRow.inPlace == Tryz.prog.inPlace 11) = true := by kernel_rfl
theorem quantOrder_k11 : (Rows.quantOrderRow.unfollowed == Tryz.prog.unfollowed 11) = true := by kernel_rfl
theorem quantOrder_k12 : (Rows.quantOrderRow.recurses == Tryz.prog.recurses 11) = true := by kernel_rfl
theorem quantOrder_k13 : (Rows.quantOrderRow.named == Tryz.prog.varsNamed 11) = true := by kernel_rfl
theorem quantOrder_closed : joinedFacts Tryz.pinned.checked.prog 11 Tryz.f11 Rows.quantOrderSpec Rows.quantOrderRow = true := by
  unfold joinedFacts
  refine andT (andT (andT (andT (andT (andT (andT (andT (andT (andT (andT (andT (andT (andT (andT (andT (andT (andT (andT (andT (andT (andT (andT (andT (andT (andT (andT (andT (andT (andT (andT quantOrder_k1 tz_laidOut) pf_mapsRowed) quantOrder_k4) quantOrder_k5) ?_) pf_stops) ?_) pf_stopKnobs) quantOrder_k10) quantOrder_k11) quantOrder_k12) quantOrder_k13) ?_) ?_) ?_) ?_) ?_) ?_) ?_) ?_) ?_) pf_plainKeys) ?_) pf_stopsHeard) pf_mayEnter) pf_lifted) pf_make) ?_) ?_) ?_) ?_
  all_goals kernel_rfl
theorem quantOrder_row : Rows.QuantOrderSaid :=
  OpenClaim.holds_of_wide 11 Tryz.f11 rfl rfl rfl rfl rfl rfl rfl ⟨rfl, rfl, rfl, rfl, rfl⟩ rfl rfl rfl rfl rfl quantOrder_named Tryz.func11 quantOrder_closed
    quantOrder_inst quantOrder_wrap (fun os started H enc _ => quantOrder_lifted os started H enc)
theorem quantOrder_types : (Tryz.f11.params.toList.all fun u => !Tryz.prog.wantsStandIn u) = true := by kernel_rfl
theorem quantOrder_holds : Rows.QuantOrderCardSaid :=
  Claim7.holds_tied_plain_at .later [] [.handle] true (true, "b73ac42d4def603c6d777c2e3322df2c7878255ff891589e8cf78bc4d738fc0d") true
    quantOrder_row (fun _ h => by cases h) (by kernel_rfl) (fun _ h => by cases h) quantOrder_row_tie rfl ⟨rfl, rfl⟩ (by kernel_rfl) rfl
    (fun f fn hf hfn => by
      obtain rfl : f = 11 := Option.some.inj (quantOrder_named.symm.trans hf) |>.symm
      obtain rfl : fn = Tryz.f11 := (Option.some.inj (Tryz.func11.symm.trans hfn)).symm
      exact ⟨by kernel_rfl, fun j t ht => by
        have := List.all_eq_true.1 quantOrder_types t (by simpa using Array.mem_of_getElem? ht)
        have h2 : Tryz.prog.wantsStandIn t = false := by simpa using this
        exact h2⟩)
    (by kernel_rfl)
#print axioms quantOrder_holds
end Go.Proofs.YtaegmplbkbaniaaGreatDoor
