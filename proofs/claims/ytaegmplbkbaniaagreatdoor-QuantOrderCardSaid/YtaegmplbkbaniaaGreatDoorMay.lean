/-
  fieldfarelaw7.Dim, vect.May as functions that are given to the machine. No condition.
-/
import Derived.Test.YtaegmplbkbaniaaGreatDoorMet
set_option linter.all false
namespace Go.Proofs.YtaegmplbkbaniaaGreatDoor
open Go
attribute [local irreducible] VO VC VD VD1 V1 nx nd ndr sq cIf gO oQ oP oA oC oV oIf oB fin rd' outB WC WF WO WD W1
set_option maxRecDepth 100000
/-! ### 27 -/
abbrev r27_0 : List Lo := [
  ⟨(some 2), (.p (.mv (.c (.int .i64 0)))), none⟩]
abbrev r27_1 : List Lo := [
  ⟨(some 3), (.p (.mv (.t 0))), none⟩,
  ⟨(some 4), (.p (.bin .rem 3 (.t 3) (.c (.int .i64 8)))), none⟩,
  ⟨(some 5), (.p (.bin .add 3 (.t 4) (.c (.int .i64 8)))), none⟩,
  ⟨(some 6), (.p (.bin .rem 3 (.t 5) (.c (.int .i64 8)))), none⟩,
  ⟨(some 7), (.p (.bin .add 3 (.c (.int .i64 1)) (.t 6))), none⟩,
  ⟨(some 2), (.p (.mv (.t 7))), none⟩]
def c27 : AFun := ⟨(.seq (.reg r27_0) (.seq (.reg r27_1) .ret)), [.t 2], 8⟩
theorem p27 : progOf Tryz.prog 27 = some c27 := by kernel_rfl
/-! ### 74 -/
abbrev r74_0 : List Lo := [
  ⟨(some 2), (.p (.mv (.c (.bool false)))), none⟩]
abbrev r74_1 : List Lo := [
  ⟨(some 3), (.p (.mv (.t 0))), none⟩,
  ⟨(some 4), (.p (.bin .lss 21 (.t 3) (.c (.int .i32 (-1048576))))), none⟩,
  ⟨(some 5), (.p (.mv (.t 4))), none⟩,
  ⟨(some 6), (.p (.mv (.t 0))), (some (5, false))⟩,
  ⟨(some 7), (.p (.bin .gtr 21 (.t 6) (.c (.int .i32 1048576)))), (some (5, false))⟩,
  ⟨(some 8), (.p (.pick (.t 5) (.c (.bool true)) (.t 7))), none⟩,
  ⟨(some 2), (.p (.mv (.t 8))), none⟩]
def c74 : AFun := ⟨(.seq (.reg r74_0) (.seq (.reg r74_1) .ret)), [.t 2], 9⟩
theorem p74 : progOf Tryz.prog 74 = some c74 := by kernel_rfl
/-! ### 100 -/
abbrev r100_0 : List Lo := [
  ⟨(some 4), (.p (.mv (.c (.int .i64 0)))), none⟩]
abbrev r100_1 : List Lo := [
  ⟨(some 6), (.p (.mv (.t 0))), none⟩,
  ⟨(some 7), (.p (.len 38 (.t 6))), none⟩,
  ⟨(some 8), (.p (.mv (.c (.int .i64 0)))), none⟩]
abbrev r100_2 : List Lo := [
  ⟨(some 9), (.p (.bin .lss 3 (.t 8) (.t 7))), none⟩]
abbrev r100_3 : List Lo := [
  ⟨(some 10), (.p (.mv (.t 8))), none⟩,
  ⟨(some 5), (.p (.mv (.t 10))), none⟩]
abbrev r100_4 : List Lo := [
  ⟨(some 11), (.p (.mv (.t 1))), none⟩,
  ⟨(some 12), (.p (.mv (.t 0))), none⟩,
  ⟨(some 13), (.p (.mv (.t 5))), none⟩,
  ⟨(some 14), (.p (.iadr 38 (.t 12) (.t 13))), none⟩,
  ⟨(some 15), (.r (.load 21 (.t 14))), none⟩,
  ⟨(some 16), (.call (.t 11) [(.t 15)]), none⟩]
abbrev r100_5 : List Lo := [
  ⟨(some 17), (.p (.mv (.t 5))), none⟩,
  ⟨(some 4), (.p (.mv (.t 17))), none⟩]
abbrev r100_6 : List Lo := [
  ⟨(some 18), (.p (.bin .add 3 (.t 8) (.c (.int .i64 1)))), none⟩,
  ⟨(some 8), (.p (.mv (.t 18))), none⟩]
def l100_7 : Ac := (.seq (.reg r100_2) (.seq (.cond (.t 9) .skip (.exit 0)) (.seq (.blk 1 (.seq (.reg r100_3) (.seq (.reg r100_4) (.cond (.t 16) (.seq (.reg r100_5) .ret) .skip)))) (.reg r100_6))))
abbrev r100_8 : List Lo := [
  ⟨(some 4), (.p (.mv (.c (.int .i64 (-1))))), none⟩]
def c100 : AFun := ⟨(.seq (.reg r100_0) (.seq (.seq (.reg r100_1) (.blk 0 (.loop l100_7))) (.seq (.reg r100_8) .ret))), [.t 4], 19⟩
theorem p100 : progOf Tryz.prog 100 = some c100 := by kernel_rfl
/-! ### 73 -/
abbrev r73_0 : List Lo := [
  ⟨(some 4), (.p (.mv (.c (.bool false)))), none⟩]
abbrev r73_1 : List Lo := [
  ⟨(some 5), (.p (.mv (.t 0))), none⟩,
  ⟨(some 6), (.p (.mv (.t 1))), none⟩,
  ⟨(some 7), (.call (.f 100) [(.t 5), (.t 6)]), none⟩,
  ⟨(some 8), (.p (.bin .geq 3 (.t 7) (.c (.int .i64 0)))), none⟩,
  ⟨(some 4), (.p (.mv (.t 8))), none⟩]
def c73 : AFun := ⟨(.seq (.reg r73_0) (.seq (.reg r73_1) .ret)), [.t 4], 9⟩
theorem p73 : progOf Tryz.prog 73 = some c73 := by kernel_rfl
/-! ### 32 -/
abbrev r32_0 : List Lo := [
  ⟨(some 4), (.p (.mv (.c (.bool false)))), none⟩]
abbrev r32_1 : List Lo := [
  ⟨(some 5), (.p (.mv (.t 1))), none⟩,
  ⟨(some 6), (.p (.bin .lss 3 (.t 5) (.c (.int .i64 1)))), none⟩,
  ⟨(some 7), (.p (.mv (.t 6))), none⟩,
  ⟨(some 8), (.p (.mv (.t 1))), (some (7, false))⟩,
  ⟨(some 9), (.p (.bin .gtr 3 (.t 8) (.c (.int .i64 8)))), (some (7, false))⟩,
  ⟨(some 10), (.p (.pick (.t 7) (.c (.bool true)) (.t 9))), none⟩,
  ⟨(some 11), (.p (.mv (.t 10))), none⟩,
  ⟨(some 12), (.p (.mv (.t 0))), (some (11, false))⟩,
  ⟨(some 13), (.p (.len 38 (.t 12))), (some (11, false))⟩,
  ⟨(some 14), (.p (.mv (.t 1))), (some (11, false))⟩,
  ⟨(some 15), (.p (.bin .neq 3 (.t 13) (.t 14))), (some (11, false))⟩,
  ⟨(some 16), (.p (.pick (.t 11) (.c (.bool true)) (.t 15))), none⟩]
abbrev r32_2 : List Lo := [
  ⟨(some 4), (.p (.mv (.c (.bool false)))), none⟩]
abbrev r32_3 : List Lo := [
  ⟨(some 17), (.p (.mv (.t 0))), none⟩,
  ⟨(some 18), (.call (.f 73) [(.t 17), (.f 74)]), none⟩,
  ⟨(some 19), (.p (.un .not (.t 18))), none⟩,
  ⟨(some 4), (.p (.mv (.t 19))), none⟩]
def c32 : AFun := ⟨(.seq (.reg r32_0) (.seq (.seq (.reg r32_1) (.cond (.t 16) (.seq (.reg r32_2) .ret) .skip)) (.seq (.reg r32_3) .ret))), [.t 4], 20⟩
theorem p32 : progOf Tryz.prog 32 = some c32 := by kernel_rfl

set_option maxRecDepth 2000
def dimF (n : Int) : Int := w64 (1 + (w64 (n.tmod 8 + 8)).tmod 8)
def g27 : GF := fun args H => match args with
  | [.int .i64 n] => some (.int .i64 (dimF n), H)
  | _ => none
theorem ok27 : FnOk Tryz.prog g27 27 := by
  refine FnOk.of (envT_ok fun _ => none) (envT_x fun _ _ h => by cases h) fun args H v H1 ok hg => ?_
  unfold g27 at hg
  split at hg
  · cases hg
    refine WF.go rfl p27 rfl ?_
    unfold c27
    simp -implicitDefEqProofs only [↓C_skip, ↓C_reg, ↓C_dreg, ↓C_seq, ↓C_cond, ↓C_blk, ↓C_loop, ↓C_exit, ↓C_ret, ↓sq_nrm, ↓sq_exit, ↓sq_ret, ↓outB_nrm, ↓outB_ret, ↓outB_exit, ↓fin_nrm, ↓fin_ret, ↓fin_ret0, ↓fin_nrm0, ↓fin_ret2, ↓rd_nrm, ↓rd_exit, ↓rd_ret, ↓cIf_true, ↓cIf_false, ↓VO_nil, ↓VO_go, ↓VO_if, ↓nx_some, ↓nx_none, putD_some, putD_none, ↓V_p, ↓V_r, ↓V_a, ↓V_e, ↓V_call, ↓V_inv, ↓oQ_some, ↓oP_some, ↓oA_some, ↓oC_some, gO_true, gO_false, ↓gO_true, ↓gO_false, cIf_true, cIf_false, oQ_some, oP_some, oA_some, oC_some, oV_some,  reserve0, ↓D_nil, ↓D_p, ↓D_r, ↓nd_some, ↓ndr_some, ↓oV_some, ↓ev_rst, has_cons, has_nil, P_mv, P_pick, pickV_true, pickV_false, P_bin, P_un, P_cnv, cnvV_int, P_mkif, P_mkfn, P_fadr, P_fld, P_iadr, P_idx, P_len, P_mn, P_mx, foldV_two, mn2_int, mx2_int, unA_not, unA_neg, B_add, B_sub, B_mul, B_quo, B_rem, B_eql, B_neq, B_lss, B_leq, B_gtr, B_geq, R_load, wants_ev, gV_t, gV_f, ↓evPut, ↓ev_c, ↓ev_f, ↓ev_g, isC_t, isC_c, isC_f, isC_g, ↓reduceIte, Nat.reduceEqDiff, Nat.reduceBEq, Bool.or_self, Bool.or_false, Bool.or_true, Bool.false_or, Bool.true_or, Bool.and_true, Bool.and_false, Bool.true_and, Bool.false_and, Bool.not_true, Bool.not_false, Bool.false_eq_true, ofArgs, List.map_cons, List.map_nil, List.nil_append, List.append_nil, List.cons_append, Nat.reduceAdd, calleeA, beq_self_eq_true, decide_true, decide_false, Int.reduceEq]
    exact Abs.keep ok.wf (fun _ _ => rfl) (VA.scal rfl)
  · cases hg
/-- Beyond what may be. -/
def farZ (z : Int) : Bool := decide (z < -1048576) || decide (1048576 < z)
def g74 : GF := fun args H => match args with
  | [.int .i32 n] => some (.bool (farZ n), H)
  | _ => none
theorem ok74 : FnOk Tryz.prog g74 74 := by
  refine FnOk.of (envT_ok fun _ => none) (envT_x fun _ _ h => by cases h) fun args H v H1 ok hg => ?_
  unfold g74 at hg
  split at hg
  · rename_i n
    cases hg
    refine WF.go rfl p74 rfl ?_
    unfold c74 farZ
    by_cases h : n < -1048576
    · simp -implicitDefEqProofs only [↓C_skip, ↓C_reg, ↓C_dreg, ↓C_seq, ↓C_cond, ↓C_blk, ↓C_loop, ↓C_exit, ↓C_ret, ↓sq_nrm, ↓sq_exit, ↓sq_ret, ↓outB_nrm, ↓outB_ret, ↓outB_exit, ↓fin_nrm, ↓fin_ret, ↓fin_ret0, ↓fin_nrm0, ↓fin_ret2, ↓rd_nrm, ↓rd_exit, ↓rd_ret, ↓cIf_true, ↓cIf_false, ↓VO_nil, ↓VO_go, ↓VO_if, ↓nx_some, ↓nx_none, putD_some, putD_none, ↓V_p, ↓V_r, ↓V_a, ↓V_e, ↓V_call, ↓V_inv, ↓oQ_some, ↓oP_some, ↓oA_some, ↓oC_some, gO_true, gO_false, ↓gO_true, ↓gO_false, cIf_true, cIf_false, oQ_some, oP_some, oA_some, oC_some, oV_some,  reserve0, ↓D_nil, ↓D_p, ↓D_r, ↓nd_some, ↓ndr_some, ↓oV_some, ↓ev_rst, has_cons, has_nil, P_mv, P_pick, pickV_true, pickV_false, P_bin, P_un, P_cnv, cnvV_int, P_mkif, P_mkfn, P_fadr, P_fld, P_iadr, P_idx, P_len, P_mn, P_mx, foldV_two, mn2_int, mx2_int, unA_not, unA_neg, B_add, B_sub, B_mul, B_quo, B_rem, B_eql, B_neq, B_lss, B_leq, B_gtr, B_geq, R_load, wants_ev, gV_t, gV_f, ↓evPut, ↓ev_c, ↓ev_f, ↓ev_g, isC_t, isC_c, isC_f, isC_g, ↓reduceIte, Nat.reduceEqDiff, Nat.reduceBEq, Bool.or_self, Bool.or_false, Bool.or_true, Bool.false_or, Bool.true_or, Bool.and_true, Bool.and_false, Bool.true_and, Bool.false_and, Bool.not_true, Bool.not_false, Bool.false_eq_true, ofArgs, List.map_cons, List.map_nil, List.nil_append, List.append_nil, List.cons_append, Nat.reduceAdd, calleeA, beq_self_eq_true, decide_true, decide_false, h]
      exact Abs.keep ok.wf (fun _ _ => rfl) (VA.scal rfl)
    · simp -implicitDefEqProofs only [↓C_skip, ↓C_reg, ↓C_dreg, ↓C_seq, ↓C_cond, ↓C_blk, ↓C_loop, ↓C_exit, ↓C_ret, ↓sq_nrm, ↓sq_exit, ↓sq_ret, ↓outB_nrm, ↓outB_ret, ↓outB_exit, ↓fin_nrm, ↓fin_ret, ↓fin_ret0, ↓fin_nrm0, ↓fin_ret2, ↓rd_nrm, ↓rd_exit, ↓rd_ret, ↓cIf_true, ↓cIf_false, ↓VO_nil, ↓VO_go, ↓VO_if, ↓nx_some, ↓nx_none, putD_some, putD_none, ↓V_p, ↓V_r, ↓V_a, ↓V_e, ↓V_call, ↓V_inv, ↓oQ_some, ↓oP_some, ↓oA_some, ↓oC_some, gO_true, gO_false, ↓gO_true, ↓gO_false, cIf_true, cIf_false, oQ_some, oP_some, oA_some, oC_some, oV_some,  reserve0, ↓D_nil, ↓D_p, ↓D_r, ↓nd_some, ↓ndr_some, ↓oV_some, ↓ev_rst, has_cons, has_nil, P_mv, P_pick, pickV_true, pickV_false, P_bin, P_un, P_cnv, cnvV_int, P_mkif, P_mkfn, P_fadr, P_fld, P_iadr, P_idx, P_len, P_mn, P_mx, foldV_two, mn2_int, mx2_int, unA_not, unA_neg, B_add, B_sub, B_mul, B_quo, B_rem, B_eql, B_neq, B_lss, B_leq, B_gtr, B_geq, R_load, wants_ev, gV_t, gV_f, ↓evPut, ↓ev_c, ↓ev_f, ↓ev_g, isC_t, isC_c, isC_f, isC_g, ↓reduceIte, Nat.reduceEqDiff, Nat.reduceBEq, Bool.or_self, Bool.or_false, Bool.or_true, Bool.false_or, Bool.true_or, Bool.and_true, Bool.and_false, Bool.true_and, Bool.false_and, Bool.not_true, Bool.not_false, Bool.false_eq_true, ofArgs, List.map_cons, List.map_nil, List.nil_append, List.append_nil, List.cons_append, Nat.reduceAdd, calleeA, beq_self_eq_true, decide_true, decide_false, h]
      exact Abs.keep ok.wf (fun _ _ => rfl) (VA.scal rfl)
  · cases hg
/-- The first place at which p holds, from i on. -/
def idxF (p : Int → Bool) : List Int → Int → Int
  | [], _ => -1
  | z :: r, i => if p z then i else idxF p r (i + 1)
theorem idxF_drop {p : Int → Bool} {zs : List Int} {i : Nat} (h : i < zs.length) (j : Int) : idxF p (zs.drop i) j = if p (zs.getD i 0) then j else idxF p (zs.drop (i + 1)) (j + 1) := by
  rw [List.drop_eq_getElem_cons h]; simp [idxF, List.getD, h]
theorem idxF_iff (p : Int → Bool) : ∀ (zs : List Int) (j : Int), 0 ≤ j → (0 ≤ idxF p zs j ↔ zs.any p = true)
  | [], j, h => by simp [idxF]
  | z :: r, j, h => by
    have ih := idxF_iff p r (j + 1) (by omega)
    simp only [idxF, List.any_cons, Bool.or_eq_true]
    by_cases hp : p z = true
    · rw [if_pos hp]; exact ⟨fun _ => .inl hp, fun _ => h⟩
    · rw [if_neg hp, ih]; exact ⟨.inr, fun h => h.resolve_left hp⟩
theorem idxF_any (p : Int → Bool) (zs : List Int) (j : Int) (h : 0 ≤ j) : (decide (0 ≤ idxF p zs j)) = zs.any p := by
  rw [Bool.eq_iff_iff, decide_eq_true_eq]; exact idxF_iff p zs j h
def I100 (H : Hp) (v : Value) (f : FuncId) (p : Int → Bool) (zs : List Int) (d : Nat) (t : Tr Value) (H' : Hp) : Prop :=
  H' = H ∧ ∃ i : Nat, i + d = zs.length ∧ Od.ev t (.t 0) = v ∧ Od.ev t (.t 1) = .func (.func f) #[] #[] ∧ Od.ev t (.t 7) = .int .i64 ((zs.length : Nat) : Int) ∧ Od.ev t (.t 8) = .int .i64 i ∧ idxF p (zs.drop i) i = idxF p zs 0
/-- slices.IndexFunc over a vector, of a function that tells p. -/
theorem wf100 (x : FuncId → Option GF) (hx : x 100 = none) (f : FuncId) (p : Int → Bool) {v : Value} {zs : List Int} {H : Hp} (hv : IsSl .i32 H v zs) (hl : zs.length < 9223372036854775807)
    (hf : ∀ z, WF (envT x) f [.int .i32 z] H fun r H' => r = .bool (p z) ∧ H' = H) :
    WF (envT x) 100 [v, .func (.func f) #[] #[]] H fun r H' => r = .int .i64 (idxF p zs 0) ∧ H' = H := by
  refine WF.go hx p100 rfl ?_
  have t38 : (envT x).ty 38 = _ := ty38
  have t21 : (envT x).ty 21 = _ := ty21
  unfold c100
  simp -implicitDefEqProofs only [↓C_skip, ↓C_reg, ↓C_dreg, ↓C_seq, ↓C_cond, ↓C_blk, ↓C_loop, ↓C_exit, ↓C_ret, ↓sq_nrm, ↓sq_exit, ↓sq_ret, ↓outB_nrm, ↓outB_ret, ↓outB_exit, ↓fin_nrm, ↓fin_ret, ↓fin_ret0, ↓fin_nrm0, ↓fin_ret2, ↓rd_nrm, ↓rd_exit, ↓rd_ret, ↓cIf_true, ↓cIf_false, ↓VO_nil, ↓VO_go, ↓VO_if, ↓nx_some, ↓nx_none, putD_some, putD_none, ↓V_p, ↓V_r, ↓V_a, ↓V_e, ↓V_call, ↓V_inv, ↓oQ_some, ↓oP_some, ↓oA_some, ↓oC_some, gO_true, gO_false, ↓gO_true, ↓gO_false, cIf_true, cIf_false, oQ_some, oP_some, oA_some, oC_some, oV_some,  reserve0, ↓D_nil, ↓D_p, ↓D_r, ↓nd_some, ↓ndr_some, ↓oV_some, ↓ev_rst, has_cons, has_nil, P_mv, P_pick, pickV_true, pickV_false, P_bin, P_un, P_cnv, cnvV_int, P_mkif, P_mkfn, P_fadr, P_fld, P_iadr, P_idx, P_len, P_mn, P_mx, foldV_two, mn2_int, mx2_int, unA_not, unA_neg, B_add, B_sub, B_mul, B_quo, B_rem, B_eql, B_neq, B_lss, B_leq, B_gtr, B_geq, R_load, wants_ev, gV_t, gV_f, ↓evPut, ↓ev_c, ↓ev_f, ↓ev_g, isC_t, isC_c, isC_f, isC_g, ↓reduceIte, Nat.reduceEqDiff, Nat.reduceBEq, Bool.or_self, Bool.or_false, Bool.or_true, Bool.false_or, Bool.true_or, Bool.and_true, Bool.and_false, Bool.true_and, Bool.false_and, Bool.not_true, Bool.not_false, Bool.false_eq_true, ofArgs, List.map_cons, List.map_nil, List.nil_append, List.append_nil, List.cons_append, Nat.reduceAdd, calleeA, beq_self_eq_true, decide_true, decide_false, lenV_sl t38 hv]
  refine VC.loop (I100 H v f p zs) (fun d t H' h => ?_) (d := zs.length) ⟨rfl, 0, by omega, by simp only [↓evPut, ↓ev_c, ↓reduceIte, Nat.reduceEqDiff], by simp only [↓evPut, ↓ev_c, ↓reduceIte, Nat.reduceEqDiff], by simp only [↓evPut, ↓ev_c, ↓reduceIte, Nat.reduceEqDiff], by simp only [↓evPut, ↓ev_c, ↓reduceIte, Nat.reduceEqDiff]; rfl, rfl⟩
  obtain ⟨rfl, i, hd, h0, h1, h7, h8, hs⟩ := h
  unfold l100_7
  simp -implicitDefEqProofs only [↓C_skip, ↓C_reg, ↓C_dreg, ↓C_seq, ↓C_cond, ↓C_blk, ↓C_loop, ↓C_exit, ↓C_ret, ↓sq_nrm, ↓sq_exit, ↓sq_ret, ↓outB_nrm, ↓outB_ret, ↓outB_exit, ↓fin_nrm, ↓fin_ret, ↓fin_ret0, ↓fin_nrm0, ↓fin_ret2, ↓rd_nrm, ↓rd_exit, ↓rd_ret, ↓cIf_true, ↓cIf_false, ↓VO_nil, ↓VO_go, ↓VO_if, ↓nx_some, ↓nx_none, putD_some, putD_none, ↓V_p, ↓V_r, ↓V_a, ↓V_e, ↓V_call, ↓V_inv, ↓oQ_some, ↓oP_some, ↓oA_some, ↓oC_some, gO_true, gO_false, ↓gO_true, ↓gO_false, cIf_true, cIf_false, oQ_some, oP_some, oA_some, oC_some, oV_some,  reserve0, ↓D_nil, ↓D_p, ↓D_r, ↓nd_some, ↓ndr_some, ↓oV_some, ↓ev_rst, has_cons, has_nil, P_mv, P_pick, pickV_true, pickV_false, P_bin, P_un, P_cnv, cnvV_int, P_mkif, P_mkfn, P_fadr, P_fld, P_iadr, P_idx, P_len, P_mn, P_mx, foldV_two, mn2_int, mx2_int, unA_not, unA_neg, B_add, B_sub, B_mul, B_quo, B_rem, B_eql, B_neq, B_lss, B_leq, B_gtr, B_geq, R_load, wants_ev, gV_t, gV_f, ↓evPut, ↓ev_c, ↓ev_f, ↓ev_g, isC_t, isC_c, isC_f, isC_g, ↓reduceIte, Nat.reduceEqDiff, Nat.reduceBEq, Bool.or_self, Bool.or_false, Bool.or_true, Bool.false_or, Bool.true_or, Bool.and_true, Bool.and_false, Bool.true_and, Bool.false_and, Bool.not_true, Bool.not_false, Bool.false_eq_true, ofArgs, List.map_cons, List.map_nil, List.nil_append, List.append_nil, List.cons_append, Nat.reduceAdd, calleeA, beq_self_eq_true, decide_true, decide_false, h8, h7]
  by_cases hi : i < zs.length
  · rw [cIf_yes (by omega)]
    have wi := wrapSucc (i := i) (by omega)
    have hstep := (idxF_drop (p := p) hi i).symm.trans hs
    simp -implicitDefEqProofs only [↓C_skip, ↓C_reg, ↓C_dreg, ↓C_seq, ↓C_cond, ↓C_blk, ↓C_loop, ↓C_exit, ↓C_ret, ↓sq_nrm, ↓sq_exit, ↓sq_ret, ↓outB_nrm, ↓outB_ret, ↓outB_exit, ↓fin_nrm, ↓fin_ret, ↓fin_ret0, ↓fin_nrm0, ↓fin_ret2, ↓rd_nrm, ↓rd_exit, ↓rd_ret, ↓cIf_true, ↓cIf_false, ↓VO_nil, ↓VO_go, ↓VO_if, ↓nx_some, ↓nx_none, putD_some, putD_none, ↓V_p, ↓V_r, ↓V_a, ↓V_e, ↓V_call, ↓V_inv, ↓oQ_some, ↓oP_some, ↓oA_some, ↓oC_some, gO_true, gO_false, ↓gO_true, ↓gO_false, cIf_true, cIf_false, oQ_some, oP_some, oA_some, oC_some, oV_some,  reserve0, ↓D_nil, ↓D_p, ↓D_r, ↓nd_some, ↓ndr_some, ↓oV_some, ↓ev_rst, has_cons, has_nil, P_mv, P_pick, pickV_true, pickV_false, P_bin, P_un, P_cnv, cnvV_int, P_mkif, P_mkfn, P_fadr, P_fld, P_iadr, P_idx, P_len, P_mn, P_mx, foldV_two, mn2_int, mx2_int, unA_not, unA_neg, B_add, B_sub, B_mul, B_quo, B_rem, B_eql, B_neq, B_lss, B_leq, B_gtr, B_geq, R_load, wants_ev, gV_t, gV_f, ↓evPut, ↓ev_c, ↓ev_f, ↓ev_g, isC_t, isC_c, isC_f, isC_g, ↓reduceIte, Nat.reduceEqDiff, Nat.reduceBEq, Bool.or_self, Bool.or_false, Bool.or_true, Bool.false_or, Bool.true_or, Bool.and_true, Bool.and_false, Bool.true_and, Bool.false_and, Bool.not_true, Bool.not_false, Bool.false_eq_true, ofArgs, List.map_cons, List.map_nil, List.nil_append, List.append_nil, List.cons_append, Nat.reduceAdd, calleeA, beq_self_eq_true, decide_true, decide_false, h0, h1, h7, h8, iadr_sl t38 t21 hv (Int.natCast_nonneg i) (by omega : (i : Int) < zs.length), Int.toNat_natCast, load_sl t21 hv hi]
    refine (hf (zs.getD i 0)).mono fun r H2 hr => ?_
    obtain ⟨rfl, rfl⟩ := hr
    cases hp : p (zs.getD i 0) with
    | true =>
      simp -implicitDefEqProofs only [↓C_skip, ↓C_reg, ↓C_dreg, ↓C_seq, ↓C_cond, ↓C_blk, ↓C_loop, ↓C_exit, ↓C_ret, ↓sq_nrm, ↓sq_exit, ↓sq_ret, ↓outB_nrm, ↓outB_ret, ↓outB_exit, ↓fin_nrm, ↓fin_ret, ↓fin_ret0, ↓fin_nrm0, ↓fin_ret2, ↓rd_nrm, ↓rd_exit, ↓rd_ret, ↓cIf_true, ↓cIf_false, ↓VO_nil, ↓VO_go, ↓VO_if, ↓nx_some, ↓nx_none, putD_some, putD_none, ↓V_p, ↓V_r, ↓V_a, ↓V_e, ↓V_call, ↓V_inv, ↓oQ_some, ↓oP_some, ↓oA_some, ↓oC_some, gO_true, gO_false, ↓gO_true, ↓gO_false, cIf_true, cIf_false, oQ_some, oP_some, oA_some, oC_some, oV_some,  reserve0, ↓D_nil, ↓D_p, ↓D_r, ↓nd_some, ↓ndr_some, ↓oV_some, ↓ev_rst, has_cons, has_nil, P_mv, P_pick, pickV_true, pickV_false, P_bin, P_un, P_cnv, cnvV_int, P_mkif, P_mkfn, P_fadr, P_fld, P_iadr, P_idx, P_len, P_mn, P_mx, foldV_two, mn2_int, mx2_int, unA_not, unA_neg, B_add, B_sub, B_mul, B_quo, B_rem, B_eql, B_neq, B_lss, B_leq, B_gtr, B_geq, R_load, wants_ev, gV_t, gV_f, ↓evPut, ↓ev_c, ↓ev_f, ↓ev_g, isC_t, isC_c, isC_f, isC_g, ↓reduceIte, Nat.reduceEqDiff, Nat.reduceBEq, Bool.or_self, Bool.or_false, Bool.or_true, Bool.false_or, Bool.true_or, Bool.and_true, Bool.and_false, Bool.true_and, Bool.false_and, Bool.not_true, Bool.not_false, Bool.false_eq_true, ofArgs, List.map_cons, List.map_nil, List.nil_append, List.append_nil, List.cons_append, Nat.reduceAdd, calleeA, beq_self_eq_true, decide_true, decide_false, h0, h1, h7, h8]
      rw [hp, if_pos rfl] at hstep
      rw [hstep]; trivial
    | false =>
      simp -implicitDefEqProofs only [↓C_skip, ↓C_reg, ↓C_dreg, ↓C_seq, ↓C_cond, ↓C_blk, ↓C_loop, ↓C_exit, ↓C_ret, ↓sq_nrm, ↓sq_exit, ↓sq_ret, ↓outB_nrm, ↓outB_ret, ↓outB_exit, ↓fin_nrm, ↓fin_ret, ↓fin_ret0, ↓fin_nrm0, ↓fin_ret2, ↓rd_nrm, ↓rd_exit, ↓rd_ret, ↓cIf_true, ↓cIf_false, ↓VO_nil, ↓VO_go, ↓VO_if, ↓nx_some, ↓nx_none, putD_some, putD_none, ↓V_p, ↓V_r, ↓V_a, ↓V_e, ↓V_call, ↓V_inv, ↓oQ_some, ↓oP_some, ↓oA_some, ↓oC_some, gO_true, gO_false, ↓gO_true, ↓gO_false, cIf_true, cIf_false, oQ_some, oP_some, oA_some, oC_some, oV_some,  reserve0, ↓D_nil, ↓D_p, ↓D_r, ↓nd_some, ↓ndr_some, ↓oV_some, ↓ev_rst, has_cons, has_nil, P_mv, P_pick, pickV_true, pickV_false, P_bin, P_un, P_cnv, cnvV_int, P_mkif, P_mkfn, P_fadr, P_fld, P_iadr, P_idx, P_len, P_mn, P_mx, foldV_two, mn2_int, mx2_int, unA_not, unA_neg, B_add, B_sub, B_mul, B_quo, B_rem, B_eql, B_neq, B_lss, B_leq, B_gtr, B_geq, R_load, wants_ev, gV_t, gV_f, ↓evPut, ↓ev_c, ↓ev_f, ↓ev_g, isC_t, isC_c, isC_f, isC_g, ↓reduceIte, Nat.reduceEqDiff, Nat.reduceBEq, Bool.or_self, Bool.or_false, Bool.or_true, Bool.false_or, Bool.true_or, Bool.and_true, Bool.and_false, Bool.true_and, Bool.false_and, Bool.not_true, Bool.not_false, Bool.false_eq_true, ofArgs, List.map_cons, List.map_nil, List.nil_append, List.append_nil, List.cons_append, Nat.reduceAdd, calleeA, beq_self_eq_true, decide_true, decide_false, h0, h1, h7, h8, wi]
      rw [hp, if_neg (by decide)] at hstep
      exact ⟨d - 1, by omega, rfl, i + 1, by omega, by simp only [↓evPut, ↓ev_c, ↓reduceIte, Nat.reduceEqDiff, h0], by simp only [↓evPut, ↓ev_c, ↓reduceIte, Nat.reduceEqDiff, h1], by simp only [↓evPut, ↓ev_c, ↓reduceIte, Nat.reduceEqDiff, h7], by simp only [↓evPut, ↓ev_c, ↓reduceIte, Nat.reduceEqDiff], hstep⟩
  · rw [cIf_no (by omega)]
    simp -implicitDefEqProofs only [↓C_skip, ↓C_reg, ↓C_dreg, ↓C_seq, ↓C_cond, ↓C_blk, ↓C_loop, ↓C_exit, ↓C_ret, ↓sq_nrm, ↓sq_exit, ↓sq_ret, ↓outB_nrm, ↓outB_ret, ↓outB_exit, ↓fin_nrm, ↓fin_ret, ↓fin_ret0, ↓fin_nrm0, ↓fin_ret2, ↓rd_nrm, ↓rd_exit, ↓rd_ret, ↓cIf_true, ↓cIf_false, ↓VO_nil, ↓VO_go, ↓VO_if, ↓nx_some, ↓nx_none, putD_some, putD_none, ↓V_p, ↓V_r, ↓V_a, ↓V_e, ↓V_call, ↓V_inv, ↓oQ_some, ↓oP_some, ↓oA_some, ↓oC_some, gO_true, gO_false, ↓gO_true, ↓gO_false, cIf_true, cIf_false, oQ_some, oP_some, oA_some, oC_some, oV_some,  reserve0, ↓D_nil, ↓D_p, ↓D_r, ↓nd_some, ↓ndr_some, ↓oV_some, ↓ev_rst, has_cons, has_nil, P_mv, P_pick, pickV_true, pickV_false, P_bin, P_un, P_cnv, cnvV_int, P_mkif, P_mkfn, P_fadr, P_fld, P_iadr, P_idx, P_len, P_mn, P_mx, foldV_two, mn2_int, mx2_int, unA_not, unA_neg, B_add, B_sub, B_mul, B_quo, B_rem, B_eql, B_neq, B_lss, B_leq, B_gtr, B_geq, R_load, wants_ev, gV_t, gV_f, ↓evPut, ↓ev_c, ↓ev_f, ↓ev_g, isC_t, isC_c, isC_f, isC_g, ↓reduceIte, Nat.reduceEqDiff, Nat.reduceBEq, Bool.or_self, Bool.or_false, Bool.or_true, Bool.false_or, Bool.true_or, Bool.and_true, Bool.and_false, Bool.true_and, Bool.false_and, Bool.not_true, Bool.not_false, Bool.false_eq_true, ofArgs, List.map_cons, List.map_nil, List.nil_append, List.append_nil, List.cons_append, Nat.reduceAdd, calleeA, beq_self_eq_true, decide_true, decide_false]
    rw [← hs, List.drop_eq_nil_of_le (by omega)]
    trivial
def ext1 (n : FuncId) (g : GF) (x : FuncId → Option GF) (f : FuncId) : Option GF := if f = n then some g else x f
theorem ext1_ok {n : FuncId} {g : GF} {x : FuncId → Option GF} (h1 : FnOk Tryz.prog g n) (h2 : ∀ f g, x f = some g → FnOk Tryz.prog g f) : ∀ f g', ext1 n g x f = some g' → FnOk Tryz.prog g' f := fun f g' h => by
  unfold ext1 at h
  split at h
  · rename_i e; subst e; cases h; exact h1
  · exact h2 f g' h
def ext0 (_ : FuncId) : Option GF := none
theorem ext0_ok : ∀ f g, ext0 f = some g → FnOk Tryz.prog g f := fun _ _ h => by cases h
def mayL (zs : List Int) (dim : Int) : Bool := decide (1 ≤ dim) && decide (dim ≤ 8) && decide ((zs.length : Int) = dim) && !zs.any farZ
def g32 : GF := fun args H => match args with
  | [v, .int .i64 dim] => match rdI .i32 H v with
    | some zs => if zs.length < 9223372036854775807 then some (.bool (mayL zs dim), H) else none
    | none => none
  | _ => none
theorem ok32 : FnOk Tryz.prog g32 32 := by
  refine FnOk.of (envT_ok (ext1 74 g74 ext0)) (envT_x (ext1_ok ok74 ext0_ok)) fun args H r H1 ok hg => ?_
  unfold g32 at hg
  split at hg
  · rename_i v dim
    split at hg
    · rename_i zs hz
      split at hg
      · rename_i hl
        cases hg
        have hv := rdI_is hz
        have t38 : (envT (ext1 74 g74 ext0)).ty 38 = _ := ty38
        refine WF.mono (Q := fun v H' => v = .bool (mayL zs dim) ∧ H' = H) ?_ (fun v' H' hh => by
          obtain ⟨rfl, rfl⟩ := hh
          exact Abs.keep ok.wf (fun _ _ => rfl) (VA.scal rfl))
        refine WF.go rfl p32 rfl ?_
        unfold c32 mayL
        by_cases h1 : dim < 1
        · simp -implicitDefEqProofs only [↓C_skip, ↓C_reg, ↓C_dreg, ↓C_seq, ↓C_cond, ↓C_blk, ↓C_loop, ↓C_exit, ↓C_ret, ↓sq_nrm, ↓sq_exit, ↓sq_ret, ↓outB_nrm, ↓outB_ret, ↓outB_exit, ↓fin_nrm, ↓fin_ret, ↓fin_ret0, ↓fin_nrm0, ↓fin_ret2, ↓rd_nrm, ↓rd_exit, ↓rd_ret, ↓cIf_true, ↓cIf_false, ↓VO_nil, ↓VO_go, ↓VO_if, ↓nx_some, ↓nx_none, putD_some, putD_none, ↓V_p, ↓V_r, ↓V_a, ↓V_e, ↓V_call, ↓V_inv, ↓oQ_some, ↓oP_some, ↓oA_some, ↓oC_some, gO_true, gO_false, ↓gO_true, ↓gO_false, cIf_true, cIf_false, oQ_some, oP_some, oA_some, oC_some, oV_some,  reserve0, ↓D_nil, ↓D_p, ↓D_r, ↓nd_some, ↓ndr_some, ↓oV_some, ↓ev_rst, has_cons, has_nil, P_mv, P_pick, pickV_true, pickV_false, P_bin, P_un, P_cnv, cnvV_int, P_mkif, P_mkfn, P_fadr, P_fld, P_iadr, P_idx, P_len, P_mn, P_mx, foldV_two, mn2_int, mx2_int, unA_not, unA_neg, B_add, B_sub, B_mul, B_quo, B_rem, B_eql, B_neq, B_lss, B_leq, B_gtr, B_geq, R_load, wants_ev, gV_t, gV_f, ↓evPut, ↓ev_c, ↓ev_f, ↓ev_g, isC_t, isC_c, isC_f, isC_g, ↓reduceIte, Nat.reduceEqDiff, Nat.reduceBEq, Bool.or_self, Bool.or_false, Bool.or_true, Bool.false_or, Bool.true_or, Bool.and_true, Bool.and_false, Bool.true_and, Bool.false_and, Bool.not_true, Bool.not_false, Bool.false_eq_true, ofArgs, List.map_cons, List.map_nil, List.nil_append, List.append_nil, List.cons_append, Nat.reduceAdd, calleeA, beq_self_eq_true, decide_true, decide_false, lenV_sl t38 hv, h1]
          rw [decide_eq_false (by omega : ¬ 1 ≤ dim)]
          simp
        · by_cases h2 : 8 < dim
          · simp -implicitDefEqProofs only [↓C_skip, ↓C_reg, ↓C_dreg, ↓C_seq, ↓C_cond, ↓C_blk, ↓C_loop, ↓C_exit, ↓C_ret, ↓sq_nrm, ↓sq_exit, ↓sq_ret, ↓outB_nrm, ↓outB_ret, ↓outB_exit, ↓fin_nrm, ↓fin_ret, ↓fin_ret0, ↓fin_nrm0, ↓fin_ret2, ↓rd_nrm, ↓rd_exit, ↓rd_ret, ↓cIf_true, ↓cIf_false, ↓VO_nil, ↓VO_go, ↓VO_if, ↓nx_some, ↓nx_none, putD_some, putD_none, ↓V_p, ↓V_r, ↓V_a, ↓V_e, ↓V_call, ↓V_inv, ↓oQ_some, ↓oP_some, ↓oA_some, ↓oC_some, gO_true, gO_false, ↓gO_true, ↓gO_false, cIf_true, cIf_false, oQ_some, oP_some, oA_some, oC_some, oV_some,  reserve0, ↓D_nil, ↓D_p, ↓D_r, ↓nd_some, ↓ndr_some, ↓oV_some, ↓ev_rst, has_cons, has_nil, P_mv, P_pick, pickV_true, pickV_false, P_bin, P_un, P_cnv, cnvV_int, P_mkif, P_mkfn, P_fadr, P_fld, P_iadr, P_idx, P_len, P_mn, P_mx, foldV_two, mn2_int, mx2_int, unA_not, unA_neg, B_add, B_sub, B_mul, B_quo, B_rem, B_eql, B_neq, B_lss, B_leq, B_gtr, B_geq, R_load, wants_ev, gV_t, gV_f, ↓evPut, ↓ev_c, ↓ev_f, ↓ev_g, isC_t, isC_c, isC_f, isC_g, ↓reduceIte, Nat.reduceEqDiff, Nat.reduceBEq, Bool.or_self, Bool.or_false, Bool.or_true, Bool.false_or, Bool.true_or, Bool.and_true, Bool.and_false, Bool.true_and, Bool.false_and, Bool.not_true, Bool.not_false, Bool.false_eq_true, ofArgs, List.map_cons, List.map_nil, List.nil_append, List.append_nil, List.cons_append, Nat.reduceAdd, calleeA, beq_self_eq_true, decide_true, decide_false, lenV_sl t38 hv, h1, h2]
            rw [decide_eq_false (by omega : ¬ dim ≤ 8)]
            simp
          · by_cases h3 : (zs.length : Int) = dim
            · simp -implicitDefEqProofs only [↓C_skip, ↓C_reg, ↓C_dreg, ↓C_seq, ↓C_cond, ↓C_blk, ↓C_loop, ↓C_exit, ↓C_ret, ↓sq_nrm, ↓sq_exit, ↓sq_ret, ↓outB_nrm, ↓outB_ret, ↓outB_exit, ↓fin_nrm, ↓fin_ret, ↓fin_ret0, ↓fin_nrm0, ↓fin_ret2, ↓rd_nrm, ↓rd_exit, ↓rd_ret, ↓cIf_true, ↓cIf_false, ↓VO_nil, ↓VO_go, ↓VO_if, ↓nx_some, ↓nx_none, putD_some, putD_none, ↓V_p, ↓V_r, ↓V_a, ↓V_e, ↓V_call, ↓V_inv, ↓oQ_some, ↓oP_some, ↓oA_some, ↓oC_some, gO_true, gO_false, ↓gO_true, ↓gO_false, cIf_true, cIf_false, oQ_some, oP_some, oA_some, oC_some, oV_some,  reserve0, ↓D_nil, ↓D_p, ↓D_r, ↓nd_some, ↓ndr_some, ↓oV_some, ↓ev_rst, has_cons, has_nil, P_mv, P_pick, pickV_true, pickV_false, P_bin, P_un, P_cnv, cnvV_int, P_mkif, P_mkfn, P_fadr, P_fld, P_iadr, P_idx, P_len, P_mn, P_mx, foldV_two, mn2_int, mx2_int, unA_not, unA_neg, B_add, B_sub, B_mul, B_quo, B_rem, B_eql, B_neq, B_lss, B_leq, B_gtr, B_geq, R_load, wants_ev, gV_t, gV_f, ↓evPut, ↓ev_c, ↓ev_f, ↓ev_g, isC_t, isC_c, isC_f, isC_g, ↓reduceIte, Nat.reduceEqDiff, Nat.reduceBEq, Bool.or_self, Bool.or_false, Bool.or_true, Bool.false_or, Bool.true_or, Bool.and_true, Bool.and_false, Bool.true_and, Bool.false_and, Bool.not_true, Bool.not_false, Bool.false_eq_true, ofArgs, List.map_cons, List.map_nil, List.nil_append, List.append_nil, List.cons_append, Nat.reduceAdd, calleeA, beq_self_eq_true, decide_true, decide_false, lenV_sl t38 hv, h1, h2, h3]
              refine WF.go rfl p73 rfl ?_
              unfold c73
              simp -implicitDefEqProofs only [↓C_skip, ↓C_reg, ↓C_dreg, ↓C_seq, ↓C_cond, ↓C_blk, ↓C_loop, ↓C_exit, ↓C_ret, ↓sq_nrm, ↓sq_exit, ↓sq_ret, ↓outB_nrm, ↓outB_ret, ↓outB_exit, ↓fin_nrm, ↓fin_ret, ↓fin_ret0, ↓fin_nrm0, ↓fin_ret2, ↓rd_nrm, ↓rd_exit, ↓rd_ret, ↓cIf_true, ↓cIf_false, ↓VO_nil, ↓VO_go, ↓VO_if, ↓nx_some, ↓nx_none, putD_some, putD_none, ↓V_p, ↓V_r, ↓V_a, ↓V_e, ↓V_call, ↓V_inv, ↓oQ_some, ↓oP_some, ↓oA_some, ↓oC_some, gO_true, gO_false, ↓gO_true, ↓gO_false, cIf_true, cIf_false, oQ_some, oP_some, oA_some, oC_some, oV_some,  reserve0, ↓D_nil, ↓D_p, ↓D_r, ↓nd_some, ↓ndr_some, ↓oV_some, ↓ev_rst, has_cons, has_nil, P_mv, P_pick, pickV_true, pickV_false, P_bin, P_un, P_cnv, cnvV_int, P_mkif, P_mkfn, P_fadr, P_fld, P_iadr, P_idx, P_len, P_mn, P_mx, foldV_two, mn2_int, mx2_int, unA_not, unA_neg, B_add, B_sub, B_mul, B_quo, B_rem, B_eql, B_neq, B_lss, B_leq, B_gtr, B_geq, R_load, wants_ev, gV_t, gV_f, ↓evPut, ↓ev_c, ↓ev_f, ↓ev_g, isC_t, isC_c, isC_f, isC_g, ↓reduceIte, Nat.reduceEqDiff, Nat.reduceBEq, Bool.or_self, Bool.or_false, Bool.or_true, Bool.false_or, Bool.true_or, Bool.and_true, Bool.and_false, Bool.true_and, Bool.false_and, Bool.not_true, Bool.not_false, Bool.false_eq_true, ofArgs, List.map_cons, List.map_nil, List.nil_append, List.append_nil, List.cons_append, Nat.reduceAdd, calleeA, beq_self_eq_true, decide_true, decide_false]
              refine (wf100 _ rfl 74 farZ hv hl (fun z => WF.ext (g := g74) rfl rfl ⟨rfl, rfl⟩)).mono fun r H' hr => ?_
              obtain ⟨rfl, rfl⟩ := hr
              simp -implicitDefEqProofs only [↓C_skip, ↓C_reg, ↓C_dreg, ↓C_seq, ↓C_cond, ↓C_blk, ↓C_loop, ↓C_exit, ↓C_ret, ↓sq_nrm, ↓sq_exit, ↓sq_ret, ↓outB_nrm, ↓outB_ret, ↓outB_exit, ↓fin_nrm, ↓fin_ret, ↓fin_ret0, ↓fin_nrm0, ↓fin_ret2, ↓rd_nrm, ↓rd_exit, ↓rd_ret, ↓cIf_true, ↓cIf_false, ↓VO_nil, ↓VO_go, ↓VO_if, ↓nx_some, ↓nx_none, putD_some, putD_none, ↓V_p, ↓V_r, ↓V_a, ↓V_e, ↓V_call, ↓V_inv, ↓oQ_some, ↓oP_some, ↓oA_some, ↓oC_some, gO_true, gO_false, ↓gO_true, ↓gO_false, cIf_true, cIf_false, oQ_some, oP_some, oA_some, oC_some, oV_some,  reserve0, ↓D_nil, ↓D_p, ↓D_r, ↓nd_some, ↓ndr_some, ↓oV_some, ↓ev_rst, has_cons, has_nil, P_mv, P_pick, pickV_true, pickV_false, P_bin, P_un, P_cnv, cnvV_int, P_mkif, P_mkfn, P_fadr, P_fld, P_iadr, P_idx, P_len, P_mn, P_mx, foldV_two, mn2_int, mx2_int, unA_not, unA_neg, B_add, B_sub, B_mul, B_quo, B_rem, B_eql, B_neq, B_lss, B_leq, B_gtr, B_geq, R_load, wants_ev, gV_t, gV_f, ↓evPut, ↓ev_c, ↓ev_f, ↓ev_g, isC_t, isC_c, isC_f, isC_g, ↓reduceIte, Nat.reduceEqDiff, Nat.reduceBEq, Bool.or_self, Bool.or_false, Bool.or_true, Bool.false_or, Bool.true_or, Bool.and_true, Bool.and_false, Bool.true_and, Bool.false_and, Bool.not_true, Bool.not_false, Bool.false_eq_true, ofArgs, List.map_cons, List.map_nil, List.nil_append, List.append_nil, List.cons_append, Nat.reduceAdd, calleeA, beq_self_eq_true, decide_true, decide_false]
              rw [idxF_any farZ zs 0 (by omega), decide_eq_true (by omega : 1 ≤ dim), decide_eq_true (by omega : dim ≤ 8)]
              simp
            · simp -implicitDefEqProofs only [↓C_skip, ↓C_reg, ↓C_dreg, ↓C_seq, ↓C_cond, ↓C_blk, ↓C_loop, ↓C_exit, ↓C_ret, ↓sq_nrm, ↓sq_exit, ↓sq_ret, ↓outB_nrm, ↓outB_ret, ↓outB_exit, ↓fin_nrm, ↓fin_ret, ↓fin_ret0, ↓fin_nrm0, ↓fin_ret2, ↓rd_nrm, ↓rd_exit, ↓rd_ret, ↓cIf_true, ↓cIf_false, ↓VO_nil, ↓VO_go, ↓VO_if, ↓nx_some, ↓nx_none, putD_some, putD_none, ↓V_p, ↓V_r, ↓V_a, ↓V_e, ↓V_call, ↓V_inv, ↓oQ_some, ↓oP_some, ↓oA_some, ↓oC_some, gO_true, gO_false, ↓gO_true, ↓gO_false, cIf_true, cIf_false, oQ_some, oP_some, oA_some, oC_some, oV_some,  reserve0, ↓D_nil, ↓D_p, ↓D_r, ↓nd_some, ↓ndr_some, ↓oV_some, ↓ev_rst, has_cons, has_nil, P_mv, P_pick, pickV_true, pickV_false, P_bin, P_un, P_cnv, cnvV_int, P_mkif, P_mkfn, P_fadr, P_fld, P_iadr, P_idx, P_len, P_mn, P_mx, foldV_two, mn2_int, mx2_int, unA_not, unA_neg, B_add, B_sub, B_mul, B_quo, B_rem, B_eql, B_neq, B_lss, B_leq, B_gtr, B_geq, R_load, wants_ev, gV_t, gV_f, ↓evPut, ↓ev_c, ↓ev_f, ↓ev_g, isC_t, isC_c, isC_f, isC_g, ↓reduceIte, Nat.reduceEqDiff, Nat.reduceBEq, Bool.or_self, Bool.or_false, Bool.or_true, Bool.false_or, Bool.true_or, Bool.and_true, Bool.and_false, Bool.true_and, Bool.false_and, Bool.not_true, Bool.not_false, Bool.false_eq_true, ofArgs, List.map_cons, List.map_nil, List.nil_append, List.append_nil, List.cons_append, Nat.reduceAdd, calleeA, beq_self_eq_true, decide_true, decide_false, lenV_sl t38 hv, h1, h2, h3]
              simp
      · cases hg
    · cases hg
  · cases hg
end Go.Proofs.YtaegmplbkbaniaaGreatDoor
