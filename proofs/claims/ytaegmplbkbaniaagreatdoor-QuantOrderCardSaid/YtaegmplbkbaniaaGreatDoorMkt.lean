import Derived.Test.YtaegmplbkbaniaaGreatDoorVct
/-
  slices.DeleteFunc, IndexFunc, Clone over vectors that all may be, in the machine (quant.Make leans on them). No condition.
-/
set_option linter.all false
namespace Go.Proofs.YtaegmplbkbaniaaGreatDoor
open Go
attribute [local irreducible] VO VC VD VD1 V1 nx nd ndr sq cIf gO oQ oP oA oC oV oIf oB fin rd' outB WC WF WO WD W1
set_option maxRecDepth 100000
/-! ### 80 -/
abbrev r80_0 : List Lo := [
  ⟨(some 2), (.p (.mv (.c (.slice none 0 0)))), none⟩]
abbrev r80_1 : List Lo := [
  ⟨(some 3), (.p (.mv (.t 0))), none⟩,
  ⟨(some 4), (.p (.bin .eql 36 (.t 3) (.c (.slice none 0 0)))), none⟩]
abbrev r80_2 : List Lo := [
  ⟨(some 2), (.p (.mv (.c (.slice none 0 0)))), none⟩]
abbrev r80_3 : List Lo := [
  ⟨(some 5), (.a (.bsl 36 0 [])), none⟩,
  ⟨(some 6), (.p (.mv (.t 0))), none⟩,
  ⟨(some 7), (.e (.app 36 (.t 5) (.t 6))), none⟩,
  ⟨(some 2), (.p (.mv (.t 7))), none⟩]
def c80 : AFun := ⟨(.seq (.reg r80_0) (.seq (.seq (.reg r80_1) (.cond (.t 4) (.seq (.reg r80_2) .ret) .skip)) (.seq (.reg r80_3) .ret))), [.t 2], 8⟩
theorem p80 : progOf Tryz.prog 80 = some c80 := by kernel_rfl
/-! ### 79 -/
abbrev r79_0 : List Lo := [
  ⟨(some 4), (.p (.mv (.c (.slice none 0 0)))), none⟩]
abbrev r79_1 : List Lo := [
  ⟨(some 8), (.p (.mv (.t 0))), none⟩,
  ⟨(some 9), (.p (.mv (.t 1))), none⟩,
  ⟨(some 10), (.call (.f 98) [(.t 8), (.t 9)]), none⟩,
  ⟨(some 5), (.p (.mv (.t 10))), none⟩]
abbrev r79_2 : List Lo := [
  ⟨(some 11), (.p (.mv (.t 5))), none⟩,
  ⟨(some 12), (.p (.bin .eql 3 (.t 11) (.c (.int .i64 (-1))))), none⟩]
abbrev r79_3 : List Lo := [
  ⟨(some 13), (.p (.mv (.t 0))), none⟩,
  ⟨(some 4), (.p (.mv (.t 13))), none⟩]
abbrev r79_4 : List Lo := [
  ⟨(some 14), (.p (.mv (.t 5))), none⟩,
  ⟨(some 15), (.p (.bin .add 3 (.t 14) (.c (.int .i64 1)))), none⟩,
  ⟨(some 6), (.p (.mv (.t 15))), none⟩]
abbrev r79_5 : List Lo := [
  ⟨(some 16), (.p (.mv (.t 6))), none⟩,
  ⟨(some 17), (.p (.mv (.t 0))), none⟩,
  ⟨(some 18), (.p (.len 36 (.t 17))), none⟩,
  ⟨(some 19), (.p (.bin .lss 3 (.t 16) (.t 18))), none⟩]
abbrev r79_6 : List Lo := [
  ⟨(some 22), (.p (.mv (.t 0))), none⟩,
  ⟨(some 23), (.p (.mv (.t 6))), none⟩,
  ⟨(some 24), (.p (.iadr 36 (.t 22) (.t 23))), none⟩,
  ⟨(some 25), (.r (.load 38 (.t 24))), none⟩,
  ⟨(some 7), (.p (.mv (.t 25))), none⟩]
abbrev r79_7 : List Lo := [
  ⟨(some 26), (.p (.mv (.t 1))), none⟩,
  ⟨(some 27), (.p (.mv (.t 7))), none⟩,
  ⟨(some 28), (.call (.t 26) [(.t 27)]), none⟩,
  ⟨(some 29), (.p (.un .not (.t 28))), none⟩]
abbrev r79_8 : List Lo := [
  ⟨(some 30), (.p (.mv (.t 0))), none⟩,
  ⟨(some 31), (.p (.mv (.t 5))), none⟩,
  ⟨(some 32), (.p (.mv (.t 7))), none⟩,
  ⟨(some 33), (.p (.iadr 36 (.t 30) (.t 31))), none⟩,
  ⟨none, (.e (.store 38 (.t 33) (.t 32))), none⟩]
abbrev r79_9 : List Lo := [
  ⟨(some 34), (.p (.mv (.t 5))), none⟩,
  ⟨(some 35), (.p (.bin .add 3 (.t 34) (.c (.int .i64 1)))), none⟩,
  ⟨(some 5), (.p (.mv (.t 35))), none⟩]
abbrev r79_10 : List Lo := [
  ⟨(some 20), (.p (.mv (.t 6))), none⟩,
  ⟨(some 21), (.p (.bin .add 3 (.t 20) (.c (.int .i64 1)))), none⟩,
  ⟨(some 6), (.p (.mv (.t 21))), none⟩]
def l79_11 : Ac := (.seq (.seq (.reg r79_5) (.cond (.t 19) .skip (.exit 0))) (.seq (.blk 1 (.seq (.reg r79_6) (.seq (.reg r79_7) (.cond (.t 29) (.seq (.reg r79_8) (.reg r79_9)) .skip)))) (.reg r79_10)))
abbrev r79_12 : List Lo := [
  ⟨(some 36), (.p (.mv (.t 0))), none⟩,
  ⟨(some 37), (.p (.mv (.t 5))), none⟩,
  ⟨(some 38), (.p (.slc 36 (.t 36) (some (.t 37)) none none)), none⟩,
  ⟨none, (.e (.clr 36 (.t 38))), none⟩]
abbrev r79_13 : List Lo := [
  ⟨(some 39), (.p (.mv (.t 0))), none⟩,
  ⟨(some 40), (.p (.mv (.t 5))), none⟩,
  ⟨(some 41), (.p (.slc 36 (.t 39) none (some (.t 40)) none)), none⟩,
  ⟨(some 4), (.p (.mv (.t 41))), none⟩]
def c79 : AFun := ⟨(.seq (.reg r79_0) (.seq (.reg r79_1) (.seq (.seq (.reg r79_2) (.cond (.t 12) (.seq (.reg r79_3) .ret) .skip)) (.seq (.seq (.reg r79_4) (.blk 0 (.loop l79_11))) (.seq (.reg r79_12) (.seq (.reg r79_13) .ret)))))), [.t 4], 42⟩
theorem p79 : progOf Tryz.prog 79 = some c79 := by kernel_rfl
/-! ### 98 -/
abbrev r98_0 : List Lo := [
  ⟨(some 4), (.p (.mv (.c (.int .i64 0)))), none⟩]
abbrev r98_1 : List Lo := [
  ⟨(some 6), (.p (.mv (.t 0))), none⟩,
  ⟨(some 7), (.p (.len 36 (.t 6))), none⟩,
  ⟨(some 8), (.p (.mv (.c (.int .i64 0)))), none⟩]
abbrev r98_2 : List Lo := [
  ⟨(some 9), (.p (.bin .lss 3 (.t 8) (.t 7))), none⟩]
abbrev r98_3 : List Lo := [
  ⟨(some 10), (.p (.mv (.t 8))), none⟩,
  ⟨(some 5), (.p (.mv (.t 10))), none⟩]
abbrev r98_4 : List Lo := [
  ⟨(some 11), (.p (.mv (.t 1))), none⟩,
  ⟨(some 12), (.p (.mv (.t 0))), none⟩,
  ⟨(some 13), (.p (.mv (.t 5))), none⟩,
  ⟨(some 14), (.p (.iadr 36 (.t 12) (.t 13))), none⟩,
  ⟨(some 15), (.r (.load 38 (.t 14))), none⟩,
  ⟨(some 16), (.call (.t 11) [(.t 15)]), none⟩]
abbrev r98_5 : List Lo := [
  ⟨(some 17), (.p (.mv (.t 5))), none⟩,
  ⟨(some 4), (.p (.mv (.t 17))), none⟩]
abbrev r98_6 : List Lo := [
  ⟨(some 18), (.p (.bin .add 3 (.t 8) (.c (.int .i64 1)))), none⟩,
  ⟨(some 8), (.p (.mv (.t 18))), none⟩]
def l98_7 : Ac := (.seq (.reg r98_2) (.seq (.cond (.t 9) .skip (.exit 0)) (.seq (.blk 1 (.seq (.reg r98_3) (.seq (.reg r98_4) (.cond (.t 16) (.seq (.reg r98_5) .ret) .skip)))) (.reg r98_6))))
abbrev r98_8 : List Lo := [
  ⟨(some 4), (.p (.mv (.c (.int .i64 (-1))))), none⟩]
def c98 : AFun := ⟨(.seq (.reg r98_0) (.seq (.seq (.reg r98_1) (.blk 0 (.loop l98_7))) (.seq (.reg r98_8) .ret))), [.t 4], 19⟩
theorem p98 : progOf Tryz.prog 98 = some c98 := by kernel_rfl
/-! ### 81 -/
abbrev r81_0 : List Lo := [
  ⟨(some 3), (.p (.mv (.c (.bool false)))), none⟩]
abbrev r81_1 : List Lo := [
  ⟨(some 4), (.p (.mv (.t 0))), none⟩,
  ⟨(some 5), (.r (.load 3 (.t 1))), none⟩,
  ⟨(some 6), (.call (.f 32) [(.t 4), (.t 5)]), none⟩,
  ⟨(some 7), (.p (.un .not (.t 6))), none⟩,
  ⟨(some 3), (.p (.mv (.t 7))), none⟩]
def c81 : AFun := ⟨(.seq (.reg r81_0) (.seq (.reg r81_1) .ret)), [.t 3], 8⟩
theorem p81 : progOf Tryz.prog 81 = some c81 := by kernel_rfl

set_option maxRecDepth 4000
attribute [local irreducible] gD ndc oAd
theorem g32_run {H : Hp} {v : Value} {zs : List Int} (hv : IsSl .i32 H v zs) (hl : zs.length < 9223372036854775807) (dim : Int) : g32 [v, .int .i64 dim] H = some (.bool (mayL zs dim), H) := by
  unfold g32
  simp only [hv.rd]
  rw [if_pos hl]
theorem wf81 (x : FuncId → Option GF) (hx : x 81 = none) (h32 : x 32 = some g32) {H : Hp} {v : Value} {zs : List Int} (hv : IsSl .i32 H v zs) (hl : zs.length < 9223372036854775807) {q dim : Nat} {s : Nat} {rw' : Bool} (hq : H.get q = some (.row (.lst [.int .i64 dim]) s rw')) :
    WF (envT x) 81 [v, .pointer (some ⟨q, 0, none⟩)] H fun r H' => r = .bool (!mayL zs dim) ∧ H' = H := by
  refine WF.go hx p81 rfl ?_
  have t3 : (envT x).ty 3 = _ := ty3
  unfold c81
  simp -implicitDefEqProofs only [↓D_if, gD_true, gD_false, ↓D_a, ↓D_e, ↓D_call, ↓ndc_0, Hp.get_put, Hp.get_alloc, ldR_lst, List.getElem?_map, List.length_map, List.length_set, A_mksl, E_store, omap_some, omap_none, bndV_none, ↓lp_nrm, ↓lp_exit, ↓lp_ret, ↓C_skip, ↓C_reg, ↓C_dreg, ↓C_seq, ↓C_cond, ↓C_blk, ↓C_loop, ↓C_exit, ↓C_ret, ↓sq_nrm, ↓sq_exit, ↓sq_ret, ↓outB_nrm, ↓outB_ret, ↓outB_exit, ↓fin_nrm, ↓fin_ret, ↓fin_ret0, ↓fin_nrm0, ↓fin_ret2, ↓rd_nrm, ↓rd_exit, ↓rd_ret, ↓cIf_true, ↓cIf_false, ↓VO_nil, ↓VO_go, ↓VO_if, ↓nx_some, ↓nx_none, putD_some, putD_none, ↓V_p, ↓V_r, ↓V_a, ↓V_e, ↓V_call, ↓V_inv, ↓oQ_some, ↓oP_some, ↓oA_some, ↓oC_some, gO_true, gO_false, ↓gO_true, ↓gO_false, cIf_true, cIf_false, oQ_some, oP_some, oA_some, oC_some, oV_some,  reserve0, ↓D_nil, ↓D_p, ↓D_r, ↓nd_some, ↓ndr_some, ↓oV_some, ↓ev_rst, has_cons, has_nil, P_mv, P_pick, pickV_true, pickV_false, P_bin, P_un, P_cnv, cnvV_int, P_mkif, P_mkfn, P_fadr, P_fld, P_iadr, P_idx, P_len, P_mn, P_mx, foldV_two, mn2_int, mx2_int, unA_not, unA_neg, B_add, B_sub, B_mul, B_quo, B_rem, B_eql, B_neq, B_lss, B_leq, B_gtr, B_geq, R_load, wants_ev, gV_t, gV_f, ↓evPut, ↓ev_c, ↓ev_f, ↓ev_g, isC_t, isC_c, isC_f, isC_g, ↓reduceIte, Nat.reduceEqDiff, Nat.reduceBEq, Bool.or_self, Bool.or_false, Bool.or_true, Bool.false_or, Bool.true_or, Bool.and_true, Bool.and_false, Bool.true_and, Bool.false_and, Bool.not_true, Bool.not_false, Bool.false_eq_true, ofArgs, List.map_cons, List.map_nil, List.nil_append, List.append_nil, List.cons_append, Nat.reduceAdd, calleeA, beq_self_eq_true, decide_true, decide_false, loadV_ptr rfl t3, hq, List.getElem?_cons_zero]
  refine WF.ext (E := envT x) (f := 32) (g := g32) h32 (g32_run hv hl dim) ?_
  simp -implicitDefEqProofs only [↓D_if, gD_true, gD_false, ↓D_a, ↓D_e, ↓D_call, ↓ndc_0, Hp.get_put, Hp.get_alloc, ldR_lst, List.getElem?_map, List.length_map, List.length_set, A_mksl, E_store, omap_some, omap_none, bndV_none, ↓lp_nrm, ↓lp_exit, ↓lp_ret, ↓C_skip, ↓C_reg, ↓C_dreg, ↓C_seq, ↓C_cond, ↓C_blk, ↓C_loop, ↓C_exit, ↓C_ret, ↓sq_nrm, ↓sq_exit, ↓sq_ret, ↓outB_nrm, ↓outB_ret, ↓outB_exit, ↓fin_nrm, ↓fin_ret, ↓fin_ret0, ↓fin_nrm0, ↓fin_ret2, ↓rd_nrm, ↓rd_exit, ↓rd_ret, ↓cIf_true, ↓cIf_false, ↓VO_nil, ↓VO_go, ↓VO_if, ↓nx_some, ↓nx_none, putD_some, putD_none, ↓V_p, ↓V_r, ↓V_a, ↓V_e, ↓V_call, ↓V_inv, ↓oQ_some, ↓oP_some, ↓oA_some, ↓oC_some, gO_true, gO_false, ↓gO_true, ↓gO_false, cIf_true, cIf_false, oQ_some, oP_some, oA_some, oC_some, oV_some,  reserve0, ↓D_nil, ↓D_p, ↓D_r, ↓nd_some, ↓ndr_some, ↓oV_some, ↓ev_rst, has_cons, has_nil, P_mv, P_pick, pickV_true, pickV_false, P_bin, P_un, P_cnv, cnvV_int, P_mkif, P_mkfn, P_fadr, P_fld, P_iadr, P_idx, P_len, P_mn, P_mx, foldV_two, mn2_int, mx2_int, unA_not, unA_neg, B_add, B_sub, B_mul, B_quo, B_rem, B_eql, B_neq, B_lss, B_leq, B_gtr, B_geq, R_load, wants_ev, gV_t, gV_f, ↓evPut, ↓ev_c, ↓ev_f, ↓ev_g, isC_t, isC_c, isC_f, isC_g, ↓reduceIte, Nat.reduceEqDiff, Nat.reduceBEq, Bool.or_self, Bool.or_false, Bool.or_true, Bool.false_or, Bool.true_or, Bool.and_true, Bool.and_false, Bool.true_and, Bool.false_and, Bool.not_true, Bool.not_false, Bool.false_eq_true, ofArgs, List.map_cons, List.map_nil, List.nil_append, List.append_nil, List.cons_append, Nat.reduceAdd, calleeA, beq_self_eq_true, decide_true, decide_false]
  trivial
def clo (q : Nat) : Value := .func (.func 81) #[] #[.pointer (some ⟨q, 0, none⟩)]
def I98 (H : Hp) (v : Value) (q : Nat) (L : List (List Int)) (d : Nat) (t : Tr Value) (H' : Hp) : Prop :=
  H' = H ∧ ∃ i : Nat, i + d = L.length ∧ Od.ev t (.t 0) = v ∧ Od.ev t (.t 1) = clo q ∧ Od.ev t (.t 7) = .int .i64 ((L.length : Nat) : Int) ∧ Od.ev t (.t 8) = .int .i64 i
theorem wf98 (x : FuncId → Option GF) (hx : x 98 = none) (hx2 : x 81 = none) (h32 : x 32 = some g32) {H : Hp} {v : Value} {L : List (List Int)} (hv : IsVs H v L) (hL : L.length ≤ 65536) {q dim : Nat} {s : Nat} {rw' : Bool} (hq : H.get q = some (.row (.lst [.int .i64 dim]) s rw'))
    (hm : ∀ z ∈ L, mayL z dim = true ∧ z.length < 9223372036854775807) :
    WF (envT x) 98 [v, clo q] H fun r H' => r = .int .i64 (-1) ∧ H' = H := by
  refine WF.go hx p98 rfl ?_
  have t36 : (envT x).ty 36 = _ := ty36
  have t38 : (envT x).ty 38 = _ := ty38
  unfold c98
  simp -implicitDefEqProofs only [↓D_if, gD_true, gD_false, ↓D_a, ↓D_e, ↓D_call, ↓ndc_0, Hp.get_put, Hp.get_alloc, ldR_lst, List.getElem?_map, List.length_map, List.length_set, A_mksl, E_store, omap_some, omap_none, bndV_none, ↓lp_nrm, ↓lp_exit, ↓lp_ret, ↓C_skip, ↓C_reg, ↓C_dreg, ↓C_seq, ↓C_cond, ↓C_blk, ↓C_loop, ↓C_exit, ↓C_ret, ↓sq_nrm, ↓sq_exit, ↓sq_ret, ↓outB_nrm, ↓outB_ret, ↓outB_exit, ↓fin_nrm, ↓fin_ret, ↓fin_ret0, ↓fin_nrm0, ↓fin_ret2, ↓rd_nrm, ↓rd_exit, ↓rd_ret, ↓cIf_true, ↓cIf_false, ↓VO_nil, ↓VO_go, ↓VO_if, ↓nx_some, ↓nx_none, putD_some, putD_none, ↓V_p, ↓V_r, ↓V_a, ↓V_e, ↓V_call, ↓V_inv, ↓oQ_some, ↓oP_some, ↓oA_some, ↓oC_some, gO_true, gO_false, ↓gO_true, ↓gO_false, cIf_true, cIf_false, oQ_some, oP_some, oA_some, oC_some, oV_some,  reserve0, ↓D_nil, ↓D_p, ↓D_r, ↓nd_some, ↓ndr_some, ↓oV_some, ↓ev_rst, has_cons, has_nil, P_mv, P_pick, pickV_true, pickV_false, P_bin, P_un, P_cnv, cnvV_int, P_mkif, P_mkfn, P_fadr, P_fld, P_iadr, P_idx, P_len, P_mn, P_mx, foldV_two, mn2_int, mx2_int, unA_not, unA_neg, B_add, B_sub, B_mul, B_quo, B_rem, B_eql, B_neq, B_lss, B_leq, B_gtr, B_geq, R_load, wants_ev, gV_t, gV_f, ↓evPut, ↓ev_c, ↓ev_f, ↓ev_g, isC_t, isC_c, isC_f, isC_g, ↓reduceIte, Nat.reduceEqDiff, Nat.reduceBEq, Bool.or_self, Bool.or_false, Bool.or_true, Bool.false_or, Bool.true_or, Bool.and_true, Bool.and_false, Bool.true_and, Bool.false_and, Bool.not_true, Bool.not_false, Bool.false_eq_true, ofArgs, List.map_cons, List.map_nil, List.nil_append, List.append_nil, List.cons_append, Nat.reduceAdd, calleeA, beq_self_eq_true, decide_true, decide_false, lenV_vs t36 hv]
  refine VC.loop (I98 H v q L) (fun d t H' h => ?_) (d := L.length) ⟨rfl, 0, by omega, by simp only [↓evPut, ↓ev_c, ↓reduceIte, Nat.reduceEqDiff], by simp only [↓evPut, ↓ev_c, ↓reduceIte, Nat.reduceEqDiff], by simp only [↓evPut, ↓ev_c, ↓reduceIte, Nat.reduceEqDiff], by simp only [↓evPut, ↓ev_c, ↓reduceIte, Nat.reduceEqDiff]; rfl⟩
  obtain ⟨rfl, i, hd, h0, h1, h7, h8⟩ := h
  unfold l98_7
  simp -implicitDefEqProofs only [↓D_if, gD_true, gD_false, ↓D_a, ↓D_e, ↓D_call, ↓ndc_0, Hp.get_put, Hp.get_alloc, ldR_lst, List.getElem?_map, List.length_map, List.length_set, A_mksl, E_store, omap_some, omap_none, bndV_none, ↓lp_nrm, ↓lp_exit, ↓lp_ret, ↓C_skip, ↓C_reg, ↓C_dreg, ↓C_seq, ↓C_cond, ↓C_blk, ↓C_loop, ↓C_exit, ↓C_ret, ↓sq_nrm, ↓sq_exit, ↓sq_ret, ↓outB_nrm, ↓outB_ret, ↓outB_exit, ↓fin_nrm, ↓fin_ret, ↓fin_ret0, ↓fin_nrm0, ↓fin_ret2, ↓rd_nrm, ↓rd_exit, ↓rd_ret, ↓cIf_true, ↓cIf_false, ↓VO_nil, ↓VO_go, ↓VO_if, ↓nx_some, ↓nx_none, putD_some, putD_none, ↓V_p, ↓V_r, ↓V_a, ↓V_e, ↓V_call, ↓V_inv, ↓oQ_some, ↓oP_some, ↓oA_some, ↓oC_some, gO_true, gO_false, ↓gO_true, ↓gO_false, cIf_true, cIf_false, oQ_some, oP_some, oA_some, oC_some, oV_some,  reserve0, ↓D_nil, ↓D_p, ↓D_r, ↓nd_some, ↓ndr_some, ↓oV_some, ↓ev_rst, has_cons, has_nil, P_mv, P_pick, pickV_true, pickV_false, P_bin, P_un, P_cnv, cnvV_int, P_mkif, P_mkfn, P_fadr, P_fld, P_iadr, P_idx, P_len, P_mn, P_mx, foldV_two, mn2_int, mx2_int, unA_not, unA_neg, B_add, B_sub, B_mul, B_quo, B_rem, B_eql, B_neq, B_lss, B_leq, B_gtr, B_geq, R_load, wants_ev, gV_t, gV_f, ↓evPut, ↓ev_c, ↓ev_f, ↓ev_g, isC_t, isC_c, isC_f, isC_g, ↓reduceIte, Nat.reduceEqDiff, Nat.reduceBEq, Bool.or_self, Bool.or_false, Bool.or_true, Bool.false_or, Bool.true_or, Bool.and_true, Bool.and_false, Bool.true_and, Bool.false_and, Bool.not_true, Bool.not_false, Bool.false_eq_true, ofArgs, List.map_cons, List.map_nil, List.nil_append, List.append_nil, List.cons_append, Nat.reduceAdd, calleeA, beq_self_eq_true, decide_true, decide_false, h8, h7]
  by_cases hi : i < L.length
  · rw [cIf_yes (by omega)]
    have wi := wrapSucc (i := i) (by omega)
    obtain ⟨c, hc, hcs⟩ := load_vs t38 hv hi
    have hmi := hm L[i] (List.getElem_mem hi)
    have h1' : Od.ev t (.t 1) = .func (.func 81) #[] #[.pointer (some ⟨q, 0, none⟩)] := h1
    simp -implicitDefEqProofs only [↓D_if, gD_true, gD_false, ↓D_a, ↓D_e, ↓D_call, ↓ndc_0, Hp.get_put, Hp.get_alloc, ldR_lst, List.getElem?_map, List.length_map, List.length_set, A_mksl, E_store, omap_some, omap_none, bndV_none, ↓lp_nrm, ↓lp_exit, ↓lp_ret, ↓C_skip, ↓C_reg, ↓C_dreg, ↓C_seq, ↓C_cond, ↓C_blk, ↓C_loop, ↓C_exit, ↓C_ret, ↓sq_nrm, ↓sq_exit, ↓sq_ret, ↓outB_nrm, ↓outB_ret, ↓outB_exit, ↓fin_nrm, ↓fin_ret, ↓fin_ret0, ↓fin_nrm0, ↓fin_ret2, ↓rd_nrm, ↓rd_exit, ↓rd_ret, ↓cIf_true, ↓cIf_false, ↓VO_nil, ↓VO_go, ↓VO_if, ↓nx_some, ↓nx_none, putD_some, putD_none, ↓V_p, ↓V_r, ↓V_a, ↓V_e, ↓V_call, ↓V_inv, ↓oQ_some, ↓oP_some, ↓oA_some, ↓oC_some, gO_true, gO_false, ↓gO_true, ↓gO_false, cIf_true, cIf_false, oQ_some, oP_some, oA_some, oC_some, oV_some,  reserve0, ↓D_nil, ↓D_p, ↓D_r, ↓nd_some, ↓ndr_some, ↓oV_some, ↓ev_rst, has_cons, has_nil, P_mv, P_pick, pickV_true, pickV_false, P_bin, P_un, P_cnv, cnvV_int, P_mkif, P_mkfn, P_fadr, P_fld, P_iadr, P_idx, P_len, P_mn, P_mx, foldV_two, mn2_int, mx2_int, unA_not, unA_neg, B_add, B_sub, B_mul, B_quo, B_rem, B_eql, B_neq, B_lss, B_leq, B_gtr, B_geq, R_load, wants_ev, gV_t, gV_f, ↓evPut, ↓ev_c, ↓ev_f, ↓ev_g, isC_t, isC_c, isC_f, isC_g, ↓reduceIte, Nat.reduceEqDiff, Nat.reduceBEq, Bool.or_self, Bool.or_false, Bool.or_true, Bool.false_or, Bool.true_or, Bool.and_true, Bool.and_false, Bool.true_and, Bool.false_and, Bool.not_true, Bool.not_false, Bool.false_eq_true, ofArgs, List.map_cons, List.map_nil, List.nil_append, List.append_nil, List.cons_append, Nat.reduceAdd, calleeA, beq_self_eq_true, decide_true, decide_false, h0, h1', h7, h8, iadr_vs t36 t38 hv (Int.natCast_nonneg i) (by omega : (i : Int) < L.length), Int.toNat_natCast, hc]
    refine (wf81 x hx2 h32 hcs hmi.2 hq).mono fun r H2 hr => ?_
    obtain ⟨rfl, rfl⟩ := hr
    rw [hmi.1]
    simp -implicitDefEqProofs only [↓D_if, gD_true, gD_false, ↓D_a, ↓D_e, ↓D_call, ↓ndc_0, Hp.get_put, Hp.get_alloc, ldR_lst, List.getElem?_map, List.length_map, List.length_set, A_mksl, E_store, omap_some, omap_none, bndV_none, ↓lp_nrm, ↓lp_exit, ↓lp_ret, ↓C_skip, ↓C_reg, ↓C_dreg, ↓C_seq, ↓C_cond, ↓C_blk, ↓C_loop, ↓C_exit, ↓C_ret, ↓sq_nrm, ↓sq_exit, ↓sq_ret, ↓outB_nrm, ↓outB_ret, ↓outB_exit, ↓fin_nrm, ↓fin_ret, ↓fin_ret0, ↓fin_nrm0, ↓fin_ret2, ↓rd_nrm, ↓rd_exit, ↓rd_ret, ↓cIf_true, ↓cIf_false, ↓VO_nil, ↓VO_go, ↓VO_if, ↓nx_some, ↓nx_none, putD_some, putD_none, ↓V_p, ↓V_r, ↓V_a, ↓V_e, ↓V_call, ↓V_inv, ↓oQ_some, ↓oP_some, ↓oA_some, ↓oC_some, gO_true, gO_false, ↓gO_true, ↓gO_false, cIf_true, cIf_false, oQ_some, oP_some, oA_some, oC_some, oV_some,  reserve0, ↓D_nil, ↓D_p, ↓D_r, ↓nd_some, ↓ndr_some, ↓oV_some, ↓ev_rst, has_cons, has_nil, P_mv, P_pick, pickV_true, pickV_false, P_bin, P_un, P_cnv, cnvV_int, P_mkif, P_mkfn, P_fadr, P_fld, P_iadr, P_idx, P_len, P_mn, P_mx, foldV_two, mn2_int, mx2_int, unA_not, unA_neg, B_add, B_sub, B_mul, B_quo, B_rem, B_eql, B_neq, B_lss, B_leq, B_gtr, B_geq, R_load, wants_ev, gV_t, gV_f, ↓evPut, ↓ev_c, ↓ev_f, ↓ev_g, isC_t, isC_c, isC_f, isC_g, ↓reduceIte, Nat.reduceEqDiff, Nat.reduceBEq, Bool.or_self, Bool.or_false, Bool.or_true, Bool.false_or, Bool.true_or, Bool.and_true, Bool.and_false, Bool.true_and, Bool.false_and, Bool.not_true, Bool.not_false, Bool.false_eq_true, ofArgs, List.map_cons, List.map_nil, List.nil_append, List.append_nil, List.cons_append, Nat.reduceAdd, calleeA, beq_self_eq_true, decide_true, decide_false, h0, h1', h7, h8, wi]
    exact ⟨d - 1, by omega, rfl, i + 1, by omega, by simp only [↓evPut, ↓ev_c, ↓reduceIte, Nat.reduceEqDiff, h0], by simp only [↓evPut, ↓ev_c, ↓reduceIte, Nat.reduceEqDiff]; exact h1, by simp only [↓evPut, ↓ev_c, ↓reduceIte, Nat.reduceEqDiff, h7], by simp only [↓evPut, ↓ev_c, ↓reduceIte, Nat.reduceEqDiff]⟩
  · rw [cIf_no (by omega)]
    simp -implicitDefEqProofs only [↓D_if, gD_true, gD_false, ↓D_a, ↓D_e, ↓D_call, ↓ndc_0, Hp.get_put, Hp.get_alloc, ldR_lst, List.getElem?_map, List.length_map, List.length_set, A_mksl, E_store, omap_some, omap_none, bndV_none, ↓lp_nrm, ↓lp_exit, ↓lp_ret, ↓C_skip, ↓C_reg, ↓C_dreg, ↓C_seq, ↓C_cond, ↓C_blk, ↓C_loop, ↓C_exit, ↓C_ret, ↓sq_nrm, ↓sq_exit, ↓sq_ret, ↓outB_nrm, ↓outB_ret, ↓outB_exit, ↓fin_nrm, ↓fin_ret, ↓fin_ret0, ↓fin_nrm0, ↓fin_ret2, ↓rd_nrm, ↓rd_exit, ↓rd_ret, ↓cIf_true, ↓cIf_false, ↓VO_nil, ↓VO_go, ↓VO_if, ↓nx_some, ↓nx_none, putD_some, putD_none, ↓V_p, ↓V_r, ↓V_a, ↓V_e, ↓V_call, ↓V_inv, ↓oQ_some, ↓oP_some, ↓oA_some, ↓oC_some, gO_true, gO_false, ↓gO_true, ↓gO_false, cIf_true, cIf_false, oQ_some, oP_some, oA_some, oC_some, oV_some,  reserve0, ↓D_nil, ↓D_p, ↓D_r, ↓nd_some, ↓ndr_some, ↓oV_some, ↓ev_rst, has_cons, has_nil, P_mv, P_pick, pickV_true, pickV_false, P_bin, P_un, P_cnv, cnvV_int, P_mkif, P_mkfn, P_fadr, P_fld, P_iadr, P_idx, P_len, P_mn, P_mx, foldV_two, mn2_int, mx2_int, unA_not, unA_neg, B_add, B_sub, B_mul, B_quo, B_rem, B_eql, B_neq, B_lss, B_leq, B_gtr, B_geq, R_load, wants_ev, gV_t, gV_f, ↓evPut, ↓ev_c, ↓ev_f, ↓ev_g, isC_t, isC_c, isC_f, isC_g, ↓reduceIte, Nat.reduceEqDiff, Nat.reduceBEq, Bool.or_self, Bool.or_false, Bool.or_true, Bool.false_or, Bool.true_or, Bool.and_true, Bool.and_false, Bool.true_and, Bool.false_and, Bool.not_true, Bool.not_false, Bool.false_eq_true, ofArgs, List.map_cons, List.map_nil, List.nil_append, List.append_nil, List.cons_append, Nat.reduceAdd, calleeA, beq_self_eq_true, decide_true, decide_false]
    trivial
theorem wf79 (x : FuncId → Option GF) (hx0 : x 79 = none) (hx : x 98 = none) (hx2 : x 81 = none) (h32 : x 32 = some g32) {H : Hp} {v : Value} {L : List (List Int)} (hv : IsVs H v L) (hL : L.length ≤ 65536) {q dim : Nat} {s : Nat} {rw' : Bool} (hq : H.get q = some (.row (.lst [.int .i64 dim]) s rw'))
    (hm : ∀ z ∈ L, mayL z dim = true ∧ z.length < 9223372036854775807) :
    WF (envT x) 79 [v, clo q] H fun r H' => r = v ∧ H' = H := by
  refine WF.go hx0 p79 rfl ?_
  unfold c79
  simp -implicitDefEqProofs only [↓D_if, gD_true, gD_false, ↓D_a, ↓D_e, ↓D_call, ↓ndc_0, Hp.get_put, Hp.get_alloc, ldR_lst, List.getElem?_map, List.length_map, List.length_set, A_mksl, E_store, omap_some, omap_none, bndV_none, ↓lp_nrm, ↓lp_exit, ↓lp_ret, ↓C_skip, ↓C_reg, ↓C_dreg, ↓C_seq, ↓C_cond, ↓C_blk, ↓C_loop, ↓C_exit, ↓C_ret, ↓sq_nrm, ↓sq_exit, ↓sq_ret, ↓outB_nrm, ↓outB_ret, ↓outB_exit, ↓fin_nrm, ↓fin_ret, ↓fin_ret0, ↓fin_nrm0, ↓fin_ret2, ↓rd_nrm, ↓rd_exit, ↓rd_ret, ↓cIf_true, ↓cIf_false, ↓VO_nil, ↓VO_go, ↓VO_if, ↓nx_some, ↓nx_none, putD_some, putD_none, ↓V_p, ↓V_r, ↓V_a, ↓V_e, ↓V_call, ↓V_inv, ↓oQ_some, ↓oP_some, ↓oA_some, ↓oC_some, gO_true, gO_false, ↓gO_true, ↓gO_false, cIf_true, cIf_false, oQ_some, oP_some, oA_some, oC_some, oV_some,  reserve0, ↓D_nil, ↓D_p, ↓D_r, ↓nd_some, ↓ndr_some, ↓oV_some, ↓ev_rst, has_cons, has_nil, P_mv, P_pick, pickV_true, pickV_false, P_bin, P_un, P_cnv, cnvV_int, P_mkif, P_mkfn, P_fadr, P_fld, P_iadr, P_idx, P_len, P_mn, P_mx, foldV_two, mn2_int, mx2_int, unA_not, unA_neg, B_add, B_sub, B_mul, B_quo, B_rem, B_eql, B_neq, B_lss, B_leq, B_gtr, B_geq, R_load, wants_ev, gV_t, gV_f, ↓evPut, ↓ev_c, ↓ev_f, ↓ev_g, isC_t, isC_c, isC_f, isC_g, ↓reduceIte, Nat.reduceEqDiff, Nat.reduceBEq, Bool.or_self, Bool.or_false, Bool.or_true, Bool.false_or, Bool.true_or, Bool.and_true, Bool.and_false, Bool.true_and, Bool.false_and, Bool.not_true, Bool.not_false, Bool.false_eq_true, ofArgs, List.map_cons, List.map_nil, List.nil_append, List.append_nil, List.cons_append, Nat.reduceAdd, calleeA, beq_self_eq_true, decide_true, decide_false]
  refine (wf98 x hx hx2 h32 hv hL hq hm).mono fun r H2 hr => ?_
  obtain ⟨rfl, rfl⟩ := hr
  simp -implicitDefEqProofs only [↓D_if, gD_true, gD_false, ↓D_a, ↓D_e, ↓D_call, ↓ndc_0, Hp.get_put, Hp.get_alloc, ldR_lst, List.getElem?_map, List.length_map, List.length_set, A_mksl, E_store, omap_some, omap_none, bndV_none, ↓lp_nrm, ↓lp_exit, ↓lp_ret, ↓C_skip, ↓C_reg, ↓C_dreg, ↓C_seq, ↓C_cond, ↓C_blk, ↓C_loop, ↓C_exit, ↓C_ret, ↓sq_nrm, ↓sq_exit, ↓sq_ret, ↓outB_nrm, ↓outB_ret, ↓outB_exit, ↓fin_nrm, ↓fin_ret, ↓fin_ret0, ↓fin_nrm0, ↓fin_ret2, ↓rd_nrm, ↓rd_exit, ↓rd_ret, ↓cIf_true, ↓cIf_false, ↓VO_nil, ↓VO_go, ↓VO_if, ↓nx_some, ↓nx_none, putD_some, putD_none, ↓V_p, ↓V_r, ↓V_a, ↓V_e, ↓V_call, ↓V_inv, ↓oQ_some, ↓oP_some, ↓oA_some, ↓oC_some, gO_true, gO_false, ↓gO_true, ↓gO_false, cIf_true, cIf_false, oQ_some, oP_some, oA_some, oC_some, oV_some,  reserve0, ↓D_nil, ↓D_p, ↓D_r, ↓nd_some, ↓ndr_some, ↓oV_some, ↓ev_rst, has_cons, has_nil, P_mv, P_pick, pickV_true, pickV_false, P_bin, P_un, P_cnv, cnvV_int, P_mkif, P_mkfn, P_fadr, P_fld, P_iadr, P_idx, P_len, P_mn, P_mx, foldV_two, mn2_int, mx2_int, unA_not, unA_neg, B_add, B_sub, B_mul, B_quo, B_rem, B_eql, B_neq, B_lss, B_leq, B_gtr, B_geq, R_load, wants_ev, gV_t, gV_f, ↓evPut, ↓ev_c, ↓ev_f, ↓ev_g, isC_t, isC_c, isC_f, isC_g, ↓reduceIte, Nat.reduceEqDiff, Nat.reduceBEq, Bool.or_self, Bool.or_false, Bool.or_true, Bool.false_or, Bool.true_or, Bool.and_true, Bool.and_false, Bool.true_and, Bool.false_and, Bool.not_true, Bool.not_false, Bool.false_eq_true, ofArgs, List.map_cons, List.map_nil, List.nil_append, List.append_nil, List.cons_append, Nat.reduceAdd, calleeA, beq_self_eq_true, decide_true, decide_false]
  trivial
theorem eqS_some {E : Env} {T e b1 sz : Nat} {z : Option (List Value)} {c c' : Bool} (hT : E.ty T = some ⟨.slc e, sz, b1, z, c⟩) (a : Addr) (n m : Nat) : binA E .eql T c' (.slice (some a) n m) (.slice none 0 0) = some (.bool false) := by
  simp [binA, hT, eqA]
theorem eqS_none {E : Env} {T e b1 sz : Nat} {z : Option (List Value)} {c c' : Bool} (hT : E.ty T = some ⟨.slc e, sz, b1, z, c⟩) : binA E .eql T c' (.slice none 0 0) (.slice none 0 0) = some (.bool true) := by
  simp [binA, hT, eqA]
theorem bslV_nil {E : Env} {T e b1 b2 : Nat} {z : Option (List Value)} {z0 : Value} {c c2 : Bool} {k : DK} (hT : E.ty T = some ⟨.slc e, 1, b1, z, c⟩) (he : E.ty e = some ⟨k, 1, b2, some [z0], c2⟩) :
    bslV E T 0 [] = some (.row (.lst []) 0 true, fun i => .slice (some ⟨i, 0, some 3⟩) 0 0) := by
  unfold bslV
  simp only [hT, he]
  rw [if_pos (by simp)]
  simp [fillA, rep]
/-- All of a slice put behind an empty one. -/
theorem appV_all {E : Env} {H : Hp} {T e b1 b2 : Nat} {z : Option (List Value)} {z0 : Value} {c c2 : Bool} {k : DK} (hT : E.ty T = some ⟨.slc e, 1, b1, z, c⟩) (he : E.ty e = some ⟨k, 1, b2, some [z0], c2⟩) (hb : b2 ≤ 64) {xb b : Nat} {l : List Value}
    (hx : H.get xb = some (.row (.lst []) 0 true)) (hl : H.get b = some (.row (.lst l) 0 true)) (hn : l.length ≤ 65536) (h0 : 0 < l.length) :
    appV E H T (.slice (some ⟨xb, 0, some 3⟩) 0 0) (.slice (some ⟨b, 0, some 2⟩) l.length l.length) = some (.slice (some ⟨H.n, 0, some 2⟩) l.length l.length, H.alloc (.row (.lst l) 0 true)) := by
  unfold appV
  simp only [hT, he, lenA, srcCells]
  rw [if_pos (by simp)]
  have hr : H.rd b 0 (l.length * 1) = some l := by rw [Hp.rd_lst hl (by simp)]; simp
  simp only [hr]
  rw [show Nat.beq [z0].length 1 = true from rfl]
  simp only [appA]
  have hbb : l.length * b2 ≤ 65536 * 64 := Nat.mul_le_mul hn hb
  have hr0 : H.rd xb 0 (0 * 1) = some [] := by rw [Hp.rd_lst hx (by simp)]; rfl
  rw [if_pos (by simp), if_neg (by omega), if_pos (by simp; omega), if_pos (by decide)]
  simp only [hr0, List.nil_append, Nat.zero_add]
theorem OwnVs.vs {H : Hp} {n0 dim : Nat} {v : Value} {L : List (List Int)} (own : OwnVs H n0 v dim L) (hf : ∀ z ∈ L, ∀ x ∈ z, IntKind.i32.wrap x = x) : IsVs H v L := by
  rcases own.is with ⟨rfl, rfl⟩ | ⟨b, cells, rfl, hb0, hb1, hg, hl, hc⟩
  · exact ⟨.inl ⟨.inl rfl, rfl⟩⟩
  · refine ⟨.inr ⟨b, 0, 2, L.length, cells, rfl, .inl rfl, Nat.le_refl _, hb1, ?_, fun j hj => ?_⟩⟩
    · rw [Hp.rd_lst hg (by omega), ← hl]; simp
    · obtain ⟨c, c1, c2, c3, c4, c5, c6⟩ := hc j hj
      refine ⟨_, c1, ?_⟩
      have := IsSl.own (H := H) (k := .i32) (b := c) (zs := L[j]) (s := 3) (cap := dim) c5 (.inr rfl) (by omega) (hf _ (List.getElem_mem hj))
      rw [c6] at this; exact this
theorem wf80 (x : FuncId → Option GF) (hx : x 80 = none) {H : Hp} (wf : Wf H) {n0 dim : Nat} {v : Value} {L : List (List Int)} (own : OwnVs H n0 v dim L) (hL : L.length ≤ 65536) (hf : ∀ z ∈ L, ∀ x ∈ z, IntKind.i32.wrap x = x) :
    WF (envT x) 80 [v] H fun r H' => Wf H' ∧ (∀ b, b < H.n → H'.get b = H.get b) ∧ H.n ≤ H'.n ∧ IsVs H' r L := by
  refine WF.go hx p80 rfl ?_
  have t36 : (envT x).ty 36 = _ := ty36
  have t38 : (envT x).ty 38 = _ := ty38
  have hvs := own.vs hf
  unfold c80
  rcases own.is with ⟨rfl, rfl⟩ | ⟨b, cells, rfl, hb0, hb1, hg, hl, hc⟩
  · simp -implicitDefEqProofs only [↓D_if, gD_true, gD_false, ↓D_a, ↓D_e, ↓D_call, ↓ndc_0, Hp.get_put, Hp.get_alloc, ldR_lst, List.getElem?_map, List.length_map, List.length_set, A_mksl, E_store, omap_some, omap_none, bndV_none, ↓lp_nrm, ↓lp_exit, ↓lp_ret, ↓C_skip, ↓C_reg, ↓C_dreg, ↓C_seq, ↓C_cond, ↓C_blk, ↓C_loop, ↓C_exit, ↓C_ret, ↓sq_nrm, ↓sq_exit, ↓sq_ret, ↓outB_nrm, ↓outB_ret, ↓outB_exit, ↓fin_nrm, ↓fin_ret, ↓fin_ret0, ↓fin_nrm0, ↓fin_ret2, ↓rd_nrm, ↓rd_exit, ↓rd_ret, ↓cIf_true, ↓cIf_false, ↓VO_nil, ↓VO_go, ↓VO_if, ↓nx_some, ↓nx_none, putD_some, putD_none, ↓V_p, ↓V_r, ↓V_a, ↓V_e, ↓V_call, ↓V_inv, ↓oQ_some, ↓oP_some, ↓oA_some, ↓oC_some, gO_true, gO_false, ↓gO_true, ↓gO_false, cIf_true, cIf_false, oQ_some, oP_some, oA_some, oC_some, oV_some,  reserve0, ↓D_nil, ↓D_p, ↓D_r, ↓nd_some, ↓ndr_some, ↓oV_some, ↓ev_rst, has_cons, has_nil, P_mv, P_pick, pickV_true, pickV_false, P_bin, P_un, P_cnv, cnvV_int, P_mkif, P_mkfn, P_fadr, P_fld, P_iadr, P_idx, P_len, P_mn, P_mx, foldV_two, mn2_int, mx2_int, unA_not, unA_neg, B_add, B_sub, B_mul, B_quo, B_rem, B_eql, B_neq, B_lss, B_leq, B_gtr, B_geq, R_load, wants_ev, gV_t, gV_f, ↓evPut, ↓ev_c, ↓ev_f, ↓ev_g, isC_t, isC_c, isC_f, isC_g, ↓reduceIte, Nat.reduceEqDiff, Nat.reduceBEq, Bool.or_self, Bool.or_false, Bool.or_true, Bool.false_or, Bool.true_or, Bool.and_true, Bool.and_false, Bool.true_and, Bool.false_and, Bool.not_true, Bool.not_false, Bool.false_eq_true, ofArgs, List.map_cons, List.map_nil, List.nil_append, List.append_nil, List.cons_append, Nat.reduceAdd, calleeA, beq_self_eq_true, decide_true, decide_false, eqS_none t36]
    exact ⟨wf, fun _ _ => trivial, Nat.le_refl _, hvs⟩
  · simp -implicitDefEqProofs only [↓D_if, gD_true, gD_false, ↓D_a, ↓D_e, ↓D_call, ↓ndc_0, Hp.get_put, Hp.get_alloc, ldR_lst, List.getElem?_map, List.length_map, List.length_set, A_mksl, E_store, omap_some, omap_none, bndV_none, ↓lp_nrm, ↓lp_exit, ↓lp_ret, ↓C_skip, ↓C_reg, ↓C_dreg, ↓C_seq, ↓C_cond, ↓C_blk, ↓C_loop, ↓C_exit, ↓C_ret, ↓sq_nrm, ↓sq_exit, ↓sq_ret, ↓outB_nrm, ↓outB_ret, ↓outB_exit, ↓fin_nrm, ↓fin_ret, ↓fin_ret0, ↓fin_nrm0, ↓fin_ret2, ↓rd_nrm, ↓rd_exit, ↓rd_ret, ↓cIf_true, ↓cIf_false, ↓VO_nil, ↓VO_go, ↓VO_if, ↓nx_some, ↓nx_none, putD_some, putD_none, ↓V_p, ↓V_r, ↓V_a, ↓V_e, ↓V_call, ↓V_inv, ↓oQ_some, ↓oP_some, ↓oA_some, ↓oC_some, gO_true, gO_false, ↓gO_true, ↓gO_false, cIf_true, cIf_false, oQ_some, oP_some, oA_some, oC_some, oV_some,  reserve0, ↓D_nil, ↓D_p, ↓D_r, ↓nd_some, ↓ndr_some, ↓oV_some, ↓ev_rst, has_cons, has_nil, P_mv, P_pick, pickV_true, pickV_false, P_bin, P_un, P_cnv, cnvV_int, P_mkif, P_mkfn, P_fadr, P_fld, P_iadr, P_idx, P_len, P_mn, P_mx, foldV_two, mn2_int, mx2_int, unA_not, unA_neg, B_add, B_sub, B_mul, B_quo, B_rem, B_eql, B_neq, B_lss, B_leq, B_gtr, B_geq, R_load, wants_ev, gV_t, gV_f, ↓evPut, ↓ev_c, ↓ev_f, ↓ev_g, isC_t, isC_c, isC_f, isC_g, ↓reduceIte, Nat.reduceEqDiff, Nat.reduceBEq, Bool.or_self, Bool.or_false, Bool.or_true, Bool.false_or, Bool.true_or, Bool.and_true, Bool.and_false, Bool.true_and, Bool.false_and, Bool.not_true, Bool.not_false, Bool.false_eq_true, ofArgs, List.map_cons, List.map_nil, List.nil_append, List.append_nil, List.cons_append, Nat.reduceAdd, calleeA, beq_self_eq_true, decide_true, decide_false, eqS_some t36, A_bsl, E_app, bslV_nil t36 t38]
    have gx : (H.alloc (.row (.lst []) 0 true)).get H.n = some (.row (.lst []) 0 true) := Hp.get_alloc_same _ _
    have gb : (H.alloc (.row (.lst []) 0 true)).get b = some (.row (.lst cells) 0 true) := by rw [Hp.get_alloc, if_neg (by omega)]; exact hg
    have wf2 : Wf (H.alloc (.row (.lst []) 0 true)) := Wf.alloc wf _
    by_cases hz : 0 < L.length
    · have := appV_all (E := envT x) t36 t38 (by decide) gx gb (by omega) (by omega)
      rw [hl] at this
      rw [this]
      have old : ∀ b', b' < H.n → ((H.alloc (.row (.lst []) 0 true)).alloc (.row (.lst cells) 0 true)).get b' = H.get b' := fun b' hb => by
        rw [Hp.get_alloc, if_neg (by rw [Hp.alloc_n]; omega), Hp.get_alloc, if_neg (by omega)]
      have wf3 : Wf ((H.alloc (.row (.lst []) 0 true)).alloc (.row (.lst cells) 0 true)) := Wf.alloc wf2 _
      have n3 : ((H.alloc (.row (.lst []) 0 true)).alloc (.row (.lst cells) 0 true)).n = H.n + 2 := by rw [Hp.alloc_n, Hp.alloc_n]
      have g3 : ((H.alloc (.row (.lst []) 0 true)).alloc (.row (.lst cells) 0 true)).get (H.alloc (.row (.lst []) 0 true)).n = some (.row (.lst cells) 0 true) := Hp.get_alloc_same _ _
      have n2 : (H.alloc (.row (.lst []) 0 true)).n = H.n + 1 := Hp.alloc_n _ _
      clear this
      generalize (H.alloc (.row (.lst []) 0 true)).alloc (.row (.lst cells) 0 true) = H3 at old wf3 n3 g3 ⊢
      generalize (H.alloc (.row (.lst []) 0 true)).n = x3 at n2 g3 ⊢
      simp -implicitDefEqProofs only [↓D_if, gD_true, gD_false, ↓D_a, ↓D_e, ↓D_call, ↓ndc_0, Hp.get_put, Hp.get_alloc, ldR_lst, List.getElem?_map, List.length_map, List.length_set, A_mksl, E_store, omap_some, omap_none, bndV_none, ↓lp_nrm, ↓lp_exit, ↓lp_ret, ↓C_skip, ↓C_reg, ↓C_dreg, ↓C_seq, ↓C_cond, ↓C_blk, ↓C_loop, ↓C_exit, ↓C_ret, ↓sq_nrm, ↓sq_exit, ↓sq_ret, ↓outB_nrm, ↓outB_ret, ↓outB_exit, ↓fin_nrm, ↓fin_ret, ↓fin_ret0, ↓fin_nrm0, ↓fin_ret2, ↓rd_nrm, ↓rd_exit, ↓rd_ret, ↓cIf_true, ↓cIf_false, ↓VO_nil, ↓VO_go, ↓VO_if, ↓nx_some, ↓nx_none, putD_some, putD_none, ↓V_p, ↓V_r, ↓V_a, ↓V_e, ↓V_call, ↓V_inv, ↓oQ_some, ↓oP_some, ↓oA_some, ↓oC_some, gO_true, gO_false, ↓gO_true, ↓gO_false, cIf_true, cIf_false, oQ_some, oP_some, oA_some, oC_some, oV_some,  reserve0, ↓D_nil, ↓D_p, ↓D_r, ↓nd_some, ↓ndr_some, ↓oV_some, ↓ev_rst, has_cons, has_nil, P_mv, P_pick, pickV_true, pickV_false, P_bin, P_un, P_cnv, cnvV_int, P_mkif, P_mkfn, P_fadr, P_fld, P_iadr, P_idx, P_len, P_mn, P_mx, foldV_two, mn2_int, mx2_int, unA_not, unA_neg, B_add, B_sub, B_mul, B_quo, B_rem, B_eql, B_neq, B_lss, B_leq, B_gtr, B_geq, R_load, wants_ev, gV_t, gV_f, ↓evPut, ↓ev_c, ↓ev_f, ↓ev_g, isC_t, isC_c, isC_f, isC_g, ↓reduceIte, Nat.reduceEqDiff, Nat.reduceBEq, Bool.or_self, Bool.or_false, Bool.or_true, Bool.false_or, Bool.true_or, Bool.and_true, Bool.and_false, Bool.true_and, Bool.false_and, Bool.not_true, Bool.not_false, Bool.false_eq_true, ofArgs, List.map_cons, List.map_nil, List.nil_append, List.append_nil, List.cons_append, Nat.reduceAdd, calleeA, beq_self_eq_true, decide_true, decide_false]
      refine ⟨wf3, old, by omega, ⟨.inr ⟨_, 0, 2, L.length, cells, rfl, .inl rfl, Nat.le_refl _, by omega, ?_, fun j hj => ?_⟩⟩⟩
      · rw [Hp.rd_lst g3 (by omega), ← hl]; simp
      · obtain ⟨c, c1, c2, c3, c4, c5, c6⟩ := hc j hj
        refine ⟨_, c1, ?_⟩
        have := IsSl.own (H := H3) (k := .i32) (b := c) (zs := L[j]) (s := 3) (cap := dim) (by rw [old c c3]; exact c5) (.inr rfl) (by omega) (hf _ (List.getElem_mem hj))
        rw [c6] at this; exact this
    · have hL0 : L = [] := List.length_eq_zero_iff.1 (by omega)
      subst hL0
      have hc0 : cells = [] := List.length_eq_zero_iff.1 hl
      subst hc0
      have : appV (envT x) (H.alloc (.row (.lst []) 0 true)) 36 (.slice (some ⟨H.n, 0, some 3⟩) 0 0) (.slice (some ⟨b, 0, some 2⟩) 0 0) = some (.slice (some ⟨H.n, 0, some 3⟩) 0 0, H.alloc (.row (.lst []) 0 true)) := by
        unfold appV
        simp only [t36, t38, lenA, srcCells]
        rw [if_pos (by simp)]
        have hr : (H.alloc (.row (.lst []) 0 true)).rd b 0 (0 * 1) = some [] := by rw [Hp.rd_lst gb (by simp)]; rfl
        simp only [hr]
        rw [show Nat.beq [Value.slice none 0 0].length 1 = true from rfl]
        simp [appA]
      simp only [List.length_nil]
      rw [this]
      have old : ∀ b', b' < H.n → (H.alloc (.row (.lst []) 0 true)).get b' = H.get b' := fun b' hb => by rw [Hp.get_alloc, if_neg (by omega)]
      have n2 : (H.alloc (.row (.lst []) 0 true)).n = H.n + 1 := Hp.alloc_n _ _
      clear this
      generalize H.alloc (.row (.lst []) 0 true) = H3 at old wf2 n2 gx ⊢
      simp -implicitDefEqProofs only [↓D_if, gD_true, gD_false, ↓D_a, ↓D_e, ↓D_call, ↓ndc_0, Hp.get_put, Hp.get_alloc, ldR_lst, List.getElem?_map, List.length_map, List.length_set, A_mksl, E_store, omap_some, omap_none, bndV_none, ↓lp_nrm, ↓lp_exit, ↓lp_ret, ↓C_skip, ↓C_reg, ↓C_dreg, ↓C_seq, ↓C_cond, ↓C_blk, ↓C_loop, ↓C_exit, ↓C_ret, ↓sq_nrm, ↓sq_exit, ↓sq_ret, ↓outB_nrm, ↓outB_ret, ↓outB_exit, ↓fin_nrm, ↓fin_ret, ↓fin_ret0, ↓fin_nrm0, ↓fin_ret2, ↓rd_nrm, ↓rd_exit, ↓rd_ret, ↓cIf_true, ↓cIf_false, ↓VO_nil, ↓VO_go, ↓VO_if, ↓nx_some, ↓nx_none, putD_some, putD_none, ↓V_p, ↓V_r, ↓V_a, ↓V_e, ↓V_call, ↓V_inv, ↓oQ_some, ↓oP_some, ↓oA_some, ↓oC_some, gO_true, gO_false, ↓gO_true, ↓gO_false, cIf_true, cIf_false, oQ_some, oP_some, oA_some, oC_some, oV_some,  reserve0, ↓D_nil, ↓D_p, ↓D_r, ↓nd_some, ↓ndr_some, ↓oV_some, ↓ev_rst, has_cons, has_nil, P_mv, P_pick, pickV_true, pickV_false, P_bin, P_un, P_cnv, cnvV_int, P_mkif, P_mkfn, P_fadr, P_fld, P_iadr, P_idx, P_len, P_mn, P_mx, foldV_two, mn2_int, mx2_int, unA_not, unA_neg, B_add, B_sub, B_mul, B_quo, B_rem, B_eql, B_neq, B_lss, B_leq, B_gtr, B_geq, R_load, wants_ev, gV_t, gV_f, ↓evPut, ↓ev_c, ↓ev_f, ↓ev_g, isC_t, isC_c, isC_f, isC_g, ↓reduceIte, Nat.reduceEqDiff, Nat.reduceBEq, Bool.or_self, Bool.or_false, Bool.or_true, Bool.false_or, Bool.true_or, Bool.and_true, Bool.and_false, Bool.true_and, Bool.false_and, Bool.not_true, Bool.not_false, Bool.false_eq_true, ofArgs, List.map_cons, List.map_nil, List.nil_append, List.append_nil, List.cons_append, Nat.reduceAdd, calleeA, beq_self_eq_true, decide_true, decide_false]
      exact ⟨wf2, old, by omega, ⟨.inr ⟨H.n, 0, 3, 0, [], rfl, .inr rfl, Nat.le_refl _, by omega, by rw [show ([] : List (List Int)).length = 0 from rfl, Hp.rd_lst gx (by simp)]; rfl, fun j hj => by simp at hj⟩⟩⟩
end Go.Proofs.YtaegmplbkbaniaaGreatDoor

/-
  quant.right, quant.floor in the machine. No condition.
-/
set_option linter.all false
namespace Go.Proofs.YtaegmplbkbaniaaGreatDoor
open Go
attribute [local irreducible] VO VC VD VD1 V1 nx nd ndr sq cIf gO oQ oP oA oC oV oIf oB fin rd' outB WC WF WO WD W1
set_option maxRecDepth 100000
/-! ### 83 -/
abbrev r83_0 : List Lo := [
  ⟨(some 4), (.p (.mv (.c (.int .i64 0)))), none⟩]
abbrev r83_1 : List Lo := [
  ⟨(some 6), (.p (.mv (.t 0))), none⟩,
  ⟨(some 7), (.p (.mv (.t 1))), none⟩,
  ⟨(some 8), (.p (.bin .quo 2 (.t 6) (.t 7))), none⟩,
  ⟨(some 5), (.p (.mv (.t 8))), none⟩]
abbrev r83_2 : List Lo := [
  ⟨(some 9), (.p (.mv (.t 0))), none⟩,
  ⟨(some 10), (.p (.mv (.t 1))), none⟩,
  ⟨(some 11), (.p (.bin .rem 2 (.t 9) (.t 10))), none⟩,
  ⟨(some 12), (.p (.bin .lss 2 (.t 11) (.c (.int .i64 0)))), none⟩]
abbrev r83_3 : List Lo := [
  ⟨(some 13), (.p (.mv (.t 5))), none⟩,
  ⟨(some 14), (.p (.bin .sub 2 (.t 13) (.c (.int .i64 1)))), none⟩,
  ⟨(some 5), (.p (.mv (.t 14))), none⟩]
abbrev r83_4 : List Lo := [
  ⟨(some 15), (.p (.mv (.t 5))), none⟩,
  ⟨(some 4), (.p (.mv (.t 15))), none⟩]
def c83 : AFun := ⟨(.seq (.reg r83_0) (.seq (.reg r83_1) (.seq (.seq (.reg r83_2) (.cond (.t 12) (.reg r83_3) .skip)) (.seq (.reg r83_4) .ret)))), [.t 4], 16⟩
theorem p83 : progOf Tryz.prog 83 = some c83 := by kernel_rfl
/-! ### 104 -/
abbrev r104_0 : List Lo := [
  ⟨(some 2), (.p (.mv (.c (.bool false)))), none⟩]
abbrev r104_1 : List Lo := [
  ⟨(some 3), (.p (.mv (.t 0))), none⟩,
  ⟨(some 4), (.p (.bin .lss 21 (.t 3) (.c (.int .i32 1)))), none⟩,
  ⟨(some 2), (.p (.mv (.t 4))), none⟩]
def c104 : AFun := ⟨(.seq (.reg r104_0) (.seq (.reg r104_1) .ret)), [.t 2], 5⟩
theorem p104 : progOf Tryz.prog 104 = some c104 := by kernel_rfl
/-! ### 133 -/
abbrev r133_0 : List Lo := [
  ⟨(some 4), (.p (.mv (.c (.int .i64 0)))), none⟩]
abbrev r133_1 : List Lo := [
  ⟨(some 6), (.p (.mv (.t 0))), none⟩,
  ⟨(some 7), (.p (.len 37 (.t 6))), none⟩,
  ⟨(some 8), (.p (.mv (.c (.int .i64 0)))), none⟩]
abbrev r133_2 : List Lo := [
  ⟨(some 9), (.p (.bin .lss 3 (.t 8) (.t 7))), none⟩]
abbrev r133_3 : List Lo := [
  ⟨(some 10), (.p (.mv (.t 8))), none⟩,
  ⟨(some 5), (.p (.mv (.t 10))), none⟩]
abbrev r133_4 : List Lo := [
  ⟨(some 11), (.p (.mv (.t 1))), none⟩,
  ⟨(some 12), (.p (.mv (.t 0))), none⟩,
  ⟨(some 13), (.p (.mv (.t 5))), none⟩,
  ⟨(some 14), (.p (.iadr 37 (.t 12) (.t 13))), none⟩,
  ⟨(some 15), (.r (.load 21 (.t 14))), none⟩,
  ⟨(some 16), (.call (.t 11) [(.t 15)]), none⟩]
abbrev r133_5 : List Lo := [
  ⟨(some 17), (.p (.mv (.t 5))), none⟩,
  ⟨(some 4), (.p (.mv (.t 17))), none⟩]
abbrev r133_6 : List Lo := [
  ⟨(some 18), (.p (.bin .add 3 (.t 8) (.c (.int .i64 1)))), none⟩,
  ⟨(some 8), (.p (.mv (.t 18))), none⟩]
def l133_7 : Ac := (.seq (.reg r133_2) (.seq (.cond (.t 9) .skip (.exit 0)) (.seq (.blk 1 (.seq (.reg r133_3) (.seq (.reg r133_4) (.cond (.t 16) (.seq (.reg r133_5) .ret) .skip)))) (.reg r133_6))))
abbrev r133_8 : List Lo := [
  ⟨(some 4), (.p (.mv (.c (.int .i64 (-1))))), none⟩]
def c133 : AFun := ⟨(.seq (.reg r133_0) (.seq (.seq (.reg r133_1) (.blk 0 (.loop l133_7))) (.seq (.reg r133_8) .ret))), [.t 4], 19⟩
theorem p133 : progOf Tryz.prog 133 = some c133 := by kernel_rfl
/-! ### 103 -/
abbrev r103_0 : List Lo := [
  ⟨(some 4), (.p (.mv (.c (.bool false)))), none⟩]
abbrev r103_1 : List Lo := [
  ⟨(some 5), (.p (.mv (.t 0))), none⟩,
  ⟨(some 6), (.p (.mv (.t 1))), none⟩,
  ⟨(some 7), (.call (.f 133) [(.t 5), (.t 6)]), none⟩,
  ⟨(some 8), (.p (.bin .geq 3 (.t 7) (.c (.int .i64 0)))), none⟩,
  ⟨(some 4), (.p (.mv (.t 8))), none⟩]
def c103 : AFun := ⟨(.seq (.reg r103_0) (.seq (.reg r103_1) .ret)), [.t 4], 9⟩
theorem p103 : progOf Tryz.prog 103 = some c103 := by kernel_rfl
/-! ### 82 -/
abbrev r82_0 : List Lo := [
  ⟨(some 1), (.a (.box 69 (.t 0))), none⟩,
  ⟨(some 2), (.p (.mv (.c (.bool false)))), none⟩]
abbrev r82_1 : List Lo := [
  ⟨(some 3), (.p (.fadr 69 (.t 1) 0)), none⟩,
  ⟨(some 4), (.r (.load 37 (.t 3))), none⟩,
  ⟨(some 5), (.p (.len 37 (.t 4))), none⟩,
  ⟨(some 6), (.p (.fadr 69 (.t 1) 1)), none⟩,
  ⟨(some 7), (.r (.load 37 (.t 6))), none⟩,
  ⟨(some 8), (.p (.len 37 (.t 7))), none⟩,
  ⟨(some 9), (.p (.bin .eql 3 (.t 5) (.t 8))), none⟩,
  ⟨(some 10), (.p (.mv (.t 9))), none⟩,
  ⟨(some 11), (.p (.fadr 69 (.t 1) 1)), (some (10, true))⟩,
  ⟨(some 12), (.r (.load 37 (.t 11))), (some (10, true))⟩,
  ⟨(some 13), (.call (.f 103) [(.t 12), (.f 104)]), (some (10, true))⟩,
  ⟨(some 14), (.p (.un .not (.t 13))), (some (10, true))⟩,
  ⟨(some 15), (.p (.pick (.t 10) (.t 14) (.c (.bool false)))), none⟩,
  ⟨(some 2), (.p (.mv (.t 15))), none⟩]
def c82 : AFun := ⟨(.seq (.reg r82_0) (.seq (.reg r82_1) .ret)), [.t 2], 16⟩
theorem p82 : progOf Tryz.prog 82 = some c82 := by kernel_rfl

set_option maxRecDepth 4000
attribute [local irreducible] gD ndc oAd
/-- Division towards below. -/
def flo (a b : Int) : Int := if a.tmod b < 0 then a.tdiv b - 1 else a.tdiv b
theorem wf83 (x : FuncId → Option GF) (hx : x 83 = none) {H : Hp} {a b : Int} (hb : 0 < b) (ha : -4611686018427387904 ≤ a ∧ a ≤ 4611686018427387904) :
    WF (envT x) 83 [.int .i64 a, .int .i64 b] H fun r H' => r = .int .i64 (flo a b) ∧ H' = H := by
  refine WF.go hx p83 rfl ?_
  have hb0 : b ≠ 0 := by omega
  have hq : -4611686018427387904 ≤ a.tdiv b ∧ a.tdiv b ≤ 4611686018427387904 := by
    have h1 : (a.tdiv b).natAbs ≤ a.natAbs := by rw [Int.natAbs_tdiv]; exact Nat.div_le_self _ _
    omega
  have w1 : IntKind.i64.wrap (a.tdiv b) = a.tdiv b := wrap64_id (by omega) (by omega)
  have w2 : IntKind.i64.wrap (a.tdiv b - 1) = a.tdiv b - 1 := wrap64_id (by omega) (by omega)
  unfold c83 flo
  by_cases h : a.tmod b < 0
  · simp -implicitDefEqProofs only [↓D_if, gD_true, gD_false, ↓D_a, ↓D_e, ↓D_call, ↓ndc_0, Hp.get_put, Hp.get_alloc, ldR_lst, List.getElem?_map, List.length_map, List.length_set, A_mksl, E_store, omap_some, omap_none, bndV_none, ↓lp_nrm, ↓lp_exit, ↓lp_ret, ↓C_skip, ↓C_reg, ↓C_dreg, ↓C_seq, ↓C_cond, ↓C_blk, ↓C_loop, ↓C_exit, ↓C_ret, ↓sq_nrm, ↓sq_exit, ↓sq_ret, ↓outB_nrm, ↓outB_ret, ↓outB_exit, ↓fin_nrm, ↓fin_ret, ↓fin_ret0, ↓fin_nrm0, ↓fin_ret2, ↓rd_nrm, ↓rd_exit, ↓rd_ret, ↓cIf_true, ↓cIf_false, ↓VO_nil, ↓VO_go, ↓VO_if, ↓nx_some, ↓nx_none, putD_some, putD_none, ↓V_p, ↓V_r, ↓V_a, ↓V_e, ↓V_call, ↓V_inv, ↓oQ_some, ↓oP_some, ↓oA_some, ↓oC_some, gO_true, gO_false, ↓gO_true, ↓gO_false, cIf_true, cIf_false, oQ_some, oP_some, oA_some, oC_some, oV_some,  reserve0, ↓D_nil, ↓D_p, ↓D_r, ↓nd_some, ↓ndr_some, ↓oV_some, ↓ev_rst, has_cons, has_nil, P_mv, P_pick, pickV_true, pickV_false, P_bin, P_un, P_cnv, cnvV_int, P_mkif, P_mkfn, P_fadr, P_fld, P_iadr, P_idx, P_len, P_mn, P_mx, foldV_two, mn2_int, mx2_int, unA_not, unA_neg, B_add, B_sub, B_mul, B_quo, B_rem, B_eql, B_neq, B_lss, B_leq, B_gtr, B_geq, R_load, wants_ev, gV_t, gV_f, ↓evPut, ↓ev_c, ↓ev_f, ↓ev_g, isC_t, isC_c, isC_f, isC_g, ↓reduceIte, Nat.reduceEqDiff, Nat.reduceBEq, Bool.or_self, Bool.or_false, Bool.or_true, Bool.false_or, Bool.true_or, Bool.and_true, Bool.and_false, Bool.true_and, Bool.false_and, Bool.not_true, Bool.not_false, Bool.false_eq_true, ofArgs, List.map_cons, List.map_nil, List.nil_append, List.append_nil, List.cons_append, Nat.reduceAdd, calleeA, beq_self_eq_true, decide_true, decide_false, hb0, w1, h, w2]
    trivial
  · simp -implicitDefEqProofs only [↓D_if, gD_true, gD_false, ↓D_a, ↓D_e, ↓D_call, ↓ndc_0, Hp.get_put, Hp.get_alloc, ldR_lst, List.getElem?_map, List.length_map, List.length_set, A_mksl, E_store, omap_some, omap_none, bndV_none, ↓lp_nrm, ↓lp_exit, ↓lp_ret, ↓C_skip, ↓C_reg, ↓C_dreg, ↓C_seq, ↓C_cond, ↓C_blk, ↓C_loop, ↓C_exit, ↓C_ret, ↓sq_nrm, ↓sq_exit, ↓sq_ret, ↓outB_nrm, ↓outB_ret, ↓outB_exit, ↓fin_nrm, ↓fin_ret, ↓fin_ret0, ↓fin_nrm0, ↓fin_ret2, ↓rd_nrm, ↓rd_exit, ↓rd_ret, ↓cIf_true, ↓cIf_false, ↓VO_nil, ↓VO_go, ↓VO_if, ↓nx_some, ↓nx_none, putD_some, putD_none, ↓V_p, ↓V_r, ↓V_a, ↓V_e, ↓V_call, ↓V_inv, ↓oQ_some, ↓oP_some, ↓oA_some, ↓oC_some, gO_true, gO_false, ↓gO_true, ↓gO_false, cIf_true, cIf_false, oQ_some, oP_some, oA_some, oC_some, oV_some,  reserve0, ↓D_nil, ↓D_p, ↓D_r, ↓nd_some, ↓ndr_some, ↓oV_some, ↓ev_rst, has_cons, has_nil, P_mv, P_pick, pickV_true, pickV_false, P_bin, P_un, P_cnv, cnvV_int, P_mkif, P_mkfn, P_fadr, P_fld, P_iadr, P_idx, P_len, P_mn, P_mx, foldV_two, mn2_int, mx2_int, unA_not, unA_neg, B_add, B_sub, B_mul, B_quo, B_rem, B_eql, B_neq, B_lss, B_leq, B_gtr, B_geq, R_load, wants_ev, gV_t, gV_f, ↓evPut, ↓ev_c, ↓ev_f, ↓ev_g, isC_t, isC_c, isC_f, isC_g, ↓reduceIte, Nat.reduceEqDiff, Nat.reduceBEq, Bool.or_self, Bool.or_false, Bool.or_true, Bool.false_or, Bool.true_or, Bool.and_true, Bool.and_false, Bool.true_and, Bool.false_and, Bool.not_true, Bool.not_false, Bool.false_eq_true, ofArgs, List.map_cons, List.map_nil, List.nil_append, List.append_nil, List.cons_append, Nat.reduceAdd, calleeA, beq_self_eq_true, decide_true, decide_false, hb0, w1, h, w2]
    trivial
theorem flo_eq (a b : Int) (hb : 0 < b) : flo a b = a / b := by
  unfold flo
  have h1 := Int.mul_tdiv_add_tmod a b
  have h2 : a.tmod b < b := Int.tmod_lt_of_pos a hb
  have h3 : -b < a.tmod b := by
    have := Int.neg_tmod a b
    have := Int.tmod_lt_of_pos (-a) hb
    omega
  split
  · rename_i h
    refine ((Int.ediv_emod_unique hb).2 ⟨?_, (by omega : 0 ≤ a.tmod b + b), by omega⟩).1.symm
    rw [Int.mul_sub]; omega
  · rename_i h
    exact ((Int.ediv_emod_unique hb).2 ⟨by omega, (by omega : 0 ≤ a.tmod b), h2⟩).1.symm
theorem flo_mono {a c b : Int} (hb : 0 < b) (h : a ≤ c) : flo a b ≤ flo c b := by
  rw [flo_eq a b hb, flo_eq c b hb]; exact Int.ediv_le_ediv hb h
def I133 (H : Hp) (v : Value) (zs : List Int) (d : Nat) (t : Tr Value) (H' : Hp) : Prop :=
  H' = H ∧ ∃ i : Nat, i + d = zs.length ∧ Od.ev t (.t 0) = v ∧ Od.ev t (.t 1) = .func (.func 104) #[] #[] ∧ Od.ev t (.t 7) = .int .i64 ((zs.length : Nat) : Int) ∧ Od.ev t (.t 8) = .int .i64 i
theorem wf133 (x : FuncId → Option GF) (hx : x 133 = none) (hx2 : x 104 = none) {H : Hp} {v : Value} {zs : List Int} (hv : IsSl .i32 H v zs) (hl : zs.length ≤ 65536) (hm : ∀ z ∈ zs, 1 ≤ z) :
    WF (envT x) 133 [v, .func (.func 104) #[] #[]] H fun r H' => r = .int .i64 (-1) ∧ H' = H := by
  refine WF.go hx p133 rfl ?_
  have t37 : (envT x).ty 37 = _ := ty37
  have t21 : (envT x).ty 21 = _ := ty21
  unfold c133
  simp -implicitDefEqProofs only [↓D_if, gD_true, gD_false, ↓D_a, ↓D_e, ↓D_call, ↓ndc_0, Hp.get_put, Hp.get_alloc, ldR_lst, List.getElem?_map, List.length_map, List.length_set, A_mksl, E_store, omap_some, omap_none, bndV_none, ↓lp_nrm, ↓lp_exit, ↓lp_ret, ↓C_skip, ↓C_reg, ↓C_dreg, ↓C_seq, ↓C_cond, ↓C_blk, ↓C_loop, ↓C_exit, ↓C_ret, ↓sq_nrm, ↓sq_exit, ↓sq_ret, ↓outB_nrm, ↓outB_ret, ↓outB_exit, ↓fin_nrm, ↓fin_ret, ↓fin_ret0, ↓fin_nrm0, ↓fin_ret2, ↓rd_nrm, ↓rd_exit, ↓rd_ret, ↓cIf_true, ↓cIf_false, ↓VO_nil, ↓VO_go, ↓VO_if, ↓nx_some, ↓nx_none, putD_some, putD_none, ↓V_p, ↓V_r, ↓V_a, ↓V_e, ↓V_call, ↓V_inv, ↓oQ_some, ↓oP_some, ↓oA_some, ↓oC_some, gO_true, gO_false, ↓gO_true, ↓gO_false, cIf_true, cIf_false, oQ_some, oP_some, oA_some, oC_some, oV_some,  reserve0, ↓D_nil, ↓D_p, ↓D_r, ↓nd_some, ↓ndr_some, ↓oV_some, ↓ev_rst, has_cons, has_nil, P_mv, P_pick, pickV_true, pickV_false, P_bin, P_un, P_cnv, cnvV_int, P_mkif, P_mkfn, P_fadr, P_fld, P_iadr, P_idx, P_len, P_mn, P_mx, foldV_two, mn2_int, mx2_int, unA_not, unA_neg, B_add, B_sub, B_mul, B_quo, B_rem, B_eql, B_neq, B_lss, B_leq, B_gtr, B_geq, R_load, wants_ev, gV_t, gV_f, ↓evPut, ↓ev_c, ↓ev_f, ↓ev_g, isC_t, isC_c, isC_f, isC_g, ↓reduceIte, Nat.reduceEqDiff, Nat.reduceBEq, Bool.or_self, Bool.or_false, Bool.or_true, Bool.false_or, Bool.true_or, Bool.and_true, Bool.and_false, Bool.true_and, Bool.false_and, Bool.not_true, Bool.not_false, Bool.false_eq_true, ofArgs, List.map_cons, List.map_nil, List.nil_append, List.append_nil, List.cons_append, Nat.reduceAdd, calleeA, beq_self_eq_true, decide_true, decide_false, lenV_sl t37 hv]
  refine VC.loop (I133 H v zs) (fun d t H' h => ?_) (d := zs.length) ⟨rfl, 0, by omega, by simp only [↓evPut, ↓ev_c, ↓reduceIte, Nat.reduceEqDiff], by simp only [↓evPut, ↓ev_c, ↓reduceIte, Nat.reduceEqDiff], by simp only [↓evPut, ↓ev_c, ↓reduceIte, Nat.reduceEqDiff], by simp only [↓evPut, ↓ev_c, ↓reduceIte, Nat.reduceEqDiff]; rfl⟩
  obtain ⟨rfl, i, hd, h0, h1, h7, h8⟩ := h
  unfold l133_7
  simp -implicitDefEqProofs only [↓D_if, gD_true, gD_false, ↓D_a, ↓D_e, ↓D_call, ↓ndc_0, Hp.get_put, Hp.get_alloc, ldR_lst, List.getElem?_map, List.length_map, List.length_set, A_mksl, E_store, omap_some, omap_none, bndV_none, ↓lp_nrm, ↓lp_exit, ↓lp_ret, ↓C_skip, ↓C_reg, ↓C_dreg, ↓C_seq, ↓C_cond, ↓C_blk, ↓C_loop, ↓C_exit, ↓C_ret, ↓sq_nrm, ↓sq_exit, ↓sq_ret, ↓outB_nrm, ↓outB_ret, ↓outB_exit, ↓fin_nrm, ↓fin_ret, ↓fin_ret0, ↓fin_nrm0, ↓fin_ret2, ↓rd_nrm, ↓rd_exit, ↓rd_ret, ↓cIf_true, ↓cIf_false, ↓VO_nil, ↓VO_go, ↓VO_if, ↓nx_some, ↓nx_none, putD_some, putD_none, ↓V_p, ↓V_r, ↓V_a, ↓V_e, ↓V_call, ↓V_inv, ↓oQ_some, ↓oP_some, ↓oA_some, ↓oC_some, gO_true, gO_false, ↓gO_true, ↓gO_false, cIf_true, cIf_false, oQ_some, oP_some, oA_some, oC_some, oV_some,  reserve0, ↓D_nil, ↓D_p, ↓D_r, ↓nd_some, ↓ndr_some, ↓oV_some, ↓ev_rst, has_cons, has_nil, P_mv, P_pick, pickV_true, pickV_false, P_bin, P_un, P_cnv, cnvV_int, P_mkif, P_mkfn, P_fadr, P_fld, P_iadr, P_idx, P_len, P_mn, P_mx, foldV_two, mn2_int, mx2_int, unA_not, unA_neg, B_add, B_sub, B_mul, B_quo, B_rem, B_eql, B_neq, B_lss, B_leq, B_gtr, B_geq, R_load, wants_ev, gV_t, gV_f, ↓evPut, ↓ev_c, ↓ev_f, ↓ev_g, isC_t, isC_c, isC_f, isC_g, ↓reduceIte, Nat.reduceEqDiff, Nat.reduceBEq, Bool.or_self, Bool.or_false, Bool.or_true, Bool.false_or, Bool.true_or, Bool.and_true, Bool.and_false, Bool.true_and, Bool.false_and, Bool.not_true, Bool.not_false, Bool.false_eq_true, ofArgs, List.map_cons, List.map_nil, List.nil_append, List.append_nil, List.cons_append, Nat.reduceAdd, calleeA, beq_self_eq_true, decide_true, decide_false, h8, h7]
  by_cases hi : i < zs.length
  · rw [cIf_yes (by omega)]
    have wi := wrapSucc (i := i) (by omega)
    have hmi : ¬ (zs.getD i 0 < 1) := by
      have e : zs.getD i 0 = zs[i] := by simp [List.getD, hi]
      rw [e]; have := hm zs[i] (List.getElem_mem hi); omega
    simp -implicitDefEqProofs only [↓D_if, gD_true, gD_false, ↓D_a, ↓D_e, ↓D_call, ↓ndc_0, Hp.get_put, Hp.get_alloc, ldR_lst, List.getElem?_map, List.length_map, List.length_set, A_mksl, E_store, omap_some, omap_none, bndV_none, ↓lp_nrm, ↓lp_exit, ↓lp_ret, ↓C_skip, ↓C_reg, ↓C_dreg, ↓C_seq, ↓C_cond, ↓C_blk, ↓C_loop, ↓C_exit, ↓C_ret, ↓sq_nrm, ↓sq_exit, ↓sq_ret, ↓outB_nrm, ↓outB_ret, ↓outB_exit, ↓fin_nrm, ↓fin_ret, ↓fin_ret0, ↓fin_nrm0, ↓fin_ret2, ↓rd_nrm, ↓rd_exit, ↓rd_ret, ↓cIf_true, ↓cIf_false, ↓VO_nil, ↓VO_go, ↓VO_if, ↓nx_some, ↓nx_none, putD_some, putD_none, ↓V_p, ↓V_r, ↓V_a, ↓V_e, ↓V_call, ↓V_inv, ↓oQ_some, ↓oP_some, ↓oA_some, ↓oC_some, gO_true, gO_false, ↓gO_true, ↓gO_false, cIf_true, cIf_false, oQ_some, oP_some, oA_some, oC_some, oV_some,  reserve0, ↓D_nil, ↓D_p, ↓D_r, ↓nd_some, ↓ndr_some, ↓oV_some, ↓ev_rst, has_cons, has_nil, P_mv, P_pick, pickV_true, pickV_false, P_bin, P_un, P_cnv, cnvV_int, P_mkif, P_mkfn, P_fadr, P_fld, P_iadr, P_idx, P_len, P_mn, P_mx, foldV_two, mn2_int, mx2_int, unA_not, unA_neg, B_add, B_sub, B_mul, B_quo, B_rem, B_eql, B_neq, B_lss, B_leq, B_gtr, B_geq, R_load, wants_ev, gV_t, gV_f, ↓evPut, ↓ev_c, ↓ev_f, ↓ev_g, isC_t, isC_c, isC_f, isC_g, ↓reduceIte, Nat.reduceEqDiff, Nat.reduceBEq, Bool.or_self, Bool.or_false, Bool.or_true, Bool.false_or, Bool.true_or, Bool.and_true, Bool.and_false, Bool.true_and, Bool.false_and, Bool.not_true, Bool.not_false, Bool.false_eq_true, ofArgs, List.map_cons, List.map_nil, List.nil_append, List.append_nil, List.cons_append, Nat.reduceAdd, calleeA, beq_self_eq_true, decide_true, decide_false, h0, h1, h7, h8, iadr_sl t37 t21 hv (Int.natCast_nonneg i) (by omega : (i : Int) < zs.length), Int.toNat_natCast, load_sl t21 hv hi]
    refine WF.go hx2 p104 rfl ?_
    unfold c104
    simp -implicitDefEqProofs only [↓D_if, gD_true, gD_false, ↓D_a, ↓D_e, ↓D_call, ↓ndc_0, Hp.get_put, Hp.get_alloc, ldR_lst, List.getElem?_map, List.length_map, List.length_set, A_mksl, E_store, omap_some, omap_none, bndV_none, ↓lp_nrm, ↓lp_exit, ↓lp_ret, ↓C_skip, ↓C_reg, ↓C_dreg, ↓C_seq, ↓C_cond, ↓C_blk, ↓C_loop, ↓C_exit, ↓C_ret, ↓sq_nrm, ↓sq_exit, ↓sq_ret, ↓outB_nrm, ↓outB_ret, ↓outB_exit, ↓fin_nrm, ↓fin_ret, ↓fin_ret0, ↓fin_nrm0, ↓fin_ret2, ↓rd_nrm, ↓rd_exit, ↓rd_ret, ↓cIf_true, ↓cIf_false, ↓VO_nil, ↓VO_go, ↓VO_if, ↓nx_some, ↓nx_none, putD_some, putD_none, ↓V_p, ↓V_r, ↓V_a, ↓V_e, ↓V_call, ↓V_inv, ↓oQ_some, ↓oP_some, ↓oA_some, ↓oC_some, gO_true, gO_false, ↓gO_true, ↓gO_false, cIf_true, cIf_false, oQ_some, oP_some, oA_some, oC_some, oV_some,  reserve0, ↓D_nil, ↓D_p, ↓D_r, ↓nd_some, ↓ndr_some, ↓oV_some, ↓ev_rst, has_cons, has_nil, P_mv, P_pick, pickV_true, pickV_false, P_bin, P_un, P_cnv, cnvV_int, P_mkif, P_mkfn, P_fadr, P_fld, P_iadr, P_idx, P_len, P_mn, P_mx, foldV_two, mn2_int, mx2_int, unA_not, unA_neg, B_add, B_sub, B_mul, B_quo, B_rem, B_eql, B_neq, B_lss, B_leq, B_gtr, B_geq, R_load, wants_ev, gV_t, gV_f, ↓evPut, ↓ev_c, ↓ev_f, ↓ev_g, isC_t, isC_c, isC_f, isC_g, ↓reduceIte, Nat.reduceEqDiff, Nat.reduceBEq, Bool.or_self, Bool.or_false, Bool.or_true, Bool.false_or, Bool.true_or, Bool.and_true, Bool.and_false, Bool.true_and, Bool.false_and, Bool.not_true, Bool.not_false, Bool.false_eq_true, ofArgs, List.map_cons, List.map_nil, List.nil_append, List.append_nil, List.cons_append, Nat.reduceAdd, calleeA, beq_self_eq_true, decide_true, decide_false, hmi]
    simp -implicitDefEqProofs only [↓D_if, gD_true, gD_false, ↓D_a, ↓D_e, ↓D_call, ↓ndc_0, Hp.get_put, Hp.get_alloc, ldR_lst, List.getElem?_map, List.length_map, List.length_set, A_mksl, E_store, omap_some, omap_none, bndV_none, ↓lp_nrm, ↓lp_exit, ↓lp_ret, ↓C_skip, ↓C_reg, ↓C_dreg, ↓C_seq, ↓C_cond, ↓C_blk, ↓C_loop, ↓C_exit, ↓C_ret, ↓sq_nrm, ↓sq_exit, ↓sq_ret, ↓outB_nrm, ↓outB_ret, ↓outB_exit, ↓fin_nrm, ↓fin_ret, ↓fin_ret0, ↓fin_nrm0, ↓fin_ret2, ↓rd_nrm, ↓rd_exit, ↓rd_ret, ↓cIf_true, ↓cIf_false, ↓VO_nil, ↓VO_go, ↓VO_if, ↓nx_some, ↓nx_none, putD_some, putD_none, ↓V_p, ↓V_r, ↓V_a, ↓V_e, ↓V_call, ↓V_inv, ↓oQ_some, ↓oP_some, ↓oA_some, ↓oC_some, gO_true, gO_false, ↓gO_true, ↓gO_false, cIf_true, cIf_false, oQ_some, oP_some, oA_some, oC_some, oV_some,  reserve0, ↓D_nil, ↓D_p, ↓D_r, ↓nd_some, ↓ndr_some, ↓oV_some, ↓ev_rst, has_cons, has_nil, P_mv, P_pick, pickV_true, pickV_false, P_bin, P_un, P_cnv, cnvV_int, P_mkif, P_mkfn, P_fadr, P_fld, P_iadr, P_idx, P_len, P_mn, P_mx, foldV_two, mn2_int, mx2_int, unA_not, unA_neg, B_add, B_sub, B_mul, B_quo, B_rem, B_eql, B_neq, B_lss, B_leq, B_gtr, B_geq, R_load, wants_ev, gV_t, gV_f, ↓evPut, ↓ev_c, ↓ev_f, ↓ev_g, isC_t, isC_c, isC_f, isC_g, ↓reduceIte, Nat.reduceEqDiff, Nat.reduceBEq, Bool.or_self, Bool.or_false, Bool.or_true, Bool.false_or, Bool.true_or, Bool.and_true, Bool.and_false, Bool.true_and, Bool.false_and, Bool.not_true, Bool.not_false, Bool.false_eq_true, ofArgs, List.map_cons, List.map_nil, List.nil_append, List.append_nil, List.cons_append, Nat.reduceAdd, calleeA, beq_self_eq_true, decide_true, decide_false, h0, h1, h7, h8, wi]
    exact ⟨d - 1, by omega, rfl, i + 1, by omega, by simp only [↓evPut, ↓ev_c, ↓reduceIte, Nat.reduceEqDiff, h0], by simp only [↓evPut, ↓ev_c, ↓reduceIte, Nat.reduceEqDiff]; exact h1, by simp only [↓evPut, ↓ev_c, ↓reduceIte, Nat.reduceEqDiff, h7], by simp only [↓evPut, ↓ev_c, ↓reduceIte, Nat.reduceEqDiff]⟩
  · rw [cIf_no (by omega)]
    simp -implicitDefEqProofs only [↓D_if, gD_true, gD_false, ↓D_a, ↓D_e, ↓D_call, ↓ndc_0, Hp.get_put, Hp.get_alloc, ldR_lst, List.getElem?_map, List.length_map, List.length_set, A_mksl, E_store, omap_some, omap_none, bndV_none, ↓lp_nrm, ↓lp_exit, ↓lp_ret, ↓C_skip, ↓C_reg, ↓C_dreg, ↓C_seq, ↓C_cond, ↓C_blk, ↓C_loop, ↓C_exit, ↓C_ret, ↓sq_nrm, ↓sq_exit, ↓sq_ret, ↓outB_nrm, ↓outB_ret, ↓outB_exit, ↓fin_nrm, ↓fin_ret, ↓fin_ret0, ↓fin_nrm0, ↓fin_ret2, ↓rd_nrm, ↓rd_exit, ↓rd_ret, ↓cIf_true, ↓cIf_false, ↓VO_nil, ↓VO_go, ↓VO_if, ↓nx_some, ↓nx_none, putD_some, putD_none, ↓V_p, ↓V_r, ↓V_a, ↓V_e, ↓V_call, ↓V_inv, ↓oQ_some, ↓oP_some, ↓oA_some, ↓oC_some, gO_true, gO_false, ↓gO_true, ↓gO_false, cIf_true, cIf_false, oQ_some, oP_some, oA_some, oC_some, oV_some,  reserve0, ↓D_nil, ↓D_p, ↓D_r, ↓nd_some, ↓ndr_some, ↓oV_some, ↓ev_rst, has_cons, has_nil, P_mv, P_pick, pickV_true, pickV_false, P_bin, P_un, P_cnv, cnvV_int, P_mkif, P_mkfn, P_fadr, P_fld, P_iadr, P_idx, P_len, P_mn, P_mx, foldV_two, mn2_int, mx2_int, unA_not, unA_neg, B_add, B_sub, B_mul, B_quo, B_rem, B_eql, B_neq, B_lss, B_leq, B_gtr, B_geq, R_load, wants_ev, gV_t, gV_f, ↓evPut, ↓ev_c, ↓ev_f, ↓ev_g, isC_t, isC_c, isC_f, isC_g, ↓reduceIte, Nat.reduceEqDiff, Nat.reduceBEq, Bool.or_self, Bool.or_false, Bool.or_true, Bool.false_or, Bool.true_or, Bool.and_true, Bool.and_false, Bool.true_and, Bool.false_and, Bool.not_true, Bool.not_false, Bool.false_eq_true, ofArgs, List.map_cons, List.map_nil, List.nil_append, List.append_nil, List.cons_append, Nat.reduceAdd, calleeA, beq_self_eq_true, decide_true, decide_false]
    trivial
theorem wf103 (x : FuncId → Option GF) (hx0 : x 103 = none) (hx : x 133 = none) (hx2 : x 104 = none) {H : Hp} {v : Value} {zs : List Int} (hv : IsSl .i32 H v zs) (hl : zs.length ≤ 65536) (hm : ∀ z ∈ zs, 1 ≤ z) :
    WF (envT x) 103 [v, .func (.func 104) #[] #[]] H fun r H' => r = .bool false ∧ H' = H := by
  refine WF.go hx0 p103 rfl ?_
  unfold c103
  simp -implicitDefEqProofs only [↓D_if, gD_true, gD_false, ↓D_a, ↓D_e, ↓D_call, ↓ndc_0, Hp.get_put, Hp.get_alloc, ldR_lst, List.getElem?_map, List.length_map, List.length_set, A_mksl, E_store, omap_some, omap_none, bndV_none, ↓lp_nrm, ↓lp_exit, ↓lp_ret, ↓C_skip, ↓C_reg, ↓C_dreg, ↓C_seq, ↓C_cond, ↓C_blk, ↓C_loop, ↓C_exit, ↓C_ret, ↓sq_nrm, ↓sq_exit, ↓sq_ret, ↓outB_nrm, ↓outB_ret, ↓outB_exit, ↓fin_nrm, ↓fin_ret, ↓fin_ret0, ↓fin_nrm0, ↓fin_ret2, ↓rd_nrm, ↓rd_exit, ↓rd_ret, ↓cIf_true, ↓cIf_false, ↓VO_nil, ↓VO_go, ↓VO_if, ↓nx_some, ↓nx_none, putD_some, putD_none, ↓V_p, ↓V_r, ↓V_a, ↓V_e, ↓V_call, ↓V_inv, ↓oQ_some, ↓oP_some, ↓oA_some, ↓oC_some, gO_true, gO_false, ↓gO_true, ↓gO_false, cIf_true, cIf_false, oQ_some, oP_some, oA_some, oC_some, oV_some,  reserve0, ↓D_nil, ↓D_p, ↓D_r, ↓nd_some, ↓ndr_some, ↓oV_some, ↓ev_rst, has_cons, has_nil, P_mv, P_pick, pickV_true, pickV_false, P_bin, P_un, P_cnv, cnvV_int, P_mkif, P_mkfn, P_fadr, P_fld, P_iadr, P_idx, P_len, P_mn, P_mx, foldV_two, mn2_int, mx2_int, unA_not, unA_neg, B_add, B_sub, B_mul, B_quo, B_rem, B_eql, B_neq, B_lss, B_leq, B_gtr, B_geq, R_load, wants_ev, gV_t, gV_f, ↓evPut, ↓ev_c, ↓ev_f, ↓ev_g, isC_t, isC_c, isC_f, isC_g, ↓reduceIte, Nat.reduceEqDiff, Nat.reduceBEq, Bool.or_self, Bool.or_false, Bool.or_true, Bool.false_or, Bool.true_or, Bool.and_true, Bool.and_false, Bool.true_and, Bool.false_and, Bool.not_true, Bool.not_false, Bool.false_eq_true, ofArgs, List.map_cons, List.map_nil, List.nil_append, List.append_nil, List.cons_append, Nat.reduceAdd, calleeA, beq_self_eq_true, decide_true, decide_false]
  refine (wf133 x hx hx2 hv hl hm).mono fun r H2 hr => ?_
  obtain ⟨rfl, rfl⟩ := hr
  simp -implicitDefEqProofs only [↓D_if, gD_true, gD_false, ↓D_a, ↓D_e, ↓D_call, ↓ndc_0, Hp.get_put, Hp.get_alloc, ldR_lst, List.getElem?_map, List.length_map, List.length_set, A_mksl, E_store, omap_some, omap_none, bndV_none, ↓lp_nrm, ↓lp_exit, ↓lp_ret, ↓C_skip, ↓C_reg, ↓C_dreg, ↓C_seq, ↓C_cond, ↓C_blk, ↓C_loop, ↓C_exit, ↓C_ret, ↓sq_nrm, ↓sq_exit, ↓sq_ret, ↓outB_nrm, ↓outB_ret, ↓outB_exit, ↓fin_nrm, ↓fin_ret, ↓fin_ret0, ↓fin_nrm0, ↓fin_ret2, ↓rd_nrm, ↓rd_exit, ↓rd_ret, ↓cIf_true, ↓cIf_false, ↓VO_nil, ↓VO_go, ↓VO_if, ↓nx_some, ↓nx_none, putD_some, putD_none, ↓V_p, ↓V_r, ↓V_a, ↓V_e, ↓V_call, ↓V_inv, ↓oQ_some, ↓oP_some, ↓oA_some, ↓oC_some, gO_true, gO_false, ↓gO_true, ↓gO_false, cIf_true, cIf_false, oQ_some, oP_some, oA_some, oC_some, oV_some,  reserve0, ↓D_nil, ↓D_p, ↓D_r, ↓nd_some, ↓ndr_some, ↓oV_some, ↓ev_rst, has_cons, has_nil, P_mv, P_pick, pickV_true, pickV_false, P_bin, P_un, P_cnv, cnvV_int, P_mkif, P_mkfn, P_fadr, P_fld, P_iadr, P_idx, P_len, P_mn, P_mx, foldV_two, mn2_int, mx2_int, unA_not, unA_neg, B_add, B_sub, B_mul, B_quo, B_rem, B_eql, B_neq, B_lss, B_leq, B_gtr, B_geq, R_load, wants_ev, gV_t, gV_f, ↓evPut, ↓ev_c, ↓ev_f, ↓ev_g, isC_t, isC_c, isC_f, isC_g, ↓reduceIte, Nat.reduceEqDiff, Nat.reduceBEq, Bool.or_self, Bool.or_false, Bool.or_true, Bool.false_or, Bool.true_or, Bool.and_true, Bool.and_false, Bool.true_and, Bool.false_and, Bool.not_true, Bool.not_false, Bool.false_eq_true, ofArgs, List.map_cons, List.map_nil, List.nil_append, List.append_nil, List.cons_append, Nat.reduceAdd, calleeA, beq_self_eq_true, decide_true, decide_false]
  simp
theorem A_box {E : Env} {t : Tr Value} (T : TypeId) (x : Od) : allocA E t (.box T x) = some (.row (.lst (x.ev t).cells.toList) 0 true, fun i => .pointer (some ⟨i, 0, none⟩)) := rfl
abbrev bok (a b : Value) : Value := .agg ⟨[a, b]⟩
theorem bok_cells (a b : Value) : (bok a b).cells.toList = [a, b] := rfl
theorem fadr69_0 {E : Env} (hE : E.ty = tyOf Tryz.prog) (b : Nat) : fadrA E 69 0 (.pointer (some ⟨b, 0, none⟩)) = some (.pointer (some ⟨b, 0, none⟩)) := by
  unfold fadrA
  simp [(congrFun hE 69).trans ty69, (congrFun hE 37).trans ty37]
theorem fadr69_1 {E : Env} (hE : E.ty = tyOf Tryz.prog) (b : Nat) : fadrA E 69 1 (.pointer (some ⟨b, 0, none⟩)) = some (.pointer (some ⟨b, 1, none⟩)) := by
  unfold fadrA
  simp [(congrFun hE 69).trans ty69, (congrFun hE 37).trans ty37]
theorem wf82 (x : FuncId → Option GF) (hx0 : x 82 = none) (hx3 : x 103 = none) (hx : x 133 = none) (hx2 : x 104 = none) {H : Hp} (wf : Wf H) {lo st : Value} {ls ss : List Int} (h1 : IsSl .i32 H lo ls) (h2 : IsSl .i32 H st ss) (hl : ls.length = ss.length) (hs : ss.length ≤ 65536) (hm : ∀ z ∈ ss, 1 ≤ z) :
    WF (envT x) 82 [bok lo st] H fun r H' => r = .bool true ∧ H' = H.alloc (.row (.lst [lo, st]) 0 true) := by
  refine WF.go hx0 p82 rfl ?_
  have t37 : (envT x).ty 37 = _ := ty37
  have h1' := h1.alloc wf (.row (.lst [lo, st]) 0 true)
  have h2' := h2.alloc wf (.row (.lst [lo, st]) 0 true)
  have hl' : ((ls.length : Nat) : Int) = ((ss.length : Nat) : Int) := by omega
  unfold c82
  simp -implicitDefEqProofs only [↓D_if, gD_true, gD_false, ↓D_a, ↓D_e, ↓D_call, ↓ndc_0, Hp.get_put, Hp.get_alloc, ldR_lst, List.getElem?_map, List.length_map, List.length_set, A_mksl, E_store, omap_some, omap_none, bndV_none, ↓lp_nrm, ↓lp_exit, ↓lp_ret, ↓C_skip, ↓C_reg, ↓C_dreg, ↓C_seq, ↓C_cond, ↓C_blk, ↓C_loop, ↓C_exit, ↓C_ret, ↓sq_nrm, ↓sq_exit, ↓sq_ret, ↓outB_nrm, ↓outB_ret, ↓outB_exit, ↓fin_nrm, ↓fin_ret, ↓fin_ret0, ↓fin_nrm0, ↓fin_ret2, ↓rd_nrm, ↓rd_exit, ↓rd_ret, ↓cIf_true, ↓cIf_false, ↓VO_nil, ↓VO_go, ↓VO_if, ↓nx_some, ↓nx_none, putD_some, putD_none, ↓V_p, ↓V_r, ↓V_a, ↓V_e, ↓V_call, ↓V_inv, ↓oQ_some, ↓oP_some, ↓oA_some, ↓oC_some, gO_true, gO_false, ↓gO_true, ↓gO_false, cIf_true, cIf_false, oQ_some, oP_some, oA_some, oC_some, oV_some,  reserve0, ↓D_nil, ↓D_p, ↓D_r, ↓nd_some, ↓ndr_some, ↓oV_some, ↓ev_rst, has_cons, has_nil, P_mv, P_pick, pickV_true, pickV_false, P_bin, P_un, P_cnv, cnvV_int, P_mkif, P_mkfn, P_fadr, P_fld, P_iadr, P_idx, P_len, P_mn, P_mx, foldV_two, mn2_int, mx2_int, unA_not, unA_neg, B_add, B_sub, B_mul, B_quo, B_rem, B_eql, B_neq, B_lss, B_leq, B_gtr, B_geq, R_load, wants_ev, gV_t, gV_f, ↓evPut, ↓ev_c, ↓ev_f, ↓ev_g, isC_t, isC_c, isC_f, isC_g, ↓reduceIte, Nat.reduceEqDiff, Nat.reduceBEq, Bool.or_self, Bool.or_false, Bool.or_true, Bool.false_or, Bool.true_or, Bool.and_true, Bool.and_false, Bool.true_and, Bool.false_and, Bool.not_true, Bool.not_false, Bool.false_eq_true, ofArgs, List.map_cons, List.map_nil, List.nil_append, List.append_nil, List.cons_append, Nat.reduceAdd, calleeA, beq_self_eq_true, decide_true, decide_false, A_box, bok_cells, fadr69_0 (E := envT x) rfl, fadr69_1 (E := envT x) rfl, loadV_ptr rfl t37, List.getElem?_cons_zero, List.getElem?_cons_succ, lenV_sl t37 h1', lenV_sl t37 h2', hl']
  refine (wf103 x hx3 hx hx2 h2' hs hm).mono fun r H2 hr => ?_
  obtain ⟨rfl, rfl⟩ := hr
  simp -implicitDefEqProofs only [↓D_if, gD_true, gD_false, ↓D_a, ↓D_e, ↓D_call, ↓ndc_0, Hp.get_put, Hp.get_alloc, ldR_lst, List.getElem?_map, List.length_map, List.length_set, A_mksl, E_store, omap_some, omap_none, bndV_none, ↓lp_nrm, ↓lp_exit, ↓lp_ret, ↓C_skip, ↓C_reg, ↓C_dreg, ↓C_seq, ↓C_cond, ↓C_blk, ↓C_loop, ↓C_exit, ↓C_ret, ↓sq_nrm, ↓sq_exit, ↓sq_ret, ↓outB_nrm, ↓outB_ret, ↓outB_exit, ↓fin_nrm, ↓fin_ret, ↓fin_ret0, ↓fin_nrm0, ↓fin_ret2, ↓rd_nrm, ↓rd_exit, ↓rd_ret, ↓cIf_true, ↓cIf_false, ↓VO_nil, ↓VO_go, ↓VO_if, ↓nx_some, ↓nx_none, putD_some, putD_none, ↓V_p, ↓V_r, ↓V_a, ↓V_e, ↓V_call, ↓V_inv, ↓oQ_some, ↓oP_some, ↓oA_some, ↓oC_some, gO_true, gO_false, ↓gO_true, ↓gO_false, cIf_true, cIf_false, oQ_some, oP_some, oA_some, oC_some, oV_some,  reserve0, ↓D_nil, ↓D_p, ↓D_r, ↓nd_some, ↓ndr_some, ↓oV_some, ↓ev_rst, has_cons, has_nil, P_mv, P_pick, pickV_true, pickV_false, P_bin, P_un, P_cnv, cnvV_int, P_mkif, P_mkfn, P_fadr, P_fld, P_iadr, P_idx, P_len, P_mn, P_mx, foldV_two, mn2_int, mx2_int, unA_not, unA_neg, B_add, B_sub, B_mul, B_quo, B_rem, B_eql, B_neq, B_lss, B_leq, B_gtr, B_geq, R_load, wants_ev, gV_t, gV_f, ↓evPut, ↓ev_c, ↓ev_f, ↓ev_g, isC_t, isC_c, isC_f, isC_g, ↓reduceIte, Nat.reduceEqDiff, Nat.reduceBEq, Bool.or_self, Bool.or_false, Bool.or_true, Bool.false_or, Bool.true_or, Bool.and_true, Bool.and_false, Bool.true_and, Bool.false_and, Bool.not_true, Bool.not_false, Bool.false_eq_true, ofArgs, List.map_cons, List.map_nil, List.nil_append, List.append_nil, List.cons_append, Nat.reduceAdd, calleeA, beq_self_eq_true, decide_true, decide_false]
  trivial
end Go.Proofs.YtaegmplbkbaniaaGreatDoor

/-
  quant.Code in the machine. No condition.
-/
set_option linter.all false
namespace Go.Proofs.YtaegmplbkbaniaaGreatDoor
open Go
attribute [local irreducible] VO VC VD VD1 V1 nx nd ndr sq cIf gO oQ oP oA oC oV oIf oB fin rd' outB WC WF WO WD W1
set_option maxRecDepth 100000
/-! ### 47 -/
abbrev r47_0 : List Lo := [
  ⟨(some 2), (.a (.box 69 (.t 0))), none⟩,
  ⟨(some 4), (.p (.mv (.c (.slice none 0 0)))), none⟩]
abbrev r47_1 : List Lo := [
  ⟨(some 9), (.r (.load 69 (.t 2))), none⟩,
  ⟨(some 10), (.call (.f 82) [(.t 9)]), none⟩,
  ⟨(some 11), (.p (.un .not (.t 10))), none⟩]
abbrev r47_2 : List Lo := [
  ⟨(some 4), (.p (.mv (.c (.slice none 0 0)))), none⟩]
abbrev r47_3 : List Lo := [
  ⟨(some 12), (.p (.fadr 69 (.t 2) 0)), none⟩,
  ⟨(some 13), (.r (.load 37 (.t 12))), none⟩,
  ⟨(some 14), (.p (.len 37 (.t 13))), none⟩,
  ⟨(some 15), (.a (.mksl 53 (.t 14) (.t 14))), none⟩,
  ⟨(some 5), (.p (.mv (.t 15))), none⟩]
abbrev r47_4 : List Lo := [
  ⟨(some 16), (.p (.mv (.t 5))), none⟩,
  ⟨(some 17), (.p (.len 53 (.t 16))), none⟩,
  ⟨(some 18), (.p (.mv (.c (.int .i64 0)))), none⟩]
abbrev r47_5 : List Lo := [
  ⟨(some 19), (.p (.bin .lss 3 (.t 18) (.t 17))), none⟩]
abbrev r47_6 : List Lo := [
  ⟨(some 20), (.p (.mv (.t 18))), none⟩,
  ⟨(some 6), (.p (.mv (.t 20))), none⟩]
abbrev r47_7 : List Lo := [
  ⟨(some 21), (.p (.mv (.t 6))), none⟩,
  ⟨(some 22), (.p (.mv (.t 1))), none⟩,
  ⟨(some 23), (.p (.len 38 (.t 22))), none⟩,
  ⟨(some 24), (.p (.bin .lss 3 (.t 21) (.t 23))), none⟩]
abbrev d47_8 : List Dl := [
  ⟨⟨(some 25), (.p (.fadr 69 (.t 2) 0)), none⟩, 0, 0, 0, false, [], [2]⟩,
  ⟨⟨(some 26), (.r (.load 37 (.t 25))), none⟩, 1, 0, 0, false, [], [25]⟩,
  ⟨⟨(some 27), (.p (.mv (.t 6))), none⟩, 2, 0, 0, false, [], [6]⟩,
  ⟨⟨(some 28), (.p (.iadr 37 (.t 26) (.t 27))), none⟩, 3, 0, 0, false, [], [26, 27]⟩,
  ⟨⟨(some 29), (.r (.load 21 (.t 28))), none⟩, 4, 0, 0, false, [], [28]⟩,
  ⟨⟨(some 30), (.p (.cnv .i64 (.t 29))), none⟩, 5, 0, 0, false, [], [29]⟩,
  ⟨⟨(some 31), (.p (.fadr 69 (.t 2) 1)), none⟩, 6, 0, 0, false, [], [2]⟩,
  ⟨⟨(some 32), (.r (.load 37 (.t 31))), none⟩, 7, 0, 0, false, [], [31]⟩,
  ⟨⟨(some 33), (.p (.mv (.t 6))), none⟩, 8, 0, 0, false, [], [6]⟩,
  ⟨⟨(some 34), (.p (.iadr 37 (.t 32) (.t 33))), none⟩, 9, 0, 0, false, [], [32, 33]⟩,
  ⟨⟨(some 35), (.r (.load 21 (.t 34))), none⟩, 10, 0, 0, false, [], [34]⟩,
  ⟨⟨(some 36), (.p (.cnv .i64 (.t 35))), none⟩, 11, 0, 0, false, [], [35]⟩,
  ⟨⟨(some 7), (.p (.mv (.t 30))), none⟩, 12, 0, 0, false, [], [30]⟩,
  ⟨⟨(some 8), (.p (.mv (.t 36))), none⟩, 13, 0, 0, false, [], [36]⟩]
abbrev r47_9 : List Lo := [
  ⟨(some 37), (.p (.mv (.t 5))), none⟩,
  ⟨(some 38), (.p (.mv (.t 6))), none⟩,
  ⟨(some 39), (.p (.mv (.t 1))), none⟩,
  ⟨(some 40), (.p (.mv (.t 6))), none⟩,
  ⟨(some 41), (.p (.iadr 38 (.t 39) (.t 40))), none⟩,
  ⟨(some 42), (.r (.load 21 (.t 41))), none⟩,
  ⟨(some 43), (.p (.cnv .i64 (.t 42))), none⟩,
  ⟨(some 44), (.p (.mv (.t 7))), none⟩,
  ⟨(some 45), (.p (.bin .sub 2 (.t 43) (.t 44))), none⟩,
  ⟨(some 46), (.p (.mv (.t 8))), none⟩,
  ⟨(some 47), (.p (.bin .quo 2 (.t 46) (.c (.int .i64 2)))), none⟩,
  ⟨(some 48), (.p (.bin .add 2 (.t 45) (.t 47))), none⟩,
  ⟨(some 49), (.p (.mv (.t 8))), none⟩,
  ⟨(some 50), (.call (.f 83) [(.t 48), (.t 49)]), none⟩,
  ⟨(some 51), (.p (.mx [(.t 50), (.c (.int .i64 0))])), none⟩,
  ⟨(some 52), (.p (.mn [(.t 51), (.c (.int .i64 255))])), none⟩,
  ⟨(some 53), (.p (.cnv .u8 (.t 52))), none⟩,
  ⟨(some 54), (.p (.iadr 53 (.t 37) (.t 38))), none⟩,
  ⟨none, (.e (.store 5 (.t 54) (.t 53))), none⟩]
abbrev r47_10 : List Lo := [
  ⟨(some 55), (.p (.bin .add 3 (.t 18) (.c (.int .i64 1)))), none⟩,
  ⟨(some 18), (.p (.mv (.t 55))), none⟩]
def l47_11 : Ac := (.seq (.reg r47_5) (.seq (.cond (.t 19) .skip (.exit 0)) (.seq (.blk 1 (.seq (.reg r47_6) (.seq (.reg r47_7) (.cond (.t 24) (.seq (.dreg 0 d47_8) (.reg r47_9)) .skip)))) (.reg r47_10))))
abbrev r47_12 : List Lo := [
  ⟨(some 56), (.p (.mv (.t 5))), none⟩,
  ⟨(some 4), (.p (.mv (.t 56))), none⟩]
def c47 : AFun := ⟨(.seq (.reg r47_0) (.seq (.seq (.reg r47_1) (.cond (.t 11) (.seq (.reg r47_2) .ret) .skip)) (.seq (.reg r47_3) (.seq (.seq (.reg r47_4) (.blk 0 (.loop l47_11))) (.seq (.reg r47_12) .ret))))), [.t 4], 57⟩
theorem p47 : progOf Tryz.prog 47 = some c47 := by kernel_rfl

set_option maxRecDepth 4000
attribute [local irreducible] gD ndc oAd
def codeZ (z l s : Int) : Int := min (max (flo (z - l + s.tdiv 2) s) 0) 255
theorem codeZ_mono {a b l s : Int} (hs : 1 ≤ s) (h : a ≤ b) : codeZ a l s ≤ codeZ b l s := by
  unfold codeZ
  have := flo_mono (a := a - l + s.tdiv 2) (c := b - l + s.tdiv 2) (b := s) (by omega) (by omega)
  omega
theorem codeZ_in (z l s : Int) : 0 ≤ codeZ z l s ∧ codeZ z l s ≤ 255 := by unfold codeZ; omega
def codeC (zs ls ss : List Int) (n i : Nat) : List Int := (List.range i).map (fun j => codeZ (zs.getD j 0) (ls.getD j 0) (ss.getD j 0)) ++ List.replicate (n - i) 0
theorem codeC_len {zs ls ss : List Int} {n i : Nat} (hi : i ≤ n) : (codeC zs ls ss n i).length = n := by unfold codeC; simp; omega
theorem codeC_set {zs ls ss : List Int} {n i : Nat} (hi : i < n) : (codeC zs ls ss n i).set i (codeZ (zs.getD i 0) (ls.getD i 0) (ss.getD i 0)) = codeC zs ls ss n (i + 1) := by
  unfold codeC
  have hL : ((List.range i).map (fun j => codeZ (zs.getD j 0) (ls.getD j 0) (ss.getD j 0))).length = i := by simp
  have e1 : n - i = (n - (i + 1)) + 1 := by omega
  rw [List.set_append_right _ _ (by omega), hL, Nat.sub_self, e1, List.replicate_succ, List.set_cons_zero, List.range_succ, List.map_append, List.append_assoc]; rfl
def rowB (l : List Int) : AObj := .row (.lst (l.map (Value.int .u8))) 0 true
theorem loadV_69 {E : Env} (hE : E.ty = tyOf Tryz.prog) {H : Hp} {b : Nat} {lo st : Value} {s : Nat} {rw' : Bool} (h : H.get b = some (.row (.lst [lo, st]) s rw')) : loadV E H 69 (.pointer (some ⟨b, 0, none⟩)) = some (bok lo st) := by
  unfold loadV
  simp only [(congrFun hE 69).trans ty69]
  rw [Hp.rd_lst h (by simp)]
  rfl
theorem mkB {E : Env} (hE : E.ty = tyOf Tryz.prog) {n : Nat} (hn : n ≤ 512) : mkV E 53 (.int .i64 n) (.int .i64 n) = some (rowB (List.replicate n 0), fun i => .slice (some ⟨i, 0, some 3⟩) n n) := by
  have := mkV_int (E := E) ((congrFun hE 53).trans ty53) ((congrFun hE 5).trans ty5) (by decide) (k1 := .i64) (k2 := .i64) (n := (n : Int)) (by omega) (by omega)
  simpa [rowB] using this
structure L47 (G : Hp) (bb : Nat) (v : Value) (zs ls ss : List Int) (t : Tr Value) (H' : Hp) (i : Nat) : Prop where
  h : H' = G.alloc (rowB (codeC zs ls ss ls.length i))
  t1 : Od.ev t (.t 1) = v
  t2 : Od.ev t (.t 2) = .pointer (some ⟨bb, 0, none⟩)
  t5 : Od.ev t (.t 5) = .slice (some ⟨G.n, 0, some 3⟩) ls.length ls.length
  t17 : Od.ev t (.t 17) = .int .i64 ((ls.length : Nat) : Int)
  t18 : Od.ev t (.t 18) = .int .i64 i
def I47 (G : Hp) (bb : Nat) (v : Value) (zs ls ss : List Int) (d : Nat) (t : Tr Value) (H' : Hp) : Prop := ∃ i : Nat, i + d = ls.length ∧ L47 G bb v zs ls ss t H' i
theorem wf47 (x : FuncId → Option GF) (hx9 : x 47 = none) (hx0 : x 82 = none) (hx3 : x 103 = none) (hx : x 133 = none) (hx2 : x 104 = none) (hx8 : x 83 = none) {H : Hp} (wf : Wf H) {lo st v : Value} {ls ss zs : List Int} (h1 : IsSl .i32 H lo ls) (h2 : IsSl .i32 H st ss) (hv : IsSl .i32 H v zs)
    (hl : ls.length = ss.length) (hz : zs.length = ls.length) (hs : ls.length ≤ 512) (bs : ∀ z ∈ ss, 1 ≤ z ∧ z ≤ 16777216) (bl : ∀ z ∈ ls, -16777216 ≤ z ∧ z ≤ 16777216) (bz : ∀ z ∈ zs, -16777216 ≤ z ∧ z ≤ 16777216) :
    WF (envT x) 47 [bok lo st, v] H fun r H' => r = .slice (some ⟨H.n + 2, 0, some 3⟩) ls.length ls.length ∧ H' = ((H.alloc (.row (.lst [lo, st]) 0 true)).alloc (.row (.lst [lo, st]) 0 true)).alloc (rowB (codeC zs ls ss ls.length ls.length)) := by
  refine WF.go hx9 p47 rfl ?_
  have t37 : (envT x).ty 37 = _ := ty37
  have t38 : (envT x).ty 38 = _ := ty38
  have t21 : (envT x).ty 21 = _ := ty21
  have t53 : (envT x).ty 53 = _ := ty53
  have t5' : (envT x).ty 5 = _ := ty5
  have wf1 : Wf (H.alloc (.row (.lst [lo, st]) 0 true)) := Wf.alloc wf _
  have wf2 : Wf ((H.alloc (.row (.lst [lo, st]) 0 true)).alloc (.row (.lst [lo, st]) 0 true)) := Wf.alloc wf1 _
  have h11 := h1.alloc wf (.row (.lst [lo, st]) 0 true)
  have h21 := h2.alloc wf (.row (.lst [lo, st]) 0 true)
  have hv1 := hv.alloc wf (.row (.lst [lo, st]) 0 true)
  have h12 := h11.alloc wf1 (.row (.lst [lo, st]) 0 true)
  have h22 := h21.alloc wf1 (.row (.lst [lo, st]) 0 true)
  have hv2 := hv1.alloc wf1 (.row (.lst [lo, st]) 0 true)
  have g1 : (H.alloc (.row (.lst [lo, st]) 0 true)).get H.n = some (.row (.lst [lo, st]) 0 true) := Hp.get_alloc_same _ _
  have g2 : ((H.alloc (.row (.lst [lo, st]) 0 true)).alloc (.row (.lst [lo, st]) 0 true)).get H.n = some (.row (.lst [lo, st]) 0 true) := by rw [Hp.get_alloc, if_neg (by rw [Hp.alloc_n]; omega)]; exact g1
  have n2 : ((H.alloc (.row (.lst [lo, st]) 0 true)).alloc (.row (.lst [lo, st]) 0 true)).n = H.n + 2 := by rw [Hp.alloc_n, Hp.alloc_n]
  unfold c47
  simp -implicitDefEqProofs only [↓D_if, gD_true, gD_false, ↓D_a, ↓D_e, ↓D_call, ↓ndc_0, Hp.get_put, Hp.get_alloc, ldR_lst, List.getElem?_map, List.length_map, List.length_set, A_mksl, E_store, omap_some, omap_none, bndV_none, ↓lp_nrm, ↓lp_exit, ↓lp_ret, ↓C_skip, ↓C_reg, ↓C_dreg, ↓C_seq, ↓C_cond, ↓C_blk, ↓C_loop, ↓C_exit, ↓C_ret, ↓sq_nrm, ↓sq_exit, ↓sq_ret, ↓outB_nrm, ↓outB_ret, ↓outB_exit, ↓fin_nrm, ↓fin_ret, ↓fin_ret0, ↓fin_nrm0, ↓fin_ret2, ↓rd_nrm, ↓rd_exit, ↓rd_ret, ↓cIf_true, ↓cIf_false, ↓VO_nil, ↓VO_go, ↓VO_if, ↓nx_some, ↓nx_none, putD_some, putD_none, ↓V_p, ↓V_r, ↓V_a, ↓V_e, ↓V_call, ↓V_inv, ↓oQ_some, ↓oP_some, ↓oA_some, ↓oC_some, gO_true, gO_false, ↓gO_true, ↓gO_false, cIf_true, cIf_false, oQ_some, oP_some, oA_some, oC_some, oV_some,  reserve0, ↓D_nil, ↓D_p, ↓D_r, ↓nd_some, ↓ndr_some, ↓oV_some, ↓ev_rst, has_cons, has_nil, P_mv, P_pick, pickV_true, pickV_false, P_bin, P_un, P_cnv, cnvV_int, P_mkif, P_mkfn, P_fadr, P_fld, P_iadr, P_idx, P_len, P_mn, P_mx, foldV_two, mn2_int, mx2_int, unA_not, unA_neg, B_add, B_sub, B_mul, B_quo, B_rem, B_eql, B_neq, B_lss, B_leq, B_gtr, B_geq, R_load, wants_ev, gV_t, gV_f, ↓evPut, ↓ev_c, ↓ev_f, ↓ev_g, isC_t, isC_c, isC_f, isC_g, ↓reduceIte, Nat.reduceEqDiff, Nat.reduceBEq, Bool.or_self, Bool.or_false, Bool.or_true, Bool.false_or, Bool.true_or, Bool.and_true, Bool.and_false, Bool.true_and, Bool.false_and, Bool.not_true, Bool.not_false, Bool.false_eq_true, ofArgs, List.map_cons, List.map_nil, List.nil_append, List.append_nil, List.cons_append, Nat.reduceAdd, calleeA, beq_self_eq_true, decide_true, decide_false, A_box, bok_cells, loadV_69 (E := envT x) rfl g1]
  refine (wf82 x hx0 hx3 hx hx2 wf1 h11 h21 hl (by omega) (fun z hz => (bs z hz).1)).mono fun r H2 hr => ?_
  obtain ⟨rfl, rfl⟩ := hr
  clear g1 h11 h21 hv1
  rw [← n2]
  generalize ((H.alloc (.row (.lst [lo, st]) 0 true)).alloc (.row (.lst [lo, st]) 0 true)) = G at *
  simp -implicitDefEqProofs only [↓D_if, gD_true, gD_false, ↓D_a, ↓D_e, ↓D_call, ↓ndc_0, Hp.get_put, Hp.get_alloc, ldR_lst, List.getElem?_map, List.length_map, List.length_set, A_mksl, E_store, omap_some, omap_none, bndV_none, ↓lp_nrm, ↓lp_exit, ↓lp_ret, ↓C_skip, ↓C_reg, ↓C_dreg, ↓C_seq, ↓C_cond, ↓C_blk, ↓C_loop, ↓C_exit, ↓C_ret, ↓sq_nrm, ↓sq_exit, ↓sq_ret, ↓outB_nrm, ↓outB_ret, ↓outB_exit, ↓fin_nrm, ↓fin_ret, ↓fin_ret0, ↓fin_nrm0, ↓fin_ret2, ↓rd_nrm, ↓rd_exit, ↓rd_ret, ↓cIf_true, ↓cIf_false, ↓VO_nil, ↓VO_go, ↓VO_if, ↓nx_some, ↓nx_none, putD_some, putD_none, ↓V_p, ↓V_r, ↓V_a, ↓V_e, ↓V_call, ↓V_inv, ↓oQ_some, ↓oP_some, ↓oA_some, ↓oC_some, gO_true, gO_false, ↓gO_true, ↓gO_false, cIf_true, cIf_false, oQ_some, oP_some, oA_some, oC_some, oV_some,  reserve0, ↓D_nil, ↓D_p, ↓D_r, ↓nd_some, ↓ndr_some, ↓oV_some, ↓ev_rst, has_cons, has_nil, P_mv, P_pick, pickV_true, pickV_false, P_bin, P_un, P_cnv, cnvV_int, P_mkif, P_mkfn, P_fadr, P_fld, P_iadr, P_idx, P_len, P_mn, P_mx, foldV_two, mn2_int, mx2_int, unA_not, unA_neg, B_add, B_sub, B_mul, B_quo, B_rem, B_eql, B_neq, B_lss, B_leq, B_gtr, B_geq, R_load, wants_ev, gV_t, gV_f, ↓evPut, ↓ev_c, ↓ev_f, ↓ev_g, isC_t, isC_c, isC_f, isC_g, ↓reduceIte, Nat.reduceEqDiff, Nat.reduceBEq, Bool.or_self, Bool.or_false, Bool.or_true, Bool.false_or, Bool.true_or, Bool.and_true, Bool.and_false, Bool.true_and, Bool.false_and, Bool.not_true, Bool.not_false, Bool.false_eq_true, ofArgs, List.map_cons, List.map_nil, List.nil_append, List.append_nil, List.cons_append, Nat.reduceAdd, calleeA, beq_self_eq_true, decide_true, decide_false, fadr69_0 (E := envT x) rfl, loadV_ptr rfl t37, g2, List.getElem?_cons_zero, lenV_sl t37 h12, mkB (E := envT x) rfl hs, lenV_own t53]
  refine VC.loop (I47 G H.n v zs ls ss) (fun d t H' h => ?_) (d := ls.length) ⟨0, by omega, ⟨by simp [codeC, rowB], by simp only [↓evPut, ↓ev_c, ↓reduceIte, Nat.reduceEqDiff], by simp only [↓evPut, ↓ev_c, ↓reduceIte, Nat.reduceEqDiff], by simp only [↓evPut, ↓ev_c, ↓reduceIte, Nat.reduceEqDiff], by simp only [↓evPut, ↓ev_c, ↓reduceIte, Nat.reduceEqDiff], by simp only [↓evPut, ↓ev_c, ↓reduceIte, Nat.reduceEqDiff]; rfl⟩⟩
  obtain ⟨i, hd, l⟩ := h
  obtain ⟨rfl, e1, e2, e5, e17, e18⟩ := l
  unfold l47_11
  by_cases la : (i : Int) < ls.length
  · have i0 : (0 : Int) ≤ i := Int.natCast_nonneg i
    have wi := wrapSucc (i := i) (by omega)
    have lz : (i : Int) < zs.length := by omega
    have lss : (i : Int) < ss.length := by omega
    have gi : ∀ {l : List Int}, i < l.length → l.getD i 0 ∈ l := fun {l} h => by
      have e : l.getD i 0 = l[i] := by simp [List.getD, h]
      rw [e]; exact List.getElem_mem h
    have b1 := bs _ (gi (l := ss) (by omega))
    have b2 := bl _ (gi (l := ls) (by omega))
    have b3 := bz _ (gi (l := zs) (by omega))
    have q1 : 0 ≤ (ss.getD i 0).tdiv 2 ∧ (ss.getD i 0).tdiv 2 ≤ 16777216 := by rw [Int.tdiv_eq_ediv_of_nonneg (by omega)]; omega
    have w1 : IntKind.i64.wrap (ss.getD i 0) = ss.getD i 0 := wrap64_id (by omega) (by omega)
    have w2 : IntKind.i64.wrap (ls.getD i 0) = ls.getD i 0 := wrap64_id (by omega) (by omega)
    have w3 : IntKind.i64.wrap (zs.getD i 0) = zs.getD i 0 := wrap64_id (by omega) (by omega)
    have w4 : IntKind.i64.wrap (zs.getD i 0 - ls.getD i 0) = zs.getD i 0 - ls.getD i 0 := wrap64_id (by omega) (by omega)
    have w5 : IntKind.i64.wrap ((ss.getD i 0).tdiv 2) = (ss.getD i 0).tdiv 2 := wrap64_id (by omega) (by omega)
    have w6 : IntKind.i64.wrap (zs.getD i 0 - ls.getD i 0 + (ss.getD i 0).tdiv 2) = zs.getD i 0 - ls.getD i 0 + (ss.getD i 0).tdiv 2 := wrap64_id (by omega) (by omega)
    have hv3 := hv2.alloc wf2 (rowB (codeC zs ls ss ls.length i))
    have h13 := h12.alloc wf2 (rowB (codeC zs ls ss ls.length i))
    have h23 := h22.alloc wf2 (rowB (codeC zs ls ss ls.length i))
    have g3 : (G.alloc (rowB (codeC zs ls ss ls.length i))).get H.n = some (.row (.lst [lo, st]) 0 true) := by rw [Hp.get_alloc, if_neg (by omega)]; exact g2
    have hcz := codeZ_in (zs.getD i 0) (ls.getD i 0) (ss.getD i 0)
    have w7 : IntKind.u8.wrap (min (max (flo (zs.getD i 0 - ls.getD i 0 + (ss.getD i 0).tdiv 2) (ss.getD i 0)) 0) 255) = codeZ (zs.getD i 0) (ls.getD i 0) (ss.getD i 0) := by
      have : min (max (flo (zs.getD i 0 - ls.getD i 0 + (ss.getD i 0).tdiv 2) (ss.getD i 0)) 0) 255 = codeZ (zs.getD i 0) (ls.getD i 0) (ss.getD i 0) := rfl
      rw [this, IntKind.wrap_u8]; omega
    have n2' : ((2 : Int) = 0) = False := by simp
    simp -implicitDefEqProofs only [↓D_if, gD_true, gD_false, ↓D_a, ↓D_e, ↓D_call, ↓ndc_0, Hp.get_put, Hp.get_alloc, ldR_lst, List.getElem?_map, List.length_map, List.length_set, A_mksl, E_store, omap_some, omap_none, bndV_none, ↓lp_nrm, ↓lp_exit, ↓lp_ret, ↓C_skip, ↓C_reg, ↓C_dreg, ↓C_seq, ↓C_cond, ↓C_blk, ↓C_loop, ↓C_exit, ↓C_ret, ↓sq_nrm, ↓sq_exit, ↓sq_ret, ↓outB_nrm, ↓outB_ret, ↓outB_exit, ↓fin_nrm, ↓fin_ret, ↓fin_ret0, ↓fin_nrm0, ↓fin_ret2, ↓rd_nrm, ↓rd_exit, ↓rd_ret, ↓cIf_true, ↓cIf_false, ↓VO_nil, ↓VO_go, ↓VO_if, ↓nx_some, ↓nx_none, putD_some, putD_none, ↓V_p, ↓V_r, ↓V_a, ↓V_e, ↓V_call, ↓V_inv, ↓oQ_some, ↓oP_some, ↓oA_some, ↓oC_some, gO_true, gO_false, ↓gO_true, ↓gO_false, cIf_true, cIf_false, oQ_some, oP_some, oA_some, oC_some, oV_some,  reserve0, ↓D_nil, ↓D_p, ↓D_r, ↓nd_some, ↓ndr_some, ↓oV_some, ↓ev_rst, has_cons, has_nil, P_mv, P_pick, pickV_true, pickV_false, P_bin, P_un, P_cnv, cnvV_int, P_mkif, P_mkfn, P_fadr, P_fld, P_iadr, P_idx, P_len, P_mn, P_mx, foldV_two, mn2_int, mx2_int, unA_not, unA_neg, B_add, B_sub, B_mul, B_quo, B_rem, B_eql, B_neq, B_lss, B_leq, B_gtr, B_geq, R_load, wants_ev, gV_t, gV_f, ↓evPut, ↓ev_c, ↓ev_f, ↓ev_g, isC_t, isC_c, isC_f, isC_g, ↓reduceIte, Nat.reduceEqDiff, Nat.reduceBEq, Bool.or_self, Bool.or_false, Bool.or_true, Bool.false_or, Bool.true_or, Bool.and_true, Bool.and_false, Bool.true_and, Bool.false_and, Bool.not_true, Bool.not_false, Bool.false_eq_true, ofArgs, List.map_cons, List.map_nil, List.nil_append, List.append_nil, List.cons_append, Nat.reduceAdd, calleeA, beq_self_eq_true, decide_true, decide_false, e1, e2, e5, e17, e18, la, lz, lenV_sl t38 hv3, fadr69_0 (E := envT x) rfl, fadr69_1 (E := envT x) rfl, loadV_ptr rfl t37, g3, List.getElem?_cons_zero, List.getElem?_cons_succ, iadr_sl t37 t21 h13 i0 la, iadr_sl t37 t21 h23 i0 lss, iadr_sl t38 t21 hv3 i0 lz, Int.toNat_natCast,
      load_sl t21 h13 (show i < ls.length by omega), load_sl t21 h23 (show i < ss.length by omega), load_sl t21 hv3 (show i < zs.length by omega), w1, w2, w3, w4, w5, w6, n2']
    refine (wf83 x hx8 (by omega) (by omega)).mono fun r H2 hr => ?_
    obtain ⟨rfl, rfl⟩ := hr
    simp -implicitDefEqProofs only [↓D_if, gD_true, gD_false, ↓D_a, ↓D_e, ↓D_call, ↓ndc_0, Hp.get_put, Hp.get_alloc, ldR_lst, List.getElem?_map, List.length_map, List.length_set, A_mksl, E_store, omap_some, omap_none, bndV_none, ↓lp_nrm, ↓lp_exit, ↓lp_ret, ↓C_skip, ↓C_reg, ↓C_dreg, ↓C_seq, ↓C_cond, ↓C_blk, ↓C_loop, ↓C_exit, ↓C_ret, ↓sq_nrm, ↓sq_exit, ↓sq_ret, ↓outB_nrm, ↓outB_ret, ↓outB_exit, ↓fin_nrm, ↓fin_ret, ↓fin_ret0, ↓fin_nrm0, ↓fin_ret2, ↓rd_nrm, ↓rd_exit, ↓rd_ret, ↓cIf_true, ↓cIf_false, ↓VO_nil, ↓VO_go, ↓VO_if, ↓nx_some, ↓nx_none, putD_some, putD_none, ↓V_p, ↓V_r, ↓V_a, ↓V_e, ↓V_call, ↓V_inv, ↓oQ_some, ↓oP_some, ↓oA_some, ↓oC_some, gO_true, gO_false, ↓gO_true, ↓gO_false, cIf_true, cIf_false, oQ_some, oP_some, oA_some, oC_some, oV_some,  reserve0, ↓D_nil, ↓D_p, ↓D_r, ↓nd_some, ↓ndr_some, ↓oV_some, ↓ev_rst, has_cons, has_nil, P_mv, P_pick, pickV_true, pickV_false, P_bin, P_un, P_cnv, cnvV_int, P_mkif, P_mkfn, P_fadr, P_fld, P_iadr, P_idx, P_len, P_mn, P_mx, foldV_two, mn2_int, mx2_int, unA_not, unA_neg, B_add, B_sub, B_mul, B_quo, B_rem, B_eql, B_neq, B_lss, B_leq, B_gtr, B_geq, R_load, wants_ev, gV_t, gV_f, ↓evPut, ↓ev_c, ↓ev_f, ↓ev_g, isC_t, isC_c, isC_f, isC_g, ↓reduceIte, Nat.reduceEqDiff, Nat.reduceBEq, Bool.or_self, Bool.or_false, Bool.or_true, Bool.false_or, Bool.true_or, Bool.and_true, Bool.and_false, Bool.true_and, Bool.false_and, Bool.not_true, Bool.not_false, Bool.false_eq_true, ofArgs, List.map_cons, List.map_nil, List.nil_append, List.append_nil, List.cons_append, Nat.reduceAdd, calleeA, beq_self_eq_true, decide_true, decide_false, e1, e2, e5, e17, e18, w7, iadr_own t53 t5' _ _ _ _ _ i0 la, Int.toNat_natCast]
    rw [storeV_row t5' G.n _ _ _ i .u8 _ (show (G.alloc (rowB (codeC zs ls ss ls.length i))).get G.n = some (.row (.lst ((codeC zs ls ss ls.length i).map (Value.int .u8))) 0 true) from Hp.get_alloc_same _ _) (by rw [List.length_map, codeC_len (by omega)]; omega)]
    simp -implicitDefEqProofs only [↓D_if, gD_true, gD_false, ↓D_a, ↓D_e, ↓D_call, ↓ndc_0, Hp.get_put, Hp.get_alloc, ldR_lst, List.getElem?_map, List.length_map, List.length_set, A_mksl, E_store, omap_some, omap_none, bndV_none, ↓lp_nrm, ↓lp_exit, ↓lp_ret, ↓C_skip, ↓C_reg, ↓C_dreg, ↓C_seq, ↓C_cond, ↓C_blk, ↓C_loop, ↓C_exit, ↓C_ret, ↓sq_nrm, ↓sq_exit, ↓sq_ret, ↓outB_nrm, ↓outB_ret, ↓outB_exit, ↓fin_nrm, ↓fin_ret, ↓fin_ret0, ↓fin_nrm0, ↓fin_ret2, ↓rd_nrm, ↓rd_exit, ↓rd_ret, ↓cIf_true, ↓cIf_false, ↓VO_nil, ↓VO_go, ↓VO_if, ↓nx_some, ↓nx_none, putD_some, putD_none, ↓V_p, ↓V_r, ↓V_a, ↓V_e, ↓V_call, ↓V_inv, ↓oQ_some, ↓oP_some, ↓oA_some, ↓oC_some, gO_true, gO_false, ↓gO_true, ↓gO_false, cIf_true, cIf_false, oQ_some, oP_some, oA_some, oC_some, oV_some,  reserve0, ↓D_nil, ↓D_p, ↓D_r, ↓nd_some, ↓ndr_some, ↓oV_some, ↓ev_rst, has_cons, has_nil, P_mv, P_pick, pickV_true, pickV_false, P_bin, P_un, P_cnv, cnvV_int, P_mkif, P_mkfn, P_fadr, P_fld, P_iadr, P_idx, P_len, P_mn, P_mx, foldV_two, mn2_int, mx2_int, unA_not, unA_neg, B_add, B_sub, B_mul, B_quo, B_rem, B_eql, B_neq, B_lss, B_leq, B_gtr, B_geq, R_load, wants_ev, gV_t, gV_f, ↓evPut, ↓ev_c, ↓ev_f, ↓ev_g, isC_t, isC_c, isC_f, isC_g, ↓reduceIte, Nat.reduceEqDiff, Nat.reduceBEq, Bool.or_self, Bool.or_false, Bool.or_true, Bool.false_or, Bool.true_or, Bool.and_true, Bool.and_false, Bool.true_and, Bool.false_and, Bool.not_true, Bool.not_false, Bool.false_eq_true, ofArgs, List.map_cons, List.map_nil, List.nil_append, List.append_nil, List.cons_append, Nat.reduceAdd, calleeA, beq_self_eq_true, decide_true, decide_false, e1, e2, e5, e17, e18, wi, rowB, Hp.alloc_put]
    refine ⟨d - 1, by omega, i + 1, by omega, ?_, by simp only [↓evPut, ↓ev_c, ↓reduceIte, Nat.reduceEqDiff]; exact e1, by simp only [↓evPut, ↓ev_c, ↓reduceIte, Nat.reduceEqDiff]; exact e2, by simp only [↓evPut, ↓ev_c, ↓reduceIte, Nat.reduceEqDiff]; exact e5, by simp only [↓evPut, ↓ev_c, ↓reduceIte, Nat.reduceEqDiff]; exact e17, by simp only [↓evPut, ↓ev_c, ↓reduceIte, Nat.reduceEqDiff]⟩
    rw [← codeC_set (by omega)]
    simp only [rowB, List.map_set]
  · simp -implicitDefEqProofs only [↓D_if, gD_true, gD_false, ↓D_a, ↓D_e, ↓D_call, ↓ndc_0, Hp.get_put, Hp.get_alloc, ldR_lst, List.getElem?_map, List.length_map, List.length_set, A_mksl, E_store, omap_some, omap_none, bndV_none, ↓lp_nrm, ↓lp_exit, ↓lp_ret, ↓C_skip, ↓C_reg, ↓C_dreg, ↓C_seq, ↓C_cond, ↓C_blk, ↓C_loop, ↓C_exit, ↓C_ret, ↓sq_nrm, ↓sq_exit, ↓sq_ret, ↓outB_nrm, ↓outB_ret, ↓outB_exit, ↓fin_nrm, ↓fin_ret, ↓fin_ret0, ↓fin_nrm0, ↓fin_ret2, ↓rd_nrm, ↓rd_exit, ↓rd_ret, ↓cIf_true, ↓cIf_false, ↓VO_nil, ↓VO_go, ↓VO_if, ↓nx_some, ↓nx_none, putD_some, putD_none, ↓V_p, ↓V_r, ↓V_a, ↓V_e, ↓V_call, ↓V_inv, ↓oQ_some, ↓oP_some, ↓oA_some, ↓oC_some, gO_true, gO_false, ↓gO_true, ↓gO_false, cIf_true, cIf_false, oQ_some, oP_some, oA_some, oC_some, oV_some,  reserve0, ↓D_nil, ↓D_p, ↓D_r, ↓nd_some, ↓ndr_some, ↓oV_some, ↓ev_rst, has_cons, has_nil, P_mv, P_pick, pickV_true, pickV_false, P_bin, P_un, P_cnv, cnvV_int, P_mkif, P_mkfn, P_fadr, P_fld, P_iadr, P_idx, P_len, P_mn, P_mx, foldV_two, mn2_int, mx2_int, unA_not, unA_neg, B_add, B_sub, B_mul, B_quo, B_rem, B_eql, B_neq, B_lss, B_leq, B_gtr, B_geq, R_load, wants_ev, gV_t, gV_f, ↓evPut, ↓ev_c, ↓ev_f, ↓ev_g, isC_t, isC_c, isC_f, isC_g, ↓reduceIte, Nat.reduceEqDiff, Nat.reduceBEq, Bool.or_self, Bool.or_false, Bool.or_true, Bool.false_or, Bool.true_or, Bool.and_true, Bool.and_false, Bool.true_and, Bool.false_and, Bool.not_true, Bool.not_false, Bool.false_eq_true, ofArgs, List.map_cons, List.map_nil, List.nil_append, List.append_nil, List.cons_append, Nat.reduceAdd, calleeA, beq_self_eq_true, decide_true, decide_false, e5, e17, e18, la]
    have : i = ls.length := by omega
    subst this
    exact ⟨trivial, rfl⟩
end Go.Proofs.YtaegmplbkbaniaaGreatDoor

/-
  quant.Make in the machine. No condition.
-/
set_option linter.all false
namespace Go.Proofs.YtaegmplbkbaniaaGreatDoor
open Go
attribute [local irreducible] VO VC VD VD1 V1 nx nd ndr sq cIf gO oQ oP oA oC oV oIf oB fin rd' outB WC WF WO WD W1
set_option maxRecDepth 100000
/-! ### 46 -/
abbrev r46_0 : List Lo := [
  ⟨(some 2), (.a (.box 3 (.t 0))), none⟩,
  ⟨(some 4), (.a (.alloc 69)), none⟩]
abbrev r46_1 : List Lo := [
  ⟨(some 11), (.r (.load 3 (.t 2))), none⟩,
  ⟨(some 12), (.p (.bin .lss 3 (.t 11) (.c (.int .i64 1)))), none⟩,
  ⟨(some 13), (.p (.mv (.t 12))), none⟩,
  ⟨(some 14), (.r (.load 3 (.t 2))), (some (13, false))⟩,
  ⟨(some 15), (.p (.bin .gtr 3 (.t 14) (.c (.int .i64 8)))), (some (13, false))⟩,
  ⟨(some 16), (.p (.pick (.t 13) (.c (.bool true)) (.t 15))), none⟩]
abbrev r46_2 : List Lo := [
  ⟨(some 17), (.p (.build 69 [])), none⟩,
  ⟨none, (.e (.store 69 (.t 4) (.t 17))), none⟩]
abbrev r46_3 : List Lo := [
  ⟨(some 18), (.p (.mv (.t 1))), none⟩,
  ⟨(some 19), (.call (.f 80) [(.t 18)]), none⟩,
  ⟨(some 20), (.p (.mkfn 81 [] [(.t 2)])), none⟩,
  ⟨(some 21), (.call (.f 79) [(.t 19), (.t 20)]), none⟩,
  ⟨(some 1), (.p (.mv (.t 21))), none⟩]
def d46_4 : List Dl := [
  ⟨⟨(some 22), (.r (.load 3 (.t 2))), none⟩, 0, 0, 0, false, [], [2]⟩,
  ⟨⟨(some 23), (.a (.mksl 37 (.t 22) (.t 22))), none⟩, 1, 0, 0, false, [], [22, 22]⟩,
  ⟨⟨(some 24), (.r (.load 3 (.t 2))), none⟩, 2, 1, 0, false, [], [2]⟩,
  ⟨⟨(some 25), (.a (.mksl 37 (.t 24) (.t 24))), none⟩, 3, 1, 0, false, [], [24, 24]⟩,
  ⟨⟨(some 26), (.p (.build 69 [(0, (.t 23)), (1, (.t 25))])), none⟩, 4, 2, 0, false, [], [23, 25]⟩,
  ⟨⟨(some 5), (.a (.alloc 69)), none⟩, 5, 2, 0, false, [], []⟩,
  ⟨⟨none, (.e (.store 69 (.t 5) (.t 26))), none⟩, 6, 3, 0, false, [], [5, 26]⟩]
abbrev r46_5 : List Lo := [
  ⟨(some 27), (.r (.load 3 (.t 2))), none⟩,
  ⟨(some 28), (.p (.mv (.c (.int .i64 0)))), none⟩]
abbrev r46_6 : List Lo := [
  ⟨(some 29), (.p (.bin .lss 3 (.t 28) (.t 27))), none⟩]
abbrev r46_7 : List Lo := [
  ⟨(some 30), (.p (.mv (.t 28))), none⟩,
  ⟨(some 6), (.p (.mv (.t 30))), none⟩]
abbrev r46_8 : List Lo := [
  ⟨(some 7), (.p (.mv (.c (.int .i32 0)))), none⟩,
  ⟨(some 8), (.p (.mv (.c (.int .i32 0)))), none⟩]
abbrev r46_9 : List Lo := [
  ⟨(some 31), (.p (.mv (.t 1))), none⟩,
  ⟨(some 32), (.p (.len 36 (.t 31))), none⟩,
  ⟨(some 33), (.p (.mv (.c (.int .i64 0)))), none⟩]
abbrev r46_10 : List Lo := [
  ⟨(some 34), (.p (.bin .lss 3 (.t 33) (.t 32))), none⟩]
abbrev r46_11 : List Lo := [
  ⟨(some 35), (.p (.mv (.t 33))), none⟩,
  ⟨(some 36), (.p (.iadr 36 (.t 31) (.t 33))), none⟩,
  ⟨(some 37), (.r (.load 38 (.t 36))), none⟩,
  ⟨(some 9), (.p (.mv (.t 35))), none⟩,
  ⟨(some 10), (.p (.mv (.t 37))), none⟩]
abbrev r46_12 : List Lo := [
  ⟨(some 38), (.p (.mv (.t 9))), none⟩,
  ⟨(some 39), (.p (.bin .eql 3 (.t 38) (.c (.int .i64 0)))), none⟩]
abbrev d46_13 : List Dl := [
  ⟨⟨(some 40), (.p (.mv (.t 10))), none⟩, 0, 0, 0, false, [], [10]⟩,
  ⟨⟨(some 41), (.p (.mv (.t 6))), none⟩, 1, 0, 0, false, [], [6]⟩,
  ⟨⟨(some 42), (.p (.iadr 38 (.t 40) (.t 41))), none⟩, 2, 0, 0, false, [], [40, 41]⟩,
  ⟨⟨(some 43), (.r (.load 21 (.t 42))), none⟩, 3, 0, 0, false, [], [42]⟩,
  ⟨⟨(some 44), (.p (.mv (.t 10))), none⟩, 4, 0, 0, false, [], [10]⟩,
  ⟨⟨(some 45), (.p (.mv (.t 6))), none⟩, 5, 0, 0, false, [], [6]⟩,
  ⟨⟨(some 46), (.p (.iadr 38 (.t 44) (.t 45))), none⟩, 6, 0, 0, false, [], [44, 45]⟩,
  ⟨⟨(some 47), (.r (.load 21 (.t 46))), none⟩, 7, 0, 0, false, [], [46]⟩,
  ⟨⟨(some 7), (.p (.mv (.t 43))), none⟩, 8, 0, 0, false, [], [43]⟩,
  ⟨⟨(some 8), (.p (.mv (.t 47))), none⟩, 9, 0, 0, false, [], [47]⟩]
abbrev d46_14 : List Dl := [
  ⟨⟨(some 48), (.p (.mv (.t 7))), none⟩, 0, 0, 0, false, [], [7]⟩,
  ⟨⟨(some 49), (.p (.mv (.t 10))), none⟩, 1, 0, 0, false, [], [10]⟩,
  ⟨⟨(some 50), (.p (.mv (.t 6))), none⟩, 2, 0, 0, false, [], [6]⟩,
  ⟨⟨(some 51), (.p (.iadr 38 (.t 49) (.t 50))), none⟩, 3, 0, 0, false, [], [49, 50]⟩,
  ⟨⟨(some 52), (.r (.load 21 (.t 51))), none⟩, 4, 0, 0, false, [], [51]⟩,
  ⟨⟨(some 53), (.p (.mn [(.t 48), (.t 52)])), none⟩, 5, 0, 0, false, [], [48, 52]⟩,
  ⟨⟨(some 54), (.p (.mv (.t 8))), none⟩, 6, 0, 0, false, [], [8]⟩,
  ⟨⟨(some 55), (.p (.mv (.t 10))), none⟩, 7, 0, 0, false, [], [10]⟩,
  ⟨⟨(some 56), (.p (.mv (.t 6))), none⟩, 8, 0, 0, false, [], [6]⟩,
  ⟨⟨(some 57), (.p (.iadr 38 (.t 55) (.t 56))), none⟩, 9, 0, 0, false, [], [55, 56]⟩,
  ⟨⟨(some 58), (.r (.load 21 (.t 57))), none⟩, 10, 0, 0, false, [], [57]⟩,
  ⟨⟨(some 59), (.p (.mx [(.t 54), (.t 58)])), none⟩, 11, 0, 0, false, [], [54, 58]⟩,
  ⟨⟨(some 7), (.p (.mv (.t 53))), none⟩, 12, 0, 0, false, [], [53]⟩,
  ⟨⟨(some 8), (.p (.mv (.t 59))), none⟩, 13, 0, 0, false, [], [59]⟩]
abbrev r46_15 : List Lo := [
  ⟨(some 60), (.p (.bin .add 3 (.t 33) (.c (.int .i64 1)))), none⟩,
  ⟨(some 33), (.p (.mv (.t 60))), none⟩]
def l46_16 : Ac := (.seq (.reg r46_10) (.seq (.cond (.t 34) .skip (.exit 2)) (.seq (.blk 3 (.seq (.reg r46_11) (.seq (.seq (.reg r46_12) (.cond (.t 39) (.dreg 0 d46_13) .skip)) (.dreg 0 d46_14)))) (.reg r46_15))))
def d46_17 : List Dl := [
  ⟨⟨(some 61), (.p (.fadr 69 (.t 5) 0)), none⟩, 0, 0, 0, false, [], [5]⟩,
  ⟨⟨(some 62), (.r (.load 37 (.t 61))), none⟩, 1, 0, 0, false, [], [61]⟩,
  ⟨⟨(some 63), (.p (.mv (.t 6))), none⟩, 2, 0, 0, false, [], [6]⟩,
  ⟨⟨(some 64), (.p (.fadr 69 (.t 5) 1)), none⟩, 3, 0, 0, false, [], [5]⟩,
  ⟨⟨(some 65), (.r (.load 37 (.t 64))), none⟩, 4, 0, 0, true, [], [64]⟩,
  ⟨⟨(some 66), (.p (.mv (.t 6))), none⟩, 5, 0, 0, false, [], [6]⟩,
  ⟨⟨(some 67), (.p (.mv (.t 7))), none⟩, 6, 0, 0, false, [], [7]⟩,
  ⟨⟨(some 68), (.p (.mv (.t 8))), none⟩, 7, 0, 0, false, [], [8]⟩,
  ⟨⟨(some 69), (.p (.mv (.t 7))), none⟩, 8, 0, 0, false, [], [7]⟩,
  ⟨⟨(some 70), (.p (.bin .sub 21 (.t 68) (.t 69))), none⟩, 9, 0, 0, false, [], [68, 69]⟩,
  ⟨⟨(some 71), (.p (.bin .add 21 (.t 70) (.c (.int .i32 255)))), none⟩, 10, 0, 0, false, [], [70]⟩,
  ⟨⟨(some 72), (.p (.bin .sub 21 (.t 71) (.c (.int .i32 1)))), none⟩, 11, 0, 0, false, [], [71]⟩,
  ⟨⟨(some 73), (.p (.bin .quo 21 (.t 72) (.c (.int .i32 255)))), none⟩, 12, 0, 0, false, [], [72]⟩,
  ⟨⟨(some 74), (.p (.mx [(.t 73), (.c (.int .i32 1))])), none⟩, 13, 0, 0, false, [], [73]⟩,
  ⟨⟨(some 75), (.p (.iadr 37 (.t 62) (.t 63))), none⟩, 14, 0, 0, false, [], [62, 63]⟩,
  ⟨⟨none, (.e (.store 21 (.t 75) (.t 67))), none⟩, 15, 0, 0, false, [4], [75, 67]⟩,
  ⟨⟨(some 76), (.p (.iadr 37 (.t 65) (.t 66))), none⟩, 16, 0, 0, false, [], [65, 66]⟩,
  ⟨⟨none, (.e (.store 21 (.t 76) (.t 74))), none⟩, 17, 0, 0, false, [], [76, 74]⟩]
abbrev r46_18 : List Lo := [
  ⟨(some 77), (.p (.bin .add 3 (.t 28) (.c (.int .i64 1)))), none⟩,
  ⟨(some 28), (.p (.mv (.t 77))), none⟩]
def l46_19 : Ac := (.seq (.reg r46_6) (.seq (.cond (.t 29) .skip (.exit 0)) (.seq (.blk 1 (.seq (.reg r46_7) (.seq (.reg r46_8) (.seq (.seq (.reg r46_9) (.blk 2 (.loop l46_16))) (.dreg 0 d46_17))))) (.reg r46_18))))
abbrev r46_20 : List Lo := [
  ⟨(some 78), (.r (.load 69 (.t 5))), none⟩,
  ⟨none, (.e (.store 69 (.t 4) (.t 78))), none⟩]
def c46 : AFun := ⟨(.seq (.reg r46_0) (.seq (.seq (.reg r46_1) (.cond (.t 16) (.seq (.reg r46_2) .ret) .skip)) (.seq (.reg r46_3) (.seq (.dreg 3 d46_4) (.seq (.seq (.reg r46_5) (.blk 0 (.loop l46_19))) (.seq (.reg r46_20) .ret)))))), [.cell 4 69], 79⟩
theorem p46 : progOf Tryz.prog 46 = some c46 := by kernel_rfl

set_option maxRecDepth 4000
attribute [local irreducible] gD ndc oAd
theorem store69 {E : Env} (hE : E.ty = tyOf Tryz.prog) {H : Hp} {b b1 b2 : Nat} {o1 o2 : Nat} {s1 s2 n1 n2 c1 c2 : Nat} {a c : Value} (h : H.get b = some (.row (.lst [a, c]) 0 true)) :
    storeV E H 69 (.pointer (some ⟨b, 0, none⟩)) (bok (.slice (some ⟨b1, o1, some s1⟩) n1 c1) (.slice (some ⟨b2, o2, some s2⟩) n2 c2)) = some (undef, H.put b (some (.row (.lst [.slice (some ⟨b1, o1, some s1⟩) n1 c1, .slice (some ⟨b2, o2, some s2⟩) n2 c2]) 0 true))) := by
  unfold storeV
  simp only [(congrFun hE 69).trans ty69, bok_cells]
  rw [show Nat.beq (bok (.slice (some ⟨b1, o1, some s1⟩) n1 c1) (.slice (some ⟨b2, o2, some s2⟩) n2 c2)).cells.size 2 = true from rfl]
  unfold Hp.wr
  rw [show ([Value.slice (some ⟨b1, o1, some s1⟩) n1 c1, .slice (some ⟨b2, o2, some s2⟩) n2 c2].all one) = true from rfl]
  simp only [h, Cl.wr]
  rfl
theorem A_alloc69 {E : Env} (hE : E.ty = tyOf Tryz.prog) {t : Tr Value} : allocA E t (.alloc 69) = some (.row (.lst [.slice none 0 0, .slice none 0 0]) 0 true, fun i => .pointer (some ⟨i, 0, none⟩)) := by
  unfold allocA
  simp only [(congrFun hE 69).trans ty69]
theorem P_build69 {E : Env} (hE : E.ty = tyOf Tryz.prog) {t : Tr Value} {x y : Od} {b1 b2 : Nat} {o1 o2 : Nat} {s1 s2 n1 n2 c1 c2 : Nat} (hx : Od.ev t x = .slice (some ⟨b1, o1, some s1⟩) n1 c1) (hy : Od.ev t y = .slice (some ⟨b2, o2, some s2⟩) n2 c2) :
    pureA E t (.build 69 [(0, x), (1, y)]) = some (bok (.slice (some ⟨b1, o1, some s1⟩) n1 c1) (.slice (some ⟨b2, o2, some s2⟩) n2 c2)) := by
  unfold pureA
  simp only [(congrFun hE 69).trans ty69]
  rw [show plcs E [(0, 37), (1, 37)] = some [(0, 1), (1, 1)] by simp only [plcs, (congrFun hE 37).trans ty37]]
  simp only [parts, hx, hy]
  rfl
theorem fin_cell {E : Env} {t : Tr Value} {H : Hp} (Q : Value → Hp → Prop) (a T : Nat) : fin E [.cell a T] Q .ret t H = (match loadV E H T (Od.ev t (.t a)) with | some v => Q v H | none => False) := by
  unfold fin
  simp only [resA, R_load]
  cases loadV E H T (Od.ev t (.t a)) <;> rfl
/-- The least and the greatest of a column's first k. -/
def loN (L : List (List Int)) (i : Nat) : Nat → Int
  | 0 => 0
  | k + 1 => min (if k = 0 then (L.getD k []).getD i 0 else loN L i k) ((L.getD k []).getD i 0)
def hiN (L : List (List Int)) (i : Nat) : Nat → Int
  | 0 => 0
  | k + 1 => max (if k = 0 then (L.getD k []).getD i 0 else hiN L i k) ((L.getD k []).getD i 0)
def stN (L : List (List Int)) (i : Nat) : Int := max ((hiN L i L.length - loN L i L.length + 255 - 1).tdiv 255) 1
theorem loN_le {L : List (List Int)} {i : Nat} {B : Int} (hB : 0 ≤ B) (h : ∀ z ∈ L, ∀ x ∈ z, -B ≤ x ∧ x ≤ B) : ∀ k, -B ≤ loN L i k ∧ loN L i k ≤ hiN L i k ∧ hiN L i k ≤ B := by
  have hx : ∀ k, -B ≤ (L.getD k []).getD i 0 ∧ (L.getD k []).getD i 0 ≤ B := fun k => by
    by_cases hk : k < L.length
    · have e : L.getD k [] = L[k] := by simp [List.getD, hk]
      rw [e]
      by_cases hi : i < L[k].length
      · have e2 : (L[k]).getD i 0 = (L[k])[i] := by simp [List.getD, hi]
        rw [e2]; exact h _ (List.getElem_mem hk) _ (List.getElem_mem hi)
      · have e2 : (L[k]).getD i 0 = 0 := by simp [List.getD, hi]
        rw [e2]; omega
    · have e : L.getD k [] = [] := by simp [List.getD, hk]
      rw [e]
      have e2 : ([] : List Int).getD i 0 = 0 := rfl
      rw [e2]; omega
  intro k
  induction k with
  | zero => simp only [loN, hiN]; omega
  | succ k ih =>
    have := hx k
    simp only [loN, hiN]
    by_cases hk : k = 0
    · simp only [hk, if_true] at *; omega
    · simp only [if_neg hk]; omega
structure K46 (va : Value) (L : List (List Int)) (i : Nat) (u1 u4 u5 u27 u28 : Value) (t : Tr Value) (k : Nat) : Prop where
  t1 : Od.ev t (.t 1) = u1
  t4 : Od.ev t (.t 4) = u4
  t5 : Od.ev t (.t 5) = u5
  t27 : Od.ev t (.t 27) = u27
  t28 : Od.ev t (.t 28) = u28
  t6 : Od.ev t (.t 6) = .int .i64 i
  t7 : Od.ev t (.t 7) = .int .i32 (loN L i k)
  t8 : Od.ev t (.t 8) = .int .i32 (hiN L i k)
  t31 : Od.ev t (.t 31) = va
  t32 : Od.ev t (.t 32) = .int .i64 ((L.length : Nat) : Int)
  t33 : Od.ev t (.t 33) = .int .i64 k
def I46n (H0 : Hp) (va : Value) (L : List (List Int)) (i : Nat) (u1 u4 u5 u27 u28 : Value) (d : Nat) (t : Tr Value) (H : Hp) : Prop := H = H0 ∧ ∃ k : Nat, k + d = L.length ∧ K46 va L i u1 u4 u5 u27 u28 t k
theorem loop46n {E : Env} (hE : E.ty = tyOf Tryz.prog) {H0 : Hp} {va : Value} {L : List (List Int)} (hv : IsVs H0 va L) (hL : L.length ≤ 65536) {i dim : Nat} (hi : i < dim) (hd : ∀ z ∈ L, z.length = dim) {u1 u4 u5 u27 u28 : Value} (d : Nat) (t : Tr Value) (H : Hp) (h : I46n H0 va L i u1 u4 u5 u27 u28 d t H)
    {Q : Ax → Tr Value → Hp → Prop} (hq : ∀ t', K46 va L i u1 u4 u5 u27 u28 t' L.length → Q (.exit 2) t' H0) : VC E l46_16 t H (rd' E (I46n H0 va L i u1 u4 u5 u27 u28) d Q) := by
  obtain ⟨rfl, k, hk, l⟩ := h
  have t36 := (congrFun hE 36).trans ty36
  have t38 := (congrFun hE 38).trans ty38
  have t21 := (congrFun hE 21).trans ty21
  have e6 := l.t6
  have e7 := l.t7
  have e8 := l.t8
  have e31 := l.t31
  have e32 := l.t32
  have e33 := l.t33
  unfold l46_16
  simp -implicitDefEqProofs only [↓D_if, gD_true, gD_false, ↓D_a, ↓D_e, ↓D_call, ↓ndc_0, Hp.get_put, Hp.get_alloc, ldR_lst, List.getElem?_map, List.length_map, List.length_set, A_mksl, E_store, omap_some, omap_none, bndV_none, ↓lp_nrm, ↓lp_exit, ↓lp_ret, ↓C_skip, ↓C_reg, ↓C_dreg, ↓C_seq, ↓C_cond, ↓C_blk, ↓C_loop, ↓C_exit, ↓C_ret, ↓sq_nrm, ↓sq_exit, ↓sq_ret, ↓outB_nrm, ↓outB_ret, ↓outB_exit, ↓fin_nrm, ↓fin_ret, ↓fin_ret0, ↓fin_nrm0, ↓fin_ret2, ↓rd_nrm, ↓rd_exit, ↓rd_ret, ↓cIf_true, ↓cIf_false, ↓VO_nil, ↓VO_go, ↓VO_if, ↓nx_some, ↓nx_none, putD_some, putD_none, ↓V_p, ↓V_r, ↓V_a, ↓V_e, ↓V_call, ↓V_inv, ↓oQ_some, ↓oP_some, ↓oA_some, ↓oC_some, gO_true, gO_false, ↓gO_true, ↓gO_false, cIf_true, cIf_false, oQ_some, oP_some, oA_some, oC_some, oV_some,  reserve0, ↓D_nil, ↓D_p, ↓D_r, ↓nd_some, ↓ndr_some, ↓oV_some, ↓ev_rst, has_cons, has_nil, P_mv, P_pick, pickV_true, pickV_false, P_bin, P_un, P_cnv, cnvV_int, P_mkif, P_mkfn, P_fadr, P_fld, P_iadr, P_idx, P_len, P_mn, P_mx, foldV_two, mn2_int, mx2_int, unA_not, unA_neg, B_add, B_sub, B_mul, B_quo, B_rem, B_eql, B_neq, B_lss, B_leq, B_gtr, B_geq, R_load, wants_ev, gV_t, gV_f, ↓evPut, ↓ev_c, ↓ev_f, ↓ev_g, isC_t, isC_c, isC_f, isC_g, ↓reduceIte, Nat.reduceEqDiff, Nat.reduceBEq, Bool.or_self, Bool.or_false, Bool.or_true, Bool.false_or, Bool.true_or, Bool.and_true, Bool.and_false, Bool.true_and, Bool.false_and, Bool.not_true, Bool.not_false, Bool.false_eq_true, ofArgs, List.map_cons, List.map_nil, List.nil_append, List.append_nil, List.cons_append, Nat.reduceAdd, calleeA, beq_self_eq_true, decide_true, decide_false, e32, e33]
  by_cases la : k < L.length
  · rw [cIf_yes (by omega)]
    have wi := wrapSucc (i := k) (by omega)
    have i0 : (0 : Int) ≤ i := Int.natCast_nonneg i
    obtain ⟨c, hc, hcs⟩ := load_vs t38 hv la
    have hlen : L[k].length = dim := hd _ (List.getElem_mem la)
    have eg : L.getD k [] = L[k] := by simp [List.getD, la]
    have li : (i : Int) < L[k].length := by omega
    by_cases hk0 : k = 0
    · have hk1 : ((k : Int) = 0) = True := eq_true (by omega)
      simp -implicitDefEqProofs only [↓D_if, gD_true, gD_false, ↓D_a, ↓D_e, ↓D_call, ↓ndc_0, Hp.get_put, Hp.get_alloc, ldR_lst, List.getElem?_map, List.length_map, List.length_set, A_mksl, E_store, omap_some, omap_none, bndV_none, ↓lp_nrm, ↓lp_exit, ↓lp_ret, ↓C_skip, ↓C_reg, ↓C_dreg, ↓C_seq, ↓C_cond, ↓C_blk, ↓C_loop, ↓C_exit, ↓C_ret, ↓sq_nrm, ↓sq_exit, ↓sq_ret, ↓outB_nrm, ↓outB_ret, ↓outB_exit, ↓fin_nrm, ↓fin_ret, ↓fin_ret0, ↓fin_nrm0, ↓fin_ret2, ↓rd_nrm, ↓rd_exit, ↓rd_ret, ↓cIf_true, ↓cIf_false, ↓VO_nil, ↓VO_go, ↓VO_if, ↓nx_some, ↓nx_none, putD_some, putD_none, ↓V_p, ↓V_r, ↓V_a, ↓V_e, ↓V_call, ↓V_inv, ↓oQ_some, ↓oP_some, ↓oA_some, ↓oC_some, gO_true, gO_false, ↓gO_true, ↓gO_false, cIf_true, cIf_false, oQ_some, oP_some, oA_some, oC_some, oV_some,  reserve0, ↓D_nil, ↓D_p, ↓D_r, ↓nd_some, ↓ndr_some, ↓oV_some, ↓ev_rst, has_cons, has_nil, P_mv, P_pick, pickV_true, pickV_false, P_bin, P_un, P_cnv, cnvV_int, P_mkif, P_mkfn, P_fadr, P_fld, P_iadr, P_idx, P_len, P_mn, P_mx, foldV_two, mn2_int, mx2_int, unA_not, unA_neg, B_add, B_sub, B_mul, B_quo, B_rem, B_eql, B_neq, B_lss, B_leq, B_gtr, B_geq, R_load, wants_ev, gV_t, gV_f, ↓evPut, ↓ev_c, ↓ev_f, ↓ev_g, isC_t, isC_c, isC_f, isC_g, ↓reduceIte, Nat.reduceEqDiff, Nat.reduceBEq, Bool.or_self, Bool.or_false, Bool.or_true, Bool.false_or, Bool.true_or, Bool.and_true, Bool.and_false, Bool.true_and, Bool.false_and, Bool.not_true, Bool.not_false, Bool.false_eq_true, ofArgs, List.map_cons, List.map_nil, List.nil_append, List.append_nil, List.cons_append, Nat.reduceAdd, calleeA, beq_self_eq_true, decide_true, decide_false, e6, e7, e8, e31, e32, e33, iadr_vs t36 t38 hv (Int.natCast_nonneg k) (by omega : (k : Int) < L.length), Int.toNat_natCast, hc, iadr_sl t38 t21 hcs i0 li, load_sl t21 hcs (show i < L[k].length by omega), wi, hk1]
      refine ⟨d - 1, by omega, rfl, k + 1, by omega, ⟨?_, ?_, ?_, ?_, ?_, ?_, ?_, ?_, ?_, ?_, ?_⟩⟩
      all_goals simp only [↓evPut, ↓ev_c, ↓reduceIte, Nat.reduceEqDiff]
      · exact l.t1
      · exact l.t4
      · exact l.t5
      · exact l.t27
      · exact l.t28
      · exact e6
      · simp only [loN, if_pos hk0, eg]
      · simp only [hiN, if_pos hk0, eg]
      · exact e31
      · exact e32
    · have hk1 : ¬ ((k : Int) = 0) := by omega
      simp -implicitDefEqProofs only [↓D_if, gD_true, gD_false, ↓D_a, ↓D_e, ↓D_call, ↓ndc_0, Hp.get_put, Hp.get_alloc, ldR_lst, List.getElem?_map, List.length_map, List.length_set, A_mksl, E_store, omap_some, omap_none, bndV_none, ↓lp_nrm, ↓lp_exit, ↓lp_ret, ↓C_skip, ↓C_reg, ↓C_dreg, ↓C_seq, ↓C_cond, ↓C_blk, ↓C_loop, ↓C_exit, ↓C_ret, ↓sq_nrm, ↓sq_exit, ↓sq_ret, ↓outB_nrm, ↓outB_ret, ↓outB_exit, ↓fin_nrm, ↓fin_ret, ↓fin_ret0, ↓fin_nrm0, ↓fin_ret2, ↓rd_nrm, ↓rd_exit, ↓rd_ret, ↓cIf_true, ↓cIf_false, ↓VO_nil, ↓VO_go, ↓VO_if, ↓nx_some, ↓nx_none, putD_some, putD_none, ↓V_p, ↓V_r, ↓V_a, ↓V_e, ↓V_call, ↓V_inv, ↓oQ_some, ↓oP_some, ↓oA_some, ↓oC_some, gO_true, gO_false, ↓gO_true, ↓gO_false, cIf_true, cIf_false, oQ_some, oP_some, oA_some, oC_some, oV_some,  reserve0, ↓D_nil, ↓D_p, ↓D_r, ↓nd_some, ↓ndr_some, ↓oV_some, ↓ev_rst, has_cons, has_nil, P_mv, P_pick, pickV_true, pickV_false, P_bin, P_un, P_cnv, cnvV_int, P_mkif, P_mkfn, P_fadr, P_fld, P_iadr, P_idx, P_len, P_mn, P_mx, foldV_two, mn2_int, mx2_int, unA_not, unA_neg, B_add, B_sub, B_mul, B_quo, B_rem, B_eql, B_neq, B_lss, B_leq, B_gtr, B_geq, R_load, wants_ev, gV_t, gV_f, ↓evPut, ↓ev_c, ↓ev_f, ↓ev_g, isC_t, isC_c, isC_f, isC_g, ↓reduceIte, Nat.reduceEqDiff, Nat.reduceBEq, Bool.or_self, Bool.or_false, Bool.or_true, Bool.false_or, Bool.true_or, Bool.and_true, Bool.and_false, Bool.true_and, Bool.false_and, Bool.not_true, Bool.not_false, Bool.false_eq_true, ofArgs, List.map_cons, List.map_nil, List.nil_append, List.append_nil, List.cons_append, Nat.reduceAdd, calleeA, beq_self_eq_true, decide_true, decide_false, e6, e7, e8, e31, e32, e33, iadr_vs t36 t38 hv (Int.natCast_nonneg k) (by omega : (k : Int) < L.length), Int.toNat_natCast, hc, iadr_sl t38 t21 hcs i0 li, load_sl t21 hcs (show i < L[k].length by omega), wi, hk1]
      refine ⟨d - 1, by omega, rfl, k + 1, by omega, ⟨?_, ?_, ?_, ?_, ?_, ?_, ?_, ?_, ?_, ?_, ?_⟩⟩
      all_goals simp only [↓evPut, ↓ev_c, ↓reduceIte, Nat.reduceEqDiff]
      · exact l.t1
      · exact l.t4
      · exact l.t5
      · exact l.t27
      · exact l.t28
      · exact e6
      · simp only [loN, if_neg hk0, eg]
      · simp only [hiN, if_neg hk0, eg]
      · exact e31
      · exact e32
  · rw [cIf_no (by omega)]
    simp -implicitDefEqProofs only [↓D_if, gD_true, gD_false, ↓D_a, ↓D_e, ↓D_call, ↓ndc_0, Hp.get_put, Hp.get_alloc, ldR_lst, List.getElem?_map, List.length_map, List.length_set, A_mksl, E_store, omap_some, omap_none, bndV_none, ↓lp_nrm, ↓lp_exit, ↓lp_ret, ↓C_skip, ↓C_reg, ↓C_dreg, ↓C_seq, ↓C_cond, ↓C_blk, ↓C_loop, ↓C_exit, ↓C_ret, ↓sq_nrm, ↓sq_exit, ↓sq_ret, ↓outB_nrm, ↓outB_ret, ↓outB_exit, ↓fin_nrm, ↓fin_ret, ↓fin_ret0, ↓fin_nrm0, ↓fin_ret2, ↓rd_nrm, ↓rd_exit, ↓rd_ret, ↓cIf_true, ↓cIf_false, ↓VO_nil, ↓VO_go, ↓VO_if, ↓nx_some, ↓nx_none, putD_some, putD_none, ↓V_p, ↓V_r, ↓V_a, ↓V_e, ↓V_call, ↓V_inv, ↓oQ_some, ↓oP_some, ↓oA_some, ↓oC_some, gO_true, gO_false, ↓gO_true, ↓gO_false, cIf_true, cIf_false, oQ_some, oP_some, oA_some, oC_some, oV_some,  reserve0, ↓D_nil, ↓D_p, ↓D_r, ↓nd_some, ↓ndr_some, ↓oV_some, ↓ev_rst, has_cons, has_nil, P_mv, P_pick, pickV_true, pickV_false, P_bin, P_un, P_cnv, cnvV_int, P_mkif, P_mkfn, P_fadr, P_fld, P_iadr, P_idx, P_len, P_mn, P_mx, foldV_two, mn2_int, mx2_int, unA_not, unA_neg, B_add, B_sub, B_mul, B_quo, B_rem, B_eql, B_neq, B_lss, B_leq, B_gtr, B_geq, R_load, wants_ev, gV_t, gV_f, ↓evPut, ↓ev_c, ↓ev_f, ↓ev_g, isC_t, isC_c, isC_f, isC_g, ↓reduceIte, Nat.reduceEqDiff, Nat.reduceBEq, Bool.or_self, Bool.or_false, Bool.or_true, Bool.false_or, Bool.true_or, Bool.and_true, Bool.and_false, Bool.true_and, Bool.false_and, Bool.not_true, Bool.not_false, Bool.false_eq_true, ofArgs, List.map_cons, List.map_nil, List.nil_append, List.append_nil, List.cons_append, Nat.reduceAdd, calleeA, beq_self_eq_true, decide_true, decide_false]
    have : k = L.length := by omega
    subst this
    refine hq _ ⟨?_, ?_, ?_, ?_, ?_, ?_, ?_, ?_, ?_, ?_, ?_⟩
    all_goals simp only [↓evPut, ↓ev_c, ↓reduceIte, Nat.reduceEqDiff]
    · exact l.t1
    · exact l.t4
    · exact l.t5
    · exact l.t27
    · exact l.t28
    · exact e6
    · exact e7
    · exact e8
    · exact e31
    · exact e32
    · exact e33
def loC (L : List (List Int)) (dim i : Nat) : List Int := (List.range i).map (fun j => loN L j L.length) ++ List.replicate (dim - i) 0
def stC (L : List (List Int)) (dim i : Nat) : List Int := (List.range i).map (fun j => stN L j) ++ List.replicate (dim - i) 0
theorem rngC_len {f : Nat → Int} {n i : Nat} (hi : i ≤ n) : ((List.range i).map f ++ List.replicate (n - i) 0).length = n := by simp; omega
theorem rngC_set {f : Nat → Int} {n i : Nat} (hi : i < n) : ((List.range i).map f ++ List.replicate (n - i) 0).set i (f i) = (List.range (i + 1)).map f ++ List.replicate (n - (i + 1)) 0 := by
  have hL : ((List.range i).map f).length = i := by simp
  have e1 : n - i = (n - (i + 1)) + 1 := by omega
  rw [List.set_append_right _ _ (by omega), hL, Nat.sub_self, e1, List.replicate_succ, List.set_cons_zero, List.range_succ, List.map_append, List.append_assoc]; rfl
theorem ndr_keep {E : Env} {t : Tr Value} (base d : Nat) (r : List Dl) (H1 K1 : Hp) (rd : Rds) (K : Tr Value → Hp → Prop) (i : Nat) (p : Ri) (T : Tr Value) (b : Nat) (v : Value) :
    ndr E base (some d) r ⟨t, H1, K1, [], rd⟩ K true (i, p, T) (([] : List Hp).take b) v = VD E base r ⟨t.put d (some v), H1, K1, [], (i, p, T, v) :: rd⟩ K := by
  unfold ndr
  simp only [List.take_nil, List.all_nil, true_and]
  rfl
theorem ndc_1 {E : Env} {t : Tr Value} {base : Nat} {d : Option Nat} {c : List Nat} {r : List Dl} {K1 : Hp} {sn : List Hp} {K : Tr Value → Hp → Prop} (i : Nat) (p : Ri) (T : Tr Value) (u v : Value) (H' : Hp) (ha : c.contains i = true → alike E T p u H' = true) :
    ndc E base d c r t K1 sn [(i, p, T, u)] K v H' = VD E base r ⟨putD t d v, H', H', K1 :: sn, [(i, p, T, u)]⟩ K := by
  unfold ndc
  have : ((!(c.contains i)) || alike E T p u H') = true := by
    cases h : c.contains i with
    | false => rfl
    | true => rw [ha h]; rfl
  simp only [List.all_cons, List.all_nil, this, Bool.and_true, true_and]
theorem Wf.put46 {H : Hp} (h : Wf H) {b : Nat} (hb : b < H.n) (o : Option AObj) : Wf (H.put b o) := fun id hi => by
  have hi : H.n ≤ id := hi
  rw [Hp.get_put, if_neg (by omega)]; exact h id hi
structure L46 (H3 : Hp) (va : Value) (L : List (List Int)) (dim : Nat) (u4 : Value) (t : Tr Value) (H' : Hp) (i : Nat) : Prop where
  wf : Wf H'
  old : ∀ b, b < H3.n → H'.get b = H3.get b
  n : H'.n = H3.n + 3
  gl : H'.get H3.n = some (.row (.lst ((loC L dim i).map (Value.int .i32))) 0 true)
  gs : H'.get (H3.n + 1) = some (.row (.lst ((stC L dim i).map (Value.int .i32))) 0 true)
  gb : H'.get (H3.n + 2) = some (.row (.lst [sld H3.n dim, sld (H3.n + 1) dim]) 0 true)
  t1 : Od.ev t (.t 1) = va
  t4 : Od.ev t (.t 4) = u4
  t5 : Od.ev t (.t 5) = .pointer (some ⟨H3.n + 2, 0, none⟩)
  t27 : Od.ev t (.t 27) = .int .i64 ((dim : Nat) : Int)
  t28 : Od.ev t (.t 28) = .int .i64 i
def I46 (H3 : Hp) (va : Value) (L : List (List Int)) (dim : Nat) (u4 : Value) (d : Nat) (t : Tr Value) (H' : Hp) : Prop := ∃ i : Nat, i + d = dim ∧ L46 H3 va L dim u4 t H' i
theorem loop46 {E : Env} (hE : E.ty = tyOf Tryz.prog) {H3 : Hp} (wf3 : Wf H3) {va : Value} {L : List (List Int)} (hv : IsVs H3 va L) (hL : L.length ≤ 65536) {dim : Nat} (hdim : dim ≤ 512) (hd : ∀ z ∈ L, z.length = dim) (hb : ∀ z ∈ L, ∀ x ∈ z, -1048576 ≤ x ∧ x ≤ 1048576) {u4 : Value} (d : Nat) (t : Tr Value) (H' : Hp) (h : I46 H3 va L dim u4 d t H')
    {Q : Ax → Tr Value → Hp → Prop} (hq : ∀ t' H', L46 H3 va L dim u4 t' H' dim → Q (.exit 0) t' H') : VC E l46_19 t H' (rd' E (I46 H3 va L dim u4) d Q) := by
  obtain ⟨i, hi, l⟩ := h
  have t36 := (congrFun hE 36).trans ty36
  have t37 := (congrFun hE 37).trans ty37
  have t21 := (congrFun hE 21).trans ty21
  have hv' := hv.grow wf3 l.old (by rw [l.n]; omega)
  have e1 := l.t1
  have e27 := l.t27
  have e28 := l.t28
  unfold l46_19
  simp -implicitDefEqProofs only [↓D_if, gD_true, gD_false, ↓D_a, ↓D_e, ↓D_call, ↓ndc_0, Hp.get_put, Hp.get_alloc, ldR_lst, List.getElem?_map, List.length_map, List.length_set, A_mksl, E_store, omap_some, omap_none, bndV_none, ↓lp_nrm, ↓lp_exit, ↓lp_ret, ↓C_skip, ↓C_reg, ↓C_dreg, ↓C_seq, ↓C_cond, ↓C_blk, ↓C_loop, ↓C_exit, ↓C_ret, ↓sq_nrm, ↓sq_exit, ↓sq_ret, ↓outB_nrm, ↓outB_ret, ↓outB_exit, ↓fin_nrm, ↓fin_ret, ↓fin_ret0, ↓fin_nrm0, ↓fin_ret2, ↓rd_nrm, ↓rd_exit, ↓rd_ret, ↓cIf_true, ↓cIf_false, ↓VO_nil, ↓VO_go, ↓VO_if, ↓nx_some, ↓nx_none, putD_some, putD_none, ↓V_p, ↓V_r, ↓V_a, ↓V_e, ↓V_call, ↓V_inv, ↓oQ_some, ↓oP_some, ↓oA_some, ↓oC_some, gO_true, gO_false, ↓gO_true, ↓gO_false, cIf_true, cIf_false, oQ_some, oP_some, oA_some, oC_some, oV_some,  reserve0, ↓D_nil, ↓D_p, ↓D_r, ↓nd_some, ↓ndr_some, ↓oV_some, ↓ev_rst, has_cons, has_nil, P_mv, P_pick, pickV_true, pickV_false, P_bin, P_un, P_cnv, cnvV_int, P_mkif, P_mkfn, P_fadr, P_fld, P_iadr, P_idx, P_len, P_mn, P_mx, foldV_two, mn2_int, mx2_int, unA_not, unA_neg, B_add, B_sub, B_mul, B_quo, B_rem, B_eql, B_neq, B_lss, B_leq, B_gtr, B_geq, R_load, wants_ev, gV_t, gV_f, ↓evPut, ↓ev_c, ↓ev_f, ↓ev_g, isC_t, isC_c, isC_f, isC_g, ↓reduceIte, Nat.reduceEqDiff, Nat.reduceBEq, Bool.or_self, Bool.or_false, Bool.or_true, Bool.false_or, Bool.true_or, Bool.and_true, Bool.and_false, Bool.true_and, Bool.false_and, Bool.not_true, Bool.not_false, Bool.false_eq_true, ofArgs, List.map_cons, List.map_nil, List.nil_append, List.append_nil, List.cons_append, Nat.reduceAdd, calleeA, beq_self_eq_true, decide_true, decide_false, e27, e28]
  by_cases la : i < dim
  · rw [cIf_yes (by omega)]
    have wi := wrapSucc (i := i) (by omega)
    have i0 : (0 : Int) ≤ i := Int.natCast_nonneg i
    simp -implicitDefEqProofs only [↓D_if, gD_true, gD_false, ↓D_a, ↓D_e, ↓D_call, ↓ndc_0, Hp.get_put, Hp.get_alloc, ldR_lst, List.getElem?_map, List.length_map, List.length_set, A_mksl, E_store, omap_some, omap_none, bndV_none, ↓lp_nrm, ↓lp_exit, ↓lp_ret, ↓C_skip, ↓C_reg, ↓C_dreg, ↓C_seq, ↓C_cond, ↓C_blk, ↓C_loop, ↓C_exit, ↓C_ret, ↓sq_nrm, ↓sq_exit, ↓sq_ret, ↓outB_nrm, ↓outB_ret, ↓outB_exit, ↓fin_nrm, ↓fin_ret, ↓fin_ret0, ↓fin_nrm0, ↓fin_ret2, ↓rd_nrm, ↓rd_exit, ↓rd_ret, ↓cIf_true, ↓cIf_false, ↓VO_nil, ↓VO_go, ↓VO_if, ↓nx_some, ↓nx_none, putD_some, putD_none, ↓V_p, ↓V_r, ↓V_a, ↓V_e, ↓V_call, ↓V_inv, ↓oQ_some, ↓oP_some, ↓oA_some, ↓oC_some, gO_true, gO_false, ↓gO_true, ↓gO_false, cIf_true, cIf_false, oQ_some, oP_some, oA_some, oC_some, oV_some,  reserve0, ↓D_nil, ↓D_p, ↓D_r, ↓nd_some, ↓ndr_some, ↓oV_some, ↓ev_rst, has_cons, has_nil, P_mv, P_pick, pickV_true, pickV_false, P_bin, P_un, P_cnv, cnvV_int, P_mkif, P_mkfn, P_fadr, P_fld, P_iadr, P_idx, P_len, P_mn, P_mx, foldV_two, mn2_int, mx2_int, unA_not, unA_neg, B_add, B_sub, B_mul, B_quo, B_rem, B_eql, B_neq, B_lss, B_leq, B_gtr, B_geq, R_load, wants_ev, gV_t, gV_f, ↓evPut, ↓ev_c, ↓ev_f, ↓ev_g, isC_t, isC_c, isC_f, isC_g, ↓reduceIte, Nat.reduceEqDiff, Nat.reduceBEq, Bool.or_self, Bool.or_false, Bool.or_true, Bool.false_or, Bool.true_or, Bool.and_true, Bool.and_false, Bool.true_and, Bool.false_and, Bool.not_true, Bool.not_false, Bool.false_eq_true, ofArgs, List.map_cons, List.map_nil, List.nil_append, List.append_nil, List.cons_append, Nat.reduceAdd, calleeA, beq_self_eq_true, decide_true, decide_false, e1, e27, e28, lenV_vs t36 hv']
    refine VC.loop (I46n H' va L i va u4 (.pointer (some ⟨H3.n + 2, 0, none⟩)) (.int .i64 ((dim : Nat) : Int)) (.int .i64 i)) (fun d' t2 H2 h2 => loop46n hE hv' hL la hd d' t2 H2 h2 ?_) (d := L.length) ⟨rfl, 0, by omega, ⟨?_, ?_, ?_, ?_, ?_, ?_, ?_, ?_, ?_, ?_, ?_⟩⟩
    · intro t' k
      clear h2
      have b := loN_le (L := L) (i := i) (B := 1048576) (by omega) hb L.length
      have e5 := k.t5
      have e6 := k.t6
      have e7 := k.t7
      have e8 := k.t8
      have la' : (i : Int) < (dim : Nat) := by omega
      have gb := l.gb
      have w1 : IntKind.i32.wrap (hiN L i L.length - loN L i L.length) = hiN L i L.length - loN L i L.length := wrap32_id (by omega) (by omega)
      have w2 : IntKind.i32.wrap (hiN L i L.length - loN L i L.length + 255) = hiN L i L.length - loN L i L.length + 255 := wrap32_id (by omega) (by omega)
      have w3 : IntKind.i32.wrap (hiN L i L.length - loN L i L.length + 255 - 1) = hiN L i L.length - loN L i L.length + 255 - 1 := wrap32_id (by omega) (by omega)
      have q0 : 0 ≤ (hiN L i L.length - loN L i L.length + 255 - 1).tdiv 255 ∧ (hiN L i L.length - loN L i L.length + 255 - 1).tdiv 255 ≤ 16777216 := by rw [Int.tdiv_eq_ediv_of_nonneg (by omega)]; omega
      have w4 : IntKind.i32.wrap ((hiN L i L.length - loN L i L.length + 255 - 1).tdiv 255) = (hiN L i L.length - loN L i L.length + 255 - 1).tdiv 255 := wrap32_id (by omega) (by omega)
      have n255 : ((255 : Int) = 0) = False := by simp
      simp -implicitDefEqProofs only [↓D_if, gD_true, gD_false, ↓D_a, ↓D_e, ↓D_call, ↓ndc_0, Hp.get_put, Hp.get_alloc, ldR_lst, List.getElem?_map, List.length_map, List.length_set, A_mksl, E_store, omap_some, omap_none, bndV_none, ↓lp_nrm, ↓lp_exit, ↓lp_ret, ↓C_skip, ↓C_reg, ↓C_dreg, ↓C_seq, ↓C_cond, ↓C_blk, ↓C_loop, ↓C_exit, ↓C_ret, ↓sq_nrm, ↓sq_exit, ↓sq_ret, ↓outB_nrm, ↓outB_ret, ↓outB_exit, ↓fin_nrm, ↓fin_ret, ↓fin_ret0, ↓fin_nrm0, ↓fin_ret2, ↓rd_nrm, ↓rd_exit, ↓rd_ret, ↓cIf_true, ↓cIf_false, ↓VO_nil, ↓VO_go, ↓VO_if, ↓nx_some, ↓nx_none, putD_some, putD_none, ↓V_p, ↓V_r, ↓V_a, ↓V_e, ↓V_call, ↓V_inv, ↓oQ_some, ↓oP_some, ↓oA_some, ↓oC_some, gO_true, gO_false, ↓gO_true, ↓gO_false, cIf_true, cIf_false, oQ_some, oP_some, oA_some, oC_some, oV_some,  reserve0, ↓D_nil, ↓D_p, ↓D_r, ↓nd_some, ↓ndr_some, ↓oV_some, ↓ev_rst, has_cons, has_nil, P_mv, P_pick, pickV_true, pickV_false, P_bin, P_un, P_cnv, cnvV_int, P_mkif, P_mkfn, P_fadr, P_fld, P_iadr, P_idx, P_len, P_mn, P_mx, foldV_two, mn2_int, mx2_int, unA_not, unA_neg, B_add, B_sub, B_mul, B_quo, B_rem, B_eql, B_neq, B_lss, B_leq, B_gtr, B_geq, R_load, wants_ev, gV_t, gV_f, ↓evPut, ↓ev_c, ↓ev_f, ↓ev_g, isC_t, isC_c, isC_f, isC_g, ↓reduceIte, Nat.reduceEqDiff, Nat.reduceBEq, Bool.or_self, Bool.or_false, Bool.or_true, Bool.false_or, Bool.true_or, Bool.and_true, Bool.and_false, Bool.true_and, Bool.false_and, Bool.not_true, Bool.not_false, Bool.false_eq_true, ofArgs, List.map_cons, List.map_nil, List.nil_append, List.append_nil, List.cons_append, Nat.reduceAdd, calleeA, beq_self_eq_true, decide_true, decide_false]
      unfold d46_17
      simp -implicitDefEqProofs only [↓D_if, gD_true, gD_false, ↓D_a, ↓D_e, ↓D_call, ↓ndc_0, Hp.get_put, Hp.get_alloc, ldR_lst, List.getElem?_map, List.length_map, List.length_set, A_mksl, E_store, omap_some, omap_none, bndV_none, ↓lp_nrm, ↓lp_exit, ↓lp_ret, ↓C_skip, ↓C_reg, ↓C_dreg, ↓C_seq, ↓C_cond, ↓C_blk, ↓C_loop, ↓C_exit, ↓C_ret, ↓sq_nrm, ↓sq_exit, ↓sq_ret, ↓outB_nrm, ↓outB_ret, ↓outB_exit, ↓fin_nrm, ↓fin_ret, ↓fin_ret0, ↓fin_nrm0, ↓fin_ret2, ↓rd_nrm, ↓rd_exit, ↓rd_ret, ↓cIf_true, ↓cIf_false, ↓VO_nil, ↓VO_go, ↓VO_if, ↓nx_some, ↓nx_none, putD_some, putD_none, ↓V_p, ↓V_r, ↓V_a, ↓V_e, ↓V_call, ↓V_inv, ↓oQ_some, ↓oP_some, ↓oA_some, ↓oC_some, gO_true, gO_false, ↓gO_true, ↓gO_false, cIf_true, cIf_false, oQ_some, oP_some, oA_some, oC_some, oV_some,  reserve0, ↓D_nil, ↓D_p, ↓D_r, ↓nd_some, ↓ndr_some, ↓oV_some, ↓ev_rst, has_cons, has_nil, P_mv, P_pick, pickV_true, pickV_false, P_bin, P_un, P_cnv, cnvV_int, P_mkif, P_mkfn, P_fadr, P_fld, P_iadr, P_idx, P_len, P_mn, P_mx, foldV_two, mn2_int, mx2_int, unA_not, unA_neg, B_add, B_sub, B_mul, B_quo, B_rem, B_eql, B_neq, B_lss, B_leq, B_gtr, B_geq, R_load, wants_ev, gV_t, gV_f, ↓evPut, ↓ev_c, ↓ev_f, ↓ev_g, isC_t, isC_c, isC_f, isC_g, ↓reduceIte, Nat.reduceEqDiff, Nat.reduceBEq, Bool.or_self, Bool.or_false, Bool.or_true, Bool.false_or, Bool.true_or, Bool.and_true, Bool.and_false, Bool.true_and, Bool.false_and, Bool.not_true, Bool.not_false, Bool.false_eq_true, ofArgs, List.map_cons, List.map_nil, List.nil_append, List.append_nil, List.cons_append, Nat.reduceAdd, calleeA, beq_self_eq_true, decide_true, decide_false, e5, e6, e7, e8, fadr69_0 hE, fadr69_1 hE, loadV_ptr rfl t37, gb, List.getElem?_cons_zero, List.getElem?_cons_succ, ndr_keep, iadr_own t37 t21 _ _ _ _ _ i0 la', Int.toNat_natCast, w1, w2, w3, w4, n255]
      have ll := rngC_len (f := fun j => loN L j L.length) (n := dim) (i := i) (by omega)
      have ls := rngC_len (f := fun j => stN L j) (n := dim) (i := i) (by omega)
      rw [storeV_row t21 H3.n _ _ _ i .i32 _ l.gl (by rw [List.length_map]; unfold loC; omega)]
      simp only [oP_some]
      refine Eq.mpr (ndc_1 _ _ _ _ _ _ (fun _ => ?_)) ?_
      · have g : (H'.put H3.n (some (.row (.lst (((loC L dim i).map (Value.int .i32)).set i (.int .i32 (loN L i L.length)))) 0 true))).get (H3.n + 2) = some (.row (.lst [sld H3.n dim, sld (H3.n + 1) dim]) 0 true) := by rw [Hp.get_put, if_neg (by omega)]; exact gb
        unfold alike
        simp only [R_load, ev_rst, has_cons, has_nil, beq_self_eq_true, Bool.true_or, ↓evPut, ↓ev_c, ↓reduceIte, Nat.reduceEqDiff, loadV_ptr rfl t37, g, ldR_lst, List.getElem?_cons_succ, List.getElem?_cons_zero]
        simp [beqV, beq1]
      · simp -implicitDefEqProofs only [↓D_if, gD_true, gD_false, ↓D_a, ↓D_e, ↓D_call, ↓ndc_0, Hp.get_put, Hp.get_alloc, ldR_lst, List.getElem?_map, List.length_map, List.length_set, A_mksl, E_store, omap_some, omap_none, bndV_none, ↓lp_nrm, ↓lp_exit, ↓lp_ret, ↓C_skip, ↓C_reg, ↓C_dreg, ↓C_seq, ↓C_cond, ↓C_blk, ↓C_loop, ↓C_exit, ↓C_ret, ↓sq_nrm, ↓sq_exit, ↓sq_ret, ↓outB_nrm, ↓outB_ret, ↓outB_exit, ↓fin_nrm, ↓fin_ret, ↓fin_ret0, ↓fin_nrm0, ↓fin_ret2, ↓rd_nrm, ↓rd_exit, ↓rd_ret, ↓cIf_true, ↓cIf_false, ↓VO_nil, ↓VO_go, ↓VO_if, ↓nx_some, ↓nx_none, putD_some, putD_none, ↓V_p, ↓V_r, ↓V_a, ↓V_e, ↓V_call, ↓V_inv, ↓oQ_some, ↓oP_some, ↓oA_some, ↓oC_some, gO_true, gO_false, ↓gO_true, ↓gO_false, cIf_true, cIf_false, oQ_some, oP_some, oA_some, oC_some, oV_some,  reserve0, ↓D_nil, ↓D_p, ↓D_r, ↓nd_some, ↓ndr_some, ↓oV_some, ↓ev_rst, has_cons, has_nil, P_mv, P_pick, pickV_true, pickV_false, P_bin, P_un, P_cnv, cnvV_int, P_mkif, P_mkfn, P_fadr, P_fld, P_iadr, P_idx, P_len, P_mn, P_mx, foldV_two, mn2_int, mx2_int, unA_not, unA_neg, B_add, B_sub, B_mul, B_quo, B_rem, B_eql, B_neq, B_lss, B_leq, B_gtr, B_geq, R_load, wants_ev, gV_t, gV_f, ↓evPut, ↓ev_c, ↓ev_f, ↓ev_g, isC_t, isC_c, isC_f, isC_g, ↓reduceIte, Nat.reduceEqDiff, Nat.reduceBEq, Bool.or_self, Bool.or_false, Bool.or_true, Bool.false_or, Bool.true_or, Bool.and_true, Bool.and_false, Bool.true_and, Bool.false_and, Bool.not_true, Bool.not_false, Bool.false_eq_true, ofArgs, List.map_cons, List.map_nil, List.nil_append, List.append_nil, List.cons_append, Nat.reduceAdd, calleeA, beq_self_eq_true, decide_true, decide_false, iadr_own t37 t21 _ _ _ _ _ i0 la', Int.toNat_natCast]
        rw [storeV_row t21 (H3.n + 1) _ _ _ i .i32 _ (l := (stC L dim i).map (Value.int .i32)) (by rw [Hp.get_put, if_neg (by omega)]; exact l.gs) (by rw [List.length_map]; unfold stC; omega)]
        simp only [oP_some]
        refine Eq.mpr (ndc_1 _ _ _ _ _ _ (fun h => by cases h)) ?_
        simp -implicitDefEqProofs only [↓D_if, gD_true, gD_false, ↓D_a, ↓D_e, ↓D_call, ↓ndc_0, Hp.get_put, Hp.get_alloc, ldR_lst, List.getElem?_map, List.length_map, List.length_set, A_mksl, E_store, omap_some, omap_none, bndV_none, ↓lp_nrm, ↓lp_exit, ↓lp_ret, ↓C_skip, ↓C_reg, ↓C_dreg, ↓C_seq, ↓C_cond, ↓C_blk, ↓C_loop, ↓C_exit, ↓C_ret, ↓sq_nrm, ↓sq_exit, ↓sq_ret, ↓outB_nrm, ↓outB_ret, ↓outB_exit, ↓fin_nrm, ↓fin_ret, ↓fin_ret0, ↓fin_nrm0, ↓fin_ret2, ↓rd_nrm, ↓rd_exit, ↓rd_ret, ↓cIf_true, ↓cIf_false, ↓VO_nil, ↓VO_go, ↓VO_if, ↓nx_some, ↓nx_none, putD_some, putD_none, ↓V_p, ↓V_r, ↓V_a, ↓V_e, ↓V_call, ↓V_inv, ↓oQ_some, ↓oP_some, ↓oA_some, ↓oC_some, gO_true, gO_false, ↓gO_true, ↓gO_false, cIf_true, cIf_false, oQ_some, oP_some, oA_some, oC_some, oV_some,  reserve0, ↓D_nil, ↓D_p, ↓D_r, ↓nd_some, ↓ndr_some, ↓oV_some, ↓ev_rst, has_cons, has_nil, P_mv, P_pick, pickV_true, pickV_false, P_bin, P_un, P_cnv, cnvV_int, P_mkif, P_mkfn, P_fadr, P_fld, P_iadr, P_idx, P_len, P_mn, P_mx, foldV_two, mn2_int, mx2_int, unA_not, unA_neg, B_add, B_sub, B_mul, B_quo, B_rem, B_eql, B_neq, B_lss, B_leq, B_gtr, B_geq, R_load, wants_ev, gV_t, gV_f, ↓evPut, ↓ev_c, ↓ev_f, ↓ev_g, isC_t, isC_c, isC_f, isC_g, ↓reduceIte, Nat.reduceEqDiff, Nat.reduceBEq, Bool.or_self, Bool.or_false, Bool.or_true, Bool.false_or, Bool.true_or, Bool.and_true, Bool.and_false, Bool.true_and, Bool.false_and, Bool.not_true, Bool.not_false, Bool.false_eq_true, ofArgs, List.map_cons, List.map_nil, List.nil_append, List.append_nil, List.cons_append, Nat.reduceAdd, calleeA, beq_self_eq_true, decide_true, decide_false, k.t28, wi]
        have n' := l.n
        refine ⟨d - 1, by omega, i + 1, by omega, ⟨?_, ?_, ?_, ?_, ?_, ?_, ?_, ?_, ?_, ?_, ?_⟩⟩
        · refine Wf.put46 (Wf.put46 l.wf (by omega) _) ?_ _
          rw [Hp.put_n]; omega
        · intro b hb'; rw [Hp.get_put, if_neg (by omega), Hp.get_put, if_neg (by omega)]; exact l.old b hb'
        · exact l.n
        · rw [Hp.get_put, if_neg (by omega), Hp.get_put, if_pos rfl, ← List.map_set]
          unfold loC
          rw [rngC_set (f := fun j => loN L j L.length) la]
        · rw [Hp.get_put, if_pos rfl, ← List.map_set]
          unfold stC
          rw [← rngC_set (f := fun j => stN L j) la]; rfl
        · rw [Hp.get_put, if_neg (by omega), Hp.get_put, if_neg (by omega)]; exact gb
        all_goals simp only [↓evPut, ↓ev_c, ↓reduceIte, Nat.reduceEqDiff]
        · exact k.t1
        · exact k.t4
        · exact k.t5
        · exact k.t27
    all_goals simp only [↓evPut, ↓ev_c, ↓reduceIte, Nat.reduceEqDiff]
    · exact e1
    · exact l.t4
    · exact l.t5
    · exact e27
    · exact e28
    · rfl
    · rfl
    · rfl
  · rw [cIf_no (by omega)]
    simp -implicitDefEqProofs only [↓D_if, gD_true, gD_false, ↓D_a, ↓D_e, ↓D_call, ↓ndc_0, Hp.get_put, Hp.get_alloc, ldR_lst, List.getElem?_map, List.length_map, List.length_set, A_mksl, E_store, omap_some, omap_none, bndV_none, ↓lp_nrm, ↓lp_exit, ↓lp_ret, ↓C_skip, ↓C_reg, ↓C_dreg, ↓C_seq, ↓C_cond, ↓C_blk, ↓C_loop, ↓C_exit, ↓C_ret, ↓sq_nrm, ↓sq_exit, ↓sq_ret, ↓outB_nrm, ↓outB_ret, ↓outB_exit, ↓fin_nrm, ↓fin_ret, ↓fin_ret0, ↓fin_nrm0, ↓fin_ret2, ↓rd_nrm, ↓rd_exit, ↓rd_ret, ↓cIf_true, ↓cIf_false, ↓VO_nil, ↓VO_go, ↓VO_if, ↓nx_some, ↓nx_none, putD_some, putD_none, ↓V_p, ↓V_r, ↓V_a, ↓V_e, ↓V_call, ↓V_inv, ↓oQ_some, ↓oP_some, ↓oA_some, ↓oC_some, gO_true, gO_false, ↓gO_true, ↓gO_false, cIf_true, cIf_false, oQ_some, oP_some, oA_some, oC_some, oV_some,  reserve0, ↓D_nil, ↓D_p, ↓D_r, ↓nd_some, ↓ndr_some, ↓oV_some, ↓ev_rst, has_cons, has_nil, P_mv, P_pick, pickV_true, pickV_false, P_bin, P_un, P_cnv, cnvV_int, P_mkif, P_mkfn, P_fadr, P_fld, P_iadr, P_idx, P_len, P_mn, P_mx, foldV_two, mn2_int, mx2_int, unA_not, unA_neg, B_add, B_sub, B_mul, B_quo, B_rem, B_eql, B_neq, B_lss, B_leq, B_gtr, B_geq, R_load, wants_ev, gV_t, gV_f, ↓evPut, ↓ev_c, ↓ev_f, ↓ev_g, isC_t, isC_c, isC_f, isC_g, ↓reduceIte, Nat.reduceEqDiff, Nat.reduceBEq, Bool.or_self, Bool.or_false, Bool.or_true, Bool.false_or, Bool.true_or, Bool.and_true, Bool.and_false, Bool.true_and, Bool.false_and, Bool.not_true, Bool.not_false, Bool.false_eq_true, ofArgs, List.map_cons, List.map_nil, List.nil_append, List.append_nil, List.cons_append, Nat.reduceAdd, calleeA, beq_self_eq_true, decide_true, decide_false]
    have : i = dim := by omega
    subst this
    refine hq _ _ ⟨l.wf, l.old, l.n, l.gl, l.gs, l.gb, ?_, ?_, ?_, ?_, ?_⟩
    all_goals simp only [↓evPut, ↓ev_c, ↓reduceIte, Nat.reduceEqDiff]
    · exact e1
    · exact l.t4
    · exact l.t5
    · exact e27
    · exact e28
theorem mkN37 {E : Env} (hE : E.ty = tyOf Tryz.prog) {n : Nat} (hn : n ≤ 512) : mkV E 37 (.int .i64 n) (.int .i64 n) = some (.row (.lst ((List.replicate n 0).map (Value.int .i32))) 0 true, fun i => .slice (some ⟨i, 0, some 3⟩) n n) := by
  have := mkV_int (E := E) ((congrFun hE 37).trans ty37) ((congrFun hE 21).trans ty21) (by decide) (k1 := .i64) (k2 := .i64) (n := (n : Int)) (by omega) (by omega)
  simpa using this
theorem Hp.resN (H : Hp) (k : Nat) : (H.reserve k).n = H.n + k := rfl
theorem Hp.resG (H : Hp) (k i : Nat) : (H.reserve k).get i = H.get i := rfl
def bld69 (a b : Value) : Option Value := match fillA [.slice none 0 0, .slice none 0 0] [(0, 1, a), (1, 1, b)] with
  | some l => some (.agg ⟨l⟩)
  | none => none
theorem P_bld69 {E : Env} (hE : E.ty = tyOf Tryz.prog) {t : Tr Value} (x y : Od) : pureA E t (.build 69 [(0, x), (1, y)]) = bld69 (Od.ev t x) (Od.ev t y) := by
  unfold pureA
  simp only [(congrFun hE 69).trans ty69]
  rw [show plcs E [(0, 37), (1, 37)] = some [(0, 1), (1, 1)] by simp only [plcs, (congrFun hE 37).trans ty37]]
  simp only [parts]
  rfl
theorem bld69_sl (a b : Option Addr) (n m c d : Nat) : bld69 (.slice a n c) (.slice b m d) = some (bok (.slice a n c) (.slice b m d)) := rfl
theorem wf46 (x : FuncId → Option GF) (h46 : x 46 = none) (h80 : x 80 = none) (h79 : x 79 = none) (h98 : x 98 = none) (h81 : x 81 = none) (h32 : x 32 = some g32) {H : Hp} (wf : Wf H) {n0 dim : Nat} {v : Value} {L : List (List Int)} (own : OwnVs H n0 v dim L) (hn0 : n0 ≤ H.n) (hL : L.length ≤ 65536)
    (h1 : 1 ≤ dim) (h8 : dim ≤ 8) (hd : ∀ z ∈ L, z.length = dim) (hb : ∀ z ∈ L, ∀ x ∈ z, -1048576 ≤ x ∧ x ≤ 1048576) :
    WF (envT x) 46 [.int .i64 dim, v] H fun r H' => Wf H' ∧ (∀ b, b < H.n → H'.get b = H.get b) ∧ H.n ≤ H'.n ∧ ∃ b1 b2, r = bok (sld b1 dim) (sld b2 dim) ∧ H'.get b1 = some (.row (.lst ((loC L dim dim).map (Value.int .i32))) 0 true) ∧ H'.get b2 = some (.row (.lst ((stC L dim dim).map (Value.int .i32))) 0 true) := by
  refine WF.go h46 p46 rfl ?_
  have t3 : (envT x).ty 3 = _ := ty3
  have hf : ∀ z ∈ L, ∀ x ∈ z, IntKind.i32.wrap x = x := fun z hz x hx => by have := hb z hz x hx; exact wrap32_id (by omega) (by omega)
  have hm : ∀ z ∈ L, mayL z dim = true ∧ z.length < 9223372036854775807 := fun z hz => by
    have a1 := hd z hz
    refine ⟨?_, by omega⟩
    have a2 : z.any farZ = false := by
      rw [List.any_eq_false]; intro y hy
      have := hb z hz y hy
      unfold farZ
      simp; omega
    unfold mayL
    rw [a2]; simp; omega
  have c1 : ¬ ((dim : Int) < 1) := by omega
  have c2 : ¬ (8 < (dim : Int)) := by omega
  have wf1 : Wf (H.alloc (.row (.lst [.int .i64 dim]) 0 true)) := Wf.alloc wf _
  have wf2 : Wf ((H.alloc (.row (.lst [.int .i64 dim]) 0 true)).alloc (.row (.lst [.slice none 0 0, .slice none 0 0]) 0 true)) := Wf.alloc wf1 _
  have n2 : ((H.alloc (.row (.lst [.int .i64 dim]) 0 true)).alloc (.row (.lst [.slice none 0 0, .slice none 0 0]) 0 true)).n = H.n + 2 := by rw [Hp.alloc_n, Hp.alloc_n]
  have old2 : ∀ b, b < H.n → ((H.alloc (.row (.lst [.int .i64 dim]) 0 true)).alloc (.row (.lst [.slice none 0 0, .slice none 0 0]) 0 true)).get b = H.get b := fun b hb => by
    rw [Hp.get_alloc, if_neg (by rw [Hp.alloc_n]; omega), Hp.get_alloc, if_neg (by omega)]
  have g2 : ((H.alloc (.row (.lst [.int .i64 dim]) 0 true)).alloc (.row (.lst [.slice none 0 0, .slice none 0 0]) 0 true)).get H.n = some (.row (.lst [.int .i64 dim]) 0 true) := by
    rw [Hp.get_alloc, if_neg (by rw [Hp.alloc_n]; omega)]; exact Hp.get_alloc_same _ _
  have g2' : ((H.alloc (.row (.lst [.int .i64 dim]) 0 true)).alloc (.row (.lst [.slice none 0 0, .slice none 0 0]) 0 true)).get (H.n + 1) = some (.row (.lst [.slice none 0 0, .slice none 0 0]) 0 true) := by
    have := Hp.get_alloc_same (H.alloc (.row (.lst [.int .i64 dim]) 0 true)) (.row (.lst [.slice none 0 0, .slice none 0 0]) 0 true)
    rw [Hp.alloc_n] at this; exact this
  have own2 : OwnVs ((H.alloc (.row (.lst [.int .i64 dim]) 0 true)).alloc (.row (.lst [.slice none 0 0, .slice none 0 0]) 0 true)) n0 v dim L := by
    rcases own.is with h | ⟨b, cells, e, b0, b1, g, l, c⟩
    · exact ⟨.inl h⟩
    · exact ⟨.inr ⟨b, cells, e, b0, by omega, by rw [old2 b b1]; exact g, l, fun j hj => by
        obtain ⟨c, a1, a2, a3, a4, a5, a6⟩ := c j hj
        exact ⟨c, a1, a2, by omega, a4, by rw [old2 c a3]; exact a5, a6⟩⟩⟩
  have nA : (H.alloc (.row (.lst [.int .i64 dim]) 0 true)).n = H.n + 1 := Hp.alloc_n _ _
  unfold c46
  simp -implicitDefEqProofs only [↓D_if, gD_true, gD_false, ↓D_a, ↓D_e, ↓D_call, ↓ndc_0, Hp.get_put, Hp.get_alloc, ldR_lst, List.getElem?_map, List.length_map, List.length_set, A_mksl, E_store, omap_some, omap_none, bndV_none, ↓lp_nrm, ↓lp_exit, ↓lp_ret, ↓C_skip, ↓C_reg, ↓C_dreg, ↓C_seq, ↓C_cond, ↓C_blk, ↓C_loop, ↓C_exit, ↓C_ret, ↓sq_nrm, ↓sq_exit, ↓sq_ret, ↓outB_nrm, ↓outB_ret, ↓outB_exit, ↓fin_nrm, ↓fin_ret, ↓fin_ret0, ↓fin_nrm0, ↓fin_ret2, ↓rd_nrm, ↓rd_exit, ↓rd_ret, ↓cIf_true, ↓cIf_false, ↓VO_nil, ↓VO_go, ↓VO_if, ↓nx_some, ↓nx_none, putD_some, putD_none, ↓V_p, ↓V_r, ↓V_a, ↓V_e, ↓V_call, ↓V_inv, ↓oQ_some, ↓oP_some, ↓oA_some, ↓oC_some, gO_true, gO_false, ↓gO_true, ↓gO_false, cIf_true, cIf_false, oQ_some, oP_some, oA_some, oC_some, oV_some,  reserve0, ↓D_nil, ↓D_p, ↓D_r, ↓nd_some, ↓ndr_some, ↓oV_some, ↓ev_rst, has_cons, has_nil, P_mv, P_pick, pickV_true, pickV_false, P_bin, P_un, P_cnv, cnvV_int, P_mkif, P_mkfn, P_fadr, P_fld, P_iadr, P_idx, P_len, P_mn, P_mx, foldV_two, mn2_int, mx2_int, unA_not, unA_neg, B_add, B_sub, B_mul, B_quo, B_rem, B_eql, B_neq, B_lss, B_leq, B_gtr, B_geq, R_load, wants_ev, gV_t, gV_f, ↓evPut, ↓ev_c, ↓ev_f, ↓ev_g, isC_t, isC_c, isC_f, isC_g, ↓reduceIte, Nat.reduceEqDiff, Nat.reduceBEq, Bool.or_self, Bool.or_false, Bool.or_true, Bool.false_or, Bool.true_or, Bool.and_true, Bool.and_false, Bool.true_and, Bool.false_and, Bool.not_true, Bool.not_false, Bool.false_eq_true, ofArgs, List.map_cons, List.map_nil, List.nil_append, List.append_nil, List.cons_append, Nat.reduceAdd, calleeA, beq_self_eq_true, decide_true, decide_false, A_box, A_alloc69 (E := envT x) rfl, nA, show (Value.int .i64 (dim : Int)).cells.toList = [Value.int .i64 (dim : Int)] from rfl]
  generalize ((H.alloc (.row (.lst [.int .i64 dim]) 0 true)).alloc (.row (.lst [.slice none 0 0, .slice none 0 0]) 0 true)) = G at *
  simp -implicitDefEqProofs only [↓D_if, gD_true, gD_false, ↓D_a, ↓D_e, ↓D_call, ↓ndc_0, Hp.get_put, Hp.get_alloc, ldR_lst, List.getElem?_map, List.length_map, List.length_set, A_mksl, E_store, omap_some, omap_none, bndV_none, ↓lp_nrm, ↓lp_exit, ↓lp_ret, ↓C_skip, ↓C_reg, ↓C_dreg, ↓C_seq, ↓C_cond, ↓C_blk, ↓C_loop, ↓C_exit, ↓C_ret, ↓sq_nrm, ↓sq_exit, ↓sq_ret, ↓outB_nrm, ↓outB_ret, ↓outB_exit, ↓fin_nrm, ↓fin_ret, ↓fin_ret0, ↓fin_nrm0, ↓fin_ret2, ↓rd_nrm, ↓rd_exit, ↓rd_ret, ↓cIf_true, ↓cIf_false, ↓VO_nil, ↓VO_go, ↓VO_if, ↓nx_some, ↓nx_none, putD_some, putD_none, ↓V_p, ↓V_r, ↓V_a, ↓V_e, ↓V_call, ↓V_inv, ↓oQ_some, ↓oP_some, ↓oA_some, ↓oC_some, gO_true, gO_false, ↓gO_true, ↓gO_false, cIf_true, cIf_false, oQ_some, oP_some, oA_some, oC_some, oV_some,  reserve0, ↓D_nil, ↓D_p, ↓D_r, ↓nd_some, ↓ndr_some, ↓oV_some, ↓ev_rst, has_cons, has_nil, P_mv, P_pick, pickV_true, pickV_false, P_bin, P_un, P_cnv, cnvV_int, P_mkif, P_mkfn, P_fadr, P_fld, P_iadr, P_idx, P_len, P_mn, P_mx, foldV_two, mn2_int, mx2_int, unA_not, unA_neg, B_add, B_sub, B_mul, B_quo, B_rem, B_eql, B_neq, B_lss, B_leq, B_gtr, B_geq, R_load, wants_ev, gV_t, gV_f, ↓evPut, ↓ev_c, ↓ev_f, ↓ev_g, isC_t, isC_c, isC_f, isC_g, ↓reduceIte, Nat.reduceEqDiff, Nat.reduceBEq, Bool.or_self, Bool.or_false, Bool.or_true, Bool.false_or, Bool.true_or, Bool.and_true, Bool.and_false, Bool.true_and, Bool.false_and, Bool.not_true, Bool.not_false, Bool.false_eq_true, ofArgs, List.map_cons, List.map_nil, List.nil_append, List.append_nil, List.cons_append, Nat.reduceAdd, calleeA, beq_self_eq_true, decide_true, decide_false, loadV_ptr rfl t3, g2, List.getElem?_cons_zero, c1, c2]
  refine (wf80 x h80 wf2 own2 hL hf).mono fun r H3 hr => ?_
  obtain ⟨wf3, old3, n3, hvs⟩ := hr
  have g3 : H3.get H.n = some (.row (.lst [.int .i64 dim]) 0 true) := by rw [old3 _ (by omega)]; exact g2
  have g3' : H3.get (H.n + 1) = some (.row (.lst [.slice none 0 0, .slice none 0 0]) 0 true) := by rw [old3 _ (by omega)]; exact g2'
  simp -implicitDefEqProofs only [↓D_if, gD_true, gD_false, ↓D_a, ↓D_e, ↓D_call, ↓ndc_0, Hp.get_put, Hp.get_alloc, ldR_lst, List.getElem?_map, List.length_map, List.length_set, A_mksl, E_store, omap_some, omap_none, bndV_none, ↓lp_nrm, ↓lp_exit, ↓lp_ret, ↓C_skip, ↓C_reg, ↓C_dreg, ↓C_seq, ↓C_cond, ↓C_blk, ↓C_loop, ↓C_exit, ↓C_ret, ↓sq_nrm, ↓sq_exit, ↓sq_ret, ↓outB_nrm, ↓outB_ret, ↓outB_exit, ↓fin_nrm, ↓fin_ret, ↓fin_ret0, ↓fin_nrm0, ↓fin_ret2, ↓rd_nrm, ↓rd_exit, ↓rd_ret, ↓cIf_true, ↓cIf_false, ↓VO_nil, ↓VO_go, ↓VO_if, ↓nx_some, ↓nx_none, putD_some, putD_none, ↓V_p, ↓V_r, ↓V_a, ↓V_e, ↓V_call, ↓V_inv, ↓oQ_some, ↓oP_some, ↓oA_some, ↓oC_some, gO_true, gO_false, ↓gO_true, ↓gO_false, cIf_true, cIf_false, oQ_some, oP_some, oA_some, oC_some, oV_some,  reserve0, ↓D_nil, ↓D_p, ↓D_r, ↓nd_some, ↓ndr_some, ↓oV_some, ↓ev_rst, has_cons, has_nil, P_mv, P_pick, pickV_true, pickV_false, P_bin, P_un, P_cnv, cnvV_int, P_mkif, P_mkfn, P_fadr, P_fld, P_iadr, P_idx, P_len, P_mn, P_mx, foldV_two, mn2_int, mx2_int, unA_not, unA_neg, B_add, B_sub, B_mul, B_quo, B_rem, B_eql, B_neq, B_lss, B_leq, B_gtr, B_geq, R_load, wants_ev, gV_t, gV_f, ↓evPut, ↓ev_c, ↓ev_f, ↓ev_g, isC_t, isC_c, isC_f, isC_g, ↓reduceIte, Nat.reduceEqDiff, Nat.reduceBEq, Bool.or_self, Bool.or_false, Bool.or_true, Bool.false_or, Bool.true_or, Bool.and_true, Bool.and_false, Bool.true_and, Bool.false_and, Bool.not_true, Bool.not_false, Bool.false_eq_true, ofArgs, List.map_cons, List.map_nil, List.nil_append, List.append_nil, List.cons_append, Nat.reduceAdd, calleeA, beq_self_eq_true, decide_true, decide_false]
  refine (wf79 x h79 h98 h81 h32 hvs hL g3 hm).mono fun r' H3' hr => ?_
  obtain ⟨rfl, rfl⟩ := hr
  simp -implicitDefEqProofs only [↓D_if, gD_true, gD_false, ↓D_a, ↓D_e, ↓D_call, ↓ndc_0, Hp.get_put, Hp.get_alloc, ldR_lst, List.getElem?_map, List.length_map, List.length_set, A_mksl, E_store, omap_some, omap_none, bndV_none, ↓lp_nrm, ↓lp_exit, ↓lp_ret, ↓C_skip, ↓C_reg, ↓C_dreg, ↓C_seq, ↓C_cond, ↓C_blk, ↓C_loop, ↓C_exit, ↓C_ret, ↓sq_nrm, ↓sq_exit, ↓sq_ret, ↓outB_nrm, ↓outB_ret, ↓outB_exit, ↓fin_nrm, ↓fin_ret, ↓fin_ret0, ↓fin_nrm0, ↓fin_ret2, ↓rd_nrm, ↓rd_exit, ↓rd_ret, ↓cIf_true, ↓cIf_false, ↓VO_nil, ↓VO_go, ↓VO_if, ↓nx_some, ↓nx_none, putD_some, putD_none, ↓V_p, ↓V_r, ↓V_a, ↓V_e, ↓V_call, ↓V_inv, ↓oQ_some, ↓oP_some, ↓oA_some, ↓oC_some, gO_true, gO_false, ↓gO_true, ↓gO_false, cIf_true, cIf_false, oQ_some, oP_some, oA_some, oC_some, oV_some,  reserve0, ↓D_nil, ↓D_p, ↓D_r, ↓nd_some, ↓ndr_some, ↓oV_some, ↓ev_rst, has_cons, has_nil, P_mv, P_pick, pickV_true, pickV_false, P_bin, P_un, P_cnv, cnvV_int, P_mkif, P_mkfn, P_fadr, P_fld, P_iadr, P_idx, P_len, P_mn, P_mx, foldV_two, mn2_int, mx2_int, unA_not, unA_neg, B_add, B_sub, B_mul, B_quo, B_rem, B_eql, B_neq, B_lss, B_leq, B_gtr, B_geq, R_load, wants_ev, gV_t, gV_f, ↓evPut, ↓ev_c, ↓ev_f, ↓ev_g, isC_t, isC_c, isC_f, isC_g, ↓reduceIte, Nat.reduceEqDiff, Nat.reduceBEq, Bool.or_self, Bool.or_false, Bool.or_true, Bool.false_or, Bool.true_or, Bool.and_true, Bool.and_false, Bool.true_and, Bool.false_and, Bool.not_true, Bool.not_false, Bool.false_eq_true, ofArgs, List.map_cons, List.map_nil, List.nil_append, List.append_nil, List.cons_append, Nat.reduceAdd, calleeA, beq_self_eq_true, decide_true, decide_false]
  unfold d46_4
  have hw : ∀ s, H3'.get (H3'.n + s) = none := fun s => wf3 _ (by omega)
  have hw0 : H3'.get H3'.n = none := wf3 _ (by omega)
  have hne : ∀ s, (H.n = H3'.n + s) = False := fun s => eq_false (by omega)
  have hne0 : (H.n = H3'.n) = False := eq_false (by omega)
  simp -implicitDefEqProofs only [↓D_if, gD_true, gD_false, ↓D_a, ↓D_e, ↓D_call, ↓ndc_0, Hp.get_put, Hp.get_alloc, ldR_lst, List.getElem?_map, List.length_map, List.length_set, A_mksl, E_store, omap_some, omap_none, bndV_none, ↓lp_nrm, ↓lp_exit, ↓lp_ret, ↓C_skip, ↓C_reg, ↓C_dreg, ↓C_seq, ↓C_cond, ↓C_blk, ↓C_loop, ↓C_exit, ↓C_ret, ↓sq_nrm, ↓sq_exit, ↓sq_ret, ↓outB_nrm, ↓outB_ret, ↓outB_exit, ↓fin_nrm, ↓fin_ret, ↓fin_ret0, ↓fin_nrm0, ↓fin_ret2, ↓rd_nrm, ↓rd_exit, ↓rd_ret, ↓cIf_true, ↓cIf_false, ↓VO_nil, ↓VO_go, ↓VO_if, ↓nx_some, ↓nx_none, putD_some, putD_none, ↓V_p, ↓V_r, ↓V_a, ↓V_e, ↓V_call, ↓V_inv, ↓oQ_some, ↓oP_some, ↓oA_some, ↓oC_some, gO_true, gO_false, ↓gO_true, ↓gO_false, cIf_true, cIf_false, oQ_some, oP_some, oA_some, oC_some, oV_some,  reserve0, ↓D_nil, ↓D_p, ↓D_r, ↓nd_some, ↓ndr_some, ↓oV_some, ↓ev_rst, has_cons, has_nil, P_mv, P_pick, pickV_true, pickV_false, P_bin, P_un, P_cnv, cnvV_int, P_mkif, P_mkfn, P_fadr, P_fld, P_iadr, P_idx, P_len, P_mn, P_mx, foldV_two, mn2_int, mx2_int, unA_not, unA_neg, B_add, B_sub, B_mul, B_quo, B_rem, B_eql, B_neq, B_lss, B_leq, B_gtr, B_geq, R_load, wants_ev, gV_t, gV_f, ↓evPut, ↓ev_c, ↓ev_f, ↓ev_g, isC_t, isC_c, isC_f, isC_g, ↓reduceIte, Nat.reduceEqDiff, Nat.reduceBEq, Bool.or_self, Bool.or_false, Bool.or_true, Bool.false_or, Bool.true_or, Bool.and_true, Bool.and_false, Bool.true_and, Bool.false_and, Bool.not_true, Bool.not_false, Bool.false_eq_true, ofArgs, List.map_cons, List.map_nil, List.nil_append, List.append_nil, List.cons_append, Nat.reduceAdd, calleeA, beq_self_eq_true, decide_true, decide_false, Hp.resG, Hp.resN, Hp.put_n, g3, loadV_ptr rfl t3, List.getElem?_cons_zero, mkN37 (E := envT x) rfl (show dim ≤ 512 by omega), oAd_row, List.all_cons, List.all_nil, hw, hw0, hne, hne0, Option.isNone_none, Nat.add_zero, Nat.add_eq_left, P_bld69 (E := envT x) rfl, bld69_sl, A_alloc69 (E := envT x) rfl, Nat.add_left_cancel_iff]
  rw [store69 (E := envT x) rfl (b := H3'.n + 2) (a := .slice none 0 0) (c := .slice none 0 0) (by rw [Hp.get_put, if_pos rfl])]
  simp -implicitDefEqProofs only [↓D_if, gD_true, gD_false, ↓D_a, ↓D_e, ↓D_call, ↓ndc_0, Hp.get_put, Hp.get_alloc, ldR_lst, List.getElem?_map, List.length_map, List.length_set, A_mksl, E_store, omap_some, omap_none, bndV_none, ↓lp_nrm, ↓lp_exit, ↓lp_ret, ↓C_skip, ↓C_reg, ↓C_dreg, ↓C_seq, ↓C_cond, ↓C_blk, ↓C_loop, ↓C_exit, ↓C_ret, ↓sq_nrm, ↓sq_exit, ↓sq_ret, ↓outB_nrm, ↓outB_ret, ↓outB_exit, ↓fin_nrm, ↓fin_ret, ↓fin_ret0, ↓fin_nrm0, ↓fin_ret2, ↓rd_nrm, ↓rd_exit, ↓rd_ret, ↓cIf_true, ↓cIf_false, ↓VO_nil, ↓VO_go, ↓VO_if, ↓nx_some, ↓nx_none, putD_some, putD_none, ↓V_p, ↓V_r, ↓V_a, ↓V_e, ↓V_call, ↓V_inv, ↓oQ_some, ↓oP_some, ↓oA_some, ↓oC_some, gO_true, gO_false, ↓gO_true, ↓gO_false, cIf_true, cIf_false, oQ_some, oP_some, oA_some, oC_some, oV_some,  reserve0, ↓D_nil, ↓D_p, ↓D_r, ↓nd_some, ↓ndr_some, ↓oV_some, ↓ev_rst, has_cons, has_nil, P_mv, P_pick, pickV_true, pickV_false, P_bin, P_un, P_cnv, cnvV_int, P_mkif, P_mkfn, P_fadr, P_fld, P_iadr, P_idx, P_len, P_mn, P_mx, foldV_two, mn2_int, mx2_int, unA_not, unA_neg, B_add, B_sub, B_mul, B_quo, B_rem, B_eql, B_neq, B_lss, B_leq, B_gtr, B_geq, R_load, wants_ev, gV_t, gV_f, ↓evPut, ↓ev_c, ↓ev_f, ↓ev_g, isC_t, isC_c, isC_f, isC_g, ↓reduceIte, Nat.reduceEqDiff, Nat.reduceBEq, Bool.or_self, Bool.or_false, Bool.or_true, Bool.false_or, Bool.true_or, Bool.and_true, Bool.and_false, Bool.true_and, Bool.false_and, Bool.not_true, Bool.not_false, Bool.false_eq_true, ofArgs, List.map_cons, List.map_nil, List.nil_append, List.append_nil, List.cons_append, Nat.reduceAdd, calleeA, beq_self_eq_true, decide_true, decide_false, Hp.resG, Hp.resN, Hp.put_n, g3, loadV_ptr rfl t3, List.getElem?_cons_zero, hne, hne0]
  refine VC.loop (I46 H3' r' L dim (.pointer (some ⟨H.n + 1, 0, none⟩))) (fun d t H' h => loop46 (E := envT x) rfl wf3 hvs hL (by omega) hd hb d t H' h ?_) (d := dim) ⟨0, by omega, ⟨?_, ?_, ?_, ?_, ?_, ?_, ?_, ?_, ?_, ?_, ?_⟩⟩
  · intro t' H4 l
    clear h
    have e4 := l.t4
    have e5 := l.t5
    have g4 : H4.get (H.n + 1) = some (.row (.lst [.slice none 0 0, .slice none 0 0]) 0 true) := by rw [l.old _ (by omega)]; exact g3'
    simp -implicitDefEqProofs only [↓D_if, gD_true, gD_false, ↓D_a, ↓D_e, ↓D_call, ↓ndc_0, Hp.get_put, Hp.get_alloc, ldR_lst, List.getElem?_map, List.length_map, List.length_set, A_mksl, E_store, omap_some, omap_none, bndV_none, ↓lp_nrm, ↓lp_exit, ↓lp_ret, ↓C_skip, ↓C_reg, ↓C_dreg, ↓C_seq, ↓C_cond, ↓C_blk, ↓C_loop, ↓C_exit, ↓C_ret, ↓sq_nrm, ↓sq_exit, ↓sq_ret, ↓outB_nrm, ↓outB_ret, ↓outB_exit, ↓fin_nrm, ↓fin_ret, ↓fin_ret0, ↓fin_nrm0, ↓fin_ret2, ↓rd_nrm, ↓rd_exit, ↓rd_ret, ↓cIf_true, ↓cIf_false, ↓VO_nil, ↓VO_go, ↓VO_if, ↓nx_some, ↓nx_none, putD_some, putD_none, ↓V_p, ↓V_r, ↓V_a, ↓V_e, ↓V_call, ↓V_inv, ↓oQ_some, ↓oP_some, ↓oA_some, ↓oC_some, gO_true, gO_false, ↓gO_true, ↓gO_false, cIf_true, cIf_false, oQ_some, oP_some, oA_some, oC_some, oV_some,  reserve0, ↓D_nil, ↓D_p, ↓D_r, ↓nd_some, ↓ndr_some, ↓oV_some, ↓ev_rst, has_cons, has_nil, P_mv, P_pick, pickV_true, pickV_false, P_bin, P_un, P_cnv, cnvV_int, P_mkif, P_mkfn, P_fadr, P_fld, P_iadr, P_idx, P_len, P_mn, P_mx, foldV_two, mn2_int, mx2_int, unA_not, unA_neg, B_add, B_sub, B_mul, B_quo, B_rem, B_eql, B_neq, B_lss, B_leq, B_gtr, B_geq, R_load, wants_ev, gV_t, gV_f, ↓evPut, ↓ev_c, ↓ev_f, ↓ev_g, isC_t, isC_c, isC_f, isC_g, ↓reduceIte, Nat.reduceEqDiff, Nat.reduceBEq, Bool.or_self, Bool.or_false, Bool.or_true, Bool.false_or, Bool.true_or, Bool.and_true, Bool.and_false, Bool.true_and, Bool.false_and, Bool.not_true, Bool.not_false, Bool.false_eq_true, ofArgs, List.map_cons, List.map_nil, List.nil_append, List.append_nil, List.cons_append, Nat.reduceAdd, calleeA, beq_self_eq_true, decide_true, decide_false, e4, e5, loadV_69 (E := envT x) rfl l.gb]
    rw [store69 (E := envT x) rfl g4]
    simp -implicitDefEqProofs only [↓D_if, gD_true, gD_false, ↓D_a, ↓D_e, ↓D_call, ↓ndc_0, Hp.get_put, Hp.get_alloc, ldR_lst, List.getElem?_map, List.length_map, List.length_set, A_mksl, E_store, omap_some, omap_none, bndV_none, ↓lp_nrm, ↓lp_exit, ↓lp_ret, ↓C_skip, ↓C_reg, ↓C_dreg, ↓C_seq, ↓C_cond, ↓C_blk, ↓C_loop, ↓C_exit, ↓C_ret, ↓sq_nrm, ↓sq_exit, ↓sq_ret, ↓outB_nrm, ↓outB_ret, ↓outB_exit, ↓fin_nrm, ↓fin_ret, ↓fin_ret0, ↓fin_nrm0, ↓fin_ret2, ↓rd_nrm, ↓rd_exit, ↓rd_ret, ↓cIf_true, ↓cIf_false, ↓VO_nil, ↓VO_go, ↓VO_if, ↓nx_some, ↓nx_none, putD_some, putD_none, ↓V_p, ↓V_r, ↓V_a, ↓V_e, ↓V_call, ↓V_inv, ↓oQ_some, ↓oP_some, ↓oA_some, ↓oC_some, gO_true, gO_false, ↓gO_true, ↓gO_false, cIf_true, cIf_false, oQ_some, oP_some, oA_some, oC_some, oV_some,  reserve0, ↓D_nil, ↓D_p, ↓D_r, ↓nd_some, ↓ndr_some, ↓oV_some, ↓ev_rst, has_cons, has_nil, P_mv, P_pick, pickV_true, pickV_false, P_bin, P_un, P_cnv, cnvV_int, P_mkif, P_mkfn, P_fadr, P_fld, P_iadr, P_idx, P_len, P_mn, P_mx, foldV_two, mn2_int, mx2_int, unA_not, unA_neg, B_add, B_sub, B_mul, B_quo, B_rem, B_eql, B_neq, B_lss, B_leq, B_gtr, B_geq, R_load, wants_ev, gV_t, gV_f, ↓evPut, ↓ev_c, ↓ev_f, ↓ev_g, isC_t, isC_c, isC_f, isC_g, ↓reduceIte, Nat.reduceEqDiff, Nat.reduceBEq, Bool.or_self, Bool.or_false, Bool.or_true, Bool.false_or, Bool.true_or, Bool.and_true, Bool.and_false, Bool.true_and, Bool.false_and, Bool.not_true, Bool.not_false, Bool.false_eq_true, ofArgs, List.map_cons, List.map_nil, List.nil_append, List.append_nil, List.cons_append, Nat.reduceAdd, calleeA, beq_self_eq_true, decide_true, decide_false]
    rw [fin_cell]
    have n4 := l.n
    have hl := loadV_69 (E := envT x) rfl (H := H4.put (H.n + 1) (some (.row (.lst [sld H3'.n dim, sld (H3'.n + 1) dim]) 0 true))) (b := H.n + 1) (by rw [Hp.get_put, if_pos rfl])
    simp only [↓evPut, ↓ev_c, ↓reduceIte, Nat.reduceEqDiff, e4]
    rw [hl]
    refine ⟨Wf.put46 l.wf (by omega) _, fun b hb' => ?_, by rw [Hp.put_n]; omega, _, _, rfl, ?_, ?_⟩
    · rw [Hp.get_put, if_neg (by omega), l.old b (by omega), old3 b (by omega)]; exact old2 b hb'
    · rw [Hp.get_put, if_neg (by omega)]; exact l.gl
    · rw [Hp.get_put, if_neg (by omega)]; exact l.gs
  · intro id hid
    have hid : H3'.n + 3 ≤ id := hid
    rw [Hp.get_put, if_neg (by omega), Hp.get_put, if_neg (by omega), Hp.get_put, if_neg (by omega), Hp.get_put, if_neg (by omega), Hp.resG]
    exact wf3 id (by omega)
  · intro b hb'
    rw [Hp.get_put, if_neg (by omega), Hp.get_put, if_neg (by omega), Hp.get_put, if_neg (by omega), Hp.get_put, if_neg (by omega), Hp.resG]
  · rfl
  · rw [Hp.get_put, if_neg (by omega), Hp.get_put, if_neg (by omega), Hp.get_put, if_neg (by omega), Hp.get_put, if_pos rfl]; simp [loC]
  · rw [Hp.get_put, if_neg (by omega), Hp.get_put, if_neg (by omega), Hp.get_put, if_pos rfl]; simp [stC]
  · rw [Hp.get_put, if_pos rfl]
  all_goals (simp only [↓evPut, ↓ev_c, ↓reduceIte, Nat.reduceEqDiff] <;> rfl)
end Go.Proofs.YtaegmplbkbaniaaGreatDoor

