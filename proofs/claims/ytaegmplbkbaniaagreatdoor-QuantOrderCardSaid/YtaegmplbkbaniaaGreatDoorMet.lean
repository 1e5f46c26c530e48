/-
  metric.Score as a function that is given to the machine. No condition.
-/
import Derived.Test.YtaegmplbkbaniaaGreatDoorVcb
import Derived.Test.YtaegmplbkbaniaaGreatDoorTy
set_option linter.all false
namespace Go.Proofs.YtaegmplbkbaniaaGreatDoor
open Go
attribute [local irreducible] VO VC VD VD1 V1 nx nd ndr sq cIf gO oQ oP oA oC oV oIf oB fin rd' outB WC WF WO WD W1
set_option maxRecDepth 100000
/-! ### 45 -/
abbrev r45_0 : List Lo := [
  ⟨(some 6), (.p (.mv (.c (.int .i64 0)))), none⟩]
abbrev r45_1 : List Lo := [
  ⟨(some 7), (.p (.mv (.c (.int .i64 0)))), none⟩]
abbrev r45_2 : List Lo := [
  ⟨(some 11), (.p (.mv (.t 1))), none⟩,
  ⟨(some 12), (.p (.len 38 (.t 11))), none⟩,
  ⟨(some 13), (.p (.mv (.t 2))), none⟩,
  ⟨(some 14), (.p (.len 38 (.t 13))), none⟩,
  ⟨(some 15), (.p (.mn [(.t 12), (.t 14)])), none⟩,
  ⟨(some 16), (.p (.mv (.c (.int .i64 0)))), none⟩]
abbrev r45_3 : List Lo := [
  ⟨(some 17), (.p (.bin .lss 3 (.t 16) (.t 15))), none⟩]
abbrev r45_4 : List Lo := [
  ⟨(some 18), (.p (.mv (.t 16))), none⟩,
  ⟨(some 8), (.p (.mv (.t 18))), none⟩]
abbrev d45_5 : List Dl := [
  ⟨⟨(some 19), (.p (.mv (.t 1))), none⟩, 0, 0, 0, false, [], [1]⟩,
  ⟨⟨(some 20), (.p (.mv (.t 8))), none⟩, 1, 0, 0, false, [], [8]⟩,
  ⟨⟨(some 21), (.p (.iadr 38 (.t 19) (.t 20))), none⟩, 2, 0, 0, false, [], [19, 20]⟩,
  ⟨⟨(some 22), (.r (.load 21 (.t 21))), none⟩, 3, 0, 0, false, [], [21]⟩,
  ⟨⟨(some 23), (.p (.cnv .i64 (.t 22))), none⟩, 4, 0, 0, false, [], [22]⟩,
  ⟨⟨(some 24), (.p (.mv (.t 2))), none⟩, 5, 0, 0, false, [], [2]⟩,
  ⟨⟨(some 25), (.p (.mv (.t 8))), none⟩, 6, 0, 0, false, [], [8]⟩,
  ⟨⟨(some 26), (.p (.iadr 38 (.t 24) (.t 25))), none⟩, 7, 0, 0, false, [], [24, 25]⟩,
  ⟨⟨(some 27), (.r (.load 21 (.t 26))), none⟩, 8, 0, 0, false, [], [26]⟩,
  ⟨⟨(some 28), (.p (.cnv .i64 (.t 27))), none⟩, 9, 0, 0, false, [], [27]⟩,
  ⟨⟨(some 9), (.p (.mv (.t 23))), none⟩, 10, 0, 0, false, [], [23]⟩,
  ⟨⟨(some 10), (.p (.mv (.t 28))), none⟩, 11, 0, 0, false, [], [28]⟩]
abbrev r45_6 : List Lo := [
  ⟨(some 29), (.p (.mv (.t 0))), none⟩]
abbrev r45_7 : List Lo := [
  ⟨(some 31), (.p (.bin .eql 3 (.t 29) (.c (.int .i64 1)))), none⟩,
  ⟨(some 30), (.p (.mv (.t 31))), none⟩]
abbrev r45_8 : List Lo := [
  ⟨(some 32), (.p (.mv (.t 7))), none⟩,
  ⟨(some 33), (.p (.mv (.t 9))), none⟩,
  ⟨(some 34), (.p (.mv (.t 10))), none⟩,
  ⟨(some 35), (.p (.bin .sub 2 (.t 33) (.t 34))), none⟩,
  ⟨(some 36), (.p (.mv (.t 9))), none⟩,
  ⟨(some 37), (.p (.mv (.t 10))), none⟩,
  ⟨(some 38), (.p (.bin .sub 2 (.t 36) (.t 37))), none⟩,
  ⟨(some 39), (.p (.bin .mul 2 (.t 35) (.t 38))), none⟩,
  ⟨(some 40), (.p (.bin .add 2 (.t 32) (.t 39))), none⟩,
  ⟨(some 7), (.p (.mv (.t 40))), none⟩]
abbrev r45_9 : List Lo := [
  ⟨(some 42), (.p (.bin .eql 3 (.t 29) (.c (.int .i64 2)))), none⟩,
  ⟨(some 41), (.p (.mv (.t 42))), none⟩]
abbrev r45_10 : List Lo := [
  ⟨(some 43), (.p (.mv (.t 7))), none⟩,
  ⟨(some 44), (.p (.mv (.t 9))), none⟩,
  ⟨(some 45), (.p (.mv (.t 10))), none⟩,
  ⟨(some 46), (.p (.bin .mul 2 (.t 44) (.t 45))), none⟩,
  ⟨(some 47), (.p (.bin .sub 2 (.t 43) (.t 46))), none⟩,
  ⟨(some 7), (.p (.mv (.t 47))), none⟩]
abbrev r45_11 : List Lo := [
  ⟨(some 48), (.p (.bin .add 3 (.t 16) (.c (.int .i64 1)))), none⟩,
  ⟨(some 16), (.p (.mv (.t 48))), none⟩]
def l45_12 : Ac := (.seq (.reg r45_3) (.seq (.cond (.t 17) .skip (.exit 0)) (.seq (.blk 1 (.seq (.reg r45_4) (.seq (.dreg 0 d45_5) (.seq (.reg r45_6) (.blk 2 (.seq (.reg r45_7) (.cond (.t 30) (.reg r45_8) (.seq (.reg r45_9) (.cond (.t 41) (.reg r45_10) .skip))))))))) (.reg r45_11))))
abbrev r45_13 : List Lo := [
  ⟨(some 49), (.p (.mv (.t 7))), none⟩,
  ⟨(some 6), (.p (.mv (.t 49))), none⟩]
def c45 : AFun := ⟨(.seq (.reg r45_0) (.seq (.reg r45_1) (.seq (.seq (.reg r45_2) (.blk 0 (.loop l45_12))) (.seq (.reg r45_13) .ret)))), [.t 6], 50⟩
theorem p45 : progOf Tryz.prog 45 = some c45 := by kernel_rfl

set_option maxRecDepth 2000
abbrev w64 (z : Int) : Int := IntKind.i64.wrap z
/-- One more coordinate. -/
def scoreStep (m x y s : Int) : Int := if m = 1 then w64 (s + w64 (w64 (x - y) * w64 (x - y))) else if m = 2 then w64 (s - w64 (x * y)) else s
def scoreF (m : Int) : List Int → List Int → Int → Int
  | x :: a, y :: b, s => scoreF m a b (scoreStep m x y s)
  | _, _, s => s
theorem scoreF_step {m : Int} {a b : List Int} {i : Nat} (ha : i < a.length) (hb : i < b.length) (s : Int) :
    scoreF m (a.drop i) (b.drop i) s = scoreF m (a.drop (i + 1)) (b.drop (i + 1)) (scoreStep m (a.getD i 0) (b.getD i 0) s) := by
  rw [List.drop_eq_getElem_cons ha, List.drop_eq_getElem_cons hb]
  simp [scoreF, List.getD, ha, hb]
theorem scoreF_end {m : Int} {a b : List Int} {i : Nat} (h : a.length ≤ i ∨ b.length ≤ i) (s : Int) : scoreF m (a.drop i) (b.drop i) s = s := by
  rcases h with h | h
  · rw [List.drop_eq_nil_of_le h]; rfl
  · rw [List.drop_eq_nil_of_le h]
    cases a.drop i <;> rfl
def I45 (H : Hp) (m : Int) (va vb : Value) (a b : List Int) (d : Nat) (t : Tr Value) (H' : Hp) : Prop :=
  H' = H ∧ ∃ (i : Nat) (s : Int), i + d = min a.length b.length ∧ Od.ev t (.t 0) = .int .i64 m ∧ Od.ev t (.t 1) = va ∧ Od.ev t (.t 2) = vb ∧ Od.ev t (.t 7) = .int .i64 s ∧
    Od.ev t (.t 15) = .int .i64 ((min a.length b.length : Nat) : Int) ∧ Od.ev t (.t 16) = .int .i64 i ∧ scoreF m (a.drop i) (b.drop i) s = scoreF m a b 0
theorem loop45 {E : Env} (hE : E.ty = tyOf Tryz.prog) {m : Int} {va vb : Value} {a b : List Int} {H : Hp} (ha : IsSl .i32 H va a) (hb : IsSl .i32 H vb b) (hla : a.length < 9223372036854775807) (d : Nat) (t : Tr Value) (H' : Hp) (h : I45 H m va vb a b d t H')
    {Q : Ax → Tr Value → Hp → Prop} (hq : ∀ t', Od.ev t' (.t 7) = .int .i64 (scoreF m a b 0) → Q (.exit 0) t' H) : VC E l45_12 t H' (rd' E (I45 H m va vb a b) d Q) := by
  obtain ⟨rfl, i, s, hd, h0, h1, h2, h7, h15, h16, hs⟩ := h
  have t38 := (congrFun hE 38).trans ty38
  have t21 := (congrFun hE 21).trans ty21
  unfold l45_12
  simp -implicitDefEqProofs only [↓C_skip, ↓C_reg, ↓C_dreg, ↓C_seq, ↓C_cond, ↓C_blk, ↓C_loop, ↓C_exit, ↓C_ret, ↓sq_nrm, ↓sq_exit, ↓sq_ret, ↓outB_nrm, ↓outB_ret, ↓outB_exit, ↓fin_nrm, ↓fin_ret, ↓fin_ret0, ↓fin_nrm0, ↓fin_ret2, ↓rd_nrm, ↓rd_exit, ↓rd_ret, ↓cIf_true, ↓cIf_false, ↓VO_nil, ↓VO_go, ↓VO_if, ↓nx_some, ↓nx_none, putD_some, putD_none, ↓V_p, ↓V_r, ↓V_a, ↓V_e, ↓V_call, ↓V_inv, ↓oQ_some, ↓oP_some, ↓oA_some, ↓oC_some, gO_true, gO_false, ↓gO_true, ↓gO_false, cIf_true, cIf_false, oQ_some, oP_some, oA_some, oC_some, oV_some,  reserve0, ↓D_nil, ↓D_p, ↓D_r, ↓nd_some, ↓ndr_some, ↓oV_some, ↓ev_rst, has_cons, has_nil, P_mv, P_pick, pickV_true, pickV_false, P_bin, P_un, P_cnv, cnvV_int, P_mkif, P_mkfn, P_fadr, P_fld, P_iadr, P_idx, P_len, P_mn, P_mx, foldV_two, mn2_int, mx2_int, unA_not, unA_neg, B_add, B_sub, B_mul, B_quo, B_rem, B_eql, B_neq, B_lss, B_leq, B_gtr, B_geq, R_load, wants_ev, gV_t, gV_f, ↓evPut, ↓ev_c, ↓ev_f, ↓ev_g, isC_t, isC_c, isC_f, isC_g, ↓reduceIte, Nat.reduceEqDiff, Nat.reduceBEq, Bool.or_self, Bool.or_false, Bool.or_true, Bool.false_or, Bool.true_or, Bool.and_true, Bool.and_false, Bool.true_and, Bool.false_and, Bool.not_true, Bool.not_false, Bool.false_eq_true, ofArgs, List.map_cons, List.map_nil, List.nil_append, List.append_nil, List.cons_append, Nat.reduceAdd, calleeA, beq_self_eq_true, decide_true, decide_false, h16, h15]
  by_cases hi : i < min a.length b.length
  · rw [cIf_yes (by omega)]
    have ia : i < a.length := by omega
    have ib : i < b.length := by omega
    have wx := wrap64_of32 (ha.at ia)
    have wy := wrap64_of32 (hb.at ib)
    have wi := wrapSucc (i := i) (by omega)
    have hstep := (scoreF_step (m := m) ia ib s).symm.trans hs
    simp -implicitDefEqProofs only [↓C_skip, ↓C_reg, ↓C_dreg, ↓C_seq, ↓C_cond, ↓C_blk, ↓C_loop, ↓C_exit, ↓C_ret, ↓sq_nrm, ↓sq_exit, ↓sq_ret, ↓outB_nrm, ↓outB_ret, ↓outB_exit, ↓fin_nrm, ↓fin_ret, ↓fin_ret0, ↓fin_nrm0, ↓fin_ret2, ↓rd_nrm, ↓rd_exit, ↓rd_ret, ↓cIf_true, ↓cIf_false, ↓VO_nil, ↓VO_go, ↓VO_if, ↓nx_some, ↓nx_none, putD_some, putD_none, ↓V_p, ↓V_r, ↓V_a, ↓V_e, ↓V_call, ↓V_inv, ↓oQ_some, ↓oP_some, ↓oA_some, ↓oC_some, gO_true, gO_false, ↓gO_true, ↓gO_false, cIf_true, cIf_false, oQ_some, oP_some, oA_some, oC_some, oV_some,  reserve0, ↓D_nil, ↓D_p, ↓D_r, ↓nd_some, ↓ndr_some, ↓oV_some, ↓ev_rst, has_cons, has_nil, P_mv, P_pick, pickV_true, pickV_false, P_bin, P_un, P_cnv, cnvV_int, P_mkif, P_mkfn, P_fadr, P_fld, P_iadr, P_idx, P_len, P_mn, P_mx, foldV_two, mn2_int, mx2_int, unA_not, unA_neg, B_add, B_sub, B_mul, B_quo, B_rem, B_eql, B_neq, B_lss, B_leq, B_gtr, B_geq, R_load, wants_ev, gV_t, gV_f, ↓evPut, ↓ev_c, ↓ev_f, ↓ev_g, isC_t, isC_c, isC_f, isC_g, ↓reduceIte, Nat.reduceEqDiff, Nat.reduceBEq, Bool.or_self, Bool.or_false, Bool.or_true, Bool.false_or, Bool.true_or, Bool.and_true, Bool.and_false, Bool.true_and, Bool.false_and, Bool.not_true, Bool.not_false, Bool.false_eq_true, ofArgs, List.map_cons, List.map_nil, List.nil_append, List.append_nil, List.cons_append, Nat.reduceAdd, calleeA, beq_self_eq_true, decide_true, decide_false, h0, h1, h2, h7, h15, h16, iadr_sl t38 t21 ha (Int.natCast_nonneg i) (by omega : (i : Int) < a.length), iadr_sl t38 t21 hb (Int.natCast_nonneg i) (by omega : (i : Int) < b.length), Int.toNat_natCast, load_sl t21 ha ia, load_sl t21 hb ib, wx, wy]
    by_cases m1 : m = 1
    · rw [cIf_yes m1]
      simp -implicitDefEqProofs only [↓C_skip, ↓C_reg, ↓C_dreg, ↓C_seq, ↓C_cond, ↓C_blk, ↓C_loop, ↓C_exit, ↓C_ret, ↓sq_nrm, ↓sq_exit, ↓sq_ret, ↓outB_nrm, ↓outB_ret, ↓outB_exit, ↓fin_nrm, ↓fin_ret, ↓fin_ret0, ↓fin_nrm0, ↓fin_ret2, ↓rd_nrm, ↓rd_exit, ↓rd_ret, ↓cIf_true, ↓cIf_false, ↓VO_nil, ↓VO_go, ↓VO_if, ↓nx_some, ↓nx_none, putD_some, putD_none, ↓V_p, ↓V_r, ↓V_a, ↓V_e, ↓V_call, ↓V_inv, ↓oQ_some, ↓oP_some, ↓oA_some, ↓oC_some, gO_true, gO_false, ↓gO_true, ↓gO_false, cIf_true, cIf_false, oQ_some, oP_some, oA_some, oC_some, oV_some,  reserve0, ↓D_nil, ↓D_p, ↓D_r, ↓nd_some, ↓ndr_some, ↓oV_some, ↓ev_rst, has_cons, has_nil, P_mv, P_pick, pickV_true, pickV_false, P_bin, P_un, P_cnv, cnvV_int, P_mkif, P_mkfn, P_fadr, P_fld, P_iadr, P_idx, P_len, P_mn, P_mx, foldV_two, mn2_int, mx2_int, unA_not, unA_neg, B_add, B_sub, B_mul, B_quo, B_rem, B_eql, B_neq, B_lss, B_leq, B_gtr, B_geq, R_load, wants_ev, gV_t, gV_f, ↓evPut, ↓ev_c, ↓ev_f, ↓ev_g, isC_t, isC_c, isC_f, isC_g, ↓reduceIte, Nat.reduceEqDiff, Nat.reduceBEq, Bool.or_self, Bool.or_false, Bool.or_true, Bool.false_or, Bool.true_or, Bool.and_true, Bool.and_false, Bool.true_and, Bool.false_and, Bool.not_true, Bool.not_false, Bool.false_eq_true, ofArgs, List.map_cons, List.map_nil, List.nil_append, List.append_nil, List.cons_append, Nat.reduceAdd, calleeA, beq_self_eq_true, decide_true, decide_false, h0, h1, h2, h7, h15, h16, wi]
      exact ⟨d - 1, by omega, rfl, i + 1, _, by omega, by simp only [↓evPut, ↓ev_c, ↓reduceIte, Nat.reduceEqDiff, h0], by simp only [↓evPut, ↓ev_c, ↓reduceIte, Nat.reduceEqDiff, h1], by simp only [↓evPut, ↓ev_c, ↓reduceIte, Nat.reduceEqDiff, h2], by simp only [↓evPut, ↓ev_c, ↓reduceIte, Nat.reduceEqDiff]; rfl, by simp only [↓evPut, ↓ev_c, ↓reduceIte, Nat.reduceEqDiff, h15], by simp only [↓evPut, ↓ev_c, ↓reduceIte, Nat.reduceEqDiff], by rw [← hstep]; simp only [scoreStep, m1, if_true]⟩
    · rw [cIf_no m1]
      simp -implicitDefEqProofs only [↓C_skip, ↓C_reg, ↓C_dreg, ↓C_seq, ↓C_cond, ↓C_blk, ↓C_loop, ↓C_exit, ↓C_ret, ↓sq_nrm, ↓sq_exit, ↓sq_ret, ↓outB_nrm, ↓outB_ret, ↓outB_exit, ↓fin_nrm, ↓fin_ret, ↓fin_ret0, ↓fin_nrm0, ↓fin_ret2, ↓rd_nrm, ↓rd_exit, ↓rd_ret, ↓cIf_true, ↓cIf_false, ↓VO_nil, ↓VO_go, ↓VO_if, ↓nx_some, ↓nx_none, putD_some, putD_none, ↓V_p, ↓V_r, ↓V_a, ↓V_e, ↓V_call, ↓V_inv, ↓oQ_some, ↓oP_some, ↓oA_some, ↓oC_some, gO_true, gO_false, ↓gO_true, ↓gO_false, cIf_true, cIf_false, oQ_some, oP_some, oA_some, oC_some, oV_some,  reserve0, ↓D_nil, ↓D_p, ↓D_r, ↓nd_some, ↓ndr_some, ↓oV_some, ↓ev_rst, has_cons, has_nil, P_mv, P_pick, pickV_true, pickV_false, P_bin, P_un, P_cnv, cnvV_int, P_mkif, P_mkfn, P_fadr, P_fld, P_iadr, P_idx, P_len, P_mn, P_mx, foldV_two, mn2_int, mx2_int, unA_not, unA_neg, B_add, B_sub, B_mul, B_quo, B_rem, B_eql, B_neq, B_lss, B_leq, B_gtr, B_geq, R_load, wants_ev, gV_t, gV_f, ↓evPut, ↓ev_c, ↓ev_f, ↓ev_g, isC_t, isC_c, isC_f, isC_g, ↓reduceIte, Nat.reduceEqDiff, Nat.reduceBEq, Bool.or_self, Bool.or_false, Bool.or_true, Bool.false_or, Bool.true_or, Bool.and_true, Bool.and_false, Bool.true_and, Bool.false_and, Bool.not_true, Bool.not_false, Bool.false_eq_true, ofArgs, List.map_cons, List.map_nil, List.nil_append, List.append_nil, List.cons_append, Nat.reduceAdd, calleeA, beq_self_eq_true, decide_true, decide_false, h0, h1, h2, h7, h15, h16]
      by_cases m2 : m = 2
      · rw [cIf_yes m2]
        simp -implicitDefEqProofs only [↓C_skip, ↓C_reg, ↓C_dreg, ↓C_seq, ↓C_cond, ↓C_blk, ↓C_loop, ↓C_exit, ↓C_ret, ↓sq_nrm, ↓sq_exit, ↓sq_ret, ↓outB_nrm, ↓outB_ret, ↓outB_exit, ↓fin_nrm, ↓fin_ret, ↓fin_ret0, ↓fin_nrm0, ↓fin_ret2, ↓rd_nrm, ↓rd_exit, ↓rd_ret, ↓cIf_true, ↓cIf_false, ↓VO_nil, ↓VO_go, ↓VO_if, ↓nx_some, ↓nx_none, putD_some, putD_none, ↓V_p, ↓V_r, ↓V_a, ↓V_e, ↓V_call, ↓V_inv, ↓oQ_some, ↓oP_some, ↓oA_some, ↓oC_some, gO_true, gO_false, ↓gO_true, ↓gO_false, cIf_true, cIf_false, oQ_some, oP_some, oA_some, oC_some, oV_some,  reserve0, ↓D_nil, ↓D_p, ↓D_r, ↓nd_some, ↓ndr_some, ↓oV_some, ↓ev_rst, has_cons, has_nil, P_mv, P_pick, pickV_true, pickV_false, P_bin, P_un, P_cnv, cnvV_int, P_mkif, P_mkfn, P_fadr, P_fld, P_iadr, P_idx, P_len, P_mn, P_mx, foldV_two, mn2_int, mx2_int, unA_not, unA_neg, B_add, B_sub, B_mul, B_quo, B_rem, B_eql, B_neq, B_lss, B_leq, B_gtr, B_geq, R_load, wants_ev, gV_t, gV_f, ↓evPut, ↓ev_c, ↓ev_f, ↓ev_g, isC_t, isC_c, isC_f, isC_g, ↓reduceIte, Nat.reduceEqDiff, Nat.reduceBEq, Bool.or_self, Bool.or_false, Bool.or_true, Bool.false_or, Bool.true_or, Bool.and_true, Bool.and_false, Bool.true_and, Bool.false_and, Bool.not_true, Bool.not_false, Bool.false_eq_true, ofArgs, List.map_cons, List.map_nil, List.nil_append, List.append_nil, List.cons_append, Nat.reduceAdd, calleeA, beq_self_eq_true, decide_true, decide_false, h0, h1, h2, h7, h15, h16, wi]
        exact ⟨d - 1, by omega, rfl, i + 1, _, by omega, by simp only [↓evPut, ↓ev_c, ↓reduceIte, Nat.reduceEqDiff, h0], by simp only [↓evPut, ↓ev_c, ↓reduceIte, Nat.reduceEqDiff, h1], by simp only [↓evPut, ↓ev_c, ↓reduceIte, Nat.reduceEqDiff, h2], by simp only [↓evPut, ↓ev_c, ↓reduceIte, Nat.reduceEqDiff]; rfl, by simp only [↓evPut, ↓ev_c, ↓reduceIte, Nat.reduceEqDiff, h15], by simp only [↓evPut, ↓ev_c, ↓reduceIte, Nat.reduceEqDiff], by rw [← hstep]; simp only [scoreStep, m2, if_true]; rw [if_neg (by decide)]⟩
      · rw [cIf_no m2]
        simp -implicitDefEqProofs only [↓C_skip, ↓C_reg, ↓C_dreg, ↓C_seq, ↓C_cond, ↓C_blk, ↓C_loop, ↓C_exit, ↓C_ret, ↓sq_nrm, ↓sq_exit, ↓sq_ret, ↓outB_nrm, ↓outB_ret, ↓outB_exit, ↓fin_nrm, ↓fin_ret, ↓fin_ret0, ↓fin_nrm0, ↓fin_ret2, ↓rd_nrm, ↓rd_exit, ↓rd_ret, ↓cIf_true, ↓cIf_false, ↓VO_nil, ↓VO_go, ↓VO_if, ↓nx_some, ↓nx_none, putD_some, putD_none, ↓V_p, ↓V_r, ↓V_a, ↓V_e, ↓V_call, ↓V_inv, ↓oQ_some, ↓oP_some, ↓oA_some, ↓oC_some, gO_true, gO_false, ↓gO_true, ↓gO_false, cIf_true, cIf_false, oQ_some, oP_some, oA_some, oC_some, oV_some,  reserve0, ↓D_nil, ↓D_p, ↓D_r, ↓nd_some, ↓ndr_some, ↓oV_some, ↓ev_rst, has_cons, has_nil, P_mv, P_pick, pickV_true, pickV_false, P_bin, P_un, P_cnv, cnvV_int, P_mkif, P_mkfn, P_fadr, P_fld, P_iadr, P_idx, P_len, P_mn, P_mx, foldV_two, mn2_int, mx2_int, unA_not, unA_neg, B_add, B_sub, B_mul, B_quo, B_rem, B_eql, B_neq, B_lss, B_leq, B_gtr, B_geq, R_load, wants_ev, gV_t, gV_f, ↓evPut, ↓ev_c, ↓ev_f, ↓ev_g, isC_t, isC_c, isC_f, isC_g, ↓reduceIte, Nat.reduceEqDiff, Nat.reduceBEq, Bool.or_self, Bool.or_false, Bool.or_true, Bool.false_or, Bool.true_or, Bool.and_true, Bool.and_false, Bool.true_and, Bool.false_and, Bool.not_true, Bool.not_false, Bool.false_eq_true, ofArgs, List.map_cons, List.map_nil, List.nil_append, List.append_nil, List.cons_append, Nat.reduceAdd, calleeA, beq_self_eq_true, decide_true, decide_false, h0, h1, h2, h7, h15, h16, wi]
        exact ⟨d - 1, by omega, rfl, i + 1, s, by omega, by simp only [↓evPut, ↓ev_c, ↓reduceIte, Nat.reduceEqDiff, h0], by simp only [↓evPut, ↓ev_c, ↓reduceIte, Nat.reduceEqDiff, h1], by simp only [↓evPut, ↓ev_c, ↓reduceIte, Nat.reduceEqDiff, h2], by simp only [↓evPut, ↓ev_c, ↓reduceIte, Nat.reduceEqDiff, h7], by simp only [↓evPut, ↓ev_c, ↓reduceIte, Nat.reduceEqDiff, h15], by simp only [↓evPut, ↓ev_c, ↓reduceIte, Nat.reduceEqDiff], by rw [← hstep]; simp only [scoreStep, m1, m2, if_false]⟩
  · rw [cIf_no (by omega)]
    simp -implicitDefEqProofs only [↓C_skip, ↓C_reg, ↓C_dreg, ↓C_seq, ↓C_cond, ↓C_blk, ↓C_loop, ↓C_exit, ↓C_ret, ↓sq_nrm, ↓sq_exit, ↓sq_ret, ↓outB_nrm, ↓outB_ret, ↓outB_exit, ↓fin_nrm, ↓fin_ret, ↓fin_ret0, ↓fin_nrm0, ↓fin_ret2, ↓rd_nrm, ↓rd_exit, ↓rd_ret, ↓cIf_true, ↓cIf_false, ↓VO_nil, ↓VO_go, ↓VO_if, ↓nx_some, ↓nx_none, putD_some, putD_none, ↓V_p, ↓V_r, ↓V_a, ↓V_e, ↓V_call, ↓V_inv, ↓oQ_some, ↓oP_some, ↓oA_some, ↓oC_some, gO_true, gO_false, ↓gO_true, ↓gO_false, cIf_true, cIf_false, oQ_some, oP_some, oA_some, oC_some, oV_some,  reserve0, ↓D_nil, ↓D_p, ↓D_r, ↓nd_some, ↓ndr_some, ↓oV_some, ↓ev_rst, has_cons, has_nil, P_mv, P_pick, pickV_true, pickV_false, P_bin, P_un, P_cnv, cnvV_int, P_mkif, P_mkfn, P_fadr, P_fld, P_iadr, P_idx, P_len, P_mn, P_mx, foldV_two, mn2_int, mx2_int, unA_not, unA_neg, B_add, B_sub, B_mul, B_quo, B_rem, B_eql, B_neq, B_lss, B_leq, B_gtr, B_geq, R_load, wants_ev, gV_t, gV_f, ↓evPut, ↓ev_c, ↓ev_f, ↓ev_g, isC_t, isC_c, isC_f, isC_g, ↓reduceIte, Nat.reduceEqDiff, Nat.reduceBEq, Bool.or_self, Bool.or_false, Bool.or_true, Bool.false_or, Bool.true_or, Bool.and_true, Bool.and_false, Bool.true_and, Bool.false_and, Bool.not_true, Bool.not_false, Bool.false_eq_true, ofArgs, List.map_cons, List.map_nil, List.nil_append, List.append_nil, List.cons_append, Nat.reduceAdd, calleeA, beq_self_eq_true, decide_true, decide_false]
    refine hq _ ?_
    simp only [↓evPut, ↓ev_c, ↓reduceIte, Nat.reduceEqDiff, h7]
    rw [← hs, scoreF_end (by omega)]
def g45 : GF := fun args H => match args with
  | [.int .i64 m, va, vb] => match rdI .i32 H va, rdI .i32 H vb with
    | some a, some b => if a.length < 9223372036854775807 ∧ b.length < 9223372036854775807 then some (.int .i64 (scoreF m a b 0), H) else none
    | _, _ => none
  | _ => none
theorem wf45 (x : FuncId → Option GF) (hx : x 45 = none) {m : Int} {va vb : Value} {a b : List Int} {H : Hp} (ha : IsSl .i32 H va a) (hb : IsSl .i32 H vb b) (hla : a.length < 9223372036854775807) (hlb : b.length < 9223372036854775807) :
    WF (envT x) 45 [.int .i64 m, va, vb] H fun v H' => v = .int .i64 (scoreF m a b 0) ∧ H' = H := by
  refine WF.go hx p45 rfl ?_
  have t38 : (envT x).ty 38 = _ := ty38
  unfold c45
  simp -implicitDefEqProofs only [↓C_skip, ↓C_reg, ↓C_dreg, ↓C_seq, ↓C_cond, ↓C_blk, ↓C_loop, ↓C_exit, ↓C_ret, ↓sq_nrm, ↓sq_exit, ↓sq_ret, ↓outB_nrm, ↓outB_ret, ↓outB_exit, ↓fin_nrm, ↓fin_ret, ↓fin_ret0, ↓fin_nrm0, ↓fin_ret2, ↓rd_nrm, ↓rd_exit, ↓rd_ret, ↓cIf_true, ↓cIf_false, ↓VO_nil, ↓VO_go, ↓VO_if, ↓nx_some, ↓nx_none, putD_some, putD_none, ↓V_p, ↓V_r, ↓V_a, ↓V_e, ↓V_call, ↓V_inv, ↓oQ_some, ↓oP_some, ↓oA_some, ↓oC_some, gO_true, gO_false, ↓gO_true, ↓gO_false, cIf_true, cIf_false, oQ_some, oP_some, oA_some, oC_some, oV_some,  reserve0, ↓D_nil, ↓D_p, ↓D_r, ↓nd_some, ↓ndr_some, ↓oV_some, ↓ev_rst, has_cons, has_nil, P_mv, P_pick, pickV_true, pickV_false, P_bin, P_un, P_cnv, cnvV_int, P_mkif, P_mkfn, P_fadr, P_fld, P_iadr, P_idx, P_len, P_mn, P_mx, foldV_two, mn2_int, mx2_int, unA_not, unA_neg, B_add, B_sub, B_mul, B_quo, B_rem, B_eql, B_neq, B_lss, B_leq, B_gtr, B_geq, R_load, wants_ev, gV_t, gV_f, ↓evPut, ↓ev_c, ↓ev_f, ↓ev_g, isC_t, isC_c, isC_f, isC_g, ↓reduceIte, Nat.reduceEqDiff, Nat.reduceBEq, Bool.or_self, Bool.or_false, Bool.or_true, Bool.false_or, Bool.true_or, Bool.and_true, Bool.and_false, Bool.true_and, Bool.false_and, Bool.not_true, Bool.not_false, Bool.false_eq_true, ofArgs, List.map_cons, List.map_nil, List.nil_append, List.append_nil, List.cons_append, Nat.reduceAdd, calleeA, beq_self_eq_true, decide_true, decide_false, lenV_sl t38 ha, lenV_sl t38 hb]
  refine VC.loop (I45 H m va vb a b) (fun d t H' h => loop45 rfl ha hb hla d t H' h (fun t' h7 => ?_)) (d := min a.length b.length) ⟨rfl, 0, 0, by omega, by simp only [↓evPut, ↓ev_c, ↓reduceIte, Nat.reduceEqDiff], by simp only [↓evPut, ↓ev_c, ↓reduceIte, Nat.reduceEqDiff], by simp only [↓evPut, ↓ev_c, ↓reduceIte, Nat.reduceEqDiff], by simp only [↓evPut, ↓ev_c, ↓reduceIte, Nat.reduceEqDiff], by simp only [↓evPut, ↓ev_c, ↓reduceIte, Nat.reduceEqDiff]; congr 1; omega, by simp only [↓evPut, ↓ev_c, ↓reduceIte, Nat.reduceEqDiff]; rfl, rfl⟩
  simp -implicitDefEqProofs only [↓C_skip, ↓C_reg, ↓C_dreg, ↓C_seq, ↓C_cond, ↓C_blk, ↓C_loop, ↓C_exit, ↓C_ret, ↓sq_nrm, ↓sq_exit, ↓sq_ret, ↓outB_nrm, ↓outB_ret, ↓outB_exit, ↓fin_nrm, ↓fin_ret, ↓fin_ret0, ↓fin_nrm0, ↓fin_ret2, ↓rd_nrm, ↓rd_exit, ↓rd_ret, ↓cIf_true, ↓cIf_false, ↓VO_nil, ↓VO_go, ↓VO_if, ↓nx_some, ↓nx_none, putD_some, putD_none, ↓V_p, ↓V_r, ↓V_a, ↓V_e, ↓V_call, ↓V_inv, ↓oQ_some, ↓oP_some, ↓oA_some, ↓oC_some, gO_true, gO_false, ↓gO_true, ↓gO_false, cIf_true, cIf_false, oQ_some, oP_some, oA_some, oC_some, oV_some,  reserve0, ↓D_nil, ↓D_p, ↓D_r, ↓nd_some, ↓ndr_some, ↓oV_some, ↓ev_rst, has_cons, has_nil, P_mv, P_pick, pickV_true, pickV_false, P_bin, P_un, P_cnv, cnvV_int, P_mkif, P_mkfn, P_fadr, P_fld, P_iadr, P_idx, P_len, P_mn, P_mx, foldV_two, mn2_int, mx2_int, unA_not, unA_neg, B_add, B_sub, B_mul, B_quo, B_rem, B_eql, B_neq, B_lss, B_leq, B_gtr, B_geq, R_load, wants_ev, gV_t, gV_f, ↓evPut, ↓ev_c, ↓ev_f, ↓ev_g, isC_t, isC_c, isC_f, isC_g, ↓reduceIte, Nat.reduceEqDiff, Nat.reduceBEq, Bool.or_self, Bool.or_false, Bool.or_true, Bool.false_or, Bool.true_or, Bool.and_true, Bool.and_false, Bool.true_and, Bool.false_and, Bool.not_true, Bool.not_false, Bool.false_eq_true, ofArgs, List.map_cons, List.map_nil, List.nil_append, List.append_nil, List.cons_append, Nat.reduceAdd, calleeA, beq_self_eq_true, decide_true, decide_false, h7]
  trivial
theorem ok45 : FnOk Tryz.prog g45 45 := by
  refine FnOk.of (envT_ok fun _ => none) (envT_x fun _ _ h => by cases h) fun args H v H1 ok hg => ?_
  unfold g45 at hg
  split at hg
  · split at hg
    · rename_i ha hb
      split at hg
      · rename_i hl
        cases hg
        refine (wf45 (fun _ => none) rfl (rdI_is ha) (rdI_is hb) hl.1 hl.2).mono fun v' H' hh => ?_
        obtain ⟨rfl, rfl⟩ := hh
        exact Abs.keep ok.wf (fun _ _ => rfl) (VA.scal rfl)
      · cases hg
    · cases hg
  · cases hg
end Go.Proofs.YtaegmplbkbaniaaGreatDoor
