/-
  fieldfarelaw7.QuantOrder in the machine: it answers true. No condition.
-/
import Derived.Test.YtaegmplbkbaniaaGreatDoorMkt
import Derived.Test.YtaegmplbkbaniaaGreatDoorVed
set_option linter.all false
namespace Go.Proofs.YtaegmplbkbaniaaGreatDoor
open Go
attribute [local irreducible] VO VC VD VD1 V1 nx nd ndr sq cIf gO oQ oP oA oC oV oIf oB fin rd' outB WC WF WO WD W1
set_option maxRecDepth 100000
/-! ### 11 -/
abbrev r11_0 : List Lo := [
  ⟨(some 8), (.p (.mv (.c (.bool false)))), none⟩]
abbrev r11_1 : List Lo := [
  ⟨(some 14), (.call (.f 18) []), none⟩,
  ⟨(some 9), (.p (.mv (.t 14))), none⟩]
abbrev r11_2 : List Lo := [
  ⟨(some 15), (.p (.mv (.t 9))), none⟩,
  ⟨(some 16), (.p (.un .not (.t 15))), none⟩]
abbrev r11_3 : List Lo := [
  ⟨(some 8), (.p (.mv (.c (.bool false)))), none⟩]
abbrev r11_4 : List Lo := [
  ⟨(some 17), (.p (.mv (.t 0))), none⟩,
  ⟨(some 18), (.call (.f 27) [(.t 17)]), none⟩,
  ⟨(some 0), (.p (.mv (.t 18))), none⟩]
abbrev r11_5 : List Lo := [
  ⟨(some 19), (.p (.mv (.t 0))), none⟩,
  ⟨(some 20), (.p (.mv (.t 1))), none⟩,
  ⟨(some 21), (.p (.mv (.t 0))), none⟩,
  ⟨(some 22), (.call (.f 28) [(.t 20), (.t 21), (.c (.int .i64 10))]), none⟩,
  ⟨(some 23), (.call (.f 46) [(.t 19), (.t 22)]), none⟩,
  ⟨(some 10), (.a (.alloc 69)), none⟩,
  ⟨none, (.e (.store 69 (.t 10) (.t 23))), none⟩]
abbrev r11_6 : List Lo := [
  ⟨(some 24), (.p (.mv (.t 2))), none⟩,
  ⟨(some 25), (.p (.mv (.t 0))), none⟩,
  ⟨(some 26), (.call (.f 33) [(.t 24), (.t 25)]), none⟩,
  ⟨(some 27), (.p (.mv (.t 3))), none⟩,
  ⟨(some 28), (.p (.mv (.t 0))), none⟩,
  ⟨(some 29), (.call (.f 33) [(.t 27), (.t 28)]), none⟩,
  ⟨(some 2), (.p (.mv (.t 26))), none⟩,
  ⟨(some 3), (.p (.mv (.t 29))), none⟩]
def d11_7 : List Dl := [
  ⟨⟨(some 30), (.r (.load 69 (.t 10))), none⟩, 0, 0, 0, false, [], [10]⟩,
  ⟨⟨(some 31), (.p (.mv (.t 2))), none⟩, 1, 0, 0, false, [], [2]⟩,
  ⟨⟨(some 32), (.call (.f 47) [(.t 30), (.t 31)]), none⟩, 2, 0, 0, false, [], [30, 31]⟩,
  ⟨⟨(some 33), (.r (.load 69 (.t 10))), none⟩, 3, 0, 1, false, [], [10]⟩,
  ⟨⟨(some 34), (.p (.mv (.t 3))), none⟩, 4, 0, 1, false, [], [3]⟩,
  ⟨⟨(some 35), (.call (.f 47) [(.t 33), (.t 34)]), none⟩, 5, 0, 0, false, [], [33, 34]⟩,
  ⟨⟨(some 11), (.p (.mv (.t 32))), none⟩, 6, 0, 0, false, [], [32]⟩,
  ⟨⟨(some 12), (.p (.mv (.t 35))), none⟩, 7, 0, 0, false, [], [35]⟩]
abbrev r11_8 : List Lo := [
  ⟨(some 36), (.p (.mv (.t 11))), none⟩,
  ⟨(some 37), (.p (.len 53 (.t 36))), none⟩,
  ⟨(some 38), (.p (.mv (.t 0))), none⟩,
  ⟨(some 39), (.p (.bin .neq 3 (.t 37) (.t 38))), none⟩,
  ⟨(some 40), (.p (.mv (.t 39))), none⟩,
  ⟨(some 41), (.p (.mv (.t 12))), (some (40, false))⟩,
  ⟨(some 42), (.p (.len 53 (.t 41))), (some (40, false))⟩,
  ⟨(some 43), (.p (.mv (.t 0))), (some (40, false))⟩,
  ⟨(some 44), (.p (.bin .neq 3 (.t 42) (.t 43))), (some (40, false))⟩,
  ⟨(some 45), (.p (.pick (.t 40) (.c (.bool true)) (.t 44))), none⟩]
abbrev r11_9 : List Lo := [
  ⟨(some 8), (.p (.mv (.c (.bool false)))), none⟩]
abbrev r11_10 : List Lo := [
  ⟨(some 46), (.p (.mv (.t 11))), none⟩,
  ⟨(some 47), (.p (.len 53 (.t 46))), none⟩,
  ⟨(some 48), (.p (.mv (.c (.int .i64 0)))), none⟩]
abbrev r11_11 : List Lo := [
  ⟨(some 49), (.p (.bin .lss 3 (.t 48) (.t 47))), none⟩]
abbrev r11_12 : List Lo := [
  ⟨(some 50), (.p (.mv (.t 48))), none⟩,
  ⟨(some 13), (.p (.mv (.t 50))), none⟩]
def d11_13 : List Dl := [
  ⟨⟨(some 51), (.p (.mv (.t 2))), none⟩, 0, 0, 0, false, [], [2]⟩,
  ⟨⟨(some 52), (.p (.mv (.t 13))), none⟩, 1, 0, 0, false, [], [13]⟩,
  ⟨⟨(some 53), (.p (.iadr 38 (.t 51) (.t 52))), none⟩, 2, 0, 0, false, [], [51, 52]⟩,
  ⟨⟨(some 54), (.r (.load 21 (.t 53))), none⟩, 3, 0, 0, false, [], [53]⟩,
  ⟨⟨(some 55), (.p (.mv (.t 3))), none⟩, 4, 0, 0, false, [], [3]⟩,
  ⟨⟨(some 56), (.p (.mv (.t 13))), none⟩, 5, 0, 0, false, [], [13]⟩,
  ⟨⟨(some 57), (.p (.iadr 38 (.t 55) (.t 56))), none⟩, 6, 0, 0, false, [], [55, 56]⟩,
  ⟨⟨(some 58), (.r (.load 21 (.t 57))), none⟩, 7, 0, 0, false, [], [57]⟩,
  ⟨⟨(some 59), (.p (.bin .leq 21 (.t 54) (.t 58))), none⟩, 8, 0, 0, false, [], [54, 58]⟩,
  ⟨⟨(some 60), (.p (.mv (.t 59))), none⟩, 9, 0, 0, false, [], [59]⟩,
  ⟨⟨(some 61), (.p (.mv (.t 11))), (some (60, true))⟩, 10, 0, 0, false, [], [11, 60]⟩,
  ⟨⟨(some 62), (.p (.mv (.t 13))), (some (60, true))⟩, 11, 0, 0, false, [], [13, 60]⟩,
  ⟨⟨(some 63), (.p (.iadr 53 (.t 61) (.t 62))), (some (60, true))⟩, 12, 0, 0, false, [], [61, 62, 60]⟩,
  ⟨⟨(some 64), (.r (.load 5 (.t 63))), (some (60, true))⟩, 13, 0, 0, false, [], [63, 60]⟩,
  ⟨⟨(some 65), (.p (.mv (.t 12))), (some (60, true))⟩, 14, 0, 0, false, [], [12, 60]⟩,
  ⟨⟨(some 66), (.p (.mv (.t 13))), (some (60, true))⟩, 15, 0, 0, false, [], [13, 60]⟩,
  ⟨⟨(some 67), (.p (.iadr 53 (.t 65) (.t 66))), (some (60, true))⟩, 16, 0, 0, false, [], [65, 66, 60]⟩,
  ⟨⟨(some 68), (.r (.load 5 (.t 67))), (some (60, true))⟩, 17, 0, 0, false, [], [67, 60]⟩,
  ⟨⟨(some 69), (.p (.bin .gtr 5 (.t 64) (.t 68))), (some (60, true))⟩, 18, 0, 0, false, [], [64, 68, 60]⟩,
  ⟨⟨(some 70), (.p (.pick (.t 60) (.t 69) (.c (.bool false)))), none⟩, 19, 0, 0, false, [], [60, 69]⟩,
  ⟨⟨(some 71), (.p (.mv (.t 70))), none⟩, 20, 0, 0, false, [], [70]⟩,
  ⟨⟨(some 72), (.p (.mv (.t 2))), (some (71, false))⟩, 21, 0, 0, false, [], [2, 71]⟩,
  ⟨⟨(some 73), (.p (.mv (.t 13))), (some (71, false))⟩, 22, 0, 0, false, [], [13, 71]⟩,
  ⟨⟨(some 74), (.p (.iadr 38 (.t 72) (.t 73))), (some (71, false))⟩, 23, 0, 0, false, [], [72, 73, 71]⟩,
  ⟨⟨(some 75), (.r (.load 21 (.t 74))), (some (71, false))⟩, 24, 0, 0, false, [], [74, 71]⟩,
  ⟨⟨(some 76), (.p (.mv (.t 3))), (some (71, false))⟩, 25, 0, 0, false, [], [3, 71]⟩,
  ⟨⟨(some 77), (.p (.mv (.t 13))), (some (71, false))⟩, 26, 0, 0, false, [], [13, 71]⟩,
  ⟨⟨(some 78), (.p (.iadr 38 (.t 76) (.t 77))), (some (71, false))⟩, 27, 0, 0, false, [], [76, 77, 71]⟩,
  ⟨⟨(some 79), (.r (.load 21 (.t 78))), (some (71, false))⟩, 28, 0, 0, false, [], [78, 71]⟩,
  ⟨⟨(some 80), (.p (.bin .geq 21 (.t 75) (.t 79))), (some (71, false))⟩, 29, 0, 0, false, [], [75, 79, 71]⟩,
  ⟨⟨(some 81), (.p (.mv (.t 80))), (some (71, false))⟩, 30, 0, 0, false, [], [80, 71]⟩,
  ⟨⟨(some 82), (.p (.mv (.t 11))), (some (81, true))⟩, 31, 0, 0, false, [], [11, 81]⟩,
  ⟨⟨(some 83), (.p (.mv (.t 13))), (some (81, true))⟩, 32, 0, 0, false, [], [13, 81]⟩,
  ⟨⟨(some 84), (.p (.iadr 53 (.t 82) (.t 83))), (some (81, true))⟩, 33, 0, 0, false, [], [82, 83, 81]⟩,
  ⟨⟨(some 85), (.r (.load 5 (.t 84))), (some (81, true))⟩, 34, 0, 0, false, [], [84, 81]⟩,
  ⟨⟨(some 86), (.p (.mv (.t 12))), (some (81, true))⟩, 35, 0, 0, false, [], [12, 81]⟩,
  ⟨⟨(some 87), (.p (.mv (.t 13))), (some (81, true))⟩, 36, 0, 0, false, [], [13, 81]⟩,
  ⟨⟨(some 88), (.p (.iadr 53 (.t 86) (.t 87))), (some (81, true))⟩, 37, 0, 0, false, [], [86, 87, 81]⟩,
  ⟨⟨(some 89), (.r (.load 5 (.t 88))), (some (81, true))⟩, 38, 0, 0, false, [], [88, 81]⟩,
  ⟨⟨(some 90), (.p (.bin .lss 5 (.t 85) (.t 89))), (some (81, true))⟩, 39, 0, 0, false, [], [85, 89, 81]⟩,
  ⟨⟨(some 91), (.p (.pick (.t 81) (.t 90) (.c (.bool false)))), (some (71, false))⟩, 40, 0, 0, false, [], [81, 90, 71]⟩,
  ⟨⟨(some 92), (.p (.pick (.t 71) (.c (.bool true)) (.t 91))), none⟩, 41, 0, 0, false, [], [71, 91]⟩]
abbrev r11_14 : List Lo := [
  ⟨(some 8), (.p (.mv (.c (.bool false)))), none⟩]
abbrev r11_15 : List Lo := [
  ⟨(some 93), (.p (.bin .add 3 (.t 48) (.c (.int .i64 1)))), none⟩,
  ⟨(some 48), (.p (.mv (.t 93))), none⟩]
def l11_16 : Ac := (.seq (.reg r11_11) (.seq (.cond (.t 49) .skip (.exit 0)) (.seq (.blk 1 (.seq (.reg r11_12) (.seq (.dreg 0 d11_13) (.cond (.t 92) (.seq (.reg r11_14) .ret) .skip)))) (.reg r11_15))))
abbrev r11_17 : List Lo := [
  ⟨(some 8), (.p (.mv (.c (.bool true)))), none⟩]
def c11 : AFun := ⟨(.seq (.reg r11_0) (.seq (.reg r11_1) (.seq (.seq (.reg r11_2) (.cond (.t 16) (.seq (.reg r11_3) .ret) .skip)) (.seq (.reg r11_4) (.seq (.reg r11_5) (.seq (.reg r11_6) (.seq (.dreg 0 d11_7) (.seq (.seq (.reg r11_8) (.cond (.t 45) (.seq (.reg r11_9) .ret) .skip)) (.seq (.seq (.reg r11_10) (.blk 0 (.loop l11_16))) (.seq (.reg r11_17) .ret)))))))))), [.t 8], 94⟩
theorem p11 : progOf Tryz.prog 11 = some c11 := by kernel_rfl

set_option maxRecDepth 4000
attribute [local irreducible] gD ndc oAd
def ext11 : FuncId → Option GF := ext1 18 (closedA (.bool true)) (ext1 27 g27 (ext1 32 g32 ext0))
theorem ext11_ok : ∀ f g, ext11 f = some g → FnOk Tryz.prog g f := ext1_ok ok18 (ext1_ok ok27 (ext1_ok ok32 ext0_ok))
theorem dimF_in (n : Int) : ∃ k : Nat, dimF n = (k : Int) ∧ 1 ≤ k ∧ k ≤ 8 := by
  have h1 := tmod_lt n (d := 8) (by decide)
  have e1 : w64 (n.tmod 8 + 8) = n.tmod 8 + 8 := wrap64_id (by omega) (by omega)
  have h2 := Int.tmod_nonneg (a := n.tmod 8 + 8) 8 (by omega)
  have h3 := Int.tmod_lt_of_pos (n.tmod 8 + 8) (b := 8) (by decide)
  have e2 : w64 (1 + (n.tmod 8 + 8).tmod 8) = 1 + (n.tmod 8 + 8).tmod 8 := wrap64_id (by omega) (by omega)
  refine ⟨(dimF n).toNat, ?_, ?_, ?_⟩
  all_goals
    unfold dimF
    rw [e1, e2]
    omega
theorem ndr_back {E : Env} {t : Tr Value} (base d : Nat) (r : List Dl) (H1 K1 S : Hp) (sn : List Hp) (rd : Rds) (K : Tr Value → Hp → Prop) (q : Nat × Ri × Tr Value) (v : Value) (ha : alike E q.2.2 q.2.1 v S = true) :
    ndr E base (some d) r ⟨t, H1, K1, S :: sn, rd⟩ K false q ((S :: sn).take 1) v = VD E base r ⟨t.put d (some v), H1, K1, S :: sn, rd⟩ K := by
  unfold ndr
  simp only [List.take_succ_cons, List.take_zero, List.all_cons, List.all_nil, ha, Bool.and_true, true_and]
  rfl
theorem rng_in {f : Nat → Int} {n : Nat} {lo hi : Int} (h : ∀ j, lo ≤ f j ∧ f j ≤ hi) : ∀ z ∈ (List.range n).map f ++ List.replicate (n - n) 0, lo ≤ z ∧ z ≤ hi := by
  intro z hz
  rw [Nat.sub_self] at hz
  simp at hz
  obtain ⟨j, _, rfl⟩ := hz
  exact h j
def I11 (H0 : Hp) (v2 v3 v11 v12 : Value) (dim : Nat) (d : Nat) (t : Tr Value) (H' : Hp) : Prop :=
  H' = H0 ∧ ∃ i : Nat, i + d = dim ∧ Od.ev t (.t 2) = v2 ∧ Od.ev t (.t 3) = v3 ∧ Od.ev t (.t 11) = v11 ∧ Od.ev t (.t 12) = v12 ∧ Od.ev t (.t 47) = .int .i64 ((dim : Nat) : Int) ∧ Od.ev t (.t 48) = .int .i64 i
theorem wf11 {H : Hp} (wf : Wf H) (hd : hasDoor H = true) (hn : 2 ≤ H.n) (n : Int) {vv va vb : Value} {V : List (List Int)} {a b : List Int} (hV : IsVs H vv V) (ha : IsSl .i32 H va a) (hb : IsSl .i32 H vb b) :
    WF (envT ext11) 11 [.int .i64 n, vv, va, vb] H fun v _ => v = .bool true := by
  refine WF.go rfl p11 rfl ?_
  obtain ⟨dim, hdim, d1, d8⟩ := dimF_in n
  unfold c11
  simp -implicitDefEqProofs only [↓D_if, gD_true, gD_false, ↓D_a, ↓D_e, ↓D_call, ↓ndc_0, Hp.get_put, Hp.get_alloc, ldR_lst, List.getElem?_map, List.length_map, List.length_set, A_mksl, E_store, omap_some, omap_none, bndV_none, ↓lp_nrm, ↓lp_exit, ↓lp_ret, ↓C_skip, ↓C_reg, ↓C_dreg, ↓C_seq, ↓C_cond, ↓C_blk, ↓C_loop, ↓C_exit, ↓C_ret, ↓sq_nrm, ↓sq_exit, ↓sq_ret, ↓outB_nrm, ↓outB_ret, ↓outB_exit, ↓fin_nrm, ↓fin_ret, ↓fin_ret0, ↓fin_nrm0, ↓fin_ret2, ↓rd_nrm, ↓rd_exit, ↓rd_ret, ↓cIf_true, ↓cIf_false, ↓VO_nil, ↓VO_go, ↓VO_if, ↓nx_some, ↓nx_none, putD_some, putD_none, ↓V_p, ↓V_r, ↓V_a, ↓V_e, ↓V_call, ↓V_inv, ↓oQ_some, ↓oP_some, ↓oA_some, ↓oC_some, gO_true, gO_false, ↓gO_true, ↓gO_false, cIf_true, cIf_false, oQ_some, oP_some, oA_some, oC_some, oV_some,  reserve0, ↓D_nil, ↓D_p, ↓D_r, ↓nd_some, ↓ndr_some, ↓oV_some, ↓ev_rst, has_cons, has_nil, P_mv, P_pick, pickV_true, pickV_false, P_bin, P_un, P_cnv, cnvV_int, P_mkif, P_mkfn, P_fadr, P_fld, P_iadr, P_idx, P_len, P_mn, P_mx, foldV_two, mn2_int, mx2_int, unA_not, unA_neg, B_add, B_sub, B_mul, B_quo, B_rem, B_eql, B_neq, B_lss, B_leq, B_gtr, B_geq, R_load, wants_ev, gV_t, gV_f, ↓evPut, ↓ev_c, ↓ev_f, ↓ev_g, isC_t, isC_c, isC_f, isC_g, ↓reduceIte, Nat.reduceEqDiff, Nat.reduceBEq, Bool.or_self, Bool.or_false, Bool.or_true, Bool.false_or, Bool.true_or, Bool.and_true, Bool.and_false, Bool.true_and, Bool.false_and, Bool.not_true, Bool.not_false, Bool.false_eq_true, ofArgs, List.map_cons, List.map_nil, List.nil_append, List.append_nil, List.cons_append, Nat.reduceAdd, calleeA, beq_self_eq_true, decide_true, decide_false]
  refine WF.ext rfl (closed_run hd hn) ?_
  simp -implicitDefEqProofs only [↓D_if, gD_true, gD_false, ↓D_a, ↓D_e, ↓D_call, ↓ndc_0, Hp.get_put, Hp.get_alloc, ldR_lst, List.getElem?_map, List.length_map, List.length_set, A_mksl, E_store, omap_some, omap_none, bndV_none, ↓lp_nrm, ↓lp_exit, ↓lp_ret, ↓C_skip, ↓C_reg, ↓C_dreg, ↓C_seq, ↓C_cond, ↓C_blk, ↓C_loop, ↓C_exit, ↓C_ret, ↓sq_nrm, ↓sq_exit, ↓sq_ret, ↓outB_nrm, ↓outB_ret, ↓outB_exit, ↓fin_nrm, ↓fin_ret, ↓fin_ret0, ↓fin_nrm0, ↓fin_ret2, ↓rd_nrm, ↓rd_exit, ↓rd_ret, ↓cIf_true, ↓cIf_false, ↓VO_nil, ↓VO_go, ↓VO_if, ↓nx_some, ↓nx_none, putD_some, putD_none, ↓V_p, ↓V_r, ↓V_a, ↓V_e, ↓V_call, ↓V_inv, ↓oQ_some, ↓oP_some, ↓oA_some, ↓oC_some, gO_true, gO_false, ↓gO_true, ↓gO_false, cIf_true, cIf_false, oQ_some, oP_some, oA_some, oC_some, oV_some,  reserve0, ↓D_nil, ↓D_p, ↓D_r, ↓nd_some, ↓ndr_some, ↓oV_some, ↓ev_rst, has_cons, has_nil, P_mv, P_pick, pickV_true, pickV_false, P_bin, P_un, P_cnv, cnvV_int, P_mkif, P_mkfn, P_fadr, P_fld, P_iadr, P_idx, P_len, P_mn, P_mx, foldV_two, mn2_int, mx2_int, unA_not, unA_neg, B_add, B_sub, B_mul, B_quo, B_rem, B_eql, B_neq, B_lss, B_leq, B_gtr, B_geq, R_load, wants_ev, gV_t, gV_f, ↓evPut, ↓ev_c, ↓ev_f, ↓ev_g, isC_t, isC_c, isC_f, isC_g, ↓reduceIte, Nat.reduceEqDiff, Nat.reduceBEq, Bool.or_self, Bool.or_false, Bool.or_true, Bool.false_or, Bool.true_or, Bool.and_true, Bool.and_false, Bool.true_and, Bool.false_and, Bool.not_true, Bool.not_false, Bool.false_eq_true, ofArgs, List.map_cons, List.map_nil, List.nil_append, List.append_nil, List.cons_append, Nat.reduceAdd, calleeA, beq_self_eq_true, decide_true, decide_false]
  refine WF.ext (E := envT ext11) (f := 27) (g := g27) rfl rfl ?_
  rw [hdim]
  simp -implicitDefEqProofs only [↓D_if, gD_true, gD_false, ↓D_a, ↓D_e, ↓D_call, ↓ndc_0, Hp.get_put, Hp.get_alloc, ldR_lst, List.getElem?_map, List.length_map, List.length_set, A_mksl, E_store, omap_some, omap_none, bndV_none, ↓lp_nrm, ↓lp_exit, ↓lp_ret, ↓C_skip, ↓C_reg, ↓C_dreg, ↓C_seq, ↓C_cond, ↓C_blk, ↓C_loop, ↓C_exit, ↓C_ret, ↓sq_nrm, ↓sq_exit, ↓sq_ret, ↓outB_nrm, ↓outB_ret, ↓outB_exit, ↓fin_nrm, ↓fin_ret, ↓fin_ret0, ↓fin_nrm0, ↓fin_ret2, ↓rd_nrm, ↓rd_exit, ↓rd_ret, ↓cIf_true, ↓cIf_false, ↓VO_nil, ↓VO_go, ↓VO_if, ↓nx_some, ↓nx_none, putD_some, putD_none, ↓V_p, ↓V_r, ↓V_a, ↓V_e, ↓V_call, ↓V_inv, ↓oQ_some, ↓oP_some, ↓oA_some, ↓oC_some, gO_true, gO_false, ↓gO_true, ↓gO_false, cIf_true, cIf_false, oQ_some, oP_some, oA_some, oC_some, oV_some,  reserve0, ↓D_nil, ↓D_p, ↓D_r, ↓nd_some, ↓ndr_some, ↓oV_some, ↓ev_rst, has_cons, has_nil, P_mv, P_pick, pickV_true, pickV_false, P_bin, P_un, P_cnv, cnvV_int, P_mkif, P_mkfn, P_fadr, P_fld, P_iadr, P_idx, P_len, P_mn, P_mx, foldV_two, mn2_int, mx2_int, unA_not, unA_neg, B_add, B_sub, B_mul, B_quo, B_rem, B_eql, B_neq, B_lss, B_leq, B_gtr, B_geq, R_load, wants_ev, gV_t, gV_f, ↓evPut, ↓ev_c, ↓ev_f, ↓ev_g, isC_t, isC_c, isC_f, isC_g, ↓reduceIte, Nat.reduceEqDiff, Nat.reduceBEq, Bool.or_self, Bool.or_false, Bool.or_true, Bool.false_or, Bool.true_or, Bool.and_true, Bool.and_false, Bool.true_and, Bool.false_and, Bool.not_true, Bool.not_false, Bool.false_eq_true, ofArgs, List.map_cons, List.map_nil, List.nil_append, List.append_nil, List.cons_append, Nat.reduceAdd, calleeA, beq_self_eq_true, decide_true, decide_false]
  refine (wf28 ext11 rfl rfl wf hV (by omega) (n := 10) (by omega)).mono fun r H1 hr => ?_
  obtain ⟨w1, o1, n1, own⟩ := hr
  have hL : ∀ z ∈ (V.take 10).map fun z => vecL z dim, z.length = dim := fun z hz => by obtain ⟨y, _, rfl⟩ := List.mem_map.1 hz; exact vecL_len y dim
  have hB : ∀ z ∈ (V.take 10).map fun z => vecL z dim, ∀ x ∈ z, -1048576 ≤ x ∧ x ≤ 1048576 := fun z hz => by obtain ⟨y, _, rfl⟩ := List.mem_map.1 hz; exact vecL_in
  have hl : ((V.take 10).map fun z => vecL z dim).length ≤ 65536 := by simp; omega
  generalize ((V.take 10).map fun z => vecL z dim) = L at *
  simp -implicitDefEqProofs only [↓D_if, gD_true, gD_false, ↓D_a, ↓D_e, ↓D_call, ↓ndc_0, Hp.get_put, Hp.get_alloc, ldR_lst, List.getElem?_map, List.length_map, List.length_set, A_mksl, E_store, omap_some, omap_none, bndV_none, ↓lp_nrm, ↓lp_exit, ↓lp_ret, ↓C_skip, ↓C_reg, ↓C_dreg, ↓C_seq, ↓C_cond, ↓C_blk, ↓C_loop, ↓C_exit, ↓C_ret, ↓sq_nrm, ↓sq_exit, ↓sq_ret, ↓outB_nrm, ↓outB_ret, ↓outB_exit, ↓fin_nrm, ↓fin_ret, ↓fin_ret0, ↓fin_nrm0, ↓fin_ret2, ↓rd_nrm, ↓rd_exit, ↓rd_ret, ↓cIf_true, ↓cIf_false, ↓VO_nil, ↓VO_go, ↓VO_if, ↓nx_some, ↓nx_none, putD_some, putD_none, ↓V_p, ↓V_r, ↓V_a, ↓V_e, ↓V_call, ↓V_inv, ↓oQ_some, ↓oP_some, ↓oA_some, ↓oC_some, gO_true, gO_false, ↓gO_true, ↓gO_false, cIf_true, cIf_false, oQ_some, oP_some, oA_some, oC_some, oV_some,  reserve0, ↓D_nil, ↓D_p, ↓D_r, ↓nd_some, ↓ndr_some, ↓oV_some, ↓ev_rst, has_cons, has_nil, P_mv, P_pick, pickV_true, pickV_false, P_bin, P_un, P_cnv, cnvV_int, P_mkif, P_mkfn, P_fadr, P_fld, P_iadr, P_idx, P_len, P_mn, P_mx, foldV_two, mn2_int, mx2_int, unA_not, unA_neg, B_add, B_sub, B_mul, B_quo, B_rem, B_eql, B_neq, B_lss, B_leq, B_gtr, B_geq, R_load, wants_ev, gV_t, gV_f, ↓evPut, ↓ev_c, ↓ev_f, ↓ev_g, isC_t, isC_c, isC_f, isC_g, ↓reduceIte, Nat.reduceEqDiff, Nat.reduceBEq, Bool.or_self, Bool.or_false, Bool.or_true, Bool.false_or, Bool.true_or, Bool.and_true, Bool.and_false, Bool.true_and, Bool.false_and, Bool.not_true, Bool.not_false, Bool.false_eq_true, ofArgs, List.map_cons, List.map_nil, List.nil_append, List.append_nil, List.cons_append, Nat.reduceAdd, calleeA, beq_self_eq_true, decide_true, decide_false]
  refine (wf46 ext11 rfl rfl rfl rfl rfl rfl w1 own n1 hl d1 d8 hL hB).mono fun r2 H2 hr => ?_
  obtain ⟨w2, o2, n2, b1, b2, rfl, g1, g2⟩ := hr
  simp -implicitDefEqProofs only [↓D_if, gD_true, gD_false, ↓D_a, ↓D_e, ↓D_call, ↓ndc_0, Hp.get_put, Hp.get_alloc, ldR_lst, List.getElem?_map, List.length_map, List.length_set, A_mksl, E_store, omap_some, omap_none, bndV_none, ↓lp_nrm, ↓lp_exit, ↓lp_ret, ↓C_skip, ↓C_reg, ↓C_dreg, ↓C_seq, ↓C_cond, ↓C_blk, ↓C_loop, ↓C_exit, ↓C_ret, ↓sq_nrm, ↓sq_exit, ↓sq_ret, ↓outB_nrm, ↓outB_ret, ↓outB_exit, ↓fin_nrm, ↓fin_ret, ↓fin_ret0, ↓fin_nrm0, ↓fin_ret2, ↓rd_nrm, ↓rd_exit, ↓rd_ret, ↓cIf_true, ↓cIf_false, ↓VO_nil, ↓VO_go, ↓VO_if, ↓nx_some, ↓nx_none, putD_some, putD_none, ↓V_p, ↓V_r, ↓V_a, ↓V_e, ↓V_call, ↓V_inv, ↓oQ_some, ↓oP_some, ↓oA_some, ↓oC_some, gO_true, gO_false, ↓gO_true, ↓gO_false, cIf_true, cIf_false, oQ_some, oP_some, oA_some, oC_some, oV_some,  reserve0, ↓D_nil, ↓D_p, ↓D_r, ↓nd_some, ↓ndr_some, ↓oV_some, ↓ev_rst, has_cons, has_nil, P_mv, P_pick, pickV_true, pickV_false, P_bin, P_un, P_cnv, cnvV_int, P_mkif, P_mkfn, P_fadr, P_fld, P_iadr, P_idx, P_len, P_mn, P_mx, foldV_two, mn2_int, mx2_int, unA_not, unA_neg, B_add, B_sub, B_mul, B_quo, B_rem, B_eql, B_neq, B_lss, B_leq, B_gtr, B_geq, R_load, wants_ev, gV_t, gV_f, ↓evPut, ↓ev_c, ↓ev_f, ↓ev_g, isC_t, isC_c, isC_f, isC_g, ↓reduceIte, Nat.reduceEqDiff, Nat.reduceBEq, Bool.or_self, Bool.or_false, Bool.or_true, Bool.false_or, Bool.true_or, Bool.and_true, Bool.and_false, Bool.true_and, Bool.false_and, Bool.not_true, Bool.not_false, Bool.false_eq_true, ofArgs, List.map_cons, List.map_nil, List.nil_append, List.append_nil, List.cons_append, Nat.reduceAdd, calleeA, beq_self_eq_true, decide_true, decide_false, A_alloc69 (E := envT ext11) rfl]
  rw [store69 (E := envT ext11) rfl (b := H2.n) (a := .slice none 0 0) (c := .slice none 0 0) (Hp.get_alloc_same _ _)]
  simp -implicitDefEqProofs only [↓D_if, gD_true, gD_false, ↓D_a, ↓D_e, ↓D_call, ↓ndc_0, Hp.get_put, Hp.get_alloc, ldR_lst, List.getElem?_map, List.length_map, List.length_set, A_mksl, E_store, omap_some, omap_none, bndV_none, ↓lp_nrm, ↓lp_exit, ↓lp_ret, ↓C_skip, ↓C_reg, ↓C_dreg, ↓C_seq, ↓C_cond, ↓C_blk, ↓C_loop, ↓C_exit, ↓C_ret, ↓sq_nrm, ↓sq_exit, ↓sq_ret, ↓outB_nrm, ↓outB_ret, ↓outB_exit, ↓fin_nrm, ↓fin_ret, ↓fin_ret0, ↓fin_nrm0, ↓fin_ret2, ↓rd_nrm, ↓rd_exit, ↓rd_ret, ↓cIf_true, ↓cIf_false, ↓VO_nil, ↓VO_go, ↓VO_if, ↓nx_some, ↓nx_none, putD_some, putD_none, ↓V_p, ↓V_r, ↓V_a, ↓V_e, ↓V_call, ↓V_inv, ↓oQ_some, ↓oP_some, ↓oA_some, ↓oC_some, gO_true, gO_false, ↓gO_true, ↓gO_false, cIf_true, cIf_false, oQ_some, oP_some, oA_some, oC_some, oV_some,  reserve0, ↓D_nil, ↓D_p, ↓D_r, ↓nd_some, ↓ndr_some, ↓oV_some, ↓ev_rst, has_cons, has_nil, P_mv, P_pick, pickV_true, pickV_false, P_bin, P_un, P_cnv, cnvV_int, P_mkif, P_mkfn, P_fadr, P_fld, P_iadr, P_idx, P_len, P_mn, P_mx, foldV_two, mn2_int, mx2_int, unA_not, unA_neg, B_add, B_sub, B_mul, B_quo, B_rem, B_eql, B_neq, B_lss, B_leq, B_gtr, B_geq, R_load, wants_ev, gV_t, gV_f, ↓evPut, ↓ev_c, ↓ev_f, ↓ev_g, isC_t, isC_c, isC_f, isC_g, ↓reduceIte, Nat.reduceEqDiff, Nat.reduceBEq, Bool.or_self, Bool.or_false, Bool.or_true, Bool.false_or, Bool.true_or, Bool.and_true, Bool.and_false, Bool.true_and, Bool.false_and, Bool.not_true, Bool.not_false, Bool.false_eq_true, ofArgs, List.map_cons, List.map_nil, List.nil_append, List.append_nil, List.cons_append, Nat.reduceAdd, calleeA, beq_self_eq_true, decide_true, decide_false, Hp.alloc_put]
  have lo1 : (loC L dim dim).length = dim := rngC_len (Nat.le_refl _)
  have st1 : (stC L dim dim).length = dim := rngC_len (Nat.le_refl _)
  have lo2 : ∀ z ∈ loC L dim dim, -1048576 ≤ z ∧ z ≤ 1048576 := rng_in fun j => by
    have := loN_le (L := L) (i := j) (B := 1048576) (by omega) hB L.length
    omega
  have st2 : ∀ z ∈ stC L dim dim, 1 ≤ z ∧ z ≤ 16777216 := rng_in fun j => by
    have := loN_le (L := L) (i := j) (B := 1048576) (by omega) hB L.length
    unfold stN
    rw [Int.tdiv_eq_ediv_of_nonneg (by omega)]; omega
  have fit : ∀ {l : List Int}, (∀ z ∈ l, -16777216 ≤ z ∧ z ≤ 16777216) → ∀ z ∈ l, IntKind.i32.wrap z = z := fun h z hz => by have := h z hz; exact wrap32_id (by omega) (by omega)
  have il : IsSl .i32 H2 (sld b1 dim) (loC L dim dim) := by
    have := IsSl.own (s := 3) (cap := dim) g1 (.inr rfl) (by omega) (fit fun z hz => by have := lo2 z hz; omega)
    rw [lo1] at this; exact this
  have is' : IsSl .i32 H2 (sld b2 dim) (stC L dim dim) := by
    have := IsSl.own (s := 3) (cap := dim) g2 (.inr rfl) (by omega) (fit fun z hz => by have := st2 z hz; omega)
    rw [st1] at this; exact this
  have ha2 : IsSl .i32 H2 va a := (ha.grow wf o1).grow w1 o2
  have hb2 : IsSl .i32 H2 vb b := (hb.grow wf o1).grow w1 o2
  have w3 : Wf (H2.alloc (.row (.lst [sld b1 dim, sld b2 dim]) 0 true)) := Wf.alloc w2 _
  have il3 := il.alloc w2 (.row (.lst [sld b1 dim, sld b2 dim]) 0 true)
  have is3 := is'.alloc w2 (.row (.lst [sld b1 dim, sld b2 dim]) 0 true)
  have ha3 := ha2.alloc w2 (.row (.lst [sld b1 dim, sld b2 dim]) 0 true)
  have hb3 := hb2.alloc w2 (.row (.lst [sld b1 dim, sld b2 dim]) 0 true)
  have g3 : (H2.alloc (.row (.lst [sld b1 dim, sld b2 dim]) 0 true)).get H2.n = some (.row (.lst [sld b1 dim, sld b2 dim]) 0 true) := Hp.get_alloc_same _ _
  have n3 : (H2.alloc (.row (.lst [sld b1 dim, sld b2 dim]) 0 true)).n = H2.n + 1 := Hp.alloc_n _ _
  generalize (H2.alloc (.row (.lst [sld b1 dim, sld b2 dim]) 0 true)) = H3 at *
  refine (wf33 ext11 rfl w3 ha3 (by omega)).mono fun r3 H4 hr => ?_
  obtain ⟨rfl, rfl⟩ := hr
  have hb4 := hb3.alloc w3 (rowL (vecL a dim))
  simp -implicitDefEqProofs only [↓D_if, gD_true, gD_false, ↓D_a, ↓D_e, ↓D_call, ↓ndc_0, Hp.get_put, Hp.get_alloc, ldR_lst, List.getElem?_map, List.length_map, List.length_set, A_mksl, E_store, omap_some, omap_none, bndV_none, ↓lp_nrm, ↓lp_exit, ↓lp_ret, ↓C_skip, ↓C_reg, ↓C_dreg, ↓C_seq, ↓C_cond, ↓C_blk, ↓C_loop, ↓C_exit, ↓C_ret, ↓sq_nrm, ↓sq_exit, ↓sq_ret, ↓outB_nrm, ↓outB_ret, ↓outB_exit, ↓fin_nrm, ↓fin_ret, ↓fin_ret0, ↓fin_nrm0, ↓fin_ret2, ↓rd_nrm, ↓rd_exit, ↓rd_ret, ↓cIf_true, ↓cIf_false, ↓VO_nil, ↓VO_go, ↓VO_if, ↓nx_some, ↓nx_none, putD_some, putD_none, ↓V_p, ↓V_r, ↓V_a, ↓V_e, ↓V_call, ↓V_inv, ↓oQ_some, ↓oP_some, ↓oA_some, ↓oC_some, gO_true, gO_false, ↓gO_true, ↓gO_false, cIf_true, cIf_false, oQ_some, oP_some, oA_some, oC_some, oV_some,  reserve0, ↓D_nil, ↓D_p, ↓D_r, ↓nd_some, ↓ndr_some, ↓oV_some, ↓ev_rst, has_cons, has_nil, P_mv, P_pick, pickV_true, pickV_false, P_bin, P_un, P_cnv, cnvV_int, P_mkif, P_mkfn, P_fadr, P_fld, P_iadr, P_idx, P_len, P_mn, P_mx, foldV_two, mn2_int, mx2_int, unA_not, unA_neg, B_add, B_sub, B_mul, B_quo, B_rem, B_eql, B_neq, B_lss, B_leq, B_gtr, B_geq, R_load, wants_ev, gV_t, gV_f, ↓evPut, ↓ev_c, ↓ev_f, ↓ev_g, isC_t, isC_c, isC_f, isC_g, ↓reduceIte, Nat.reduceEqDiff, Nat.reduceBEq, Bool.or_self, Bool.or_false, Bool.or_true, Bool.false_or, Bool.true_or, Bool.and_true, Bool.and_false, Bool.true_and, Bool.false_and, Bool.not_true, Bool.not_false, Bool.false_eq_true, ofArgs, List.map_cons, List.map_nil, List.nil_append, List.append_nil, List.cons_append, Nat.reduceAdd, calleeA, beq_self_eq_true, decide_true, decide_false]
  refine (wf33 ext11 rfl (Wf.alloc w3 _) hb4 (by omega)).mono fun r3 H4 hr => ?_
  obtain ⟨rfl, rfl⟩ := hr
  have la := vecL_len a dim
  have lb := vecL_len b dim
  have w5 : Wf ((H3.alloc (rowL (vecL a dim))).alloc (rowL (vecL b dim))) := Wf.alloc (Wf.alloc w3 _) _
  have n4 : (H3.alloc (rowL (vecL a dim))).n = H3.n + 1 := Hp.alloc_n _ _
  have old5 : ∀ q, q < H3.n → ((H3.alloc (rowL (vecL a dim))).alloc (rowL (vecL b dim))).get q = H3.get q := fun q hq => by
    rw [Hp.get_alloc, if_neg (by omega), Hp.get_alloc, if_neg (by omega)]
  have va4 := isl_row (H := H3) (vecL a dim) vecL_in
  have va5 := va4.alloc (Wf.alloc w3 _) (rowL (vecL b dim))
  have vb5 := isl_row (H := H3.alloc (rowL (vecL a dim))) (vecL b dim) vecL_in
  rw [la] at va5
  rw [lb] at vb5
  have il5 := (il3.grow w3 old5)
  have is5 := (is3.grow w3 old5)
  have g5 : ((H3.alloc (rowL (vecL a dim))).alloc (rowL (vecL b dim))).get H2.n = some (.row (.lst [sld b1 dim, sld b2 dim]) 0 true) := by rw [old5 _ (by omega)]; exact g3
  have n5 : ((H3.alloc (rowL (vecL a dim))).alloc (rowL (vecL b dim))).n = H3.n + 2 := by rw [Hp.alloc_n, n4]
  simp -implicitDefEqProofs only [↓D_if, gD_true, gD_false, ↓D_a, ↓D_e, ↓D_call, ↓ndc_0, Hp.get_put, Hp.get_alloc, ldR_lst, List.getElem?_map, List.length_map, List.length_set, A_mksl, E_store, omap_some, omap_none, bndV_none, ↓lp_nrm, ↓lp_exit, ↓lp_ret, ↓C_skip, ↓C_reg, ↓C_dreg, ↓C_seq, ↓C_cond, ↓C_blk, ↓C_loop, ↓C_exit, ↓C_ret, ↓sq_nrm, ↓sq_exit, ↓sq_ret, ↓outB_nrm, ↓outB_ret, ↓outB_exit, ↓fin_nrm, ↓fin_ret, ↓fin_ret0, ↓fin_nrm0, ↓fin_ret2, ↓rd_nrm, ↓rd_exit, ↓rd_ret, ↓cIf_true, ↓cIf_false, ↓VO_nil, ↓VO_go, ↓VO_if, ↓nx_some, ↓nx_none, putD_some, putD_none, ↓V_p, ↓V_r, ↓V_a, ↓V_e, ↓V_call, ↓V_inv, ↓oQ_some, ↓oP_some, ↓oA_some, ↓oC_some, gO_true, gO_false, ↓gO_true, ↓gO_false, cIf_true, cIf_false, oQ_some, oP_some, oA_some, oC_some, oV_some,  reserve0, ↓D_nil, ↓D_p, ↓D_r, ↓nd_some, ↓ndr_some, ↓oV_some, ↓ev_rst, has_cons, has_nil, P_mv, P_pick, pickV_true, pickV_false, P_bin, P_un, P_cnv, cnvV_int, P_mkif, P_mkfn, P_fadr, P_fld, P_iadr, P_idx, P_len, P_mn, P_mx, foldV_two, mn2_int, mx2_int, unA_not, unA_neg, B_add, B_sub, B_mul, B_quo, B_rem, B_eql, B_neq, B_lss, B_leq, B_gtr, B_geq, R_load, wants_ev, gV_t, gV_f, ↓evPut, ↓ev_c, ↓ev_f, ↓ev_g, isC_t, isC_c, isC_f, isC_g, ↓reduceIte, Nat.reduceEqDiff, Nat.reduceBEq, Bool.or_self, Bool.or_false, Bool.or_true, Bool.false_or, Bool.true_or, Bool.and_true, Bool.and_false, Bool.true_and, Bool.false_and, Bool.not_true, Bool.not_false, Bool.false_eq_true, ofArgs, List.map_cons, List.map_nil, List.nil_append, List.append_nil, List.cons_append, Nat.reduceAdd, calleeA, beq_self_eq_true, decide_true, decide_false]
  generalize ((H3.alloc (rowL (vecL a dim))).alloc (rowL (vecL b dim))) = H5 at *
  generalize (H3.alloc (rowL (vecL a dim))).n = nb at *
  have bz : ∀ {l : List Int} z, z ∈ vecL l dim → -16777216 ≤ z ∧ z ≤ 16777216 := fun z hz => by have := vecL_in z hz; omega
  unfold d11_7
  simp -implicitDefEqProofs only [↓D_if, gD_true, gD_false, ↓D_a, ↓D_e, ↓D_call, ↓ndc_0, Hp.get_put, Hp.get_alloc, ldR_lst, List.getElem?_map, List.length_map, List.length_set, A_mksl, E_store, omap_some, omap_none, bndV_none, ↓lp_nrm, ↓lp_exit, ↓lp_ret, ↓C_skip, ↓C_reg, ↓C_dreg, ↓C_seq, ↓C_cond, ↓C_blk, ↓C_loop, ↓C_exit, ↓C_ret, ↓sq_nrm, ↓sq_exit, ↓sq_ret, ↓outB_nrm, ↓outB_ret, ↓outB_exit, ↓fin_nrm, ↓fin_ret, ↓fin_ret0, ↓fin_nrm0, ↓fin_ret2, ↓rd_nrm, ↓rd_exit, ↓rd_ret, ↓cIf_true, ↓cIf_false, ↓VO_nil, ↓VO_go, ↓VO_if, ↓nx_some, ↓nx_none, putD_some, putD_none, ↓V_p, ↓V_r, ↓V_a, ↓V_e, ↓V_call, ↓V_inv, ↓oQ_some, ↓oP_some, ↓oA_some, ↓oC_some, gO_true, gO_false, ↓gO_true, ↓gO_false, cIf_true, cIf_false, oQ_some, oP_some, oA_some, oC_some, oV_some,  reserve0, ↓D_nil, ↓D_p, ↓D_r, ↓nd_some, ↓ndr_some, ↓oV_some, ↓ev_rst, has_cons, has_nil, P_mv, P_pick, pickV_true, pickV_false, P_bin, P_un, P_cnv, cnvV_int, P_mkif, P_mkfn, P_fadr, P_fld, P_iadr, P_idx, P_len, P_mn, P_mx, foldV_two, mn2_int, mx2_int, unA_not, unA_neg, B_add, B_sub, B_mul, B_quo, B_rem, B_eql, B_neq, B_lss, B_leq, B_gtr, B_geq, R_load, wants_ev, gV_t, gV_f, ↓evPut, ↓ev_c, ↓ev_f, ↓ev_g, isC_t, isC_c, isC_f, isC_g, ↓reduceIte, Nat.reduceEqDiff, Nat.reduceBEq, Bool.or_self, Bool.or_false, Bool.or_true, Bool.false_or, Bool.true_or, Bool.and_true, Bool.and_false, Bool.true_and, Bool.false_and, Bool.not_true, Bool.not_false, Bool.false_eq_true, ofArgs, List.map_cons, List.map_nil, List.nil_append, List.append_nil, List.cons_append, Nat.reduceAdd, calleeA, beq_self_eq_true, decide_true, decide_false, loadV_69 (E := envT ext11) rfl g5]
  refine (wf47 ext11 rfl rfl rfl rfl rfl rfl w5 il5 is5 va5 (by omega) (by omega) (by omega) st2 (fun z hz => by have := lo2 z hz; omega) bz).mono fun r6 H6 hr => ?_
  obtain ⟨rfl, rfl⟩ := hr
  rw [lo1]
  have w6 : Wf (((H5.alloc (.row (.lst [sld b1 dim, sld b2 dim]) 0 true)).alloc (.row (.lst [sld b1 dim, sld b2 dim]) 0 true)).alloc (rowB (codeC (vecL a dim) (loC L dim dim) (stC L dim dim) dim dim))) := Wf.alloc (Wf.alloc (Wf.alloc w5 _) _) _
  have n6' : ((H5.alloc (.row (.lst [sld b1 dim, sld b2 dim]) 0 true)).alloc (.row (.lst [sld b1 dim, sld b2 dim]) 0 true)).n = H5.n + 2 := by rw [Hp.alloc_n, Hp.alloc_n]
  have old6 : ∀ q, q < H5.n → (((H5.alloc (.row (.lst [sld b1 dim, sld b2 dim]) 0 true)).alloc (.row (.lst [sld b1 dim, sld b2 dim]) 0 true)).alloc (rowB (codeC (vecL a dim) (loC L dim dim) (stC L dim dim) dim dim))).get q = H5.get q := fun q hq => by
    rw [Hp.get_alloc, if_neg (by omega), Hp.get_alloc, if_neg (by rw [Hp.alloc_n]; omega), Hp.get_alloc, if_neg (by omega)]
  have gA : (((H5.alloc (.row (.lst [sld b1 dim, sld b2 dim]) 0 true)).alloc (.row (.lst [sld b1 dim, sld b2 dim]) 0 true)).alloc (rowB (codeC (vecL a dim) (loC L dim dim) (stC L dim dim) dim dim))).get (H5.n + 2) = some (rowB (codeC (vecL a dim) (loC L dim dim) (stC L dim dim) dim dim)) := by
    rw [Hp.get_alloc, if_pos n6'.symm]
  have n6 : (((H5.alloc (.row (.lst [sld b1 dim, sld b2 dim]) 0 true)).alloc (.row (.lst [sld b1 dim, sld b2 dim]) 0 true)).alloc (rowB (codeC (vecL a dim) (loC L dim dim) (stC L dim dim) dim dim))).n = H5.n + 3 := by rw [Hp.alloc_n, n6']
  simp -implicitDefEqProofs only [↓D_if, gD_true, gD_false, ↓D_a, ↓D_e, ↓D_call, ↓ndc_0, Hp.get_put, Hp.get_alloc, ldR_lst, List.getElem?_map, List.length_map, List.length_set, A_mksl, E_store, omap_some, omap_none, bndV_none, ↓lp_nrm, ↓lp_exit, ↓lp_ret, ↓C_skip, ↓C_reg, ↓C_dreg, ↓C_seq, ↓C_cond, ↓C_blk, ↓C_loop, ↓C_exit, ↓C_ret, ↓sq_nrm, ↓sq_exit, ↓sq_ret, ↓outB_nrm, ↓outB_ret, ↓outB_exit, ↓fin_nrm, ↓fin_ret, ↓fin_ret0, ↓fin_nrm0, ↓fin_ret2, ↓rd_nrm, ↓rd_exit, ↓rd_ret, ↓cIf_true, ↓cIf_false, ↓VO_nil, ↓VO_go, ↓VO_if, ↓nx_some, ↓nx_none, putD_some, putD_none, ↓V_p, ↓V_r, ↓V_a, ↓V_e, ↓V_call, ↓V_inv, ↓oQ_some, ↓oP_some, ↓oA_some, ↓oC_some, gO_true, gO_false, ↓gO_true, ↓gO_false, cIf_true, cIf_false, oQ_some, oP_some, oA_some, oC_some, oV_some,  reserve0, ↓D_nil, ↓D_p, ↓D_r, ↓nd_some, ↓ndr_some, ↓oV_some, ↓ev_rst, has_cons, has_nil, P_mv, P_pick, pickV_true, pickV_false, P_bin, P_un, P_cnv, cnvV_int, P_mkif, P_mkfn, P_fadr, P_fld, P_iadr, P_idx, P_len, P_mn, P_mx, foldV_two, mn2_int, mx2_int, unA_not, unA_neg, B_add, B_sub, B_mul, B_quo, B_rem, B_eql, B_neq, B_lss, B_leq, B_gtr, B_geq, R_load, wants_ev, gV_t, gV_f, ↓evPut, ↓ev_c, ↓ev_f, ↓ev_g, isC_t, isC_c, isC_f, isC_g, ↓reduceIte, Nat.reduceEqDiff, Nat.reduceBEq, Bool.or_self, Bool.or_false, Bool.or_true, Bool.false_or, Bool.true_or, Bool.and_true, Bool.and_false, Bool.true_and, Bool.false_and, Bool.not_true, Bool.not_false, Bool.false_eq_true, ofArgs, List.map_cons, List.map_nil, List.nil_append, List.append_nil, List.cons_append, Nat.reduceAdd, calleeA, beq_self_eq_true, decide_true, decide_false]
  generalize (((H5.alloc (.row (.lst [sld b1 dim, sld b2 dim]) 0 true)).alloc (.row (.lst [sld b1 dim, sld b2 dim]) 0 true)).alloc (rowB (codeC (vecL a dim) (loC L dim dim) (stC L dim dim) dim dim))) = H6 at *
  have g6 : H6.get H2.n = some (.row (.lst [sld b1 dim, sld b2 dim]) 0 true) := by rw [old6 _ (by omega)]; exact g5
  have il6 := il5.grow w5 old6
  have is6 := is5.grow w5 old6
  have vb6 := vb5.grow w5 old6
  simp -implicitDefEqProofs only [↓D_if, gD_true, gD_false, ↓D_a, ↓D_e, ↓D_call, ↓ndc_0, Hp.get_put, Hp.get_alloc, ldR_lst, List.getElem?_map, List.length_map, List.length_set, A_mksl, E_store, omap_some, omap_none, bndV_none, ↓lp_nrm, ↓lp_exit, ↓lp_ret, ↓C_skip, ↓C_reg, ↓C_dreg, ↓C_seq, ↓C_cond, ↓C_blk, ↓C_loop, ↓C_exit, ↓C_ret, ↓sq_nrm, ↓sq_exit, ↓sq_ret, ↓outB_nrm, ↓outB_ret, ↓outB_exit, ↓fin_nrm, ↓fin_ret, ↓fin_ret0, ↓fin_nrm0, ↓fin_ret2, ↓rd_nrm, ↓rd_exit, ↓rd_ret, ↓cIf_true, ↓cIf_false, ↓VO_nil, ↓VO_go, ↓VO_if, ↓nx_some, ↓nx_none, putD_some, putD_none, ↓V_p, ↓V_r, ↓V_a, ↓V_e, ↓V_call, ↓V_inv, ↓oQ_some, ↓oP_some, ↓oA_some, ↓oC_some, gO_true, gO_false, ↓gO_true, ↓gO_false, cIf_true, cIf_false, oQ_some, oP_some, oA_some, oC_some, oV_some,  reserve0, ↓D_nil, ↓D_p, ↓D_r, ↓nd_some, ↓ndr_some, ↓oV_some, ↓ev_rst, has_cons, has_nil, P_mv, P_pick, pickV_true, pickV_false, P_bin, P_un, P_cnv, cnvV_int, P_mkif, P_mkfn, P_fadr, P_fld, P_iadr, P_idx, P_len, P_mn, P_mx, foldV_two, mn2_int, mx2_int, unA_not, unA_neg, B_add, B_sub, B_mul, B_quo, B_rem, B_eql, B_neq, B_lss, B_leq, B_gtr, B_geq, R_load, wants_ev, gV_t, gV_f, ↓evPut, ↓ev_c, ↓ev_f, ↓ev_g, isC_t, isC_c, isC_f, isC_g, ↓reduceIte, Nat.reduceEqDiff, Nat.reduceBEq, Bool.or_self, Bool.or_false, Bool.or_true, Bool.false_or, Bool.true_or, Bool.and_true, Bool.and_false, Bool.true_and, Bool.false_and, Bool.not_true, Bool.not_false, Bool.false_eq_true, ofArgs, List.map_cons, List.map_nil, List.nil_append, List.append_nil, List.cons_append, Nat.reduceAdd, calleeA, beq_self_eq_true, decide_true, decide_false, loadV_69 (E := envT ext11) rfl g6]
  refine Eq.mpr (ndr_back _ _ _ _ _ _ _ _ _ _ _ ?_) ?_
  · unfold alike
    simp only [R_load, ev_rst, has_cons, has_nil, beq_self_eq_true, Bool.true_or, ↓evPut, ↓ev_c, ↓reduceIte, Nat.reduceEqDiff, loadV_69 (E := envT ext11) rfl g5]
    simp [beqV, beq1, beqL]
  simp -implicitDefEqProofs only [↓D_if, gD_true, gD_false, ↓D_a, ↓D_e, ↓D_call, ↓ndc_0, Hp.get_put, Hp.get_alloc, ldR_lst, List.getElem?_map, List.length_map, List.length_set, A_mksl, E_store, omap_some, omap_none, bndV_none, ↓lp_nrm, ↓lp_exit, ↓lp_ret, ↓C_skip, ↓C_reg, ↓C_dreg, ↓C_seq, ↓C_cond, ↓C_blk, ↓C_loop, ↓C_exit, ↓C_ret, ↓sq_nrm, ↓sq_exit, ↓sq_ret, ↓outB_nrm, ↓outB_ret, ↓outB_exit, ↓fin_nrm, ↓fin_ret, ↓fin_ret0, ↓fin_nrm0, ↓fin_ret2, ↓rd_nrm, ↓rd_exit, ↓rd_ret, ↓cIf_true, ↓cIf_false, ↓VO_nil, ↓VO_go, ↓VO_if, ↓nx_some, ↓nx_none, putD_some, putD_none, ↓V_p, ↓V_r, ↓V_a, ↓V_e, ↓V_call, ↓V_inv, ↓oQ_some, ↓oP_some, ↓oA_some, ↓oC_some, gO_true, gO_false, ↓gO_true, ↓gO_false, cIf_true, cIf_false, oQ_some, oP_some, oA_some, oC_some, oV_some,  reserve0, ↓D_nil, ↓D_p, ↓D_r, ↓nd_some, ↓ndr_some, ↓oV_some, ↓ev_rst, has_cons, has_nil, P_mv, P_pick, pickV_true, pickV_false, P_bin, P_un, P_cnv, cnvV_int, P_mkif, P_mkfn, P_fadr, P_fld, P_iadr, P_idx, P_len, P_mn, P_mx, foldV_two, mn2_int, mx2_int, unA_not, unA_neg, B_add, B_sub, B_mul, B_quo, B_rem, B_eql, B_neq, B_lss, B_leq, B_gtr, B_geq, R_load, wants_ev, gV_t, gV_f, ↓evPut, ↓ev_c, ↓ev_f, ↓ev_g, isC_t, isC_c, isC_f, isC_g, ↓reduceIte, Nat.reduceEqDiff, Nat.reduceBEq, Bool.or_self, Bool.or_false, Bool.or_true, Bool.false_or, Bool.true_or, Bool.and_true, Bool.and_false, Bool.true_and, Bool.false_and, Bool.not_true, Bool.not_false, Bool.false_eq_true, ofArgs, List.map_cons, List.map_nil, List.nil_append, List.append_nil, List.cons_append, Nat.reduceAdd, calleeA, beq_self_eq_true, decide_true, decide_false]
  refine (wf47 ext11 rfl rfl rfl rfl rfl rfl w6 il6 is6 vb6 (by omega) (by omega) (by omega) st2 (fun z hz => by have := lo2 z hz; omega) bz).mono fun r7 H7 hr => ?_
  obtain ⟨rfl, rfl⟩ := hr
  rw [lo1]
  have n7' : ((H6.alloc (.row (.lst [sld b1 dim, sld b2 dim]) 0 true)).alloc (.row (.lst [sld b1 dim, sld b2 dim]) 0 true)).n = H6.n + 2 := by rw [Hp.alloc_n, Hp.alloc_n]
  have old7 : ∀ q, q < H6.n → (((H6.alloc (.row (.lst [sld b1 dim, sld b2 dim]) 0 true)).alloc (.row (.lst [sld b1 dim, sld b2 dim]) 0 true)).alloc (rowB (codeC (vecL b dim) (loC L dim dim) (stC L dim dim) dim dim))).get q = H6.get q := fun q hq => by
    rw [Hp.get_alloc, if_neg (by omega), Hp.get_alloc, if_neg (by rw [Hp.alloc_n]; omega), Hp.get_alloc, if_neg (by omega)]
  have gB : (((H6.alloc (.row (.lst [sld b1 dim, sld b2 dim]) 0 true)).alloc (.row (.lst [sld b1 dim, sld b2 dim]) 0 true)).alloc (rowB (codeC (vecL b dim) (loC L dim dim) (stC L dim dim) dim dim))).get (H6.n + 2) = some (rowB (codeC (vecL b dim) (loC L dim dim) (stC L dim dim) dim dim)) := by
    rw [Hp.get_alloc, if_pos n7'.symm]
  simp -implicitDefEqProofs only [↓D_if, gD_true, gD_false, ↓D_a, ↓D_e, ↓D_call, ↓ndc_0, Hp.get_put, Hp.get_alloc, ldR_lst, List.getElem?_map, List.length_map, List.length_set, A_mksl, E_store, omap_some, omap_none, bndV_none, ↓lp_nrm, ↓lp_exit, ↓lp_ret, ↓C_skip, ↓C_reg, ↓C_dreg, ↓C_seq, ↓C_cond, ↓C_blk, ↓C_loop, ↓C_exit, ↓C_ret, ↓sq_nrm, ↓sq_exit, ↓sq_ret, ↓outB_nrm, ↓outB_ret, ↓outB_exit, ↓fin_nrm, ↓fin_ret, ↓fin_ret0, ↓fin_nrm0, ↓fin_ret2, ↓rd_nrm, ↓rd_exit, ↓rd_ret, ↓cIf_true, ↓cIf_false, ↓VO_nil, ↓VO_go, ↓VO_if, ↓nx_some, ↓nx_none, putD_some, putD_none, ↓V_p, ↓V_r, ↓V_a, ↓V_e, ↓V_call, ↓V_inv, ↓oQ_some, ↓oP_some, ↓oA_some, ↓oC_some, gO_true, gO_false, ↓gO_true, ↓gO_false, cIf_true, cIf_false, oQ_some, oP_some, oA_some, oC_some, oV_some,  reserve0, ↓D_nil, ↓D_p, ↓D_r, ↓nd_some, ↓ndr_some, ↓oV_some, ↓ev_rst, has_cons, has_nil, P_mv, P_pick, pickV_true, pickV_false, P_bin, P_un, P_cnv, cnvV_int, P_mkif, P_mkfn, P_fadr, P_fld, P_iadr, P_idx, P_len, P_mn, P_mx, foldV_two, mn2_int, mx2_int, unA_not, unA_neg, B_add, B_sub, B_mul, B_quo, B_rem, B_eql, B_neq, B_lss, B_leq, B_gtr, B_geq, R_load, wants_ev, gV_t, gV_f, ↓evPut, ↓ev_c, ↓ev_f, ↓ev_g, isC_t, isC_c, isC_f, isC_g, ↓reduceIte, Nat.reduceEqDiff, Nat.reduceBEq, Bool.or_self, Bool.or_false, Bool.or_true, Bool.false_or, Bool.true_or, Bool.and_true, Bool.and_false, Bool.true_and, Bool.false_and, Bool.not_true, Bool.not_false, Bool.false_eq_true, ofArgs, List.map_cons, List.map_nil, List.nil_append, List.append_nil, List.cons_append, Nat.reduceAdd, calleeA, beq_self_eq_true, decide_true, decide_false]
  generalize (((H6.alloc (.row (.lst [sld b1 dim, sld b2 dim]) 0 true)).alloc (.row (.lst [sld b1 dim, sld b2 dim]) 0 true)).alloc (rowB (codeC (vecL b dim) (loC L dim dim) (stC L dim dim) dim dim))) = H7 at *
  have gA7 : H7.get (H5.n + 2) = some (rowB (codeC (vecL a dim) (loC L dim dim) (stC L dim dim) dim dim)) := by rw [old7 _ (by omega)]; exact gA
  have va7 := (va5.grow w5 old6).grow w6 old7
  have vb7 := vb6.grow w6 old7
  have t53 : (envT ext11).ty 53 = _ := ty53
  have t38 : (envT ext11).ty 38 = _ := ty38
  have t21 : (envT ext11).ty 21 = _ := ty21
  have t5' : (envT ext11).ty 5 = _ := ty5
  simp -implicitDefEqProofs only [↓D_if, gD_true, gD_false, ↓D_a, ↓D_e, ↓D_call, ↓ndc_0, Hp.get_put, Hp.get_alloc, ldR_lst, List.getElem?_map, List.length_map, List.length_set, A_mksl, E_store, omap_some, omap_none, bndV_none, ↓lp_nrm, ↓lp_exit, ↓lp_ret, ↓C_skip, ↓C_reg, ↓C_dreg, ↓C_seq, ↓C_cond, ↓C_blk, ↓C_loop, ↓C_exit, ↓C_ret, ↓sq_nrm, ↓sq_exit, ↓sq_ret, ↓outB_nrm, ↓outB_ret, ↓outB_exit, ↓fin_nrm, ↓fin_ret, ↓fin_ret0, ↓fin_nrm0, ↓fin_ret2, ↓rd_nrm, ↓rd_exit, ↓rd_ret, ↓cIf_true, ↓cIf_false, ↓VO_nil, ↓VO_go, ↓VO_if, ↓nx_some, ↓nx_none, putD_some, putD_none, ↓V_p, ↓V_r, ↓V_a, ↓V_e, ↓V_call, ↓V_inv, ↓oQ_some, ↓oP_some, ↓oA_some, ↓oC_some, gO_true, gO_false, ↓gO_true, ↓gO_false, cIf_true, cIf_false, oQ_some, oP_some, oA_some, oC_some, oV_some,  reserve0, ↓D_nil, ↓D_p, ↓D_r, ↓nd_some, ↓ndr_some, ↓oV_some, ↓ev_rst, has_cons, has_nil, P_mv, P_pick, pickV_true, pickV_false, P_bin, P_un, P_cnv, cnvV_int, P_mkif, P_mkfn, P_fadr, P_fld, P_iadr, P_idx, P_len, P_mn, P_mx, foldV_two, mn2_int, mx2_int, unA_not, unA_neg, B_add, B_sub, B_mul, B_quo, B_rem, B_eql, B_neq, B_lss, B_leq, B_gtr, B_geq, R_load, wants_ev, gV_t, gV_f, ↓evPut, ↓ev_c, ↓ev_f, ↓ev_g, isC_t, isC_c, isC_f, isC_g, ↓reduceIte, Nat.reduceEqDiff, Nat.reduceBEq, Bool.or_self, Bool.or_false, Bool.or_true, Bool.false_or, Bool.true_or, Bool.and_true, Bool.and_false, Bool.true_and, Bool.false_and, Bool.not_true, Bool.not_false, Bool.false_eq_true, ofArgs, List.map_cons, List.map_nil, List.nil_append, List.append_nil, List.cons_append, Nat.reduceAdd, calleeA, beq_self_eq_true, decide_true, decide_false, lenV_own t53]
  refine VC.loop (I11 H7 (sld H3.n dim) (sld nb dim) (sld (H5.n + 2) dim) (sld (H6.n + 2) dim) dim) (fun d t H' h => ?_) (d := dim) ⟨rfl, 0, by omega, by simp only [↓evPut, ↓ev_c, ↓reduceIte, Nat.reduceEqDiff], by simp only [↓evPut, ↓ev_c, ↓reduceIte, Nat.reduceEqDiff], by simp only [↓evPut, ↓ev_c, ↓reduceIte, Nat.reduceEqDiff], by simp only [↓evPut, ↓ev_c, ↓reduceIte, Nat.reduceEqDiff], by simp only [↓evPut, ↓ev_c, ↓reduceIte, Nat.reduceEqDiff], by simp only [↓evPut, ↓ev_c, ↓reduceIte, Nat.reduceEqDiff]; rfl⟩
  obtain ⟨rfl, i, hi, e2, e3, e11, e12, e47, e48⟩ := h
  unfold l11_16
  simp -implicitDefEqProofs only [↓D_if, gD_true, gD_false, ↓D_a, ↓D_e, ↓D_call, ↓ndc_0, Hp.get_put, Hp.get_alloc, ldR_lst, List.getElem?_map, List.length_map, List.length_set, A_mksl, E_store, omap_some, omap_none, bndV_none, ↓lp_nrm, ↓lp_exit, ↓lp_ret, ↓C_skip, ↓C_reg, ↓C_dreg, ↓C_seq, ↓C_cond, ↓C_blk, ↓C_loop, ↓C_exit, ↓C_ret, ↓sq_nrm, ↓sq_exit, ↓sq_ret, ↓outB_nrm, ↓outB_ret, ↓outB_exit, ↓fin_nrm, ↓fin_ret, ↓fin_ret0, ↓fin_nrm0, ↓fin_ret2, ↓rd_nrm, ↓rd_exit, ↓rd_ret, ↓cIf_true, ↓cIf_false, ↓VO_nil, ↓VO_go, ↓VO_if, ↓nx_some, ↓nx_none, putD_some, putD_none, ↓V_p, ↓V_r, ↓V_a, ↓V_e, ↓V_call, ↓V_inv, ↓oQ_some, ↓oP_some, ↓oA_some, ↓oC_some, gO_true, gO_false, ↓gO_true, ↓gO_false, cIf_true, cIf_false, oQ_some, oP_some, oA_some, oC_some, oV_some,  reserve0, ↓D_nil, ↓D_p, ↓D_r, ↓nd_some, ↓ndr_some, ↓oV_some, ↓ev_rst, has_cons, has_nil, P_mv, P_pick, pickV_true, pickV_false, P_bin, P_un, P_cnv, cnvV_int, P_mkif, P_mkfn, P_fadr, P_fld, P_iadr, P_idx, P_len, P_mn, P_mx, foldV_two, mn2_int, mx2_int, unA_not, unA_neg, B_add, B_sub, B_mul, B_quo, B_rem, B_eql, B_neq, B_lss, B_leq, B_gtr, B_geq, R_load, wants_ev, gV_t, gV_f, ↓evPut, ↓ev_c, ↓ev_f, ↓ev_g, isC_t, isC_c, isC_f, isC_g, ↓reduceIte, Nat.reduceEqDiff, Nat.reduceBEq, Bool.or_self, Bool.or_false, Bool.or_true, Bool.false_or, Bool.true_or, Bool.and_true, Bool.and_false, Bool.true_and, Bool.false_and, Bool.not_true, Bool.not_false, Bool.false_eq_true, ofArgs, List.map_cons, List.map_nil, List.nil_append, List.append_nil, List.cons_append, Nat.reduceAdd, calleeA, beq_self_eq_true, decide_true, decide_false, e47, e48]
  by_cases h : i < dim
  · rw [cIf_yes (by omega)]
    have wi := wrapSucc (i := i) (by omega)
    have i0 : (0 : Int) ≤ i := Int.natCast_nonneg i
    have id : (i : Int) < (dim : Nat) := by omega
    have xa : loadV (envT ext11) H' 5 (elA (sld (H5.n + 2) dim) i) = some (.int .u8 (codeZ ((vecL a dim).getD i 0) ((loC L dim dim).getD i 0) ((stC L dim dim).getD i 0))) := by
      rw [loadV_own rfl t5', gA7]
      simp [rowB, ldR_lst, codeC, h]
    have xb : loadV (envT ext11) H' 5 (elA (sld (H6.n + 2) dim) i) = some (.int .u8 (codeZ ((vecL b dim).getD i 0) ((loC L dim dim).getD i 0) ((stC L dim dim).getD i 0))) := by
      rw [loadV_own rfl t5', gB]
      simp [rowB, ldR_lst, codeC, h]
    have ya := load_sl t21 va7 (show i < (vecL a dim).length by omega)
    have yb := load_sl t21 vb7 (show i < (vecL b dim).length by omega)
    have s1 : 1 ≤ (stC L dim dim).getD i 0 := by
      have hh : i < (stC L dim dim).length := by omega
      have e : (stC L dim dim).getD i 0 = (stC L dim dim)[i] := by simp [List.getD, hh]
      rw [e]; exact (st2 _ (List.getElem_mem hh)).1
    generalize (vecL a dim).getD i 0 = A at *
    generalize (vecL b dim).getD i 0 = B at *
    generalize (loC L dim dim).getD i 0 = lo at *
    generalize (stC L dim dim).getD i 0 = st at *
    have m1 : A ≤ B → ¬ (codeZ B lo st < codeZ A lo st) := fun h => by have := codeZ_mono (l := lo) s1 h; omega
    have m2 : B ≤ A → ¬ (codeZ A lo st < codeZ B lo st) := fun h => by have := codeZ_mono (l := lo) s1 h; omega
    simp -implicitDefEqProofs only [↓D_if, gD_true, gD_false, ↓D_a, ↓D_e, ↓D_call, ↓ndc_0, Hp.get_put, Hp.get_alloc, ldR_lst, List.getElem?_map, List.length_map, List.length_set, A_mksl, E_store, omap_some, omap_none, bndV_none, ↓lp_nrm, ↓lp_exit, ↓lp_ret, ↓C_skip, ↓C_reg, ↓C_dreg, ↓C_seq, ↓C_cond, ↓C_blk, ↓C_loop, ↓C_exit, ↓C_ret, ↓sq_nrm, ↓sq_exit, ↓sq_ret, ↓outB_nrm, ↓outB_ret, ↓outB_exit, ↓fin_nrm, ↓fin_ret, ↓fin_ret0, ↓fin_nrm0, ↓fin_ret2, ↓rd_nrm, ↓rd_exit, ↓rd_ret, ↓cIf_true, ↓cIf_false, ↓VO_nil, ↓VO_go, ↓VO_if, ↓nx_some, ↓nx_none, putD_some, putD_none, ↓V_p, ↓V_r, ↓V_a, ↓V_e, ↓V_call, ↓V_inv, ↓oQ_some, ↓oP_some, ↓oA_some, ↓oC_some, gO_true, gO_false, ↓gO_true, ↓gO_false, cIf_true, cIf_false, oQ_some, oP_some, oA_some, oC_some, oV_some,  reserve0, ↓D_nil, ↓D_p, ↓D_r, ↓nd_some, ↓ndr_some, ↓oV_some, ↓ev_rst, has_cons, has_nil, P_mv, P_pick, pickV_true, pickV_false, P_bin, P_un, P_cnv, cnvV_int, P_mkif, P_mkfn, P_fadr, P_fld, P_iadr, P_idx, P_len, P_mn, P_mx, foldV_two, mn2_int, mx2_int, unA_not, unA_neg, B_add, B_sub, B_mul, B_quo, B_rem, B_eql, B_neq, B_lss, B_leq, B_gtr, B_geq, R_load, wants_ev, gV_t, gV_f, ↓evPut, ↓ev_c, ↓ev_f, ↓ev_g, isC_t, isC_c, isC_f, isC_g, ↓reduceIte, Nat.reduceEqDiff, Nat.reduceBEq, Bool.or_self, Bool.or_false, Bool.or_true, Bool.false_or, Bool.true_or, Bool.and_true, Bool.and_false, Bool.true_and, Bool.false_and, Bool.not_true, Bool.not_false, Bool.false_eq_true, ofArgs, List.map_cons, List.map_nil, List.nil_append, List.append_nil, List.cons_append, Nat.reduceAdd, calleeA, beq_self_eq_true, decide_true, decide_false]
    unfold d11_13
    by_cases c1 : A ≤ B
    · have k1 := m1 c1
      by_cases c2 : B ≤ A
      · have k2 := m2 c2
        simp -implicitDefEqProofs only [↓D_if, gD_true, gD_false, ↓D_a, ↓D_e, ↓D_call, ↓ndc_0, Hp.get_put, Hp.get_alloc, ldR_lst, List.getElem?_map, List.length_map, List.length_set, A_mksl, E_store, omap_some, omap_none, bndV_none, ↓lp_nrm, ↓lp_exit, ↓lp_ret, ↓C_skip, ↓C_reg, ↓C_dreg, ↓C_seq, ↓C_cond, ↓C_blk, ↓C_loop, ↓C_exit, ↓C_ret, ↓sq_nrm, ↓sq_exit, ↓sq_ret, ↓outB_nrm, ↓outB_ret, ↓outB_exit, ↓fin_nrm, ↓fin_ret, ↓fin_ret0, ↓fin_nrm0, ↓fin_ret2, ↓rd_nrm, ↓rd_exit, ↓rd_ret, ↓cIf_true, ↓cIf_false, ↓VO_nil, ↓VO_go, ↓VO_if, ↓nx_some, ↓nx_none, putD_some, putD_none, ↓V_p, ↓V_r, ↓V_a, ↓V_e, ↓V_call, ↓V_inv, ↓oQ_some, ↓oP_some, ↓oA_some, ↓oC_some, gO_true, gO_false, ↓gO_true, ↓gO_false, cIf_true, cIf_false, oQ_some, oP_some, oA_some, oC_some, oV_some,  reserve0, ↓D_nil, ↓D_p, ↓D_r, ↓nd_some, ↓ndr_some, ↓oV_some, ↓ev_rst, has_cons, has_nil, P_mv, P_pick, pickV_true, pickV_false, P_bin, P_un, P_cnv, cnvV_int, P_mkif, P_mkfn, P_fadr, P_fld, P_iadr, P_idx, P_len, P_mn, P_mx, foldV_two, mn2_int, mx2_int, unA_not, unA_neg, B_add, B_sub, B_mul, B_quo, B_rem, B_eql, B_neq, B_lss, B_leq, B_gtr, B_geq, R_load, wants_ev, gV_t, gV_f, ↓evPut, ↓ev_c, ↓ev_f, ↓ev_g, isC_t, isC_c, isC_f, isC_g, ↓reduceIte, Nat.reduceEqDiff, Nat.reduceBEq, Bool.or_self, Bool.or_false, Bool.or_true, Bool.false_or, Bool.true_or, Bool.and_true, Bool.and_false, Bool.true_and, Bool.false_and, Bool.not_true, Bool.not_false, Bool.false_eq_true, ofArgs, List.map_cons, List.map_nil, List.nil_append, List.append_nil, List.cons_append, Nat.reduceAdd, calleeA, beq_self_eq_true, decide_true, decide_false, e2, e3, e11, e12, e47, e48, iadr_own t38 t21 _ _ _ _ _ i0 id, iadr_own t53 t5' _ _ _ _ _ i0 id, Int.toNat_natCast, xa, xb, ya, yb, c1, c2, k1, k2, wi]
        exact ⟨d - 1, by omega, rfl, i + 1, by omega, by simp only [↓evPut, ↓ev_c, ↓reduceIte, Nat.reduceEqDiff]; exact e2, by simp only [↓evPut, ↓ev_c, ↓reduceIte, Nat.reduceEqDiff]; exact e3, by simp only [↓evPut, ↓ev_c, ↓reduceIte, Nat.reduceEqDiff]; exact e11, by simp only [↓evPut, ↓ev_c, ↓reduceIte, Nat.reduceEqDiff]; exact e12, by simp only [↓evPut, ↓ev_c, ↓reduceIte, Nat.reduceEqDiff]; exact e47, by simp only [↓evPut, ↓ev_c, ↓reduceIte, Nat.reduceEqDiff]⟩
      · simp -implicitDefEqProofs only [↓D_if, gD_true, gD_false, ↓D_a, ↓D_e, ↓D_call, ↓ndc_0, Hp.get_put, Hp.get_alloc, ldR_lst, List.getElem?_map, List.length_map, List.length_set, A_mksl, E_store, omap_some, omap_none, bndV_none, ↓lp_nrm, ↓lp_exit, ↓lp_ret, ↓C_skip, ↓C_reg, ↓C_dreg, ↓C_seq, ↓C_cond, ↓C_blk, ↓C_loop, ↓C_exit, ↓C_ret, ↓sq_nrm, ↓sq_exit, ↓sq_ret, ↓outB_nrm, ↓outB_ret, ↓outB_exit, ↓fin_nrm, ↓fin_ret, ↓fin_ret0, ↓fin_nrm0, ↓fin_ret2, ↓rd_nrm, ↓rd_exit, ↓rd_ret, ↓cIf_true, ↓cIf_false, ↓VO_nil, ↓VO_go, ↓VO_if, ↓nx_some, ↓nx_none, putD_some, putD_none, ↓V_p, ↓V_r, ↓V_a, ↓V_e, ↓V_call, ↓V_inv, ↓oQ_some, ↓oP_some, ↓oA_some, ↓oC_some, gO_true, gO_false, ↓gO_true, ↓gO_false, cIf_true, cIf_false, oQ_some, oP_some, oA_some, oC_some, oV_some,  reserve0, ↓D_nil, ↓D_p, ↓D_r, ↓nd_some, ↓ndr_some, ↓oV_some, ↓ev_rst, has_cons, has_nil, P_mv, P_pick, pickV_true, pickV_false, P_bin, P_un, P_cnv, cnvV_int, P_mkif, P_mkfn, P_fadr, P_fld, P_iadr, P_idx, P_len, P_mn, P_mx, foldV_two, mn2_int, mx2_int, unA_not, unA_neg, B_add, B_sub, B_mul, B_quo, B_rem, B_eql, B_neq, B_lss, B_leq, B_gtr, B_geq, R_load, wants_ev, gV_t, gV_f, ↓evPut, ↓ev_c, ↓ev_f, ↓ev_g, isC_t, isC_c, isC_f, isC_g, ↓reduceIte, Nat.reduceEqDiff, Nat.reduceBEq, Bool.or_self, Bool.or_false, Bool.or_true, Bool.false_or, Bool.true_or, Bool.and_true, Bool.and_false, Bool.true_and, Bool.false_and, Bool.not_true, Bool.not_false, Bool.false_eq_true, ofArgs, List.map_cons, List.map_nil, List.nil_append, List.append_nil, List.cons_append, Nat.reduceAdd, calleeA, beq_self_eq_true, decide_true, decide_false, e2, e3, e11, e12, e47, e48, iadr_own t38 t21 _ _ _ _ _ i0 id, iadr_own t53 t5' _ _ _ _ _ i0 id, Int.toNat_natCast, xa, xb, ya, yb, c1, c2, k1, wi]
        exact ⟨d - 1, by omega, rfl, i + 1, by omega, by simp only [↓evPut, ↓ev_c, ↓reduceIte, Nat.reduceEqDiff]; exact e2, by simp only [↓evPut, ↓ev_c, ↓reduceIte, Nat.reduceEqDiff]; exact e3, by simp only [↓evPut, ↓ev_c, ↓reduceIte, Nat.reduceEqDiff]; exact e11, by simp only [↓evPut, ↓ev_c, ↓reduceIte, Nat.reduceEqDiff]; exact e12, by simp only [↓evPut, ↓ev_c, ↓reduceIte, Nat.reduceEqDiff]; exact e47, by simp only [↓evPut, ↓ev_c, ↓reduceIte, Nat.reduceEqDiff]⟩
    · have c2 : B ≤ A := by omega
      have k2 := m2 c2
      simp -implicitDefEqProofs only [↓D_if, gD_true, gD_false, ↓D_a, ↓D_e, ↓D_call, ↓ndc_0, Hp.get_put, Hp.get_alloc, ldR_lst, List.getElem?_map, List.length_map, List.length_set, A_mksl, E_store, omap_some, omap_none, bndV_none, ↓lp_nrm, ↓lp_exit, ↓lp_ret, ↓C_skip, ↓C_reg, ↓C_dreg, ↓C_seq, ↓C_cond, ↓C_blk, ↓C_loop, ↓C_exit, ↓C_ret, ↓sq_nrm, ↓sq_exit, ↓sq_ret, ↓outB_nrm, ↓outB_ret, ↓outB_exit, ↓fin_nrm, ↓fin_ret, ↓fin_ret0, ↓fin_nrm0, ↓fin_ret2, ↓rd_nrm, ↓rd_exit, ↓rd_ret, ↓cIf_true, ↓cIf_false, ↓VO_nil, ↓VO_go, ↓VO_if, ↓nx_some, ↓nx_none, putD_some, putD_none, ↓V_p, ↓V_r, ↓V_a, ↓V_e, ↓V_call, ↓V_inv, ↓oQ_some, ↓oP_some, ↓oA_some, ↓oC_some, gO_true, gO_false, ↓gO_true, ↓gO_false, cIf_true, cIf_false, oQ_some, oP_some, oA_some, oC_some, oV_some,  reserve0, ↓D_nil, ↓D_p, ↓D_r, ↓nd_some, ↓ndr_some, ↓oV_some, ↓ev_rst, has_cons, has_nil, P_mv, P_pick, pickV_true, pickV_false, P_bin, P_un, P_cnv, cnvV_int, P_mkif, P_mkfn, P_fadr, P_fld, P_iadr, P_idx, P_len, P_mn, P_mx, foldV_two, mn2_int, mx2_int, unA_not, unA_neg, B_add, B_sub, B_mul, B_quo, B_rem, B_eql, B_neq, B_lss, B_leq, B_gtr, B_geq, R_load, wants_ev, gV_t, gV_f, ↓evPut, ↓ev_c, ↓ev_f, ↓ev_g, isC_t, isC_c, isC_f, isC_g, ↓reduceIte, Nat.reduceEqDiff, Nat.reduceBEq, Bool.or_self, Bool.or_false, Bool.or_true, Bool.false_or, Bool.true_or, Bool.and_true, Bool.and_false, Bool.true_and, Bool.false_and, Bool.not_true, Bool.not_false, Bool.false_eq_true, ofArgs, List.map_cons, List.map_nil, List.nil_append, List.append_nil, List.cons_append, Nat.reduceAdd, calleeA, beq_self_eq_true, decide_true, decide_false, e2, e3, e11, e12, e47, e48, iadr_own t38 t21 _ _ _ _ _ i0 id, iadr_own t53 t5' _ _ _ _ _ i0 id, Int.toNat_natCast, xa, xb, ya, yb, c1, c2, k2, wi]
      exact ⟨d - 1, by omega, rfl, i + 1, by omega, by simp only [↓evPut, ↓ev_c, ↓reduceIte, Nat.reduceEqDiff]; exact e2, by simp only [↓evPut, ↓ev_c, ↓reduceIte, Nat.reduceEqDiff]; exact e3, by simp only [↓evPut, ↓ev_c, ↓reduceIte, Nat.reduceEqDiff]; exact e11, by simp only [↓evPut, ↓ev_c, ↓reduceIte, Nat.reduceEqDiff]; exact e12, by simp only [↓evPut, ↓ev_c, ↓reduceIte, Nat.reduceEqDiff]; exact e47, by simp only [↓evPut, ↓ev_c, ↓reduceIte, Nat.reduceEqDiff]⟩
  · rw [cIf_no (by omega)]
    simp -implicitDefEqProofs only [↓D_if, gD_true, gD_false, ↓D_a, ↓D_e, ↓D_call, ↓ndc_0, Hp.get_put, Hp.get_alloc, ldR_lst, List.getElem?_map, List.length_map, List.length_set, A_mksl, E_store, omap_some, omap_none, bndV_none, ↓lp_nrm, ↓lp_exit, ↓lp_ret, ↓C_skip, ↓C_reg, ↓C_dreg, ↓C_seq, ↓C_cond, ↓C_blk, ↓C_loop, ↓C_exit, ↓C_ret, ↓sq_nrm, ↓sq_exit, ↓sq_ret, ↓outB_nrm, ↓outB_ret, ↓outB_exit, ↓fin_nrm, ↓fin_ret, ↓fin_ret0, ↓fin_nrm0, ↓fin_ret2, ↓rd_nrm, ↓rd_exit, ↓rd_ret, ↓cIf_true, ↓cIf_false, ↓VO_nil, ↓VO_go, ↓VO_if, ↓nx_some, ↓nx_none, putD_some, putD_none, ↓V_p, ↓V_r, ↓V_a, ↓V_e, ↓V_call, ↓V_inv, ↓oQ_some, ↓oP_some, ↓oA_some, ↓oC_some, gO_true, gO_false, ↓gO_true, ↓gO_false, cIf_true, cIf_false, oQ_some, oP_some, oA_some, oC_some, oV_some,  reserve0, ↓D_nil, ↓D_p, ↓D_r, ↓nd_some, ↓ndr_some, ↓oV_some, ↓ev_rst, has_cons, has_nil, P_mv, P_pick, pickV_true, pickV_false, P_bin, P_un, P_cnv, cnvV_int, P_mkif, P_mkfn, P_fadr, P_fld, P_iadr, P_idx, P_len, P_mn, P_mx, foldV_two, mn2_int, mx2_int, unA_not, unA_neg, B_add, B_sub, B_mul, B_quo, B_rem, B_eql, B_neq, B_lss, B_leq, B_gtr, B_geq, R_load, wants_ev, gV_t, gV_f, ↓evPut, ↓ev_c, ↓ev_f, ↓ev_g, isC_t, isC_c, isC_f, isC_g, ↓reduceIte, Nat.reduceEqDiff, Nat.reduceBEq, Bool.or_self, Bool.or_false, Bool.or_true, Bool.false_or, Bool.true_or, Bool.and_true, Bool.and_false, Bool.true_and, Bool.false_and, Bool.not_true, Bool.not_false, Bool.false_eq_true, ofArgs, List.map_cons, List.map_nil, List.nil_append, List.append_nil, List.cons_append, Nat.reduceAdd, calleeA, beq_self_eq_true, decide_true, decide_false]
end Go.Proofs.YtaegmplbkbaniaaGreatDoor
